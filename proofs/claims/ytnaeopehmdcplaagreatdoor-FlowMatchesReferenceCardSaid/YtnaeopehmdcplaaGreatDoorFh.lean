/- The walk through bent. -/
import Derived.Test.YtnaeopehmdcplaaGreatDoorFg

namespace Go.Proofs.YtnaeopehmdcplaaGreatDoor
open Go Go.K
set_option maxRecDepth 10000
attribute [local irreducible] W WL OpR bitAnd bitOr bitXor bitClr bitNot shlI shrI
set_option maxHeartbeats 16000000

theorem mid_spl {pre mid mid' post : List Value} {x : Value} {i off : Nat} (hpre : pre.length = i * 7) (hm : off + 1 ≤ mid.length) (e : spl mid off [x] = mid') : spl (pre ++ mid ++ post) ((i : Int).toNat * 7 + off) [x] = pre ++ mid' ++ post := by
 subst e
 rw [Int.toNat_natCast, ← hpre, List.append_assoc, spl_right, spl_left (by simpa using hm), List.append_assoc]
theorem mid_at {pre mid post : List Value} {v : Value} {i off : Nat} (hpre : pre.length = i * 7) (h : mid[off]? = some v) : (pre ++ mid ++ post)[(i : Int).toNat * 7 + off]? = some v := by
 have hlt := (List.getElem?_eq_some_iff.1 h).1
 rw [Int.toNat_natCast, ← hpre, List.append_assoc, List.getElem?_append_right (by omega), Nat.add_sub_cancel_left, List.getElem?_append_left hlt, h]
def midL (r : Int) (tv : Value) (mi ma : Int) (nv : Value) (bk lm : Int) : List Value := [.int .i64 r, tv, .int .i64 mi, .int .i64 ma, nv, .int .i64 bk, .int .i64 lm]
/-- The copied steps, of which one keeps its lists as its own. -/
def BShape (i k : Nat) (g : G) (cells : List Value) (extra : List Ent) : Prop :=
 (k ≤ i ∧ extra = [] ∧ ∃ l : List Step, l.length = k ∧ RcL g cells l) ∨
 (i < k ∧ ∃ (pre post : List Value) (l1 l2 : List Step) (r mi ma bk lm : Int) (ta na : Option Addr) (tc nc : Nat) (t0 : Int) (tr nl : List Int), cells = pre ++ midL r (.slice ta (t0 :: tr).length tc) mi ma (.slice na nl.length nc) bk lm ++ post ∧ l1.length = i ∧ RcL g pre l1 ∧ RcL g post l2 ∧ l2.length = k - i - 1 ∧
  (t0 :: tr).length ≤ 1000000 ∧ nl.length ≤ 1000000 ∧
  extra = [.row 3 1 (.slice ta (t0 :: tr).length tc) (t0 :: tr).length ((t0 :: tr).map (Value.int .i64)), .row 3 1 (.slice na nl.length nc) nl.length (nl.map (Value.int .i64))])
theorem BShape.mono {i k : Nat} {g g' : G} {cells : List Value} {extra : List Ent} (hle : g.le g') (h : BShape i k g cells extra) : BShape i k g' cells extra := by
 rcases h with ⟨h1, h2, l, h3, h4⟩ | ⟨h1, pre, post, l1, l2, r, mi, ma, bk, lm, ta, na, tc, nc, t0, tr, nl, h2, h3, h4, h5, h6⟩
 ·exact .inl ⟨h1, h2, l, h3, h4.mono hle⟩
 ·exact .inr ⟨h1, pre, post, l1, l2, r, mi, ma, bk, lm, ta, na, tc, nc, t0, tr, nl, h2, h3, h4.mono hle, h5.mono hle, h6⟩
/-- The end of every case: all is let go. -/
theorem bent_fz {g0 g : G} {wv sv : Value} {wn sn tn nn : Nat} {wcs scs pre post : List Value} {r mi ma bk lm : Int} {tv nv : Value} {wl : List Window} {l1 l2 : List Step} {E1 E2 : Ent} {tl nl : List Int} (h : St g0 g [.row 53 3 wv wn wcs, .row 50 7 sv sn scs, E1, E2, .row 3 1 tv tn (tl.map (Value.int .i64)), .row 3 1 nv nn (nl.map (Value.int .i64))])
  (hs : ∃ ta n1 c1 na n2 c2, tv = .slice ta n1 c1 ∧ nv = .slice na n2 c2) (hw : RcL g wcs wl) (hp : RcL g pre l1) (hq : RcL g post l2) (hsc : scs = pre ++ midL r tv mi ma nv bk lm ++ post) :
  ∃ g', g'.w = g.w ∧ g.le g' ∧ St g0 g' [E1, E2] ∧ ∃ l : List Step, Rs g' sv l ∧ Rs g' wv wl := by
 obtain ⟨ta, n1, c1, na, n2, c2, rfl, rfl⟩ := hs
 obtain ⟨ga, hwa, hsa, hqa, ra⟩ := h.fzRow (α := Int) (xs := nl) (i := 5) rfl (RcL.ints _ _)
 obtain ⟨gb, hwb, hsb, hqb, rb⟩ := hsa.fzRow (α := Int) (xs := tl) (i := 4) rfl (RcL.ints _ _)
 obtain ⟨gc, hwc, hsc2, hqc, rc⟩ := hsb.fzRow (α := Window) (xs := wl) (i := 0) rfl (hw.mono (hqa.trans hqb))
 have hle := (hqa.trans hqb).trans hqc
 have hmid : RcL gc (midL r (.slice ta n1 c1) mi ma (.slice na n2 c2) bk lm) [(⟨r, tl, mi, ma, nl, bk, lm⟩ : Step)] :=
  ⟨_, [], (List.append_nil _).symm, (show RStep _ _ _ from ⟨_, _, _, _, _, _, rfl, rb.mono hqc, ra.mono (hqb.trans hqc)⟩), rfl⟩
 have hall : RcL gc scs (l1 ++ [(⟨r, tl, mi, ma, nl, bk, lm⟩ : Step)] ++ l2) := by
  rw [hsc]
  exact RcL.app (hq.mono hle) (RcL.app hmid (hp.mono hle))
 obtain ⟨gd, hwd, hsd, hqd, rd⟩ := hsc2.fzRow (α := Step) (xs := l1 ++ [(⟨r, tl, mi, ma, nl, bk, lm⟩ : Step)] ++ l2) (i := 0) rfl hall
 exact ⟨gd, by rw [hwd, hwc, hwb, hwa], hle.trans hqd, hsd, _, rd, rc.mono hqd⟩








theorem bent_c (v : Value) (a : Flow) (y : Y3) (g : G) (fl0 : RFlow g v a) (hn1 : 1 ≤ a.steps.length) (hn2 : a.steps.length ≤ 1000) (hw2 : a.windows.length ≤ 1000) (htl : ∀ s ∈ a.steps, s.tools ≠ [] ∧ s.tools.length ≤ 1000000 ∧ s.next.length ≤ 1000000) (hy : y.fit) :
  CallsIn Wd 0 Tryz.prog 10 #[v, .agg #[.int .i64 y.z0, .int .i64 y.z1, .int .i64 y.z2]] g.w (Ret g fun g' r => ∃ f : Flow, RFlow g' r f) := by
 obtain ⟨a1, n1, c1, a2, n2, c2, rfl, rs0, rs1⟩ := id fl0
 obtain ⟨_, _, e⟩ := rs0.isSlice; obtain ⟨rfl, rfl, rfl⟩ := Value.slice.inj e; clear e
 obtain ⟨_, _, e⟩ := rs1.isSlice; obtain ⟨rfl, rfl, rfl⟩ := Value.slice.inj e; clear e
 clear fl0
 have hir := pickM_range (c := y.z1) (n := (a.steps.length : Int)) (by omega)
 obtain ⟨i, hi⟩ : ∃ i : Nat, pickM y.z1 (a.steps.length : Int) = i := ⟨(pickM y.z1 (a.steps.length : Int)).toNat, by omega⟩
 rw [hi] at hir
 have hs := St.start g
 have le0 := G.le.refl g
 refine enter Tryz.func10 rfl Tryz.ntmps10 rfl ?_
 refine W_seq ?_; refine W_region ?_
 refine WL_o rfl rfl (OpR_box rfl hs rfl rfl ?_); clear hs; rintro b2 g1 hs hqe; replace le0 := G.le.trans le0 hqe; replace rs0 := rs0.mono hqe; replace rs1 := rs1.mono hqe
 refine WL_o rfl rfl (OpR_box rfl hs rfl rfl ?_); clear hs; rintro b3 g1 hs hqe; replace le0 := G.le.trans le0 hqe; replace rs0 := rs0.mono hqe; replace rs1 := rs1.mono hqe
 obtain ⟨g2, hw2, hs2, hqe, hep⟩ := hs.fzObj (i := 0) rfl; replace hs := hs2; clear hs2; rw [← hw2]; replace le0 := G.le.trans le0 hqe; replace rs0 := rs0.mono hqe; replace rs1 := rs1.mono hqe
 have ep0 := hep
 clear hep hw2 hqe
 skip
 refine WL_o rfl rfl (OpR_alloc T.ok rfl hs rfl rfl ?_); clear hs; rintro b4 g1 hs hqe; replace le0 := G.le.trans le0 hqe; replace ep0 := ep0.mono hqe; replace rs0 := rs0.mono hqe; replace rs1 := rs1.mono hqe
 replace hs : St g g1 [.obj b2 (.cells [.int .i64 a.moveMin, .int .i64 a.moveMax, .slice a1 a.steps.length c1, .slice a2 a.windows.length c2].toArray 25 (0, 0)), .obj b4 (.cells [.int .i64 0, .int .i64 0, .slice none 0 0, .slice none 0 0].toArray 25 (0, 0))] := hs.re [1, 0] (by decide) rfl
 refine WL_nil ?_; (with_reducible refine T_then ?_); refine W_seq ?_; refine W_region ?_; refine P1 T.ok rfl rfl rfl ?_; refine WL_nil ?_; (with_reducible refine T_then ?_); refine W_seq ?_; refine W_seq ?_; refine W_region ?_; refine P1 T.ok rfl rfl rfl ?_; refine WL_nil ?_; (with_reducible refine T_then ?_); refine W_block ?_
 replace hs := hs.nilrow 50 7 none
 have rs0c := rs0; have rs1c := rs1; have ep0c := ep0; have le0c := le0
 refine W_loop (fun m a' w => ∃ (k : Nat) (ra : Option Addr) (rc : Nat) (cells : List Value) (extra : List Ent) (g3 : G), w = g3.w ∧ St g g3 (.row 50 7 (.slice ra k rc) k cells :: .obj b2 (.cells [.int .i64 a.moveMin, .int .i64 a.moveMax, .slice a1 a.steps.length c1, .slice a2 a.windows.length c2].toArray 25 (0, 0)) :: .obj b4 (.cells [.int .i64 0, .int .i64 0, .slice none 0 0, .slice none 0 0].toArray 25 (0, 0)) :: extra) ∧ G.le g1 g3 ∧ k ≤ a.steps.length ∧ m = a.steps.length - k ∧ BShape i k g3 cells extra ∧
   Fr 165 [] [(2, .pointer (some ⟨b2, 0, none⟩)), (3, .pointer (some ⟨b3, 0, none⟩)), (4, .pointer (some ⟨b4, 0, none⟩)), (5, .slice ra k rc), (6, .int .i64 k)] a') a.steps.length
  (fun a' ha => ⟨0, none, 0, [], [], g1, rfl, hs, G.le.refl _, Nat.zero_le _, rfl, .inl ⟨Nat.zero_le _, rfl, [], rfl, rfl⟩, ha.keep (by (repeat (first | exact trivial | refine ⟨rfl, ?_⟩)))⟩) ?_
 clear hs le0 rs0 rs1 ep0
 rintro m a' _ ⟨k, ra, rc, cells, extra, g3, rfl, hs, le8, hk, rfl, hB, ha'⟩
 have rs0 := rs0c.mono le8
 have rs1 := rs1c.mono le8
 have ep0 := ep0c.mono le8
 have le0 := le0c.trans le8
 revert a'
 (with_reducible refine T_wp ?_); refine W_seq ?_; refine W_seq ?_; refine W_region ?_; refine P1 T.ok rfl rfl rfl ?_; refine P1 T.ok rfl rfl rfl ?_; refine WL_o rfl rfl (OpR_loadO T.ok 1 rfl hs rfl rfl rfl ?_); refine P1 T.ok rfl rfl rfl ?_; refine P1 T.ok rfl rfl rfl ?_; refine WL_nil ?_; (with_reducible refine T_then ?_)
 by_cases hkl : k < a.steps.length
 ·refine W_yes (b := _) ?_ rfl ?_
  ·simp; omega
  have hg1 : geti a.steps (k : Int) = some a.steps[k] := by simp [geti, hkl]
  obtain ⟨hs1, hs2, hs3⟩ := htl _ (List.getElem_mem hkl)
  generalize a.steps[k] = s at *
  refine W_skip ?_; (with_reducible refine T_then ?_); refine W_seq ?_; refine W_block ?_; refine W_seq ?_; refine W_region ?_; refine P1 T.ok rfl rfl rfl ?_; refine WL_o rfl rfl (OpR_loadO T.ok 1 rfl hs rfl rfl rfl ?_); refine P1 T.ok rfl rfl rfl ?_
  refine WL_o rfl rfl (OpR_idx T.ok rfl rs0 (y := s) hg1 rfl rfl rfl rfl rfl rfl ?_)
  rintro bq pq ys hep ⟨ta, tn, tc, na, nn, nc, rfl, rs2, rs3⟩
  obtain ⟨_, _, e⟩ := rs2.isSlice; obtain ⟨rfl, rfl, rfl⟩ := Value.slice.inj e; clear e
  obtain ⟨_, _, e⟩ := rs3.isSlice; obtain ⟨rfl, rfl, rfl⟩ := Value.slice.inj e; clear e
  refine WL_o rfl rfl (OpR_loadE T.ok 0 rfl hep rfl rfl ?_)
  skip
  refine WL_o rfl rfl (OpR_alloc T.ok rfl hs rfl rfl ?_); clear hs; rintro b7 g1 hs hqe; replace le0 := G.le.trans le0 hqe; replace le8 := G.le.trans le8 hqe; replace ep0 := ep0.mono hqe; replace rs0 := rs0.mono hqe; replace rs1 := rs1.mono hqe; replace rs2 := rs2.mono hqe; replace rs3 := rs3.mono hqe
  replace hB := hB.mono hqe
  skip
  refine WL_n rfl (OpR_storeO T.ok 0 rfl hs rfl rfl rfl rfl rfl rfl rfl rfl rfl ?_); replace hs := hs; rintro g1 hs hqe; replace le0 := G.le.trans le0 hqe; replace le8 := G.le.trans le8 hqe; replace ep0 := ep0.mono hqe; replace rs0 := rs0.mono hqe; replace rs1 := rs1.mono hqe; replace rs2 := rs2.mono hqe; replace rs3 := rs3.mono hqe
  replace hB := hB.mono hqe
  refine WL_nil ?_; (with_reducible refine T_then ?_); refine W_seq ?_; refine W_region ?_
  refine WL_o rfl rfl (OpR_lit T.ok rfl hs (vs := []) (cells := []) rfl rfl rfl rfl rfl rfl (by decide) (by decide) (by kernel_rfl) rfl ?_)
  clear hs
  rintro bl gl hs hqe; replace le0 := G.le.trans le0 hqe; replace le8 := G.le.trans le8 hqe; replace ep0 := ep0.mono hqe; replace rs0 := rs0.mono hqe; replace rs1 := rs1.mono hqe; replace rs2 := rs2.mono hqe; replace rs3 := rs3.mono hqe
  replace hB := hB.mono hqe
  refine P1 T.ok rfl rfl rfl ?_; refine WL_o rfl rfl (OpR_loadO T.ok 1 rfl hs rfl rfl rfl ?_)
  have hsrc := Src.of_rs rs2
  obtain ⟨_, news, hnw, hsrc⟩ := hsrc
  obtain rfl := ints_inv hnw
  refine WL_o rfl rfl (OpR_append T.ok 0 rfl hs rfl rfl rfl rfl rfl rfl rfl (by decide) rfl hsrc (by simp [Value.oneCell']) (by show (0 + s.tools.length) * 8 ≤ _; omega) (by unfold maxLen; show 0 + s.tools.length ≤ _; omega) ?_)
  clear hs
  rintro at1 ac1 gl hs hqe; replace le0 := G.le.trans le0 hqe; replace le8 := G.le.trans le8 hqe; replace ep0 := ep0.mono hqe; replace rs0 := rs0.mono hqe; replace rs1 := rs1.mono hqe; replace rs2 := rs2.mono hqe; replace rs3 := rs3.mono hqe
  replace hB := hB.mono hqe
  rw [Nat.zero_add s.tools.length, List.nil_append] at hs
  rw [Nat.zero_add s.tools.length]
  refine P1 T.ok rfl rfl rfl ?_
  refine WL_n rfl (OpR_storeO T.ok 1 rfl hs rfl rfl rfl rfl rfl rfl rfl rfl rfl ?_); replace hs := hs; rintro g1 hs hqe; replace le0 := G.le.trans le0 hqe; replace le8 := G.le.trans le8 hqe; replace ep0 := ep0.mono hqe; replace rs0 := rs0.mono hqe; replace rs1 := rs1.mono hqe; replace rs2 := rs2.mono hqe; replace rs3 := rs3.mono hqe
  replace hB := hB.mono hqe
  refine WL_nil ?_; (with_reducible refine T_then ?_); refine W_seq ?_; refine W_region ?_
  refine WL_o rfl rfl (OpR_lit T.ok rfl hs (vs := []) (cells := []) rfl rfl rfl rfl rfl rfl (by decide) (by decide) (by kernel_rfl) rfl ?_)
  clear hs
  rintro bl gl hs hqe; replace le0 := G.le.trans le0 hqe; replace le8 := G.le.trans le8 hqe; replace ep0 := ep0.mono hqe; replace rs0 := rs0.mono hqe; replace rs1 := rs1.mono hqe; replace rs2 := rs2.mono hqe; replace rs3 := rs3.mono hqe
  replace hB := hB.mono hqe
  clear hnw hsrc
  refine P1 T.ok rfl rfl rfl ?_; refine WL_o rfl rfl (OpR_loadO T.ok 2 rfl hs rfl rfl rfl ?_)
  obtain ⟨_, news, hnw, hsrc⟩ := Src.of_rs rs3
  obtain rfl := ints_inv hnw
  refine WL_o rfl rfl (OpR_append T.ok 0 rfl hs rfl rfl rfl rfl rfl rfl rfl (by decide) rfl hsrc (by simp [Value.oneCell']) (by show (0 + s.next.length) * 8 ≤ _; omega) (by unfold maxLen; show 0 + s.next.length ≤ _; omega) ?_)
  clear hs
  rintro an1 nc1 gl hs hqe; replace le0 := G.le.trans le0 hqe; replace le8 := G.le.trans le8 hqe; replace ep0 := ep0.mono hqe; replace rs0 := rs0.mono hqe; replace rs1 := rs1.mono hqe; replace rs2 := rs2.mono hqe; replace rs3 := rs3.mono hqe
  replace hB := hB.mono hqe
  rw [Nat.zero_add s.next.length, List.nil_append] at hs
  rw [Nat.zero_add s.next.length]
  refine P1 T.ok rfl rfl rfl ?_
  refine WL_n rfl (OpR_storeO T.ok 2 rfl hs rfl rfl rfl rfl rfl rfl rfl rfl rfl ?_); replace hs := hs; rintro g1 hs hqe; replace le0 := G.le.trans le0 hqe; replace le8 := G.le.trans le8 hqe; replace ep0 := ep0.mono hqe; replace rs0 := rs0.mono hqe; replace rs1 := rs1.mono hqe; replace rs2 := rs2.mono hqe; replace rs3 := rs3.mono hqe
  replace hB := hB.mono hqe
  refine WL_nil ?_; (with_reducible refine T_then ?_); refine W_region ?_; refine P1 T.ok rfl rfl rfl ?_; refine WL_o rfl rfl (OpR_loadO T.ok 2 rfl hs rfl rfl rfl ?_)
  refine WL_o rfl rfl (OpR_lit T.ok rfl hs (vs := [(0, .agg #[.int .i64 s.recipe, .slice at1 s.tools.length ac1, .int .i64 s.min, .int .i64 s.max, .slice an1 s.next.length nc1, .int .i64 s.back, .int .i64 s.limit])]) (cells := [.int .i64 s.recipe, .slice at1 s.tools.length ac1, .int .i64 s.min, .int .i64 s.max, .slice an1 s.next.length nc1, .int .i64 s.back, .int .i64 s.limit]) rfl rfl rfl rfl rfl rfl (by decide) (by decide) (by kernel_rfl) rfl ?_)
  clear hs
  rintro bl gl hs hqe; replace le0 := G.le.trans le0 hqe; replace le8 := G.le.trans le8 hqe; replace ep0 := ep0.mono hqe; replace rs0 := rs0.mono hqe; replace rs1 := rs1.mono hqe; replace rs2 := rs2.mono hqe; replace rs3 := rs3.mono hqe
  replace hB := hB.mono hqe
  skip
  refine WL_o rfl rfl (OpR_append T.ok 4 rfl hs rfl rfl rfl rfl rfl rfl rfl (by decide) rfl (Src.of_row (hs.own 0 _ rfl).1).2 (by simp [Value.oneCell']) (by show (k + 1) * 88 ≤ _; omega) (by unfold maxLen; show k + 1 ≤ _; omega) ?_)
  clear hs
  rintro a9 c9 g9 hs hqe; replace le0 := G.le.trans le0 hqe; replace le8 := G.le.trans le8 hqe; replace ep0 := ep0.mono hqe; replace rs0 := rs0.mono hqe; replace rs1 := rs1.mono hqe; replace rs2 := rs2.mono hqe; replace rs3 := rs3.mono hqe
  replace hB := hB.mono hqe
  have hfin : ∃ (cells' : List Value) (extra' : List Ent) (gf : G), gf.w = g9.w ∧ g9.le gf ∧ BShape i (k + 1) gf cells' extra' ∧ St g gf (.row 50 7 (.slice a9 (k + 1) c9) (k + 1) cells' :: .obj b2 (.cells [.int .i64 a.moveMin, .int .i64 a.moveMax, .slice a1 a.steps.length c1, .slice a2 a.windows.length c2].toArray 25 (0, 0)) :: .obj b4 (.cells [.int .i64 0, .int .i64 0, .slice none 0 0, .slice none 0 0].toArray 25 (0, 0)) :: extra') := by
   have hs6 : St g g9 (.row 3 1 (.slice an1 s.next.length nc1) s.next.length (s.next.map (Value.int .i64)) :: .row 3 1 (.slice at1 s.tools.length ac1) s.tools.length (s.tools.map (Value.int .i64)) :: .row 50 7 (.slice a9 (k + 1) c9) (k + 1) (cells ++ midL s.recipe (.slice at1 s.tools.length ac1) s.min s.max (.slice an1 s.next.length nc1) s.back s.limit) :: .obj b2 (.cells [.int .i64 a.moveMin, .int .i64 a.moveMax, .slice a1 a.steps.length c1, .slice a2 a.windows.length c2].toArray 25 (0, 0)) :: .obj b4 (.cells [.int .i64 0, .int .i64 0, .slice none 0 0, .slice none 0 0].toArray 25 (0, 0)) :: extra) := (hs.drop 0).drop 2
   clear hs
   by_cases hki : k = i
   ·rcases hB with ⟨_, rfl, l, hl, hrl⟩ | ⟨h, _⟩
    ·cases htls : s.tools with
     | nil => exact absurd htls hs1
     | cons t0 tr =>
      rw [htls] at hs6 hs2
      refine ⟨_, _, g9, rfl, G.le.refl _, .inr ⟨by omega, cells, [], l, [], s.recipe, s.min, s.max, s.back, s.limit, at1, an1, ac1, nc1, t0, tr, s.next, (List.append_nil _).symm, by omega, hrl, rfl, by simp; omega, hs2, hs3, rfl⟩, hs6.re [2, 3, 4, 1, 0] (by decide) rfl⟩
    ·omega
   ·obtain ⟨ga, hwa, hsa, hqa, ra1⟩ := hs6.fzRow (α := Int) (xs := s.next) (i := 0) rfl (RcL.ints _ _)
    obtain ⟨gb, hwb, hsb, hqb, rb1⟩ := hsa.fzRow (α := Int) (xs := s.tools) (i := 0) rfl (RcL.ints _ _)
    have hst : RcL gb (midL s.recipe (.slice at1 s.tools.length ac1) s.min s.max (.slice an1 s.next.length nc1) s.back s.limit) [s] := ⟨_, [], (List.append_nil _).symm, (show RStep _ _ _ from ⟨_, _, _, _, _, _, rfl, rb1, ra1.mono hqb⟩), rfl⟩
    refine ⟨_, extra, gb, hwb.trans hwa, hqa.trans hqb, ?_, hsb⟩
    rcases hB.mono (hqa.trans hqb) with ⟨h1, h2, l, h3, h4⟩ | ⟨h1, pre, post, l1, l2, r, mi, ma, bk, lm, ta2, na2, tc2, nc2, t0, tr, nl, rfl, h3, h4, h5, h6, h7, h8, h9⟩
    ·exact .inl ⟨by omega, h2, l ++ [s], by simp [h3], RcL.app hst h4⟩
    ·exact .inr ⟨by omega, pre, post ++ midL s.recipe (.slice at1 s.tools.length ac1) s.min s.max (.slice an1 s.next.length nc1) s.back s.limit, l1, l2 ++ [s], r, mi, ma, bk, lm, ta2, na2, tc2, nc2, t0, tr, nl, by simp [List.append_assoc], h3, h4, RcL.app hst h5, by simp [h6]; omega, h7, h8, h9⟩
  clear hs hB
  obtain ⟨cells', extra', gf, hwf, hqf, hB, hs⟩ := hfin
  have hqe := hqf; replace le0 := G.le.trans le0 hqe; replace le8 := G.le.trans le8 hqe; replace ep0 := ep0.mono hqe; replace rs0 := rs0.mono hqe; replace rs1 := rs1.mono hqe; replace rs2 := rs2.mono hqe; replace rs3 := rs3.mono hqe
  refine P1 T.ok rfl rfl rfl ?_; refine WL_nil ?_; (with_reducible refine T_bn ?_); (with_reducible refine T_then ?_); refine W_region ?_; (iterate 3 refine P1 T.ok rfl rfl rfl ?_); refine WL_nil ?_
  rw [← hwf]
  exact fun a'' ha => ⟨a.steps.length - (k + 1), by omega, k + 1, a9, c9, cells', extra', gf, rfl, hs, le8, by omega, rfl, hB, ha.keep ⟨rfl, rfl, rfl, rfl, kI rfl (by rw [wr (by omega) (by omega)]; omega), trivial⟩⟩
 ·refine W_no (b := _) ?_ rfl ?_
  ·simp; omega
  obtain rfl : k = a.steps.length := by omega
  rcases hB with ⟨h, _⟩ | ⟨_, pre, post, l1, l2, r, mi, ma, bk, lm, ta, na, tc, nc, t0, tr, nl, rfl, hl1, rcp, rcq, hl2, htn, hnn, rfl⟩
  ·omega
  have hpl : pre.length = i * 7 := by rw [rcp.len, hl1]; rfl
  have hcl0 : ∀ mid : List Value, mid.length = 7 → (pre ++ mid ++ post).length = a.steps.length * 7 := by
   intro mid hm
   rw [List.length_append, List.length_append, hpl, hm, rcq.len, hl2]
   show i * 7 + 7 + (a.steps.length - i - 1) * 7 = _
   omega
  have hcl := hcl0 (midL r (.slice ta (t0 :: tr).length tc) mi ma (.slice na nl.length nc) bk lm) rfl
  refine W_exit ?_; (with_reducible refine T_tx ?_; with_reducible refine T_tx ?_); (with_reducible refine T_bx ?_); (with_reducible refine T_then ?_); refine W_seq ?_; refine W_region ?_; refine P1 T.ok rfl rfl rfl ?_; refine P1 T.ok rfl rfl rfl ?_
  refine WL_n rfl (OpR_storeO T.ok 1 rfl hs rfl rfl rfl rfl rfl rfl rfl rfl rfl ?_); replace hs := hs; rintro g1 hs hqe; replace le0 := G.le.trans le0 hqe; replace le8 := G.le.trans le8 hqe; replace ep0 := ep0.mono hqe; replace rs0 := rs0.mono hqe; replace rs1 := rs1.mono hqe
  replace rcp := rcp.mono hqe; replace rcq := rcq.mono hqe
  refine WL_nil ?_; (with_reducible refine T_then ?_); refine W_seq ?_; refine W_region ?_
  refine WL_o rfl rfl (OpR_lit T.ok rfl hs (vs := []) (cells := []) rfl rfl rfl rfl rfl rfl (by decide) (by decide) (by kernel_rfl) rfl ?_)
  clear hs
  rintro bl gl hs hqe; replace le0 := G.le.trans le0 hqe; replace le8 := G.le.trans le8 hqe; replace ep0 := ep0.mono hqe; replace rs0 := rs0.mono hqe; replace rs1 := rs1.mono hqe
  replace rcp := rcp.mono hqe; replace rcq := rcq.mono hqe
  refine P1 T.ok rfl rfl rfl ?_; refine WL_o rfl rfl (OpR_loadO T.ok 2 rfl hs rfl rfl rfl ?_)
  obtain ⟨_, news, hnw, hsrc⟩ := Src.of_rs rs1
  obtain rfl := RcL.win_inv hnw
  have hwll := winL_len a.windows
  refine WL_o rfl rfl (OpR_append T.ok 0 rfl hs rfl rfl rfl rfl rfl rfl rfl (by decide) rfl hsrc hnw.one (by show (0 + a.windows.length) * 24 ≤ _; omega) (by unfold maxLen; show 0 + a.windows.length ≤ _; omega) ?_)
  clear hs
  rintro aw cw gl hs hqe; replace le0 := G.le.trans le0 hqe; replace le8 := G.le.trans le8 hqe; replace ep0 := ep0.mono hqe; replace rs0 := rs0.mono hqe; replace rs1 := rs1.mono hqe
  replace rcp := rcp.mono hqe; replace rcq := rcq.mono hqe
  rw [Nat.zero_add a.windows.length, List.nil_append] at hs
  rw [Nat.zero_add a.windows.length]
  refine P1 T.ok rfl rfl rfl ?_
  refine WL_n rfl (OpR_storeO T.ok 2 rfl hs rfl rfl rfl rfl rfl rfl rfl rfl rfl ?_); replace hs := hs; rintro g1 hs hqe; replace le0 := G.le.trans le0 hqe; replace le8 := G.le.trans le8 hqe; replace ep0 := ep0.mono hqe; replace rs0 := rs0.mono hqe; replace rs1 := rs1.mono hqe
  replace rcp := rcp.mono hqe; replace rcq := rcq.mono hqe
  clear hnw hsrc
  refine WL_nil ?_; (with_reducible refine T_then ?_); refine W_seq ?_; refine W_region ?_
  refine WL_o rfl rfl (OpR_idxA T.ok (q := 1) rfl rfl rfl rfl rfl rfl (by decide) ?_)
  refine WL_o rfl rfl (OpR_loadE T.ok 1 rfl ep0 rfl rfl ?_); refine P1 T.ok rfl rfl rfl ?_; refine P1 T.ok rfl rfl rfl ?_
  have hcall := lpick_c y.z1 (a.steps.length : Int) g1 hy.h1 (by omega)
  refine WL_o rfl rfl (OpR_ret cl18 allF rfl rfl rfl rfl rfl (hcall) ?_); rintro g1 _ hf1 rfl; replace hs := hs.call hf1; have hqe := hf1.le; replace le0 := G.le.trans le0 hqe; replace le8 := G.le.trans le8 hqe; replace ep0 := ep0.mono hqe; replace rs0 := rs0.mono hqe; replace rs1 := rs1.mono hqe
  replace rcp := rcp.mono hqe; replace rcq := rcq.mono hqe
  clear hcall
  rw [hi]
  refine P1 T.ok rfl rfl rfl ?_; refine WL_nil ?_; (with_reducible refine T_then ?_); refine W_seq ?_; refine W_region ?_
  refine WL_o rfl rfl (OpR_idxA T.ok (q := 2) rfl rfl rfl rfl rfl rfl (by decide) ?_)
  refine WL_o rfl rfl (OpR_loadE T.ok 2 rfl ep0 rfl rfl ?_); refine P1 T.ok rfl rfl rfl ?_; refine WL_nil ?_; (with_reducible refine T_then ?_); refine W_seq ?_; refine W_seq ?_; refine W_region ?_
  refine WL_o rfl rfl (OpR_idxA T.ok (q := 0) rfl rfl rfl rfl rfl rfl (by decide) ?_)
  refine WL_o rfl rfl (OpR_loadE T.ok 0 rfl ep0 rfl rfl ?_)
  have hcall := lpick_c y.z0 13 g1 hy.h0 (by decide)
  refine WL_o rfl rfl (OpR_ret cl18 allF rfl rfl rfl rfl rfl (hcall) ?_); rintro g1 _ hf1 rfl; replace hs := hs.call hf1; have hqe := hf1.le; replace le0 := G.le.trans le0 hqe; replace le8 := G.le.trans le8 hqe; replace ep0 := ep0.mono hqe; replace rs0 := rs0.mono hqe; replace rs1 := rs1.mono hqe
  replace rcp := rcp.mono hqe; replace rcq := rcq.mono hqe
  clear hcall
  obtain ⟨sb, sp, rfl⟩ := row_some (hs.own 1 _ rfl).1 (by omega)
  obtain ⟨tb, tp, rfl⟩ := row_some (hs.own 4 _ rfl).1 (by simp)
  have hcr := pickM_range (c := y.z0) (n := 13) (by omega)
  obtain ⟨c, hc⟩ : ∃ c : Nat, pickM y.z0 13 = c := ⟨(pickM y.z0 13).toNat, by omega⟩
  rw [hc] at hcr ⊢
  clear hc
  have hc13 : c < 13 := by omega
  clear hcr
  match c, hc13 with
  | 0, _ =>
   refine WL_nil ?_; (with_reducible refine T_then ?_); refine W_block ?_; refine W_seq ?_; refine W_region ?_; refine P1 T.ok rfl rfl rfl ?_; refine P1 T.ok rfl rfl rfl ?_; refine WL_nil ?_; (with_reducible refine T_then ?_)
   refine W_yes rfl rfl ?_
   refine W_region ?_; refine P1 T.ok rfl rfl rfl ?_; refine P1 T.ok rfl rfl rfl ?_
   refine WL_n rfl (OpR_storeO T.ok 2 rfl hs rfl rfl rfl rfl rfl rfl rfl rfl rfl ?_); replace hs := hs; rintro g1 hs hqe; replace le0 := G.le.trans le0 hqe; replace le8 := G.le.trans le8 hqe; replace ep0 := ep0.mono hqe; replace rs0 := rs0.mono hqe; replace rs1 := rs1.mono hqe
   replace rcp := rcp.mono hqe; replace rcq := rcq.mono hqe
   obtain ⟨gy, hwy, hqe, hsy, lz, rs4, rs5⟩ := bent_fz hs ⟨_, _, _, _, _, _, rfl, rfl⟩ (RcL.win _ _) rcp rcq rfl
   rw [← hwy]; replace hs := hsy; clear hsy; replace le0 := G.le.trans le0 hqe; replace le8 := G.le.trans le8 hqe; replace ep0 := ep0.mono hqe; replace rs0 := rs0.mono hqe; replace rs1 := rs1.mono hqe
   refine WL_nil ?_; (with_reducible refine T_bn ?_); (with_reducible refine T_then ?_); refine W_seq ?_; refine W_region ?_; refine WL_o rfl rfl (OpR_loadO T.ok 0 rfl hs rfl rfl rfl ?_)
   refine WL_n rfl (OpR_storeO T.ok 1 rfl hs rfl rfl rfl rfl rfl rfl rfl rfl rfl ?_); replace hs := hs; rintro g1 hs hqe; replace le0 := G.le.trans le0 hqe; replace le8 := G.le.trans le8 hqe; replace ep0 := ep0.mono hqe; replace rs0 := rs0.mono hqe; replace rs1 := rs1.mono hqe; replace rs4 := rs4.mono hqe; replace rs5 := rs5.mono hqe
   refine WL_nil ?_; (with_reducible refine T_then ?_)
   refine W_ret ?_
   skip
   exact retC T.ok 1 rfl hs rfl rfl rfl (hs.ret ⟨⟨y.z2, a.moveMax, lz, _⟩, _, _, _, _, _, _, rfl, rs4, rs5⟩)
  | 1, _ =>
   refine WL_nil ?_; (with_reducible refine T_then ?_); refine W_block ?_; refine W_seq ?_; refine W_region ?_; refine P1 T.ok rfl rfl rfl ?_; refine P1 T.ok rfl rfl rfl ?_; refine WL_nil ?_; (with_reducible refine T_then ?_)
   refine W_no rfl rfl ?_
   refine W_seq ?_; refine W_region ?_; refine P1 T.ok rfl rfl rfl ?_; refine P1 T.ok rfl rfl rfl ?_; refine WL_nil ?_; (with_reducible refine T_then ?_)
   refine W_yes rfl rfl ?_
   refine W_region ?_; refine P1 T.ok rfl rfl rfl ?_; refine P1 T.ok rfl rfl rfl ?_
   refine WL_n rfl (OpR_storeO T.ok 2 rfl hs rfl rfl rfl rfl rfl rfl rfl rfl rfl ?_); replace hs := hs; rintro g1 hs hqe; replace le0 := G.le.trans le0 hqe; replace le8 := G.le.trans le8 hqe; replace ep0 := ep0.mono hqe; replace rs0 := rs0.mono hqe; replace rs1 := rs1.mono hqe
   replace rcp := rcp.mono hqe; replace rcq := rcq.mono hqe
   obtain ⟨gy, hwy, hqe, hsy, lz, rs4, rs5⟩ := bent_fz hs ⟨_, _, _, _, _, _, rfl, rfl⟩ (RcL.win _ _) rcp rcq rfl
   rw [← hwy]; replace hs := hsy; clear hsy; replace le0 := G.le.trans le0 hqe; replace le8 := G.le.trans le8 hqe; replace ep0 := ep0.mono hqe; replace rs0 := rs0.mono hqe; replace rs1 := rs1.mono hqe
   refine WL_nil ?_; (with_reducible refine T_bn ?_); (with_reducible refine T_then ?_); refine W_seq ?_; refine W_region ?_; refine WL_o rfl rfl (OpR_loadO T.ok 0 rfl hs rfl rfl rfl ?_)
   refine WL_n rfl (OpR_storeO T.ok 1 rfl hs rfl rfl rfl rfl rfl rfl rfl rfl rfl ?_); replace hs := hs; rintro g1 hs hqe; replace le0 := G.le.trans le0 hqe; replace le8 := G.le.trans le8 hqe; replace ep0 := ep0.mono hqe; replace rs0 := rs0.mono hqe; replace rs1 := rs1.mono hqe; replace rs4 := rs4.mono hqe; replace rs5 := rs5.mono hqe
   refine WL_nil ?_; (with_reducible refine T_then ?_)
   refine W_ret ?_
   skip
   exact retC T.ok 1 rfl hs rfl rfl rfl (hs.ret ⟨⟨a.moveMin, y.z2, lz, _⟩, _, _, _, _, _, _, rfl, rs4, rs5⟩)
  | 2, _ =>
   refine WL_nil ?_; (with_reducible refine T_then ?_); refine W_block ?_; refine W_seq ?_; refine W_region ?_; refine P1 T.ok rfl rfl rfl ?_; refine P1 T.ok rfl rfl rfl ?_; refine WL_nil ?_; (with_reducible refine T_then ?_)
   refine W_no rfl rfl ?_
   refine W_seq ?_; refine W_region ?_; refine P1 T.ok rfl rfl rfl ?_; refine P1 T.ok rfl rfl rfl ?_; refine WL_nil ?_; (with_reducible refine T_then ?_)
   refine W_no rfl rfl ?_
   refine W_seq ?_; refine W_region ?_; refine P1 T.ok rfl rfl rfl ?_; refine P1 T.ok rfl rfl rfl ?_; refine WL_nil ?_; (with_reducible refine T_then ?_)
   refine W_yes rfl rfl ?_
   refine W_region ?_; (iterate 3 refine P1 T.ok rfl rfl rfl ?_)
   refine WL_o rfl rfl (OpR_idxR T.ok (n := (i : Int)) rfl (hs.own 1 _ rfl).1 (by omega) (by omega) rfl rfl rfl rfl rfl rfl ?_)
   rintro b p hh; obtain ⟨rfl, rfl⟩ : sb = b ∧ sp = p := by simpa using hh
   refine P1 T.ok rfl rfl rfl ?_
   refine WL_n rfl (OpR_storeR T.ok 1 ((i : Int).toNat * 7 + 0) rfl hs rfl rfl rfl rfl rfl rfl rfl (by simp) (by rw [hcl]; show (i : Int).toNat * 7 + 0 + 1 ≤ _; omega) (mid_spl (mid' := midL y.z2 (.slice (some ⟨tb, tp, none⟩) (t0 :: tr).length tc) mi ma (.slice na nl.length nc) bk lm) hpl (by show 0 + 1 ≤ 7; omega) rfl) ?_)
   rintro g9 hs hqe; replace le0 := G.le.trans le0 hqe; replace le8 := G.le.trans le8 hqe; replace ep0 := ep0.mono hqe; replace rs0 := rs0.mono hqe; replace rs1 := rs1.mono hqe
   replace rcp := rcp.mono hqe; replace rcq := rcq.mono hqe
   obtain ⟨gy, hwy, hqe, hsy, lz, rs4, rs5⟩ := bent_fz hs ⟨_, _, _, _, _, _, rfl, rfl⟩ (RcL.win _ _) rcp rcq rfl
   rw [← hwy]; replace hs := hsy; clear hsy; replace le0 := G.le.trans le0 hqe; replace le8 := G.le.trans le8 hqe; replace ep0 := ep0.mono hqe; replace rs0 := rs0.mono hqe; replace rs1 := rs1.mono hqe
   refine WL_nil ?_; (with_reducible refine T_bn ?_); (with_reducible refine T_then ?_); refine W_seq ?_; refine W_region ?_; refine WL_o rfl rfl (OpR_loadO T.ok 0 rfl hs rfl rfl rfl ?_)
   refine WL_n rfl (OpR_storeO T.ok 1 rfl hs rfl rfl rfl rfl rfl rfl rfl rfl rfl ?_); replace hs := hs; rintro g1 hs hqe; replace le0 := G.le.trans le0 hqe; replace le8 := G.le.trans le8 hqe; replace ep0 := ep0.mono hqe; replace rs0 := rs0.mono hqe; replace rs1 := rs1.mono hqe; replace rs4 := rs4.mono hqe; replace rs5 := rs5.mono hqe
   refine WL_nil ?_; (with_reducible refine T_then ?_)
   refine W_ret ?_
   skip
   exact retC T.ok 1 rfl hs rfl rfl rfl (hs.ret ⟨⟨a.moveMin, a.moveMax, lz, _⟩, _, _, _, _, _, _, rfl, rs4, rs5⟩)
  | 3, _ =>
   refine WL_nil ?_; (with_reducible refine T_then ?_); refine W_block ?_; refine W_seq ?_; refine W_region ?_; refine P1 T.ok rfl rfl rfl ?_; refine P1 T.ok rfl rfl rfl ?_; refine WL_nil ?_; (with_reducible refine T_then ?_)
   refine W_no rfl rfl ?_
   refine W_seq ?_; refine W_region ?_; refine P1 T.ok rfl rfl rfl ?_; refine P1 T.ok rfl rfl rfl ?_; refine WL_nil ?_; (with_reducible refine T_then ?_)
   refine W_no rfl rfl ?_
   refine W_seq ?_; refine W_region ?_; refine P1 T.ok rfl rfl rfl ?_; refine P1 T.ok rfl rfl rfl ?_; refine WL_nil ?_; (with_reducible refine T_then ?_)
   refine W_no rfl rfl ?_
   refine W_seq ?_; refine W_region ?_; refine P1 T.ok rfl rfl rfl ?_; refine P1 T.ok rfl rfl rfl ?_; refine WL_nil ?_; (with_reducible refine T_then ?_)
   refine W_yes rfl rfl ?_
   refine W_region ?_; refine P1 T.ok rfl rfl rfl ?_; refine P1 T.ok rfl rfl rfl ?_
   refine WL_o rfl rfl (OpR_idxR T.ok (n := (i : Int)) rfl (hs.own 1 _ rfl).1 (by omega) (by omega) rfl rfl rfl rfl rfl rfl ?_)
   rintro b p hh; obtain ⟨rfl, rfl⟩ : sb = b ∧ sp = p := by simpa using hh
   refine P1 T.ok rfl rfl rfl ?_
   refine WL_o rfl rfl (OpR_loadR T.ok ((i : Int).toNat * 7 + 1) rfl (hs.own 1 _ rfl).1 rfl (v := .slice (some ⟨tb, tp, none⟩) (t0 :: tr).length tc) (mid_at hpl rfl) ?_)
   refine P1 T.ok rfl rfl rfl ?_
   refine WL_o rfl rfl (OpR_idxR T.ok (n := 0) rfl (hs.own 4 _ rfl).1 (by omega) (by simp) rfl rfl rfl rfl rfl rfl ?_)
   rintro b p hh; obtain ⟨rfl, rfl⟩ : tb = b ∧ tp = p := by simpa using hh
   refine WL_n rfl (OpR_storeR T.ok 4 0 rfl hs rfl rfl rfl rfl rfl rfl rfl (by simp) (by simp) (xs' := (y.z2 :: tr).map (Value.int .i64)) rfl ?_)
   rintro g9 hs hqe; replace le0 := G.le.trans le0 hqe; replace le8 := G.le.trans le8 hqe; replace ep0 := ep0.mono hqe; replace rs0 := rs0.mono hqe; replace rs1 := rs1.mono hqe
   replace rcp := rcp.mono hqe; replace rcq := rcq.mono hqe
   obtain ⟨gy, hwy, hqe, hsy, lz, rs4, rs5⟩ := bent_fz hs ⟨_, _, _, _, _, _, rfl, rfl⟩ (RcL.win _ _) rcp rcq rfl
   rw [← hwy]; replace hs := hsy; clear hsy; replace le0 := G.le.trans le0 hqe; replace le8 := G.le.trans le8 hqe; replace ep0 := ep0.mono hqe; replace rs0 := rs0.mono hqe; replace rs1 := rs1.mono hqe
   refine WL_nil ?_; (with_reducible refine T_bn ?_); (with_reducible refine T_then ?_); refine W_seq ?_; refine W_region ?_; refine WL_o rfl rfl (OpR_loadO T.ok 0 rfl hs rfl rfl rfl ?_)
   refine WL_n rfl (OpR_storeO T.ok 1 rfl hs rfl rfl rfl rfl rfl rfl rfl rfl rfl ?_); replace hs := hs; rintro g1 hs hqe; replace le0 := G.le.trans le0 hqe; replace le8 := G.le.trans le8 hqe; replace ep0 := ep0.mono hqe; replace rs0 := rs0.mono hqe; replace rs1 := rs1.mono hqe; replace rs4 := rs4.mono hqe; replace rs5 := rs5.mono hqe
   refine WL_nil ?_; (with_reducible refine T_then ?_)
   refine W_ret ?_
   skip
   exact retC T.ok 1 rfl hs rfl rfl rfl (hs.ret ⟨⟨a.moveMin, a.moveMax, lz, _⟩, _, _, _, _, _, _, rfl, rs4, rs5⟩)
  | 4, _ =>
   refine WL_nil ?_; (with_reducible refine T_then ?_); refine W_block ?_; refine W_seq ?_; refine W_region ?_; refine P1 T.ok rfl rfl rfl ?_; refine P1 T.ok rfl rfl rfl ?_; refine WL_nil ?_; (with_reducible refine T_then ?_)
   refine W_no rfl rfl ?_
   refine W_seq ?_; refine W_region ?_; refine P1 T.ok rfl rfl rfl ?_; refine P1 T.ok rfl rfl rfl ?_; refine WL_nil ?_; (with_reducible refine T_then ?_)
   refine W_no rfl rfl ?_
   refine W_seq ?_; refine W_region ?_; refine P1 T.ok rfl rfl rfl ?_; refine P1 T.ok rfl rfl rfl ?_; refine WL_nil ?_; (with_reducible refine T_then ?_)
   refine W_no rfl rfl ?_
   refine W_seq ?_; refine W_region ?_; refine P1 T.ok rfl rfl rfl ?_; refine P1 T.ok rfl rfl rfl ?_; refine WL_nil ?_; (with_reducible refine T_then ?_)
   refine W_no rfl rfl ?_
   refine W_seq ?_; refine W_region ?_; refine P1 T.ok rfl rfl rfl ?_; refine P1 T.ok rfl rfl rfl ?_; refine WL_nil ?_; (with_reducible refine T_then ?_)
   refine W_yes rfl rfl ?_
   refine W_region ?_; (iterate 4 refine P1 T.ok rfl rfl rfl ?_)
   refine WL_o rfl rfl (OpR_idxR T.ok (n := (i : Int)) rfl (hs.own 1 _ rfl).1 (by omega) (by omega) rfl rfl rfl rfl rfl rfl ?_)
   rintro b p hh; obtain ⟨rfl, rfl⟩ : sb = b ∧ sp = p := by simpa using hh
   refine P1 T.ok rfl rfl rfl ?_
   refine WL_o rfl rfl (OpR_loadR T.ok ((i : Int).toNat * 7 + 1) rfl (hs.own 1 _ rfl).1 rfl (v := .slice (some ⟨tb, tp, none⟩) (t0 :: tr).length tc) (mid_at hpl rfl) ?_)
   refine P1 T.ok rfl rfl rfl ?_
   refine WL_o rfl rfl (OpR_lit T.ok rfl hs (vs := [(0, .int .i64 y.z2)]) (cells := [.int .i64 y.z2]) rfl rfl rfl rfl rfl rfl (by decide) (by decide) (by kernel_rfl) rfl ?_)
   clear hs
   rintro bl gl hs hqe; replace le0 := G.le.trans le0 hqe; replace le8 := G.le.trans le8 hqe; replace ep0 := ep0.mono hqe; replace rs0 := rs0.mono hqe; replace rs1 := rs1.mono hqe
   replace rcp := rcp.mono hqe; replace rcq := rcq.mono hqe
   skip
   refine WL_o rfl rfl (OpR_append T.ok 5 rfl hs rfl rfl rfl rfl rfl rfl rfl (by decide) rfl (Src.of_row (hs.own 0 _ rfl).1).2 (by simp [Value.oneCell']) (by show ((t0 :: tr).length + 1) * 8 ≤ _; simp only [List.length_cons] at *; omega) (by unfold maxLen; show (t0 :: tr).length + 1 ≤ _; simp only [List.length_cons] at *; omega) ?_)
   clear hs
   rintro a9 c9 g9 hs hqe; replace le0 := G.le.trans le0 hqe; replace le8 := G.le.trans le8 hqe; replace ep0 := ep0.mono hqe; replace rs0 := rs0.mono hqe; replace rs1 := rs1.mono hqe
   replace rcp := rcp.mono hqe; replace rcq := rcq.mono hqe
   replace hs := hs.drop 0
   skip
   refine WL_o rfl rfl (OpR_idxR T.ok (n := (i : Int)) rfl (hs.own 1 _ rfl).1 (by omega) (by omega) rfl rfl rfl rfl rfl rfl ?_)
   rintro b p hh; obtain ⟨rfl, rfl⟩ : sb = b ∧ sp = p := by simpa using hh
   refine P1 T.ok rfl rfl rfl ?_
   refine WL_n rfl (OpR_storeR T.ok 1 ((i : Int).toNat * 7 + 1) rfl hs rfl rfl rfl rfl rfl rfl rfl (by simp) (by rw [hcl]; show (i : Int).toNat * 7 + 1 + 1 ≤ _; omega) (mid_spl (mid' := midL r (.slice a9 ((t0 :: tr).length + 1) c9) mi ma (.slice na nl.length nc) bk lm) hpl (by show 1 + 1 ≤ 7; omega) rfl) ?_)
   rintro g9 hs hqe; replace le0 := G.le.trans le0 hqe; replace le8 := G.le.trans le8 hqe; replace ep0 := ep0.mono hqe; replace rs0 := rs0.mono hqe; replace rs1 := rs1.mono hqe
   replace rcp := rcp.mono hqe; replace rcq := rcq.mono hqe
   replace hs : St g g9 [_, _, _, _, _, .row 3 1 (.slice na nl.length nc) nl.length (nl.map (Value.int .i64))] := hs
   have e5 : (t0 :: tr).map (Value.int .i64) ++ [Value.int .i64 y.z2] = ((t0 :: tr) ++ [y.z2]).map (Value.int .i64) := by rw [List.map_append]; rfl
   rw [e5] at hs
   obtain ⟨gy, hwy, hqe, hsy, lz, rs4, rs5⟩ := bent_fz hs ⟨_, _, _, _, _, _, rfl, rfl⟩ (RcL.win _ _) rcp rcq rfl
   rw [← hwy]; replace hs := hsy; clear hsy; replace le0 := G.le.trans le0 hqe; replace le8 := G.le.trans le8 hqe; replace ep0 := ep0.mono hqe; replace rs0 := rs0.mono hqe; replace rs1 := rs1.mono hqe
   refine WL_nil ?_; (with_reducible refine T_bn ?_); (with_reducible refine T_then ?_); refine W_seq ?_; refine W_region ?_; refine WL_o rfl rfl (OpR_loadO T.ok 0 rfl hs rfl rfl rfl ?_)
   refine WL_n rfl (OpR_storeO T.ok 1 rfl hs rfl rfl rfl rfl rfl rfl rfl rfl rfl ?_); replace hs := hs; rintro g1 hs hqe; replace le0 := G.le.trans le0 hqe; replace le8 := G.le.trans le8 hqe; replace ep0 := ep0.mono hqe; replace rs0 := rs0.mono hqe; replace rs1 := rs1.mono hqe; replace rs4 := rs4.mono hqe; replace rs5 := rs5.mono hqe
   refine WL_nil ?_; (with_reducible refine T_then ?_)
   refine W_ret ?_
   skip
   exact retC T.ok 1 rfl hs rfl rfl rfl (hs.ret ⟨⟨a.moveMin, a.moveMax, lz, _⟩, _, _, _, _, _, _, rfl, rs4, rs5⟩)
  | 5, _ =>
   refine WL_nil ?_; (with_reducible refine T_then ?_); refine W_block ?_; refine W_seq ?_; refine W_region ?_; refine P1 T.ok rfl rfl rfl ?_; refine P1 T.ok rfl rfl rfl ?_; refine WL_nil ?_; (with_reducible refine T_then ?_)
   refine W_no rfl rfl ?_
   refine W_seq ?_; refine W_region ?_; refine P1 T.ok rfl rfl rfl ?_; refine P1 T.ok rfl rfl rfl ?_; refine WL_nil ?_; (with_reducible refine T_then ?_)
   refine W_no rfl rfl ?_
   refine W_seq ?_; refine W_region ?_; refine P1 T.ok rfl rfl rfl ?_; refine P1 T.ok rfl rfl rfl ?_; refine WL_nil ?_; (with_reducible refine T_then ?_)
   refine W_no rfl rfl ?_
   refine W_seq ?_; refine W_region ?_; refine P1 T.ok rfl rfl rfl ?_; refine P1 T.ok rfl rfl rfl ?_; refine WL_nil ?_; (with_reducible refine T_then ?_)
   refine W_no rfl rfl ?_
   refine W_seq ?_; refine W_region ?_; refine P1 T.ok rfl rfl rfl ?_; refine P1 T.ok rfl rfl rfl ?_; refine WL_nil ?_; (with_reducible refine T_then ?_)
   refine W_no rfl rfl ?_
   refine W_seq ?_; refine W_region ?_; refine P1 T.ok rfl rfl rfl ?_; refine P1 T.ok rfl rfl rfl ?_; refine WL_nil ?_; (with_reducible refine T_then ?_)
   refine W_yes rfl rfl ?_
   refine W_region ?_; (iterate 3 refine P1 T.ok rfl rfl rfl ?_)
   refine WL_o rfl rfl (OpR_idxR T.ok (n := (i : Int)) rfl (hs.own 1 _ rfl).1 (by omega) (by omega) rfl rfl rfl rfl rfl rfl ?_)
   rintro b p hh; obtain ⟨rfl, rfl⟩ : sb = b ∧ sp = p := by simpa using hh
   refine P1 T.ok rfl rfl rfl ?_
   refine WL_n rfl (OpR_storeR T.ok 1 ((i : Int).toNat * 7 + 2) rfl hs rfl rfl rfl rfl rfl rfl rfl (by simp) (by rw [hcl]; show (i : Int).toNat * 7 + 2 + 1 ≤ _; omega) (mid_spl (mid' := midL r (.slice (some ⟨tb, tp, none⟩) (t0 :: tr).length tc) y.z2 ma (.slice na nl.length nc) bk lm) hpl (by show 2 + 1 ≤ 7; omega) rfl) ?_)
   rintro g9 hs hqe; replace le0 := G.le.trans le0 hqe; replace le8 := G.le.trans le8 hqe; replace ep0 := ep0.mono hqe; replace rs0 := rs0.mono hqe; replace rs1 := rs1.mono hqe
   replace rcp := rcp.mono hqe; replace rcq := rcq.mono hqe
   obtain ⟨gy, hwy, hqe, hsy, lz, rs4, rs5⟩ := bent_fz hs ⟨_, _, _, _, _, _, rfl, rfl⟩ (RcL.win _ _) rcp rcq rfl
   rw [← hwy]; replace hs := hsy; clear hsy; replace le0 := G.le.trans le0 hqe; replace le8 := G.le.trans le8 hqe; replace ep0 := ep0.mono hqe; replace rs0 := rs0.mono hqe; replace rs1 := rs1.mono hqe
   refine WL_nil ?_; (with_reducible refine T_bn ?_); (with_reducible refine T_then ?_); refine W_seq ?_; refine W_region ?_; refine WL_o rfl rfl (OpR_loadO T.ok 0 rfl hs rfl rfl rfl ?_)
   refine WL_n rfl (OpR_storeO T.ok 1 rfl hs rfl rfl rfl rfl rfl rfl rfl rfl rfl ?_); replace hs := hs; rintro g1 hs hqe; replace le0 := G.le.trans le0 hqe; replace le8 := G.le.trans le8 hqe; replace ep0 := ep0.mono hqe; replace rs0 := rs0.mono hqe; replace rs1 := rs1.mono hqe; replace rs4 := rs4.mono hqe; replace rs5 := rs5.mono hqe
   refine WL_nil ?_; (with_reducible refine T_then ?_)
   refine W_ret ?_
   skip
   exact retC T.ok 1 rfl hs rfl rfl rfl (hs.ret ⟨⟨a.moveMin, a.moveMax, lz, _⟩, _, _, _, _, _, _, rfl, rs4, rs5⟩)
  | 6, _ =>
   refine WL_nil ?_; (with_reducible refine T_then ?_); refine W_block ?_; refine W_seq ?_; refine W_region ?_; refine P1 T.ok rfl rfl rfl ?_; refine P1 T.ok rfl rfl rfl ?_; refine WL_nil ?_; (with_reducible refine T_then ?_)
   refine W_no rfl rfl ?_
   refine W_seq ?_; refine W_region ?_; refine P1 T.ok rfl rfl rfl ?_; refine P1 T.ok rfl rfl rfl ?_; refine WL_nil ?_; (with_reducible refine T_then ?_)
   refine W_no rfl rfl ?_
   refine W_seq ?_; refine W_region ?_; refine P1 T.ok rfl rfl rfl ?_; refine P1 T.ok rfl rfl rfl ?_; refine WL_nil ?_; (with_reducible refine T_then ?_)
   refine W_no rfl rfl ?_
   refine W_seq ?_; refine W_region ?_; refine P1 T.ok rfl rfl rfl ?_; refine P1 T.ok rfl rfl rfl ?_; refine WL_nil ?_; (with_reducible refine T_then ?_)
   refine W_no rfl rfl ?_
   refine W_seq ?_; refine W_region ?_; refine P1 T.ok rfl rfl rfl ?_; refine P1 T.ok rfl rfl rfl ?_; refine WL_nil ?_; (with_reducible refine T_then ?_)
   refine W_no rfl rfl ?_
   refine W_seq ?_; refine W_region ?_; refine P1 T.ok rfl rfl rfl ?_; refine P1 T.ok rfl rfl rfl ?_; refine WL_nil ?_; (with_reducible refine T_then ?_)
   refine W_no rfl rfl ?_
   refine W_seq ?_; refine W_region ?_; refine P1 T.ok rfl rfl rfl ?_; refine P1 T.ok rfl rfl rfl ?_; refine WL_nil ?_; (with_reducible refine T_then ?_)
   refine W_yes rfl rfl ?_
   refine W_region ?_; (iterate 3 refine P1 T.ok rfl rfl rfl ?_)
   refine WL_o rfl rfl (OpR_idxR T.ok (n := (i : Int)) rfl (hs.own 1 _ rfl).1 (by omega) (by omega) rfl rfl rfl rfl rfl rfl ?_)
   rintro b p hh; obtain ⟨rfl, rfl⟩ : sb = b ∧ sp = p := by simpa using hh
   refine P1 T.ok rfl rfl rfl ?_
   refine WL_n rfl (OpR_storeR T.ok 1 ((i : Int).toNat * 7 + 3) rfl hs rfl rfl rfl rfl rfl rfl rfl (by simp) (by rw [hcl]; show (i : Int).toNat * 7 + 3 + 1 ≤ _; omega) (mid_spl (mid' := midL r (.slice (some ⟨tb, tp, none⟩) (t0 :: tr).length tc) mi y.z2 (.slice na nl.length nc) bk lm) hpl (by show 3 + 1 ≤ 7; omega) rfl) ?_)
   rintro g9 hs hqe; replace le0 := G.le.trans le0 hqe; replace le8 := G.le.trans le8 hqe; replace ep0 := ep0.mono hqe; replace rs0 := rs0.mono hqe; replace rs1 := rs1.mono hqe
   replace rcp := rcp.mono hqe; replace rcq := rcq.mono hqe
   obtain ⟨gy, hwy, hqe, hsy, lz, rs4, rs5⟩ := bent_fz hs ⟨_, _, _, _, _, _, rfl, rfl⟩ (RcL.win _ _) rcp rcq rfl
   rw [← hwy]; replace hs := hsy; clear hsy; replace le0 := G.le.trans le0 hqe; replace le8 := G.le.trans le8 hqe; replace ep0 := ep0.mono hqe; replace rs0 := rs0.mono hqe; replace rs1 := rs1.mono hqe
   refine WL_nil ?_; (with_reducible refine T_bn ?_); (with_reducible refine T_then ?_); refine W_seq ?_; refine W_region ?_; refine WL_o rfl rfl (OpR_loadO T.ok 0 rfl hs rfl rfl rfl ?_)
   refine WL_n rfl (OpR_storeO T.ok 1 rfl hs rfl rfl rfl rfl rfl rfl rfl rfl rfl ?_); replace hs := hs; rintro g1 hs hqe; replace le0 := G.le.trans le0 hqe; replace le8 := G.le.trans le8 hqe; replace ep0 := ep0.mono hqe; replace rs0 := rs0.mono hqe; replace rs1 := rs1.mono hqe; replace rs4 := rs4.mono hqe; replace rs5 := rs5.mono hqe
   refine WL_nil ?_; (with_reducible refine T_then ?_)
   refine W_ret ?_
   skip
   exact retC T.ok 1 rfl hs rfl rfl rfl (hs.ret ⟨⟨a.moveMin, a.moveMax, lz, _⟩, _, _, _, _, _, _, rfl, rs4, rs5⟩)
  | 7, _ =>
   refine WL_nil ?_; (with_reducible refine T_then ?_); refine W_block ?_; refine W_seq ?_; refine W_region ?_; refine P1 T.ok rfl rfl rfl ?_; refine P1 T.ok rfl rfl rfl ?_; refine WL_nil ?_; (with_reducible refine T_then ?_)
   refine W_no rfl rfl ?_
   refine W_seq ?_; refine W_region ?_; refine P1 T.ok rfl rfl rfl ?_; refine P1 T.ok rfl rfl rfl ?_; refine WL_nil ?_; (with_reducible refine T_then ?_)
   refine W_no rfl rfl ?_
   refine W_seq ?_; refine W_region ?_; refine P1 T.ok rfl rfl rfl ?_; refine P1 T.ok rfl rfl rfl ?_; refine WL_nil ?_; (with_reducible refine T_then ?_)
   refine W_no rfl rfl ?_
   refine W_seq ?_; refine W_region ?_; refine P1 T.ok rfl rfl rfl ?_; refine P1 T.ok rfl rfl rfl ?_; refine WL_nil ?_; (with_reducible refine T_then ?_)
   refine W_no rfl rfl ?_
   refine W_seq ?_; refine W_region ?_; refine P1 T.ok rfl rfl rfl ?_; refine P1 T.ok rfl rfl rfl ?_; refine WL_nil ?_; (with_reducible refine T_then ?_)
   refine W_no rfl rfl ?_
   refine W_seq ?_; refine W_region ?_; refine P1 T.ok rfl rfl rfl ?_; refine P1 T.ok rfl rfl rfl ?_; refine WL_nil ?_; (with_reducible refine T_then ?_)
   refine W_no rfl rfl ?_
   refine W_seq ?_; refine W_region ?_; refine P1 T.ok rfl rfl rfl ?_; refine P1 T.ok rfl rfl rfl ?_; refine WL_nil ?_; (with_reducible refine T_then ?_)
   refine W_no rfl rfl ?_
   refine W_seq ?_; refine W_region ?_; refine P1 T.ok rfl rfl rfl ?_; refine P1 T.ok rfl rfl rfl ?_; refine WL_nil ?_; (with_reducible refine T_then ?_)
   refine W_yes rfl rfl ?_
   refine W_region ?_; (iterate 4 refine P1 T.ok rfl rfl rfl ?_)
   refine WL_o rfl rfl (OpR_idxR T.ok (n := (i : Int)) rfl (hs.own 1 _ rfl).1 (by omega) (by omega) rfl rfl rfl rfl rfl rfl ?_)
   rintro b p hh; obtain ⟨rfl, rfl⟩ : sb = b ∧ sp = p := by simpa using hh
   refine P1 T.ok rfl rfl rfl ?_
   refine WL_o rfl rfl (OpR_loadR T.ok ((i : Int).toNat * 7 + 4) rfl (hs.own 1 _ rfl).1 rfl (v := .slice na nl.length nc) (mid_at hpl rfl) ?_)
   refine P1 T.ok rfl rfl rfl ?_
   refine WL_o rfl rfl (OpR_lit T.ok rfl hs (vs := [(0, .int .i64 y.z2)]) (cells := [.int .i64 y.z2]) rfl rfl rfl rfl rfl rfl (by decide) (by decide) (by kernel_rfl) rfl ?_)
   clear hs
   rintro bl gl hs hqe; replace le0 := G.le.trans le0 hqe; replace le8 := G.le.trans le8 hqe; replace ep0 := ep0.mono hqe; replace rs0 := rs0.mono hqe; replace rs1 := rs1.mono hqe
   replace rcp := rcp.mono hqe; replace rcq := rcq.mono hqe
   skip
   refine WL_o rfl rfl (OpR_append T.ok 6 rfl hs rfl rfl rfl rfl rfl rfl rfl (by decide) rfl (Src.of_row (hs.own 0 _ rfl).1).2 (by simp [Value.oneCell']) (by show (nl.length + 1) * 8 ≤ _; simp only [List.length_cons] at *; omega) (by unfold maxLen; show nl.length + 1 ≤ _; simp only [List.length_cons] at *; omega) ?_)
   clear hs
   rintro a9 c9 g9 hs hqe; replace le0 := G.le.trans le0 hqe; replace le8 := G.le.trans le8 hqe; replace ep0 := ep0.mono hqe; replace rs0 := rs0.mono hqe; replace rs1 := rs1.mono hqe
   replace rcp := rcp.mono hqe; replace rcq := rcq.mono hqe
   replace hs := hs.drop 0
   skip
   refine WL_o rfl rfl (OpR_idxR T.ok (n := (i : Int)) rfl (hs.own 1 _ rfl).1 (by omega) (by omega) rfl rfl rfl rfl rfl rfl ?_)
   rintro b p hh; obtain ⟨rfl, rfl⟩ : sb = b ∧ sp = p := by simpa using hh
   refine P1 T.ok rfl rfl rfl ?_
   refine WL_n rfl (OpR_storeR T.ok 1 ((i : Int).toNat * 7 + 4) rfl hs rfl rfl rfl rfl rfl rfl rfl (by simp) (by rw [hcl]; show (i : Int).toNat * 7 + 4 + 1 ≤ _; omega) (mid_spl (mid' := midL r (.slice (some ⟨tb, tp, none⟩) (t0 :: tr).length tc) mi ma (.slice a9 (nl.length + 1) c9) bk lm) hpl (by show 4 + 1 ≤ 7; omega) rfl) ?_)
   rintro g9 hs hqe; replace le0 := G.le.trans le0 hqe; replace le8 := G.le.trans le8 hqe; replace ep0 := ep0.mono hqe; replace rs0 := rs0.mono hqe; replace rs1 := rs1.mono hqe
   replace rcp := rcp.mono hqe; replace rcq := rcq.mono hqe
   have e5 : nl.map (Value.int .i64) ++ [Value.int .i64 y.z2] = (nl ++ [y.z2]).map (Value.int .i64) := by rw [List.map_append]; rfl
   rw [e5] at hs
   obtain ⟨gy, hwy, hqe, hsy, lz, rs4, rs5⟩ := bent_fz hs ⟨_, _, _, _, _, _, rfl, rfl⟩ (RcL.win _ _) rcp rcq rfl
   rw [← hwy]; replace hs := hsy; clear hsy; replace le0 := G.le.trans le0 hqe; replace le8 := G.le.trans le8 hqe; replace ep0 := ep0.mono hqe; replace rs0 := rs0.mono hqe; replace rs1 := rs1.mono hqe
   refine WL_nil ?_; (with_reducible refine T_bn ?_); (with_reducible refine T_then ?_); refine W_seq ?_; refine W_region ?_; refine WL_o rfl rfl (OpR_loadO T.ok 0 rfl hs rfl rfl rfl ?_)
   refine WL_n rfl (OpR_storeO T.ok 1 rfl hs rfl rfl rfl rfl rfl rfl rfl rfl rfl ?_); replace hs := hs; rintro g1 hs hqe; replace le0 := G.le.trans le0 hqe; replace le8 := G.le.trans le8 hqe; replace ep0 := ep0.mono hqe; replace rs0 := rs0.mono hqe; replace rs1 := rs1.mono hqe; replace rs4 := rs4.mono hqe; replace rs5 := rs5.mono hqe
   refine WL_nil ?_; (with_reducible refine T_then ?_)
   refine W_ret ?_
   skip
   exact retC T.ok 1 rfl hs rfl rfl rfl (hs.ret ⟨⟨a.moveMin, a.moveMax, lz, _⟩, _, _, _, _, _, _, rfl, rs4, rs5⟩)
  | 8, _ =>
   refine WL_nil ?_; (with_reducible refine T_then ?_); refine W_block ?_; refine W_seq ?_; refine W_region ?_; refine P1 T.ok rfl rfl rfl ?_; refine P1 T.ok rfl rfl rfl ?_; refine WL_nil ?_; (with_reducible refine T_then ?_)
   refine W_no rfl rfl ?_
   refine W_seq ?_; refine W_region ?_; refine P1 T.ok rfl rfl rfl ?_; refine P1 T.ok rfl rfl rfl ?_; refine WL_nil ?_; (with_reducible refine T_then ?_)
   refine W_no rfl rfl ?_
   refine W_seq ?_; refine W_region ?_; refine P1 T.ok rfl rfl rfl ?_; refine P1 T.ok rfl rfl rfl ?_; refine WL_nil ?_; (with_reducible refine T_then ?_)
   refine W_no rfl rfl ?_
   refine W_seq ?_; refine W_region ?_; refine P1 T.ok rfl rfl rfl ?_; refine P1 T.ok rfl rfl rfl ?_; refine WL_nil ?_; (with_reducible refine T_then ?_)
   refine W_no rfl rfl ?_
   refine W_seq ?_; refine W_region ?_; refine P1 T.ok rfl rfl rfl ?_; refine P1 T.ok rfl rfl rfl ?_; refine WL_nil ?_; (with_reducible refine T_then ?_)
   refine W_no rfl rfl ?_
   refine W_seq ?_; refine W_region ?_; refine P1 T.ok rfl rfl rfl ?_; refine P1 T.ok rfl rfl rfl ?_; refine WL_nil ?_; (with_reducible refine T_then ?_)
   refine W_no rfl rfl ?_
   refine W_seq ?_; refine W_region ?_; refine P1 T.ok rfl rfl rfl ?_; refine P1 T.ok rfl rfl rfl ?_; refine WL_nil ?_; (with_reducible refine T_then ?_)
   refine W_no rfl rfl ?_
   refine W_seq ?_; refine W_region ?_; refine P1 T.ok rfl rfl rfl ?_; refine P1 T.ok rfl rfl rfl ?_; refine WL_nil ?_; (with_reducible refine T_then ?_)
   refine W_no rfl rfl ?_
   refine W_seq ?_; refine W_region ?_; refine P1 T.ok rfl rfl rfl ?_; refine P1 T.ok rfl rfl rfl ?_; refine WL_nil ?_; (with_reducible refine T_then ?_)
   refine W_yes rfl rfl ?_
   refine W_region ?_; (iterate 3 refine P1 T.ok rfl rfl rfl ?_)
   refine WL_o rfl rfl (OpR_idxR T.ok (n := (i : Int)) rfl (hs.own 1 _ rfl).1 (by omega) (by omega) rfl rfl rfl rfl rfl rfl ?_)
   rintro b p hh; obtain ⟨rfl, rfl⟩ : sb = b ∧ sp = p := by simpa using hh
   refine P1 T.ok rfl rfl rfl ?_
   refine WL_n rfl (OpR_storeR T.ok 1 ((i : Int).toNat * 7 + 5) rfl hs rfl rfl rfl rfl rfl rfl rfl (by simp) (by rw [hcl]; show (i : Int).toNat * 7 + 5 + 1 ≤ _; omega) (mid_spl (mid' := midL r (.slice (some ⟨tb, tp, none⟩) (t0 :: tr).length tc) mi ma (.slice na nl.length nc) y.z2 lm) hpl (by show 5 + 1 ≤ 7; omega) rfl) ?_)
   rintro g9 hs hqe; replace le0 := G.le.trans le0 hqe; replace le8 := G.le.trans le8 hqe; replace ep0 := ep0.mono hqe; replace rs0 := rs0.mono hqe; replace rs1 := rs1.mono hqe
   replace rcp := rcp.mono hqe; replace rcq := rcq.mono hqe
   obtain ⟨gy, hwy, hqe, hsy, lz, rs4, rs5⟩ := bent_fz hs ⟨_, _, _, _, _, _, rfl, rfl⟩ (RcL.win _ _) rcp rcq rfl
   rw [← hwy]; replace hs := hsy; clear hsy; replace le0 := G.le.trans le0 hqe; replace le8 := G.le.trans le8 hqe; replace ep0 := ep0.mono hqe; replace rs0 := rs0.mono hqe; replace rs1 := rs1.mono hqe
   refine WL_nil ?_; (with_reducible refine T_bn ?_); (with_reducible refine T_then ?_); refine W_seq ?_; refine W_region ?_; refine WL_o rfl rfl (OpR_loadO T.ok 0 rfl hs rfl rfl rfl ?_)
   refine WL_n rfl (OpR_storeO T.ok 1 rfl hs rfl rfl rfl rfl rfl rfl rfl rfl rfl ?_); replace hs := hs; rintro g1 hs hqe; replace le0 := G.le.trans le0 hqe; replace le8 := G.le.trans le8 hqe; replace ep0 := ep0.mono hqe; replace rs0 := rs0.mono hqe; replace rs1 := rs1.mono hqe; replace rs4 := rs4.mono hqe; replace rs5 := rs5.mono hqe
   refine WL_nil ?_; (with_reducible refine T_then ?_)
   refine W_ret ?_
   skip
   exact retC T.ok 1 rfl hs rfl rfl rfl (hs.ret ⟨⟨a.moveMin, a.moveMax, lz, _⟩, _, _, _, _, _, _, rfl, rs4, rs5⟩)
  | 9, _ =>
   refine WL_nil ?_; (with_reducible refine T_then ?_); refine W_block ?_; refine W_seq ?_; refine W_region ?_; refine P1 T.ok rfl rfl rfl ?_; refine P1 T.ok rfl rfl rfl ?_; refine WL_nil ?_; (with_reducible refine T_then ?_)
   refine W_no rfl rfl ?_
   refine W_seq ?_; refine W_region ?_; refine P1 T.ok rfl rfl rfl ?_; refine P1 T.ok rfl rfl rfl ?_; refine WL_nil ?_; (with_reducible refine T_then ?_)
   refine W_no rfl rfl ?_
   refine W_seq ?_; refine W_region ?_; refine P1 T.ok rfl rfl rfl ?_; refine P1 T.ok rfl rfl rfl ?_; refine WL_nil ?_; (with_reducible refine T_then ?_)
   refine W_no rfl rfl ?_
   refine W_seq ?_; refine W_region ?_; refine P1 T.ok rfl rfl rfl ?_; refine P1 T.ok rfl rfl rfl ?_; refine WL_nil ?_; (with_reducible refine T_then ?_)
   refine W_no rfl rfl ?_
   refine W_seq ?_; refine W_region ?_; refine P1 T.ok rfl rfl rfl ?_; refine P1 T.ok rfl rfl rfl ?_; refine WL_nil ?_; (with_reducible refine T_then ?_)
   refine W_no rfl rfl ?_
   refine W_seq ?_; refine W_region ?_; refine P1 T.ok rfl rfl rfl ?_; refine P1 T.ok rfl rfl rfl ?_; refine WL_nil ?_; (with_reducible refine T_then ?_)
   refine W_no rfl rfl ?_
   refine W_seq ?_; refine W_region ?_; refine P1 T.ok rfl rfl rfl ?_; refine P1 T.ok rfl rfl rfl ?_; refine WL_nil ?_; (with_reducible refine T_then ?_)
   refine W_no rfl rfl ?_
   refine W_seq ?_; refine W_region ?_; refine P1 T.ok rfl rfl rfl ?_; refine P1 T.ok rfl rfl rfl ?_; refine WL_nil ?_; (with_reducible refine T_then ?_)
   refine W_no rfl rfl ?_
   refine W_seq ?_; refine W_region ?_; refine P1 T.ok rfl rfl rfl ?_; refine P1 T.ok rfl rfl rfl ?_; refine WL_nil ?_; (with_reducible refine T_then ?_)
   refine W_no rfl rfl ?_
   refine W_seq ?_; refine W_region ?_; refine P1 T.ok rfl rfl rfl ?_; refine P1 T.ok rfl rfl rfl ?_; refine WL_nil ?_; (with_reducible refine T_then ?_)
   refine W_yes rfl rfl ?_
   refine W_region ?_; (iterate 3 refine P1 T.ok rfl rfl rfl ?_)
   refine WL_o rfl rfl (OpR_idxR T.ok (n := (i : Int)) rfl (hs.own 1 _ rfl).1 (by omega) (by omega) rfl rfl rfl rfl rfl rfl ?_)
   rintro b p hh; obtain ⟨rfl, rfl⟩ : sb = b ∧ sp = p := by simpa using hh
   refine P1 T.ok rfl rfl rfl ?_
   refine WL_n rfl (OpR_storeR T.ok 1 ((i : Int).toNat * 7 + 6) rfl hs rfl rfl rfl rfl rfl rfl rfl (by simp) (by rw [hcl]; show (i : Int).toNat * 7 + 6 + 1 ≤ _; omega) (mid_spl (mid' := midL r (.slice (some ⟨tb, tp, none⟩) (t0 :: tr).length tc) mi ma (.slice na nl.length nc) bk y.z2) hpl (by show 6 + 1 ≤ 7; omega) rfl) ?_)
   rintro g9 hs hqe; replace le0 := G.le.trans le0 hqe; replace le8 := G.le.trans le8 hqe; replace ep0 := ep0.mono hqe; replace rs0 := rs0.mono hqe; replace rs1 := rs1.mono hqe
   replace rcp := rcp.mono hqe; replace rcq := rcq.mono hqe
   obtain ⟨gy, hwy, hqe, hsy, lz, rs4, rs5⟩ := bent_fz hs ⟨_, _, _, _, _, _, rfl, rfl⟩ (RcL.win _ _) rcp rcq rfl
   rw [← hwy]; replace hs := hsy; clear hsy; replace le0 := G.le.trans le0 hqe; replace le8 := G.le.trans le8 hqe; replace ep0 := ep0.mono hqe; replace rs0 := rs0.mono hqe; replace rs1 := rs1.mono hqe
   refine WL_nil ?_; (with_reducible refine T_bn ?_); (with_reducible refine T_then ?_); refine W_seq ?_; refine W_region ?_; refine WL_o rfl rfl (OpR_loadO T.ok 0 rfl hs rfl rfl rfl ?_)
   refine WL_n rfl (OpR_storeO T.ok 1 rfl hs rfl rfl rfl rfl rfl rfl rfl rfl rfl ?_); replace hs := hs; rintro g1 hs hqe; replace le0 := G.le.trans le0 hqe; replace le8 := G.le.trans le8 hqe; replace ep0 := ep0.mono hqe; replace rs0 := rs0.mono hqe; replace rs1 := rs1.mono hqe; replace rs4 := rs4.mono hqe; replace rs5 := rs5.mono hqe
   refine WL_nil ?_; (with_reducible refine T_then ?_)
   refine W_ret ?_
   skip
   exact retC T.ok 1 rfl hs rfl rfl rfl (hs.ret ⟨⟨a.moveMin, a.moveMax, lz, _⟩, _, _, _, _, _, _, rfl, rs4, rs5⟩)
  | 10, _ =>
   refine WL_nil ?_; (with_reducible refine T_then ?_); refine W_block ?_; refine W_seq ?_; refine W_region ?_; refine P1 T.ok rfl rfl rfl ?_; refine P1 T.ok rfl rfl rfl ?_; refine WL_nil ?_; (with_reducible refine T_then ?_)
   refine W_no rfl rfl ?_
   refine W_seq ?_; refine W_region ?_; refine P1 T.ok rfl rfl rfl ?_; refine P1 T.ok rfl rfl rfl ?_; refine WL_nil ?_; (with_reducible refine T_then ?_)
   refine W_no rfl rfl ?_
   refine W_seq ?_; refine W_region ?_; refine P1 T.ok rfl rfl rfl ?_; refine P1 T.ok rfl rfl rfl ?_; refine WL_nil ?_; (with_reducible refine T_then ?_)
   refine W_no rfl rfl ?_
   refine W_seq ?_; refine W_region ?_; refine P1 T.ok rfl rfl rfl ?_; refine P1 T.ok rfl rfl rfl ?_; refine WL_nil ?_; (with_reducible refine T_then ?_)
   refine W_no rfl rfl ?_
   refine W_seq ?_; refine W_region ?_; refine P1 T.ok rfl rfl rfl ?_; refine P1 T.ok rfl rfl rfl ?_; refine WL_nil ?_; (with_reducible refine T_then ?_)
   refine W_no rfl rfl ?_
   refine W_seq ?_; refine W_region ?_; refine P1 T.ok rfl rfl rfl ?_; refine P1 T.ok rfl rfl rfl ?_; refine WL_nil ?_; (with_reducible refine T_then ?_)
   refine W_no rfl rfl ?_
   refine W_seq ?_; refine W_region ?_; refine P1 T.ok rfl rfl rfl ?_; refine P1 T.ok rfl rfl rfl ?_; refine WL_nil ?_; (with_reducible refine T_then ?_)
   refine W_no rfl rfl ?_
   refine W_seq ?_; refine W_region ?_; refine P1 T.ok rfl rfl rfl ?_; refine P1 T.ok rfl rfl rfl ?_; refine WL_nil ?_; (with_reducible refine T_then ?_)
   refine W_no rfl rfl ?_
   refine W_seq ?_; refine W_region ?_; refine P1 T.ok rfl rfl rfl ?_; refine P1 T.ok rfl rfl rfl ?_; refine WL_nil ?_; (with_reducible refine T_then ?_)
   refine W_no rfl rfl ?_
   refine W_seq ?_; refine W_region ?_; refine P1 T.ok rfl rfl rfl ?_; refine P1 T.ok rfl rfl rfl ?_; refine WL_nil ?_; (with_reducible refine T_then ?_)
   refine W_no rfl rfl ?_
   refine W_seq ?_; refine W_region ?_; refine P1 T.ok rfl rfl rfl ?_; refine P1 T.ok rfl rfl rfl ?_; refine WL_nil ?_; (with_reducible refine T_then ?_)
   refine W_yes rfl rfl ?_
   skip
   apply W_drawM allF rfl (Fact.eq _ :: Fact.eq _ :: Fact.eq _ :: Fact.eq _ :: Fact.eq _ :: Fact.eq _ :: Fact.eq _ :: Fact.eq _ :: Fact.eq _ :: Fact.eq _ :: Fact.eq _ :: (Fact.rs [(⟨pickM y.z1 9, pickM y.z2 9, pickM y.z1 100⟩ : Window)]) :: (appF g (fun v wcs => [.row 53 3 v (a.windows.length + 1) wcs, .row 50 7 (.slice (some ⟨sb, sp, none⟩) a.steps.length rc) a.steps.length (pre ++ midL r (.slice (some ⟨tb, tp, none⟩) (t0 :: tr).length tc) mi ma (.slice na nl.length nc) bk lm ++ post), .obj b2 (.cells [.int .i64 a.moveMin, .int .i64 a.moveMax, .slice (some ⟨sb, sp, none⟩) a.steps.length rc, .slice aw a.windows.length cw].toArray 25 (0, 0)), .obj b4 (.cells [.int .i64 0, .int .i64 0, .slice none 0 0, .slice none 0 0].toArray 25 (0, 0)), .row 3 1 (.slice (some ⟨tb, tp, none⟩) (t0 :: tr).length tc) (t0 :: tr).length ((t0 :: tr).map (Value.int .i64)), .row 3 1 (.slice na nl.length nc) nl.length (nl.map (Value.int .i64))]) (a.windows.length + 1) (a.windows ++ [(⟨pickM y.z1 9, pickM y.z2 9, pickM y.z1 100⟩ : Window)])) :: Fact.eq _ :: []) 14 [(12, 151), (13, 152)] [] [0, 1, 2, 3, 4, 5, 6, 7, 8, 9, 10, 11] 12 rfl (by kernel_rfl) (by kernel_rfl)
   case houts => exact rfl
   case hsoft => (repeat (first | exact softN | apply softE | refine softC (soft_eq _) ?_ | refine softC (soft_rs _) ?_ | refine softC (soft_step _ _) ?_ | refine softC (soft_stepV _) ?_ | refine softC (soft_wayV _) ?_ | refine softC (soft_intPtr _) ?_ | refine softC (soft_y6 _) ?_ | refine softC (soft_lst _) ?_ | refine softO (by exact rfl) ?_))
   ·refine M_cons (M_anc (js := []) (by kernel_rfl) (by exact rfl) (by exact rfl) fun gd hf => ?_) ?_
    ·have hsd := hs.dr.call hf; have hfe := (G.le_dr _).trans hf.le
     refine QA_nil ?_
     (refine D_yes rfl ?_; refine OpR_pure _ T.ok rfl ?_; refine ⟨_, rfl, Fr0.refl _, ?_⟩; exact rfl)
    refine M_cons (M_anc (js := [(0, 139)]) (by kernel_rfl) (by exact rfl) (by exact rfl) fun gd hf => ?_) ?_
    ·have hsd := hs.dr.call hf; have hfe := (G.le_dr _).trans hf.le
     refine QA_eq rfl ?_
     refine QA_nil ?_
     (refine D_yes rfl ?_; refine OpR_loadO T.ok 2 rfl hsd rfl rfl rfl ?_; refine ⟨_, rfl, Fr0.refl _, ?_⟩; exact rfl)
    refine M_cons (M_anc (js := []) (by kernel_rfl) (by exact rfl) (by exact rfl) fun gd hf => ?_) ?_
    ·have hsd := hs.dr.call hf; have hfe := (G.le_dr _).trans hf.le
     refine QA_nil ?_
     refine D_yes rfl ?_
     refine OpR_idxA T.ok (q := 1) rfl rfl rfl rfl rfl rfl (by decide) ?_
     exact ⟨_, rfl, Fr0.refl _, rfl⟩
    refine M_cons (M_anc (js := [(2, 141)]) (by kernel_rfl) (by exact rfl) (by exact rfl) fun gd hf => ?_) ?_
    ·have hsd := hs.dr.call hf; have hfe := (G.le_dr _).trans hf.le
     refine QA_eq rfl ?_
     refine QA_nil ?_
     refine D_yes rfl ?_
     refine OpR_loadE T.ok 1 rfl (ep0.mono hfe) rfl rfl ?_
     refine ⟨_, rfl, Fr0.refl _, ?_⟩
     exact rfl
    refine M_cons (M_anc (js := [(3, 142)]) (by kernel_rfl) (by exact rfl) (by exact rfl) fun gd hf => ?_) ?_
    ·have hsd := hs.dr.call hf; have hfe := (G.le_dr _).trans hf.le
     refine QA_eq rfl ?_
     refine QA_nil ?_
     refine D_yes rfl ?_
     refine OpR_ret cl18 allF rfl rfl rfl rfl rfl (lpick_c (y.z1) (9) _ (hy.h1) (by decide)) fun g' v h1 h2 => ⟨g', rfl, h1, ?_⟩
     exact h2
    refine M_cons (M_anc (js := []) (by kernel_rfl) (by exact rfl) (by exact rfl) fun gd hf => ?_) ?_
    ·have hsd := hs.dr.call hf; have hfe := (G.le_dr _).trans hf.le
     refine QA_nil ?_
     (refine D_yes rfl ?_; refine OpR_pure _ T.ok rfl ?_; refine ⟨_, rfl, Fr0.refl _, ?_⟩; exact rfl)
    refine M_cons (M_anc (js := [(5, 144)]) (by kernel_rfl) (by exact rfl) (by exact rfl) fun gd hf => ?_) ?_
    ·have hsd := hs.dr.call hf; have hfe := (G.le_dr _).trans hf.le
     refine QA_eq rfl ?_
     refine QA_nil ?_
     refine D_yes rfl ?_
     refine OpR_ret cl18 allF rfl rfl rfl rfl rfl (lpick_c (y.z2) (9) _ (hy.h2) (by decide)) fun g' v h1 h2 => ⟨g', rfl, h1, ?_⟩
     exact h2
    refine M_cons (M_anc (js := []) (by kernel_rfl) (by exact rfl) (by exact rfl) fun gd hf => ?_) ?_
    ·have hsd := hs.dr.call hf; have hfe := (G.le_dr _).trans hf.le
     refine QA_nil ?_
     refine D_yes rfl ?_
     refine OpR_idxA T.ok (q := 1) rfl rfl rfl rfl rfl rfl (by decide) ?_
     exact ⟨_, rfl, Fr0.refl _, rfl⟩
    refine M_cons (M_anc (js := [(7, 146)]) (by kernel_rfl) (by exact rfl) (by exact rfl) fun gd hf => ?_) ?_
    ·have hsd := hs.dr.call hf; have hfe := (G.le_dr _).trans hf.le
     refine QA_eq rfl ?_
     refine QA_nil ?_
     refine D_yes rfl ?_
     refine OpR_loadE T.ok 1 rfl (ep0.mono hfe) rfl rfl ?_
     refine ⟨_, rfl, Fr0.refl _, ?_⟩
     exact rfl
    refine M_cons (M_anc (js := [(8, 147)]) (by kernel_rfl) (by exact rfl) (by exact rfl) fun gd hf => ?_) ?_
    ·have hsd := hs.dr.call hf; have hfe := (G.le_dr _).trans hf.le
     refine QA_eq rfl ?_
     refine QA_nil ?_
     refine D_yes rfl ?_
     refine OpR_ret cl18 allF rfl rfl rfl rfl rfl (lpick_c (y.z1) (100) _ (hy.h1) (by decide)) fun g' v h1 h2 => ⟨g', rfl, h1, ?_⟩
     exact h2
    refine M_cons (M_anc (js := [(4, 143), (6, 145), (9, 148)]) (by kernel_rfl) (by exact rfl) (by exact rfl) fun gd hf => ?_) ?_
    ·have hsd := hs.dr.call hf; have hfe := (G.le_dr _).trans hf.le
     refine QA_eq rfl ?_; refine QA_eq rfl ?_; refine QA_eq rfl ?_
     refine QA_nil ?_
     refine D_yes rfl ?_
     refine OpR_build T.ok rfl (vs := [(0, .int .i64 (pickM y.z1 9)), (1, .int .i64 (pickM y.z2 9)), (2, .int .i64 (pickM y.z1 100))]) (cells := [.int .i64 (pickM y.z1 9), .int .i64 (pickM y.z2 9), .int .i64 (pickM y.z1 100)]) rfl rfl rfl rfl [(0, 1), (1, 1), (2, 1)] rfl (by kernel_rfl) ?_
     exact ⟨_, rfl, Fr0.refl _, rfl⟩
    refine M_cons (M_anc (js := [(10, 149)]) (by kernel_rfl) (by exact rfl) (by exact rfl) fun gd hf => ?_) ?_
    ·have hsd := hs.dr.call hf; have hfe := (G.le_dr _).trans hf.le
     refine QA_eq rfl ?_
     refine QA_nil ?_
     refine D_yes rfl ?_
     refine OpR_lit T.ok rfl (St.start gd) (vs := [(0, .agg #[.int .i64 (pickM y.z1 9), .int .i64 (pickM y.z2 9), .int .i64 (pickM y.z1 100)])]) (cells := [.int .i64 (pickM y.z1 9), .int .i64 (pickM y.z2 9), .int .i64 (pickM y.z1 100)]) rfl rfl rfl rfl rfl rfl (by decide) (by decide) (by kernel_rfl) rfl ?_
     intro b2 g2 hs1 hqe1
     obtain ⟨g3, hw3, hs3, hqe3, hrl⟩ := hs1.fzRow (α := Window) (xs := [⟨pickM y.z1 9, pickM y.z2 9, pickM y.z1 100⟩]) (i := 0) rfl ⟨_, [], by rw [List.append_nil], rfl, rfl⟩
     exact ⟨g3, hw3, hs3.fr0, hrl⟩
    refine M_cons (M_eat (js := [(1, 140), (11, 150)]) (by kernel_rfl) fun gd hf => ?_) ?_
    ·have hsd := hs.dr.call hf; have hfe := (G.le_dr _).trans hf.le
     refine QA_eq rfl ?_; refine QA_any fun v11 h11 => ?_
     refine QA_nil ?_
     obtain ⟨ax, cx, rfl⟩ := Rs.isSlice h11
     obtain ⟨_, news, hnw, hsrc⟩ := Src.of_rs h11
     refine ⟨rfl, ?_⟩
     refine OpR_append T.ok 0 rfl hsd rfl rfl rfl rfl rfl rfl rfl (by decide) rfl hsrc hnw.one (by show (a.windows.length + 1) * 24 ≤ _; omega) (by unfold maxLen; show a.windows.length + 1 ≤ _; omega) ?_
     intro a' c' g8 hs8 hqe8
     exact ⟨g8, rfl, hqe8, a', c', _, rfl, hs8, RcL.app (hnw.mono hqe8) (RcL.win _ _)⟩
    refine M_cons (M_free (js := []) (by kernel_rfl) (by exact rfl) fun gd hf => ?_) ?_
    ·have hfe := (G.le_dr _).trans hf
     refine QA_nil ?_
     (refine D_yes rfl ?_; refine OpR_pure _ T.ok rfl ?_; refine ⟨_, rfl, Fr0.refl _, ?_⟩; exact rfl)
    exact M_nil
   intro g1 hf1; refine QA_any fun v12 h12 => ?_; refine QA_eq rfl ?_; refine QA_nil ?_
   have hqe := (G.le_dr _).trans hf1; replace le0 := G.le.trans le0 hqe; replace le8 := G.le.trans le8 hqe; replace ep0 := ep0.mono hqe; replace rs0 := rs0.mono hqe; replace rs1 := rs1.mono hqe
   obtain ⟨wa', wc', wcs, rfl, hs, hwc⟩ := h12
   obtain rfl := RcL.win_inv hwc
   replace rcp := rcp.mono hqe; replace rcq := rcq.mono hqe
   skip
   refine WL_n rfl (OpR_storeO T.ok 2 rfl hs rfl rfl rfl rfl rfl rfl rfl rfl rfl ?_); replace hs := hs; rintro g1 hs hqe; replace le0 := G.le.trans le0 hqe; replace le8 := G.le.trans le8 hqe; replace ep0 := ep0.mono hqe; replace rs0 := rs0.mono hqe; replace rs1 := rs1.mono hqe
   replace rcp := rcp.mono hqe; replace rcq := rcq.mono hqe
   obtain ⟨gy, hwy, hqe, hsy, lz, rs4, rs5⟩ := bent_fz hs ⟨_, _, _, _, _, _, rfl, rfl⟩ (RcL.win _ _) rcp rcq rfl
   rw [← hwy]; replace hs := hsy; clear hsy; replace le0 := G.le.trans le0 hqe; replace le8 := G.le.trans le8 hqe; replace ep0 := ep0.mono hqe; replace rs0 := rs0.mono hqe; replace rs1 := rs1.mono hqe
   refine WL_nil ?_; (with_reducible refine T_bn ?_); (with_reducible refine T_then ?_); refine W_seq ?_; refine W_region ?_; refine WL_o rfl rfl (OpR_loadO T.ok 0 rfl hs rfl rfl rfl ?_)
   refine WL_n rfl (OpR_storeO T.ok 1 rfl hs rfl rfl rfl rfl rfl rfl rfl rfl rfl ?_); replace hs := hs; rintro g1 hs hqe; replace le0 := G.le.trans le0 hqe; replace le8 := G.le.trans le8 hqe; replace ep0 := ep0.mono hqe; replace rs0 := rs0.mono hqe; replace rs1 := rs1.mono hqe; replace rs4 := rs4.mono hqe; replace rs5 := rs5.mono hqe
   refine WL_nil ?_; (with_reducible refine T_then ?_)
   refine W_ret ?_
   skip
   exact retC T.ok 1 rfl hs rfl rfl rfl (hs.ret ⟨⟨a.moveMin, a.moveMax, lz, _⟩, _, _, _, _, _, _, rfl, rs4, rs5⟩)
  | 11, _ =>
   refine WL_nil ?_; (with_reducible refine T_then ?_); refine W_block ?_; refine W_seq ?_; refine W_region ?_; refine P1 T.ok rfl rfl rfl ?_; refine P1 T.ok rfl rfl rfl ?_; refine WL_nil ?_; (with_reducible refine T_then ?_)
   refine W_no rfl rfl ?_
   refine W_seq ?_; refine W_region ?_; refine P1 T.ok rfl rfl rfl ?_; refine P1 T.ok rfl rfl rfl ?_; refine WL_nil ?_; (with_reducible refine T_then ?_)
   refine W_no rfl rfl ?_
   refine W_seq ?_; refine W_region ?_; refine P1 T.ok rfl rfl rfl ?_; refine P1 T.ok rfl rfl rfl ?_; refine WL_nil ?_; (with_reducible refine T_then ?_)
   refine W_no rfl rfl ?_
   refine W_seq ?_; refine W_region ?_; refine P1 T.ok rfl rfl rfl ?_; refine P1 T.ok rfl rfl rfl ?_; refine WL_nil ?_; (with_reducible refine T_then ?_)
   refine W_no rfl rfl ?_
   refine W_seq ?_; refine W_region ?_; refine P1 T.ok rfl rfl rfl ?_; refine P1 T.ok rfl rfl rfl ?_; refine WL_nil ?_; (with_reducible refine T_then ?_)
   refine W_no rfl rfl ?_
   refine W_seq ?_; refine W_region ?_; refine P1 T.ok rfl rfl rfl ?_; refine P1 T.ok rfl rfl rfl ?_; refine WL_nil ?_; (with_reducible refine T_then ?_)
   refine W_no rfl rfl ?_
   refine W_seq ?_; refine W_region ?_; refine P1 T.ok rfl rfl rfl ?_; refine P1 T.ok rfl rfl rfl ?_; refine WL_nil ?_; (with_reducible refine T_then ?_)
   refine W_no rfl rfl ?_
   refine W_seq ?_; refine W_region ?_; refine P1 T.ok rfl rfl rfl ?_; refine P1 T.ok rfl rfl rfl ?_; refine WL_nil ?_; (with_reducible refine T_then ?_)
   refine W_no rfl rfl ?_
   refine W_seq ?_; refine W_region ?_; refine P1 T.ok rfl rfl rfl ?_; refine P1 T.ok rfl rfl rfl ?_; refine WL_nil ?_; (with_reducible refine T_then ?_)
   refine W_no rfl rfl ?_
   refine W_seq ?_; refine W_region ?_; refine P1 T.ok rfl rfl rfl ?_; refine P1 T.ok rfl rfl rfl ?_; refine WL_nil ?_; (with_reducible refine T_then ?_)
   refine W_no rfl rfl ?_
   refine W_seq ?_; refine W_region ?_; refine P1 T.ok rfl rfl rfl ?_; refine P1 T.ok rfl rfl rfl ?_; refine WL_nil ?_; (with_reducible refine T_then ?_)
   refine W_no rfl rfl ?_
   refine W_seq ?_; refine W_region ?_; refine P1 T.ok rfl rfl rfl ?_; refine P1 T.ok rfl rfl rfl ?_; refine WL_nil ?_; (with_reducible refine T_then ?_)
   refine W_yes rfl rfl ?_
   refine W_seq ?_; refine W_region ?_; refine P1 T.ok rfl rfl rfl ?_; refine WL_o rfl rfl (OpR_loadO T.ok 2 rfl hs rfl rfl rfl ?_); refine P1 T.ok rfl rfl rfl ?_; refine P1 T.ok rfl rfl rfl ?_; refine WL_nil ?_; (with_reducible refine T_then ?_)
   cases hwin : a.windows with
   | nil =>
    rw [hwin] at hs
    skip
    refine W_no rfl rfl ?_
    obtain ⟨gy, hwy, hqe, hsy, lz, rs4, rs5⟩ := bent_fz hs ⟨_, _, _, _, _, _, rfl, rfl⟩ (RcL.win _ []) rcp rcq rfl
    rw [← hwy]; replace hs := hsy; clear hsy; replace le0 := G.le.trans le0 hqe; replace le8 := G.le.trans le8 hqe; replace ep0 := ep0.mono hqe; replace rs0 := rs0.mono hqe; replace rs1 := rs1.mono hqe
    refine W_skip ?_; (with_reducible refine T_bn ?_); (with_reducible refine T_then ?_); refine W_seq ?_; refine W_region ?_; refine WL_o rfl rfl (OpR_loadO T.ok 0 rfl hs rfl rfl rfl ?_)
    refine WL_n rfl (OpR_storeO T.ok 1 rfl hs rfl rfl rfl rfl rfl rfl rfl rfl rfl ?_); replace hs := hs; rintro g1 hs hqe; replace le0 := G.le.trans le0 hqe; replace le8 := G.le.trans le8 hqe; replace ep0 := ep0.mono hqe; replace rs0 := rs0.mono hqe; replace rs1 := rs1.mono hqe; replace rs4 := rs4.mono hqe; replace rs5 := rs5.mono hqe
    refine WL_nil ?_; (with_reducible refine T_then ?_)
    refine W_ret ?_
    skip
    exact retC T.ok 1 rfl hs rfl rfl rfl (hs.ret ⟨⟨a.moveMin, a.moveMax, lz, _⟩, _, _, _, _, _, _, rfl, rs4, rs5⟩)
   | cons w0 wr =>
    rw [hwin] at hs
    obtain ⟨wb, wp, rfl⟩ := row_some (hs.own 0 _ rfl).1 (by simp)
    skip
    refine W_yes (b := _) ?_ rfl ?_
    ·simp
    refine W_region ?_; refine P1 T.ok rfl rfl rfl ?_; refine WL_o rfl rfl (OpR_loadO T.ok 2 rfl hs rfl rfl rfl ?_); refine P1 T.ok rfl rfl rfl ?_
    refine WL_o rfl rfl (OpR_idxR T.ok (n := 0) rfl (hs.own 0 _ rfl).1 (by omega) (by simp) rfl rfl rfl rfl rfl rfl ?_)
    rintro b p hh; obtain ⟨rfl, rfl⟩ : wb = b ∧ wp = p := by simpa using hh
    refine P1 T.ok rfl rfl rfl ?_
    refine WL_n rfl (OpR_storeR T.ok 0 2 rfl hs rfl rfl rfl rfl rfl rfl rfl (by simp) (by rw [winL_len]; simp; omega) (xs' := winL (⟨w0.src, w0.dst, y.z2⟩ :: wr)) rfl ?_)
    rintro g9 hs hqe; replace le0 := G.le.trans le0 hqe; replace le8 := G.le.trans le8 hqe; replace ep0 := ep0.mono hqe; replace rs0 := rs0.mono hqe; replace rs1 := rs1.mono hqe
    replace rcp := rcp.mono hqe; replace rcq := rcq.mono hqe
    obtain ⟨gy, hwy, hqe, hsy, lz, rs4, rs5⟩ := bent_fz hs ⟨_, _, _, _, _, _, rfl, rfl⟩ (RcL.win _ (⟨w0.src, w0.dst, y.z2⟩ :: wr)) rcp rcq rfl
    rw [← hwy]; replace hs := hsy; clear hsy; replace le0 := G.le.trans le0 hqe; replace le8 := G.le.trans le8 hqe; replace ep0 := ep0.mono hqe; replace rs0 := rs0.mono hqe; replace rs1 := rs1.mono hqe
    refine WL_nil ?_; (with_reducible refine T_bn ?_); (with_reducible refine T_then ?_); refine W_seq ?_; refine W_region ?_; refine WL_o rfl rfl (OpR_loadO T.ok 0 rfl hs rfl rfl rfl ?_)
    refine WL_n rfl (OpR_storeO T.ok 1 rfl hs rfl rfl rfl rfl rfl rfl rfl rfl rfl ?_); replace hs := hs; rintro g1 hs hqe; replace le0 := G.le.trans le0 hqe; replace le8 := G.le.trans le8 hqe; replace ep0 := ep0.mono hqe; replace rs0 := rs0.mono hqe; replace rs1 := rs1.mono hqe; replace rs4 := rs4.mono hqe; replace rs5 := rs5.mono hqe
    refine WL_nil ?_; (with_reducible refine T_then ?_)
    refine W_ret ?_
    skip
    exact retC T.ok 1 rfl hs rfl rfl rfl (hs.ret ⟨⟨a.moveMin, a.moveMax, lz, _⟩, _, _, _, _, _, _, rfl, rs4, rs5⟩)
  | 12, _ =>
   refine WL_nil ?_; (with_reducible refine T_then ?_); refine W_block ?_; refine W_seq ?_; refine W_region ?_; refine P1 T.ok rfl rfl rfl ?_; refine P1 T.ok rfl rfl rfl ?_; refine WL_nil ?_; (with_reducible refine T_then ?_)
   refine W_no rfl rfl ?_
   refine W_seq ?_; refine W_region ?_; refine P1 T.ok rfl rfl rfl ?_; refine P1 T.ok rfl rfl rfl ?_; refine WL_nil ?_; (with_reducible refine T_then ?_)
   refine W_no rfl rfl ?_
   refine W_seq ?_; refine W_region ?_; refine P1 T.ok rfl rfl rfl ?_; refine P1 T.ok rfl rfl rfl ?_; refine WL_nil ?_; (with_reducible refine T_then ?_)
   refine W_no rfl rfl ?_
   refine W_seq ?_; refine W_region ?_; refine P1 T.ok rfl rfl rfl ?_; refine P1 T.ok rfl rfl rfl ?_; refine WL_nil ?_; (with_reducible refine T_then ?_)
   refine W_no rfl rfl ?_
   refine W_seq ?_; refine W_region ?_; refine P1 T.ok rfl rfl rfl ?_; refine P1 T.ok rfl rfl rfl ?_; refine WL_nil ?_; (with_reducible refine T_then ?_)
   refine W_no rfl rfl ?_
   refine W_seq ?_; refine W_region ?_; refine P1 T.ok rfl rfl rfl ?_; refine P1 T.ok rfl rfl rfl ?_; refine WL_nil ?_; (with_reducible refine T_then ?_)
   refine W_no rfl rfl ?_
   refine W_seq ?_; refine W_region ?_; refine P1 T.ok rfl rfl rfl ?_; refine P1 T.ok rfl rfl rfl ?_; refine WL_nil ?_; (with_reducible refine T_then ?_)
   refine W_no rfl rfl ?_
   refine W_seq ?_; refine W_region ?_; refine P1 T.ok rfl rfl rfl ?_; refine P1 T.ok rfl rfl rfl ?_; refine WL_nil ?_; (with_reducible refine T_then ?_)
   refine W_no rfl rfl ?_
   refine W_seq ?_; refine W_region ?_; refine P1 T.ok rfl rfl rfl ?_; refine P1 T.ok rfl rfl rfl ?_; refine WL_nil ?_; (with_reducible refine T_then ?_)
   refine W_no rfl rfl ?_
   refine W_seq ?_; refine W_region ?_; refine P1 T.ok rfl rfl rfl ?_; refine P1 T.ok rfl rfl rfl ?_; refine WL_nil ?_; (with_reducible refine T_then ?_)
   refine W_no rfl rfl ?_
   refine W_seq ?_; refine W_region ?_; refine P1 T.ok rfl rfl rfl ?_; refine P1 T.ok rfl rfl rfl ?_; refine WL_nil ?_; (with_reducible refine T_then ?_)
   refine W_no rfl rfl ?_
   refine W_seq ?_; refine W_region ?_; refine P1 T.ok rfl rfl rfl ?_; refine P1 T.ok rfl rfl rfl ?_; refine WL_nil ?_; (with_reducible refine T_then ?_)
   refine W_no rfl rfl ?_
   refine W_region ?_; refine P1 T.ok rfl rfl rfl ?_; refine P1 T.ok rfl rfl rfl ?_
   refine WL_o rfl rfl (OpR_idxR T.ok (n := (i : Int)) rfl (hs.own 1 _ rfl).1 (by omega) (by omega) rfl rfl rfl rfl rfl rfl ?_)
   rintro b p hh; obtain ⟨rfl, rfl⟩ : sb = b ∧ sp = p := by simpa using hh
   refine P1 T.ok rfl rfl rfl ?_
   refine WL_n rfl (OpR_storeR T.ok 1 ((i : Int).toNat * 7 + 1) rfl hs rfl rfl rfl rfl rfl rfl rfl (by simp) (by rw [hcl]; show (i : Int).toNat * 7 + 1 + 1 ≤ _; omega) (mid_spl (mid' := midL r (.slice none 0 0) mi ma (.slice na nl.length nc) bk lm) hpl (by show 1 + 1 ≤ 7; omega) rfl) ?_)
   rintro g9 hs hqe; replace le0 := G.le.trans le0 hqe; replace le8 := G.le.trans le8 hqe; replace ep0 := ep0.mono hqe; replace rs0 := rs0.mono hqe; replace rs1 := rs1.mono hqe
   replace rcp := rcp.mono hqe; replace rcq := rcq.mono hqe
   replace hs := ((hs.drop 4).nilrow 3 1 none).re [1, 2, 3, 4, 0, 5] (by decide) (L' := [_, _, _, _, .row 3 1 (.slice none 0 0) 0 (([] : List Int).map (Value.int .i64)), _]) rfl
   obtain ⟨gy, hwy, hqe, hsy, lz, rs4, rs5⟩ := bent_fz hs ⟨_, _, _, _, _, _, rfl, rfl⟩ (RcL.win _ _) rcp rcq rfl
   rw [← hwy]; replace hs := hsy; clear hsy; replace le0 := G.le.trans le0 hqe; replace le8 := G.le.trans le8 hqe; replace ep0 := ep0.mono hqe; replace rs0 := rs0.mono hqe; replace rs1 := rs1.mono hqe
   refine WL_nil ?_; (with_reducible refine T_bn ?_); (with_reducible refine T_then ?_); refine W_seq ?_; refine W_region ?_; refine WL_o rfl rfl (OpR_loadO T.ok 0 rfl hs rfl rfl rfl ?_)
   refine WL_n rfl (OpR_storeO T.ok 1 rfl hs rfl rfl rfl rfl rfl rfl rfl rfl rfl ?_); replace hs := hs; rintro g1 hs hqe; replace le0 := G.le.trans le0 hqe; replace le8 := G.le.trans le8 hqe; replace ep0 := ep0.mono hqe; replace rs0 := rs0.mono hqe; replace rs1 := rs1.mono hqe; replace rs4 := rs4.mono hqe; replace rs5 := rs5.mono hqe
   refine WL_nil ?_; (with_reducible refine T_then ?_)
   refine W_ret ?_
   skip
   exact retC T.ok 1 rfl hs rfl rfl rfl (hs.ret ⟨⟨a.moveMin, a.moveMax, lz, _⟩, _, _, _, _, _, _, rfl, rs4, rs5⟩)

end Go.Proofs.YtnaeopehmdcplaaGreatDoor
