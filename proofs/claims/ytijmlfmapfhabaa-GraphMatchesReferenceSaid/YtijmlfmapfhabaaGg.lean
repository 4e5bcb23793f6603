/- The walks through the example and its checks. -/
import Derived.Test.YtijmlfmapfhabaaGf
import Derived.Test.YtijmlfmapfhabaaKe

/- The walks through the example and what is checked of it. -/
namespace Go.Proofs.Ytijmlfmapfhabaa
open Go Go.K
set_option maxRecDepth 10000
attribute [local irreducible] W WL OpR
set_option maxHeartbeats 4000000

def exN : List (List Int) := [[1, 2], [3], [3], [4], []]
def exS (n : List Int) : Step := ⟨1, [0], 10, 10, n, -1, 0⟩
def lst (v : Value) (l : List Int) (g : G) : Prop := Rs g v l

/-- A pointer to a list. -/
def lstPtr (l : List Int) : Fact :=
  ⟨fun v g => ∃ b p u, v = .pointer (some ⟨b, p, none⟩) ∧ EP g b p [u] ∧ Rs g u l, fun _ _ _ hf ⟨b, p, u, e, h1, h2⟩ => ⟨b, p, u, e, h1.mono hf.le, h2.mono hf.le⟩⟩
theorem soft_lst (l : List Int) : Soft (lstPtr l) := fun _ _ _ hle ⟨b, p, u, e, h1, h2⟩ => ⟨b, p, u, e, h1.mono hle, h2.mono hle⟩
theorem RcL.one1 {α : Type} [El α] {g : G} {cs : List Value} {x : α} (h : El.rc g cs x) : RcL g cs [x] := ⟨cs, [], by rw [List.append_nil], h, rfl⟩

theorem example_c (g : G) : CallsIn Wd 0 Try.prog 32 #[] g.w (Ret g (MadeR g exF)) := by
  have hs := St.start g
  have le0 := G.le.refl g
  refine enter Try.func32 rfl Try.ntmps32 rfl ?_
  refine W_seq ?_; refine W_region ?_
  refine WL_o rfl rfl (OpR_alloc T.ok rfl hs rfl rfl ?_); clear hs; rintro br g1 hs hqe; replace le0 := G.le.trans le0 hqe
  refine WL_nil ?_; (with_reducible refine T_then ?_); refine W_seq ?_; refine W_region ?_
  refine WL_o rfl rfl (OpR_build T.ok rfl (vs := [(0, .int .i64 5), (1, .int .i64 5)]) (cells := [.int .i64 5, .int .i64 5, .slice none 0 0, .slice none 0 0]) rfl rfl rfl rfl [(0, 1), (1, 1), (2, 1), (3, 1)] rfl (by kernel_rfl) ?_)
  skip
  refine WL_o rfl rfl (OpR_alloc T.ok rfl hs rfl rfl ?_); clear hs; rintro bf g1 hs hqe; replace le0 := G.le.trans le0 hqe
  skip
  refine WL_n rfl (OpR_storeO T.ok 0 rfl hs rfl rfl rfl rfl rfl rfl rfl rfl rfl ?_); replace hs := hs; rintro g1 hs hqe; replace le0 := G.le.trans le0 hqe
  refine WL_nil ?_; (with_reducible refine T_then ?_); refine W_seq ?_; refine W_region ?_
  refine WL_o rfl rfl (OpR_lit T.ok rfl hs (vs := [(0, .int .i64 1), (1, .int .i64 2)]) (cells := [.int .i64 1, .int .i64 2]) rfl rfl rfl rfl rfl rfl (by decide) (by decide) (by kernel_rfl) rfl ?_); rintro b1 g4 hs hqe; replace le0 := G.le.trans le0 hqe
  obtain ⟨g5, hw5, hs5, hqe5, hr1⟩ := hs.fzRow (α := Int) (xs := [1, 2]) (i := 0) rfl (RcL.ints _ [1, 2])
  clear hqe; have hqe := hqe5; rw [← hw5]; replace hs := hs5; replace le0 := G.le.trans le0 hqe
  refine WL_o rfl rfl (OpR_lit T.ok rfl hs (vs := [(0, .int .i64 3)]) (cells := [.int .i64 3]) rfl rfl rfl rfl rfl rfl (by decide) (by decide) (by kernel_rfl) rfl ?_); rintro b2 g4 hs hqe; replace le0 := G.le.trans le0 hqe
  replace hr1 := hr1.mono hqe
  obtain ⟨g6, hw6, hs6, hqe6, hr2⟩ := hs.fzRow (α := Int) (xs := [3]) (i := 0) rfl (RcL.ints _ [3])
  clear hqe; have hqe := hqe6; rw [← hw6]; replace hs := hs6; replace le0 := G.le.trans le0 hqe
  replace hr1 := hr1.mono hqe
  refine WL_o rfl rfl (OpR_lit T.ok rfl hs (vs := [(0, .int .i64 3)]) (cells := [.int .i64 3]) rfl rfl rfl rfl rfl rfl (by decide) (by decide) (by kernel_rfl) rfl ?_); rintro b3 g4 hs hqe; replace le0 := G.le.trans le0 hqe
  replace hr1 := hr1.mono hqe; replace hr2 := hr2.mono hqe
  obtain ⟨g7, hw7, hs7, hqe7, hr3⟩ := hs.fzRow (α := Int) (xs := [3]) (i := 0) rfl (RcL.ints _ [3])
  clear hqe; have hqe := hqe7; rw [← hw7]; replace hs := hs7; replace le0 := G.le.trans le0 hqe
  replace hr1 := hr1.mono hqe; replace hr2 := hr2.mono hqe
  refine WL_o rfl rfl (OpR_lit T.ok rfl hs (vs := [(0, .int .i64 4)]) (cells := [.int .i64 4]) rfl rfl rfl rfl rfl rfl (by decide) (by decide) (by kernel_rfl) rfl ?_); rintro b4 g4 hs hqe; replace le0 := G.le.trans le0 hqe
  replace hr1 := hr1.mono hqe; replace hr2 := hr2.mono hqe; replace hr3 := hr3.mono hqe
  obtain ⟨g8, hw8, hs8, hqe8, hr4⟩ := hs.fzRow (α := Int) (xs := [4]) (i := 0) rfl (RcL.ints _ [4])
  clear hqe; have hqe := hqe8; rw [← hw8]; replace hs := hs8; replace le0 := G.le.trans le0 hqe
  replace hr1 := hr1.mono hqe; replace hr2 := hr2.mono hqe; replace hr3 := hr3.mono hqe
  refine WL_o rfl rfl (OpR_lit T.ok rfl hs (vs := [(0, .slice (some ⟨b1, 0, none⟩) 2 2), (1, .slice (some ⟨b2, 0, none⟩) 1 1), (2, .slice (some ⟨b3, 0, none⟩) 1 1), (3, .slice (some ⟨b4, 0, none⟩) 1 1), (4, .slice none 0 0)])
    (cells := [.slice (some ⟨b1, 0, none⟩) 2 2, .slice (some ⟨b2, 0, none⟩) 1 1, .slice (some ⟨b3, 0, none⟩) 1 1, .slice (some ⟨b4, 0, none⟩) 1 1, .slice none 0 0]) rfl rfl rfl rfl rfl rfl (by decide) (by decide) (by kernel_rfl) rfl ?_); rintro b5 g4 hs hqe; replace le0 := G.le.trans le0 hqe
  replace hr1 := hr1.mono hqe; replace hr2 := hr2.mono hqe; replace hr3 := hr3.mono hqe; replace hr4 := hr4.mono hqe
  obtain ⟨g9, hw9, hs9, hqe9, rs0⟩ := hs.fzRow (α := List Int) (xs := exN) (i := 0) rfl (show RcL g4 ([.slice (some ⟨b1, 0, none⟩) 2 2] ++ ([.slice (some ⟨b2, 0, none⟩) 1 1] ++ ([.slice (some ⟨b3, 0, none⟩) 1 1] ++ ([.slice (some ⟨b4, 0, none⟩) 1 1] ++ [.slice none 0 0])))) exN from
    ⟨_, _, rfl, ⟨_, rfl, hr1⟩, _, _, rfl, ⟨_, rfl, hr2⟩, _, _, rfl, ⟨_, rfl, hr3⟩, _, _, rfl, ⟨_, rfl, hr4⟩, _, [], rfl, ⟨_, rfl, Rs.nil _⟩, rfl⟩)
  clear hqe; have hqe := hqe9; rw [← hw9]; replace hs := hs9; replace le0 := G.le.trans le0 hqe
  clear hr1 hr2 hr3 hr4
  refine P1 T.ok rfl rfl rfl ?_; refine WL_nil ?_; (with_reducible refine T_then ?_); refine W_seq ?_; refine W_seq ?_; refine W_region ?_; refine P1 T.ok rfl rfl rfl ?_; refine WL_nil ?_; (with_reducible refine T_then ?_); refine W_block ?_
  replace hs := hs.nilrow 50 7 none
  have rs0c := rs0; have le5 := G.le.refl g9
  refine W_loop (fun m a' w => ∃ (k : Nat) (sv : Value) (cells : List Value) (g3 : G), w = g3.w ∧ St g g3 [.row 50 7 sv k cells, .obj bf (.cells [.int .i64 5, .int .i64 5, sv, .slice none 0 0].toArray 25 (0, 0)), .obj br (.cells [.int .i64 0, .int .i64 0, .slice none 0 0, .slice none 0 0].toArray 25 (0, 0))] ∧ G.le g9 g3 ∧ k ≤ 5 ∧ m = 5 - k ∧ RcL g3 cells ((exN.take k).map exS) ∧
      Fr 34 [] [(0, .pointer (some ⟨br, 0, none⟩)), (1, .pointer (some ⟨bf, 0, none⟩)), (2, .slice (some ⟨b5, 0, none⟩) 5 5), (3, .int .i64 k)] a') 5
    (fun a' ha => ⟨0, _, [], g9, rfl, hs, le5, Nat.zero_le _, rfl, rfl, ha.keep (by (repeat (first | exact trivial | refine ⟨rfl, ?_⟩)))⟩) ?_
  clear hs le5 rs0
  rintro m a' _ ⟨k, sv, cells, g3, rfl, hs, le5, hk, rfl, hrc, ha'⟩
  have rs0 := rs0c.mono le5
  obtain ⟨sa, sc, rfl⟩ := (hs.own 0 _ rfl).1.form
  revert a'
  (with_reducible refine T_wp ?_); refine W_seq ?_; refine W_seq ?_; refine W_region ?_; refine P1 T.ok rfl rfl rfl ?_; refine P1 T.ok rfl rfl rfl ?_; refine WL_nil ?_; (with_reducible refine T_then ?_)
  by_cases hlt : k < 5
  · refine W_yes (b := decide ((k : Int) < 5)) (decide_eq_true (by omega)) rfl ?_
    have hnl : k < exN.length := hlt
    have hst : (exN.take (k + 1)).map exS = (exN.take k).map exS ++ [exS exN[k]] := by rw [List.take_succ_eq_append_getElem hnl, List.map_append]; rfl
    generalize hnx : exN[k] = nx at *
    refine W_skip ?_; (with_reducible refine T_then ?_); refine W_seq ?_; refine W_block ?_
    apply W_drawM allF rfl (Fact.eq _ :: Fact.eq _ :: (Fact.rs [(0 : Int)]) :: Fact.eq _ :: Fact.eq _ :: (lstPtr nx) :: (Fact.rs nx) :: (stepV (exS nx)) :: (Fact.rs [exS nx]) :: (appF g (fun v cells => [.row 50 7 v (k + 1) cells, .obj bf (.cells [.int .i64 5, .int .i64 5, .slice sa k sc, .slice none 0 0].toArray 25 (0, 0)), .obj br (.cells [.int .i64 0, .int .i64 0, .slice none 0 0, .slice none 0 0].toArray 25 (0, 0))]) (k + 1) ((exN.take k).map exS ++ [exS nx])) :: Fact.eq _ :: []) 11 [(9, 23), (10, 24)] [] [0, 1, 2, 3, 4, 5, 6, 7, 8] 9 rfl (by kernel_rfl) (by kernel_rfl)
    case houts => exact rfl
    case hsoft => (repeat (first | exact softN | apply softE | refine softC (soft_eq _) ?_ | refine softC (soft_rs _) ?_ | refine softC (soft_step _ _) ?_ | refine softC (soft_stepV _) ?_ | refine softC (soft_wayV _) ?_ | refine softC (soft_intPtr _) ?_ | refine softC (soft_y6 _) ?_ | refine softC (soft_lst _) ?_ | refine softO (by exact rfl) ?_))
    · refine M_cons (M_anc (js := []) (by kernel_rfl) (by exact rfl) (by exact rfl) fun gd hf => ?_) ?_
      · have hsd := hs.dr.call hf; have hfe := (G.le_dr _).trans hf.le
        refine QA_nil ?_
        (refine D_yes rfl ?_; refine OpR_pure _ T.ok rfl ?_; refine ⟨_, rfl, Fr0.refl _, ?_⟩; exact rfl)
      refine M_cons (M_anc (js := [(0, 14)]) (by kernel_rfl) (by exact rfl) (by exact rfl) fun gd hf => ?_) ?_
      · have hsd := hs.dr.call hf; have hfe := (G.le_dr _).trans hf.le
        refine QA_eq rfl ?_
        refine QA_nil ?_
        (refine D_yes rfl ?_; refine OpR_loadO T.ok 1 rfl hsd rfl rfl rfl ?_; refine ⟨_, rfl, Fr0.refl _, ?_⟩; exact rfl)
      refine M_cons (M_anc (js := []) (by kernel_rfl) (by exact rfl) (by exact rfl) fun gd hf => ?_) ?_
      · have hsd := hs.dr.call hf; have hfe := (G.le_dr _).trans hf.le
        refine QA_nil ?_
        refine D_yes rfl ?_
        refine OpR_lit T.ok rfl (St.start gd) (vs := [(0, .int .i64 0)]) (cells := [.int .i64 0]) rfl rfl rfl rfl rfl rfl (by decide) (by decide) (by kernel_rfl) rfl ?_
        intro b2 g2 hs1 hqe1
        obtain ⟨g3, hw3, hs3, hqe3, hrl⟩ := hs1.fzRow (α := Int) (xs := [0]) (i := 0) rfl (RcL.ints _ [0])
        exact ⟨g3, hw3, hs3.fr0, hrl⟩
      refine M_cons (M_anc (js := []) (by kernel_rfl) (by exact rfl) (by exact rfl) fun gd hf => ?_) ?_
      · have hsd := hs.dr.call hf; have hfe := (G.le_dr _).trans hf.le
        refine QA_nil ?_
        (refine D_yes rfl ?_; refine OpR_pure _ T.ok rfl ?_; refine ⟨_, rfl, Fr0.refl _, ?_⟩; exact rfl)
      refine M_cons (M_anc (js := []) (by kernel_rfl) (by exact rfl) (by exact rfl) fun gd hf => ?_) ?_
      · have hsd := hs.dr.call hf; have hfe := (G.le_dr _).trans hf.le
        refine QA_nil ?_
        (refine D_yes rfl ?_; refine OpR_pure _ T.ok rfl ?_; refine ⟨_, rfl, Fr0.refl _, ?_⟩; exact rfl)
      refine M_cons (M_anc (js := [(3, 17), (4, 18)]) (by kernel_rfl) (by exact rfl) (by exact rfl) fun gd hf => ?_) ?_
      · have hsd := hs.dr.call hf; have hfe := (G.le_dr _).trans hf.le
        refine QA_eq rfl ?_; refine QA_eq rfl ?_
        refine QA_nil ?_
        refine D_yes rfl ?_
        refine OpR_idx T.ok rfl (rs0.mono hfe) (y := nx) (by rw [geti_of (j := k) rfl hnl, hnx]) rfl rfl rfl rfl rfl rfl ?_
        rintro b p ys hep ⟨v, rfl, hrv⟩
        exact ⟨_, rfl, Fr0.refl _, b, p, v, rfl, hep, hrv⟩
      refine M_cons (M_anc (js := [(5, 19)]) (by kernel_rfl) (by exact rfl) (by exact rfl) fun gd hf => ?_) ?_
      · have hsd := hs.dr.call hf; have hfe := (G.le_dr _).trans hf.le
        refine QA_any fun v5 h5 => ?_
        refine QA_nil ?_
        obtain ⟨b, p, v, rfl, hep, hrv⟩ := h5
        refine D_yes rfl ?_
        refine OpR_loadE T.ok 0 rfl hep rfl rfl ?_
        exact ⟨_, rfl, Fr0.refl _, hrv⟩
      refine M_cons (M_anc (js := [(2, 16), (6, 20)]) (by kernel_rfl) (by exact rfl) (by exact rfl) fun gd hf => ?_) ?_
      · have hsd := hs.dr.call hf; have hfe := (G.le_dr _).trans hf.le
        refine QA_any fun v2 h2 => ?_; refine QA_any fun v6 h6 => ?_
        refine QA_nil ?_
        obtain ⟨at_, ct, rfl⟩ := Rs.isSlice h2
        obtain ⟨an, cn, rfl⟩ := Rs.isSlice h6
        refine D_yes rfl ?_
        refine OpR_build T.ok rfl (vs := [(0, .int .i64 1), (1, .slice at_ 1 ct), (2, .int .i64 10), (3, .int .i64 10), (4, .slice an nx.length cn), (5, .int .i64 (-1))]) (cells := [.int .i64 1, .slice at_ 1 ct, .int .i64 10, .int .i64 10, .slice an nx.length cn, .int .i64 (-1), .int .i64 0]) rfl rfl rfl rfl [(0, 1), (1, 1), (2, 1), (3, 1), (4, 1), (5, 1), (6, 1)] rfl (by kernel_rfl) ?_
        exact ⟨_, rfl, Fr0.refl _, _, rfl, _, _, _, _, _, _, rfl, h2, h6⟩
      refine M_cons (M_anc (js := [(7, 21)]) (by kernel_rfl) (by exact rfl) (by exact rfl) fun gd hf => ?_) ?_
      · have hsd := hs.dr.call hf; have hfe := (G.le_dr _).trans hf.le
        refine QA_any fun v7 h7 => ?_
        refine QA_nil ?_
        obtain ⟨cs, rfl, hrs⟩ := h7
        have hrs2 := hrs
        obtain ⟨b1, b2, b3, b4, b5, b6, rfl, hx1, hx2⟩ := hrs
        refine D_yes rfl ?_
        refine OpR_lit T.ok rfl (St.start gd) (vs := [(0, .agg [.int .i64 1, .slice b1 b2 b3, .int .i64 10, .int .i64 10, .slice b4 b5 b6, .int .i64 (-1), .int .i64 0].toArray)]) (cells := [.int .i64 1, .slice b1 b2 b3, .int .i64 10, .int .i64 10, .slice b4 b5 b6, .int .i64 (-1), .int .i64 0]) rfl rfl rfl rfl rfl rfl (by decide) (by decide) (by kernel_rfl) rfl ?_
        intro b2 g2 hs1 hqe1
        obtain ⟨g3, hw3, hs3, hqe3, hrl⟩ := hs1.fzRow (α := Step) (xs := [exS nx]) (i := 0) rfl (RcL.one1 (El.mono (α := Step) hqe1 hrs2))
        exact ⟨g3, hw3, hs3.fr0, hrl⟩
      refine M_cons (M_eat (js := [(1, 15), (8, 22)]) (by kernel_rfl) fun gd hf => ?_) ?_
      · have hsd := hs.dr.call hf; have hfe := (G.le_dr _).trans hf.le
        refine QA_eq rfl ?_; refine QA_any fun v8 h8 => ?_
        refine QA_nil ?_
        obtain ⟨ax, cx, rfl⟩ := Rs.isSlice h8
        obtain ⟨_, news, hnw, hsrc⟩ := Src.of_rs h8
        refine ⟨rfl, ?_⟩
        refine OpR_append T.ok 0 rfl hsd rfl rfl rfl rfl rfl rfl rfl (by decide) rfl hsrc hnw.one (by show (k + 1) * 88 ≤ _; omega) (by unfold maxLen; show k + 1 ≤ _; omega) ?_
        intro a' c' g8 hs8 hqe8
        exact ⟨g8, rfl, hqe8, a', c', _, rfl, hs8, RcL.app (hnw.mono hqe8) ((hrc.mono hfe).mono hqe8)⟩
      refine M_cons (M_free (js := []) (by kernel_rfl) (by exact rfl) fun gd hf => ?_) ?_
      · have hfe := (G.le_dr _).trans hf
        refine QA_nil ?_
        (refine D_yes rfl ?_; refine OpR_pure _ T.ok rfl ?_; refine ⟨_, rfl, Fr0.refl _, ?_⟩; exact rfl)
      exact M_nil
    intro g1 hf1; refine QA_any fun v9 h9 => ?_; refine QA_eq rfl ?_; refine QA_nil ?_
    have hqe := (G.le_dr _).trans hf1; replace rs0 := rs0.mono hqe
    obtain ⟨a9, c9, cs9, rfl, hs, hrc9⟩ := h9
    replace le5 := le5.trans hqe
    skip
    refine WL_n rfl (OpR_storeO T.ok 1 rfl hs rfl rfl rfl rfl rfl rfl rfl rfl rfl ?_); replace hs := hs; rintro g1 hs hqe; replace rs0 := rs0.mono hqe
    replace le5 := le5.trans hqe; replace hrc9 := hrc9.mono hqe
    refine WL_nil ?_; (with_reducible refine T_bn ?_); (with_reducible refine T_then ?_); refine W_region ?_; (iterate 3 refine P1 T.ok rfl rfl rfl ?_); refine WL_nil ?_
    exact fun a ha => ⟨5 - (k + 1), by omega, k + 1, .slice a9 (k + 1) c9, cs9, _, rfl, hs, le5, by omega, rfl, by rw [hst]; exact hrc9, ha.keep ⟨rfl, rfl, rfl, kI rfl (by rw [wr (by omega) (by omega)]; omega), trivial⟩⟩
  · refine W_no (b := decide ((k : Int) < 5)) (decide_eq_false (by omega)) rfl ?_
    obtain rfl : k = 5 := by omega
    refine W_exit ?_; (with_reducible refine T_tx ?_; with_reducible refine T_tx ?_); (with_reducible refine T_bx ?_); (with_reducible refine T_then ?_); refine W_seq ?_; refine W_region ?_; refine P1 T.ok rfl rfl rfl ?_; refine WL_o rfl rfl (OpR_loadO T.ok 1 rfl hs rfl rfl rfl ?_)
    refine WL_o rfl rfl (OpR_idxR T.ok rfl (hs.own 0 _ rfl).1 (by decide) (by decide) rfl rfl rfl rfl rfl rfl ?_)
    rintro b p rfl
    refine P1 T.ok rfl rfl rfl ?_
    have hlc : cells.length = 35 := by rw [hrc.len]; rfl
    refine WL_n rfl (OpR_storeR T.ok 0 (3 * 7 + 5) (us := [.int .i64 1]) rfl hs rfl rfl rfl rfl rfl rfl rfl (by decide) (by rw [hlc]; decide) rfl ?_)
    rintro g5 hs hqe; replace rs0 := rs0.mono hqe
    replace le5 := le5.trans hqe; replace hrc := hrc.mono hqe
    have hr5 : RcL g5 (spl cells (3 * 7 + 5) [.int .i64 1]) (((exN.take 5).map exS).set 3 ⟨1, [0], 10, 10, [4], 1, 0⟩) := RcL.upd (α := Step) (by decide) hrc 3 (exS [4]) rfl (by
      rintro ys ⟨b1, b2, b3, b4, b5, b6, rfl, hx1, hx2⟩
      exact ⟨b1, b2, b3, b4, b5, b6, rfl, hx1, hx2⟩)
    clear hrc
    refine WL_nil ?_; (with_reducible refine T_then ?_); refine W_seq ?_; refine W_region ?_; refine P1 T.ok rfl rfl rfl ?_; refine WL_o rfl rfl (OpR_loadO T.ok 1 rfl hs rfl rfl rfl ?_)
    refine WL_o rfl rfl (OpR_idxR T.ok rfl (hs.own 0 _ rfl).1 (by decide) (by decide) rfl rfl rfl rfl rfl rfl ?_)
    intro b' p' hh
    obtain ⟨rfl, rfl⟩ : b = b' ∧ p = p' := by simpa using hh
    refine P1 T.ok rfl rfl rfl ?_
    have hlc2 : (spl cells (3 * 7 + 5) [.int .i64 1]).length = 35 := by rw [hr5.len]; rfl
    refine WL_n rfl (OpR_storeR T.ok 0 (3 * 7 + 6) (us := [.int .i64 1]) rfl hs rfl rfl rfl rfl rfl rfl rfl (by decide) (by rw [hlc2]; decide) rfl ?_)
    rintro g6 hs hqe; replace rs0 := rs0.mono hqe
    replace le5 := le5.trans hqe; replace hr5 := hr5.mono hqe
    have hr6 : RcL g6 (spl (spl cells (3 * 7 + 5) [.int .i64 1]) (3 * 7 + 6) [.int .i64 1]) exF.steps := RcL.upd (α := Step) (x' := ⟨1, [0], 10, 10, [4], 1, 1⟩) (by decide) hr5 3 ⟨1, [0], 10, 10, [4], 1, 0⟩ rfl (by
      rintro ys ⟨b1, b2, b3, b4, b5, b6, rfl, hx1, hx2⟩
      exact ⟨b1, b2, b3, b4, b5, b6, rfl, hx1, hx2⟩)
    clear hr5
    refine WL_nil ?_; (with_reducible refine T_then ?_); refine W_seq ?_; refine W_region ?_; refine WL_o rfl rfl (OpR_loadO T.ok 1 rfl hs rfl rfl rfl ?_)
    refine WL_n rfl (OpR_storeO T.ok 2 rfl hs rfl rfl rfl rfl rfl rfl rfl rfl rfl ?_); replace hs := hs; rintro g1 hs hqe; replace rs0 := rs0.mono hqe
    replace hr6 := hr6.mono hqe
    refine WL_nil ?_; (with_reducible refine T_then ?_)
    refine W_ret ?_
    skip
    refine retC T.ok 2 rfl hs rfl rfl rfl (hs.ret ?_)
    exact ⟨_, _, _, _, _, _, _, rfl, hs.own 0 _ rfl, hr6, Rs.nil _⟩
end Go.Proofs.Ytijmlfmapfhabaa

/- The walk through the checks of the example. -/
namespace Go.Proofs.Ytijmlfmapfhabaa
open Go Go.K
set_option maxRecDepth 10000
attribute [local irreducible] W WL OpR
set_option maxHeartbeats 4000000

theorem RcL.int_any {g g' : G} {cells : List Value} {xs : List Int} (h : RcL g cells xs) : RcL g' cells xs := by
  rw [RcL.ints_inv h]; exact RcL.ints g' xs



theorem sane_c (g : G) : CallsIn Wd 0 Try.prog 12 #[] g.w (Ret g fun _ r => r = .bool true) := by
  have hs := St.start g
  have le0 := G.le.refl g
  refine enter Try.func12 rfl Try.ntmps12 rfl ?_
  refine W_seq ?_; refine W_region ?_; refine P1 T.ok rfl rfl rfl ?_; refine WL_nil ?_; (with_reducible refine T_then ?_); refine W_seq ?_; refine W_region ?_
  refine WL_o rfl rfl (OpR_ret cl32 allF rfl rfl rfl rfl rfl (example_c _) ?_); rintro g1 _ hf1 ⟨sa, sn, sc, wa, wn, wc, cells, rfl, hh, rc0, rs9⟩
  replace hs := hs.getOwn hf1 hh; have hqe := hf1.le
  replace le0 := le0.trans hqe; clear hh
  skip
  refine WL_o rfl rfl (OpR_alloc T.ok rfl hs rfl rfl ?_); clear hs; rintro bf g1 hs hqe; replace le0 := G.le.trans le0 hqe; replace rs9 := rs9.mono hqe; replace rc0 := rc0.mono hqe
  skip
  refine WL_n rfl (OpR_storeO T.ok 0 rfl hs rfl rfl rfl rfl rfl rfl rfl rfl rfl ?_); replace hs := hs; rintro g1 hs hqe; replace le0 := G.le.trans le0 hqe; replace rs9 := rs9.mono hqe; replace rc0 := rc0.mono hqe
  refine WL_nil ?_; (with_reducible refine T_then ?_); refine W_seq ?_; refine W_region ?_; refine WL_o rfl rfl (OpR_loadO T.ok 0 rfl hs rfl rfl rfl ?_)
  have hs0 := hs
  refine WL_o rfl rfl (OpR_lend (fun gf g' r => ∃ u, r = .tuple #[u, .bool (wayM exF 0 3).2] ∧ OwnR 3 gf (wayM exF 0 3).1 g' u) (fun g0 g' r => ∃ u, r = .tuple #[u, .bool true] ∧ OwnR 3 g0 [(1 : Int)] g' u) cl21 allF rfl rfl rfl rfl rfl hs 1 rfl rc0 (fun gf hle hgw hrs => ?_) (fun gf g2 g3 v hgw hff hw3 hf3 him hr => ?_) ?_)
  · exact way_c _ exF 0 3 gf ⟨_, _, _, _, _, _, rfl, hrs, rs9.mono hle⟩
  · exact (by rw [ex1] at hr; obtain ⟨u, h1, h2⟩ := hr; exact ⟨u, h1, OwnR.thaw (fun _ => RcL.int_any) hgw hw3 him h2⟩)
  rintro g1 v hf1 hres
  replace hs := hs.call hf1; have hqe := hf1.le; replace le0 := G.le.trans le0 hqe; replace rs9 := rs9.mono hqe; replace rc0 := rc0.mono hqe
  obtain ⟨u, rfl, hres⟩ := hres
  obtain ⟨gz, hwz, hsz, hqz, rs4⟩ := hs0.ownRs hf1 hres; have hqe := hqz; rw [← hwz]; replace hs := hsz; clear hsz hs0; replace le0 := G.le.trans le0 hqe; replace rs9 := rs9.mono hqe; replace rc0 := rc0.mono hqe
  (iterate 5 refine P1 T.ok rfl rfl rfl ?_); refine WL_nil ?_; (with_reducible refine T_then ?_); refine W_seq ?_; refine W_region ?_; refine WL_o rfl rfl (OpR_loadO T.ok 0 rfl hs rfl rfl rfl ?_)
  refine WL_o rfl rfl (OpR_lend (fun gf g' r => r = .tuple #[.int .i64 (quickest exF 3 3).1, .bool (quickest exF 3 3).2]) (fun g0 g' r => r = .tuple #[.int .i64 20, .bool true]) cl23 allF rfl rfl rfl rfl rfl hs 1 rfl rc0 (fun gf hle hgw hrs => ?_) (fun gf g2 g3 v hgw hff hw3 hf3 him hr => ?_) ?_)
  · exact quickest_c _ exF 3 3 gf ⟨_, _, _, _, _, _, rfl, hrs, rs9.mono hle⟩
  · exact (by rw [ex2] at hr; exact hr)
  rintro g1 v hf1 hres
  replace hs := hs.call hf1; have hqe := hf1.le; replace le0 := G.le.trans le0 hqe; replace rs4 := rs4.mono hqe; replace rs9 := rs9.mono hqe; replace rc0 := rc0.mono hqe
  subst hres
  (iterate 5 refine P1 T.ok rfl rfl rfl ?_); refine WL_nil ?_; (with_reducible refine T_then ?_); refine W_seq ?_; refine W_region ?_; refine WL_o rfl rfl (OpR_loadO T.ok 0 rfl hs rfl rfl rfl ?_)
  refine WL_o rfl rfl (OpR_lend (fun gf g' r => r = .tuple #[.int .i64 (finish exF 0).1, .bool (finish exF 0).2]) (fun g0 g' r => r = .tuple #[.int .i64 45, .bool true]) cl25 allF rfl rfl rfl rfl rfl hs 1 rfl rc0 (fun gf hle hgw hrs => ?_) (fun gf g2 g3 v hgw hff hw3 hf3 him hr => ?_) ?_)
  · exact finish_c _ exF 0 gf ⟨_, _, _, _, _, _, rfl, hrs, rs9.mono hle⟩
  · exact (by rw [ex3] at hr; exact hr)
  rintro g1 v hf1 hres
  replace hs := hs.call hf1; have hqe := hf1.le; replace le0 := G.le.trans le0 hqe; replace rs4 := rs4.mono hqe; replace rs9 := rs9.mono hqe; replace rc0 := rc0.mono hqe
  subst hres
  (iterate 5 refine P1 T.ok rfl rfl rfl ?_); refine WL_nil ?_; (with_reducible refine T_then ?_); refine W_seq ?_; refine W_region ?_; refine WL_o rfl rfl (OpR_loadO T.ok 0 rfl hs rfl rfl rfl ?_)
  refine WL_o rfl rfl (OpR_lend (fun gf g' r => ∃ u, r = .tuple #[u, .bool (wayM exF 4 0).2] ∧ OwnR 3 gf (wayM exF 4 0).1 g' u) (fun g0 g' r => ∃ u, r = .tuple #[u, .bool false]) cl21 allF rfl rfl rfl rfl rfl hs 1 rfl rc0 (fun gf hle hgw hrs => ?_) (fun gf g2 g3 v hgw hff hw3 hf3 him hr => ?_) ?_)
  · exact way_c _ exF 4 0 gf ⟨_, _, _, _, _, _, rfl, hrs, rs9.mono hle⟩
  · exact (by rw [ex4] at hr; obtain ⟨u, h1, h2⟩ := hr; exact ⟨u, h1⟩)
  rintro g1 v hf1 hres
  replace hs := hs.call hf1; have hqe := hf1.le; replace le0 := G.le.trans le0 hqe; replace rs4 := rs4.mono hqe; replace rs9 := rs9.mono hqe; replace rc0 := rc0.mono hqe
  obtain ⟨u2, rfl⟩ := hres
  (iterate 5 refine P1 T.ok rfl rfl rfl ?_); refine WL_nil ?_; (with_reducible refine T_then ?_); refine W_seq ?_; refine W_region ?_; refine WL_o rfl rfl (OpR_loadO T.ok 0 rfl hs rfl rfl rfl ?_)
  refine WL_o rfl rfl (OpR_lend (fun gf g' r => RProb g' r (check exF)) (fun g0 g' r => ∃ a n c, r = .agg #[.int .i64 0, .slice a n c]) cl15 allF rfl rfl rfl rfl rfl hs 1 rfl rc0 (fun gf hle hgw hrs => ?_) (fun gf g2 g3 v hgw hff hw3 hf3 him hr => ?_) ?_)
  · exact check_c _ exF gf ⟨_, _, _, _, _, _, rfl, hrs, rs9.mono hle⟩
  · exact (by rw [ex5] at hr; obtain ⟨a, n, c, h1, h2⟩ := hr; exact ⟨a, n, c, h1⟩)
  rintro g1 v hf1 hres
  replace hs := hs.call hf1; have hqe := hf1.le; replace le0 := G.le.trans le0 hqe; replace rs4 := rs4.mono hqe; replace rs9 := rs9.mono hqe; replace rc0 := rc0.mono hqe
  obtain ⟨pa, pn, pc, rfl⟩ := hres
  skip
  refine WL_o rfl rfl (OpR_alloc T.ok rfl hs rfl rfl ?_); clear hs; rintro bp g1 hs hqe; replace le0 := G.le.trans le0 hqe; replace rs4 := rs4.mono hqe; replace rs9 := rs9.mono hqe; replace rc0 := rc0.mono hqe
  skip
  refine WL_n rfl (OpR_storeO T.ok 0 rfl hs rfl rfl rfl rfl rfl rfl rfl rfl rfl ?_); replace hs := hs; rintro g1 hs hqe; replace le0 := G.le.trans le0 hqe; replace rs4 := rs4.mono hqe; replace rs9 := rs9.mono hqe; replace rc0 := rc0.mono hqe
  refine WL_nil ?_; (with_reducible refine T_then ?_); refine W_seq ?_; refine W_region ?_; refine WL_o rfl rfl (OpR_loadO T.ok 1 rfl hs rfl rfl rfl ?_)
  have hs0 := hs
  refine WL_o rfl rfl (OpR_lend (fun gf g' r => OwnR 3 gf (follow exF 3) g' r) (fun g0 g' r => OwnR 3 g0 [(1 : Int), 4] g' r) cl27 allF rfl rfl rfl rfl rfl hs 2 rfl rc0 (fun gf hle hgw hrs => ?_) (fun gf g2 g3 v hgw hff hw3 hf3 him hr => ?_) ?_)
  · exact follow_c _ exF 3 gf ⟨_, _, _, _, _, _, rfl, hrs, rs9.mono hle⟩
  · exact (by rw [ex6] at hr; exact OwnR.thaw (fun _ => RcL.int_any) hgw hw3 him hr)
  rintro g1 v hf1 hres
  replace hs := hs.call hf1; have hqe := hf1.le; replace le0 := G.le.trans le0 hqe; replace rs4 := rs4.mono hqe; replace rs9 := rs9.mono hqe; replace rc0 := rc0.mono hqe
  obtain ⟨gz, hwz, hsz, hqz, rs5⟩ := hs0.ownRs hf1 hres; have hqe := hqz; rw [← hwz]; replace hs := hsz; clear hsz hs0; replace le0 := G.le.trans le0 hqe; replace rs4 := rs4.mono hqe; replace rs9 := rs9.mono hqe; replace rc0 := rc0.mono hqe
  refine WL_o rfl rfl (OpR_lit T.ok rfl hs (vs := [(0, .int .i64 (1)), (1, .int .i64 (4))]) (cells := [.int .i64 (1), .int .i64 (4)]) rfl rfl rfl rfl rfl rfl (by decide) (by decide) (by kernel_rfl) rfl ?_); rintro bl gl hs hqe; replace le0 := G.le.trans le0 hqe; replace rs4 := rs4.mono hqe; replace rs5 := rs5.mono hqe; replace rs9 := rs9.mono hqe; replace rc0 := rc0.mono hqe; obtain ⟨gz, hwz, hsz, hqz, rs6⟩ := hs.fzRow (α := Int) (xs := [1, 4]) (i := 0) rfl (RcL.ints _ [1, 4]); clear hqe; have hqe := hqz; rw [← hwz]; replace hs := hsz; clear hsz; replace le0 := G.le.trans le0 hqe; replace rs4 := rs4.mono hqe; replace rs5 := rs5.mono hqe; replace rs9 := rs9.mono hqe; replace rc0 := rc0.mono hqe
  refine WL_o rfl rfl (OpR_ret cl17 allF rfl rfl rfl rfl rfl (same_c _ _ _ _ _ rs5 rs6) ?_); rintro g1 _ hf1 rfl; replace hs := hs.call hf1; have hqe := hf1.le; replace le0 := G.le.trans le0 hqe; replace rs4 := rs4.mono hqe; replace rs5 := rs5.mono hqe; replace rs6 := rs6.mono hqe; replace rs9 := rs9.mono hqe; replace rc0 := rc0.mono hqe
  refine WL_rep (.bool true) (t := 39) rfl (congrArg Value.bool (by decide)) ?_
  clear rs5 rs6
  refine P1 T.ok rfl rfl rfl ?_; refine WL_o rfl rfl (OpR_loadO T.ok 1 rfl hs rfl rfl rfl ?_)
  have hs0 := hs
  refine WL_o rfl rfl (OpR_lend (fun gf g' r => OwnR 3 gf (reach exF 3) g' r) (fun g0 g' r => OwnR 3 g0 [(1 : Int), 3, 4] g' r) cl29 allF rfl rfl rfl rfl rfl hs 2 rfl rc0 (fun gf hle hgw hrs => ?_) (fun gf g2 g3 v hgw hff hw3 hf3 him hr => ?_) ?_)
  · exact reach_c _ exF 3 gf ⟨_, _, _, _, _, _, rfl, hrs, rs9.mono hle⟩
  · exact (by rw [ex7] at hr; exact OwnR.thaw (fun _ => RcL.int_any) hgw hw3 him hr)
  rintro g1 v hf1 hres
  replace hs := hs.call hf1; have hqe := hf1.le; replace le0 := G.le.trans le0 hqe; replace rs4 := rs4.mono hqe; replace rs9 := rs9.mono hqe; replace rc0 := rc0.mono hqe
  obtain ⟨gz, hwz, hsz, hqz, rs5⟩ := hs0.ownRs hf1 hres; have hqe := hqz; rw [← hwz]; replace hs := hsz; clear hsz hs0; replace le0 := G.le.trans le0 hqe; replace rs4 := rs4.mono hqe; replace rs9 := rs9.mono hqe; replace rc0 := rc0.mono hqe
  refine WL_o rfl rfl (OpR_lit T.ok rfl hs (vs := [(0, .int .i64 (1)), (1, .int .i64 (3)), (2, .int .i64 (4))]) (cells := [.int .i64 (1), .int .i64 (3), .int .i64 (4)]) rfl rfl rfl rfl rfl rfl (by decide) (by decide) (by kernel_rfl) rfl ?_); rintro bl gl hs hqe; replace le0 := G.le.trans le0 hqe; replace rs4 := rs4.mono hqe; replace rs5 := rs5.mono hqe; replace rs9 := rs9.mono hqe; replace rc0 := rc0.mono hqe; obtain ⟨gz, hwz, hsz, hqz, rs6⟩ := hs.fzRow (α := Int) (xs := [1, 3, 4]) (i := 0) rfl (RcL.ints _ [1, 3, 4]); clear hqe; have hqe := hqz; rw [← hwz]; replace hs := hsz; clear hsz; replace le0 := G.le.trans le0 hqe; replace rs4 := rs4.mono hqe; replace rs5 := rs5.mono hqe; replace rs9 := rs9.mono hqe; replace rc0 := rc0.mono hqe
  refine WL_o rfl rfl (OpR_ret cl17 allF rfl rfl rfl rfl rfl (same_c _ _ _ _ _ rs5 rs6) ?_); rintro g1 _ hf1 rfl; replace hs := hs.call hf1; have hqe := hf1.le; replace le0 := G.le.trans le0 hqe; replace rs4 := rs4.mono hqe; replace rs5 := rs5.mono hqe; replace rs6 := rs6.mono hqe; replace rs9 := rs9.mono hqe; replace rc0 := rc0.mono hqe
  refine WL_rep (.bool true) (t := 44) rfl (congrArg Value.bool (by decide)) ?_
  clear rs5 rs6
  refine P1 T.ok rfl rfl rfl ?_; refine P1 T.ok rfl rfl rfl ?_; refine WL_o rfl rfl (OpR_loadO T.ok 1 rfl hs rfl rfl rfl ?_)
  have hs0 := hs
  refine WL_o rfl rfl (OpR_lend (fun gf g' r => OwnR 3 gf (ends exF) g' r) (fun g0 g' r => OwnR 3 g0 [(4 : Int)] g' r) cl18 allF rfl rfl rfl rfl rfl hs 2 rfl rc0 (fun gf hle hgw hrs => ?_) (fun gf g2 g3 v hgw hff hw3 hf3 him hr => ?_) ?_)
  · exact ends_c _ exF gf ⟨_, _, _, _, _, _, rfl, hrs, rs9.mono hle⟩
  · exact (by rw [ex8] at hr; exact OwnR.thaw (fun _ => RcL.int_any) hgw hw3 him hr)
  rintro g1 v hf1 hres
  replace hs := hs.call hf1; have hqe := hf1.le; replace le0 := G.le.trans le0 hqe; replace rs4 := rs4.mono hqe; replace rs9 := rs9.mono hqe; replace rc0 := rc0.mono hqe
  obtain ⟨gz, hwz, hsz, hqz, rs5⟩ := hs0.ownRs hf1 hres; have hqe := hqz; rw [← hwz]; replace hs := hsz; clear hsz hs0; replace le0 := G.le.trans le0 hqe; replace rs4 := rs4.mono hqe; replace rs9 := rs9.mono hqe; replace rc0 := rc0.mono hqe
  refine WL_o rfl rfl (OpR_lit T.ok rfl hs (vs := [(0, .int .i64 (4))]) (cells := [.int .i64 (4)]) rfl rfl rfl rfl rfl rfl (by decide) (by decide) (by kernel_rfl) rfl ?_); rintro bl gl hs hqe; replace le0 := G.le.trans le0 hqe; replace rs4 := rs4.mono hqe; replace rs5 := rs5.mono hqe; replace rs9 := rs9.mono hqe; replace rc0 := rc0.mono hqe; obtain ⟨gz, hwz, hsz, hqz, rs6⟩ := hs.fzRow (α := Int) (xs := [4]) (i := 0) rfl (RcL.ints _ [4]); clear hqe; have hqe := hqz; rw [← hwz]; replace hs := hsz; clear hsz; replace le0 := G.le.trans le0 hqe; replace rs4 := rs4.mono hqe; replace rs5 := rs5.mono hqe; replace rs9 := rs9.mono hqe; replace rc0 := rc0.mono hqe
  refine WL_o rfl rfl (OpR_ret cl17 allF rfl rfl rfl rfl rfl (same_c _ _ _ _ _ rs5 rs6) ?_); rintro g1 _ hf1 rfl; replace hs := hs.call hf1; have hqe := hf1.le; replace le0 := G.le.trans le0 hqe; replace rs4 := rs4.mono hqe; replace rs5 := rs5.mono hqe; replace rs6 := rs6.mono hqe; replace rs9 := rs9.mono hqe; replace rc0 := rc0.mono hqe
  refine WL_rep (.bool true) (t := 50) rfl (congrArg Value.bool (by decide)) ?_
  clear rs5 rs6
  refine P1 T.ok rfl rfl rfl ?_; refine P1 T.ok rfl rfl rfl ?_; refine WL_nil ?_; (with_reducible refine T_then ?_); refine W_seq ?_; refine W_region ?_; refine P1 T.ok rfl rfl rfl ?_; refine WL_o rfl rfl (OpR_loadO T.ok 1 rfl hs rfl rfl rfl ?_)
  -- the last step gets a step behind it
  refine WL_o rfl rfl (OpR_lit T.ok rfl hs (vs := [(0, .int .i64 (3))]) (cells := [.int .i64 (3)]) rfl rfl rfl rfl rfl rfl (by decide) (by decide) (by kernel_rfl) rfl ?_); rintro bl gl hs hqe; replace le0 := G.le.trans le0 hqe; replace rs4 := rs4.mono hqe; replace rs9 := rs9.mono hqe; replace rc0 := rc0.mono hqe; obtain ⟨gz, hwz, hsz, hqz, rs5⟩ := hs.fzRow (α := Int) (xs := [3]) (i := 0) rfl (RcL.ints _ [3]); clear hqe; have hqe := hqz; rw [← hwz]; replace hs := hsz; clear hsz; replace le0 := G.le.trans le0 hqe; replace rs4 := rs4.mono hqe; replace rs9 := rs9.mono hqe; replace rc0 := rc0.mono hqe
  have hrow := (hs.own 2 _ rfl).1
  have hsn : sn = 5 := (Src.of_row hrow).1
  subst hsn
  refine WL_o rfl rfl (OpR_idxR T.ok rfl hrow (by decide) (by decide) rfl rfl rfl rfl rfl rfl ?_)
  rintro b p rfl
  refine P1 T.ok rfl rfl rfl ?_
  have hlc : cells.length = 35 := by rw [rc0.len]; rfl
  refine WL_n rfl (OpR_storeR T.ok 2 (4 * 7 + 4) rfl hs rfl rfl rfl rfl rfl rfl rfl (by simp) (by rw [hlc]; simp) rfl ?_)
  rintro g5 hs hqe; replace le0 := G.le.trans le0 hqe; replace rs4 := rs4.mono hqe; replace rs5 := rs5.mono hqe; replace rs9 := rs9.mono hqe; replace rc0 := rc0.mono hqe
  have hr5 : RcL g5 (spl cells (4 * 7 + 4) [_]) exG.steps := RcL.upd (α := Step) (x' := ⟨1, [0], 10, 10, [3], -1, 0⟩) (by show 4 + 1 ≤ 7; decide) rc0 4 ⟨1, [0], 10, 10, [], -1, 0⟩ rfl (by
    rintro ys ⟨b1, b2, b3, b4, b5, b6, rfl, hx1, hx2⟩
    exact ⟨b1, b2, b3, _, _, _, rfl, hx1, rs5⟩)
  obtain ⟨gz, hwz, hsz, hqz, rs6⟩ := hs.fzRow (α := Step) (i := 2) rfl hr5
  clear hqe; have hqe := hqz; rw [← hwz]; replace hs := hsz; clear hsz rc0 hr5 hrow; replace le0 := G.le.trans le0 hqe; replace rs4 := rs4.mono hqe; replace rs5 := rs5.mono hqe; replace rs9 := rs9.mono hqe
  refine WL_nil ?_; (with_reducible refine T_then ?_); refine W_seq ?_; refine W_region ?_; refine WL_o rfl rfl (OpR_loadO T.ok 1 rfl hs rfl rfl rfl ?_)
  refine WL_o rfl rfl (OpR_ret cl15 allF rfl rfl rfl rfl rfl (check_c _ exG _ ⟨_, _, _, _, _, _, rfl, rs6, rs9⟩) ?_); rintro g1 _ hf1 hres; replace hs := hs.call hf1; have hqe := hf1.le; replace le0 := G.le.trans le0 hqe; replace rs4 := rs4.mono hqe; replace rs5 := rs5.mono hqe; replace rs6 := rs6.mono hqe; replace rs9 := rs9.mono hqe
  rw [ex9] at hres
  obtain ⟨qa, qn, qc, rfl, rs7⟩ := hres
  skip
  refine WL_o rfl rfl (OpR_alloc T.ok rfl hs rfl rfl ?_); clear hs; rintro bq g1 hs hqe; replace le0 := G.le.trans le0 hqe; replace rs4 := rs4.mono hqe; replace rs5 := rs5.mono hqe; replace rs6 := rs6.mono hqe; replace rs7 := rs7.mono hqe; replace rs9 := rs9.mono hqe
  skip
  refine WL_n rfl (OpR_storeO T.ok 0 rfl hs rfl rfl rfl rfl rfl rfl rfl rfl rfl ?_); replace hs := hs; rintro g1 hs hqe; replace le0 := G.le.trans le0 hqe; replace rs4 := rs4.mono hqe; replace rs5 := rs5.mono hqe; replace rs6 := rs6.mono hqe; replace rs7 := rs7.mono hqe; replace rs9 := rs9.mono hqe
  refine WL_nil ?_; (with_reducible refine T_then ?_); refine W_seq ?_; refine W_region ?_; (iterate 6 refine P1 T.ok rfl rfl rfl ?_)
  refine WL_o rfl rfl (OpR_lit T.ok rfl hs (vs := [(0, .int .i64 (1))]) (cells := [.int .i64 (1)]) rfl rfl rfl rfl rfl rfl (by decide) (by decide) (by kernel_rfl) rfl ?_); rintro bl gl hs hqe; replace le0 := G.le.trans le0 hqe; replace rs4 := rs4.mono hqe; replace rs5 := rs5.mono hqe; replace rs6 := rs6.mono hqe; replace rs7 := rs7.mono hqe; replace rs9 := rs9.mono hqe; obtain ⟨gz, hwz, hsz, hqz, rs8⟩ := hs.fzRow (α := Int) (xs := [1]) (i := 0) rfl (RcL.ints _ [1]); clear hqe; have hqe := hqz; rw [← hwz]; replace hs := hsz; clear hsz; replace le0 := G.le.trans le0 hqe; replace rs4 := rs4.mono hqe; replace rs5 := rs5.mono hqe; replace rs6 := rs6.mono hqe; replace rs7 := rs7.mono hqe; replace rs9 := rs9.mono hqe
  refine WL_o rfl rfl (OpR_ret cl17 allF rfl rfl rfl rfl rfl (same_c _ _ _ _ _ rs4 rs8) ?_); rintro g1 _ hf1 rfl; replace hs := hs.call hf1; have hqe := hf1.le; replace le0 := G.le.trans le0 hqe; replace rs4 := rs4.mono hqe; replace rs5 := rs5.mono hqe; replace rs6 := rs6.mono hqe; replace rs7 := rs7.mono hqe; replace rs8 := rs8.mono hqe; replace rs9 := rs9.mono hqe
  refine WL_rep (.bool true) (t := 66) rfl (congrArg Value.bool (by decide)) ?_
  (iterate 21 refine P1 T.ok rfl rfl rfl ?_); refine WL_o rfl rfl (OpR_loadO T.ok 1 rfl hs rfl rfl rfl ?_); (iterate 4 refine P1 T.ok rfl rfl rfl ?_); refine WL_o rfl rfl (OpR_loadO T.ok 0 rfl hs rfl rfl rfl ?_); (iterate 4 refine P1 T.ok rfl rfl rfl ?_); refine WL_o rfl rfl (OpR_loadO T.ok 0 rfl hs rfl rfl rfl ?_)
  refine WL_o rfl rfl (OpR_lit T.ok rfl hs (vs := [(0, .int .i64 (0))]) (cells := [.int .i64 (0)]) rfl rfl rfl rfl rfl rfl (by decide) (by decide) (by kernel_rfl) rfl ?_); rintro bl gl hs hqe; replace le0 := G.le.trans le0 hqe; replace rs4 := rs4.mono hqe; replace rs5 := rs5.mono hqe; replace rs6 := rs6.mono hqe; replace rs7 := rs7.mono hqe; replace rs8 := rs8.mono hqe; replace rs9 := rs9.mono hqe; obtain ⟨gz, hwz, hsz, hqz, rs5⟩ := hs.fzRow (α := Int) (xs := [0]) (i := 0) rfl (RcL.ints _ [0]); clear hqe; have hqe := hqz; rw [← hwz]; replace hs := hsz; clear hsz; replace le0 := G.le.trans le0 hqe; replace rs4 := rs4.mono hqe; replace rs6 := rs6.mono hqe; replace rs7 := rs7.mono hqe; replace rs8 := rs8.mono hqe; replace rs9 := rs9.mono hqe
  refine WL_o rfl rfl (OpR_ret cl17 allF rfl rfl rfl rfl rfl (same_c _ _ _ _ _ rs7 rs5) ?_); rintro g1 _ hf1 rfl; replace hs := hs.call hf1; have hqe := hf1.le; replace le0 := G.le.trans le0 hqe; replace rs4 := rs4.mono hqe; replace rs5 := rs5.mono hqe; replace rs6 := rs6.mono hqe; replace rs7 := rs7.mono hqe; replace rs8 := rs8.mono hqe; replace rs9 := rs9.mono hqe
  refine WL_rep (.bool true) (t := 100) rfl (congrArg Value.bool (by decide)) ?_
  refine P1 T.ok rfl rfl rfl ?_; refine P1 T.ok rfl rfl rfl ?_; refine WL_nil ?_; (with_reducible refine T_then ?_)
  exact W_ret (ret1 rfl rfl (hs.ret rfl))
end Go.Proofs.Ytijmlfmapfhabaa
