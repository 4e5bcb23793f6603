/- The walks through GraphWitness and GraphShortest. -/
import Derived.Test.YtijmlfmapfhabaaLa
import Derived.Test.YtijmlfmapfhabaaMb

/- The walk through the statement GraphWitness. -/
namespace Go.Proofs.Ytijmlfmapfhabaa
open Go Go.K
set_option maxRecDepth 10000
attribute [local irreducible] W WL OpR
set_option maxHeartbeats 4000000

theorem pth_get {f : Flow} (hval : valid f = true) {n : Int} {l : List Int} (hn : n ∈ reach f 0) (h : Pth f (reached f 0) n l) (i : Nat) (hi : i < l.length) : l[i] ∈ reach f 0 ∧ (0 < i → l[0]'(by omega) < l[i]) := by
  have h0 := zero_inR hval
  have hh : l[0]'(by omega) = n := by
    have := h.head
    rw [List.head?_eq_getElem?, List.getElem?_eq_getElem (by omega)] at this
    exact Option.some.inj this
  rcases h.ok _ (List.getElem_mem hi) with e | e
  · rw [e]
    refine ⟨hn, fun h0i => ?_⟩
    have hne : l[i] ≠ l[0]'(by omega) := fun e' => by
      have := (List.getElem_inj h.nodup).1 e'
      omega
    rw [hh] at hne
    exact absurd e hne
  · refine ⟨(mem_reach hval h0).2 ((reached_iff hval h0 e.1).1 e.2.2), fun _ => by rw [hh]; exact e.2.1⟩
theorem pth_cyc {f : Flow} {n : Int} {l : List Int} (h : Pth f (reached f 0) n l) (hl : n ∈ (stepD f (lastD l)).next) (i : Nat) (hi : i < l.length) :
    l[(i + 1) % l.length]'(Nat.mod_lt _ (by omega)) ∈ (stepD f l[i]).next ∧ l[i] ∉ l.take i := by
  have hh : l[0]'(by omega) = n := by
    have := h.head
    rw [List.head?_eq_getElem?, List.getElem?_eq_getElem (by omega)] at this
    exact Option.some.inj this
  refine ⟨?_, fun hm => ?_⟩
  · by_cases e : i + 1 = l.length
    · have e2 : (i + 1) % l.length = 0 := by rw [e, Nat.mod_self]
      have e3 : lastD l = l[i] := by rw [lastD_get h.ne]; congr 1; omega
      simp only [e2, hh]
      rw [← e3]; exact hl
    · have e2 : (i + 1) % l.length = i + 1 := Nat.mod_eq_of_lt (by omega)
      simp only [e2]
      exact h.link i (by omega)
  · obtain ⟨j, hj, e⟩ := List.getElem_of_mem hm
    rw [List.length_take] at hj
    rw [List.getElem_take] at e
    have := (List.getElem_inj h.nodup).1 e
    omega










theorem lawwitness_c (v : Value) (x : List Y6) (g : G) (rs0 : Rs g v x) (hx : ∀ y ∈ x, y.fit) :
    CallsIn Wd 0 Try.prog 6 #[v] g.w (Ret g fun _ r => r = .bool true) := by
  have hs := St.start g
  have le0 := G.le.refl g
  refine enter Try.func6 rfl Try.ntmps6 rfl ?_
  refine W_seq ?_; refine W_region ?_; refine P1 T.ok rfl rfl rfl ?_; refine WL_nil ?_; (with_reducible refine T_then ?_); refine W_seq ?_; refine W_region ?_
  refine WL_o rfl rfl (OpR_ret cl12 allF rfl rfl rfl rfl rfl (sane_c _) ?_); rintro g1 _ hf1 rfl; replace hs := hs.call hf1; have hqe := hf1.le; replace le0 := G.le.trans le0 hqe; replace rs0 := rs0.mono hqe
  refine P1 T.ok rfl rfl rfl ?_; refine WL_nil ?_; (with_reducible refine T_then ?_); refine W_seq ?_; refine W_region ?_; refine P1 T.ok rfl rfl rfl ?_
  refine WL_o rfl rfl (OpR_ret cl14 allF rfl rfl rfl rfl rfl (made_c _ x _ rs0 hx) ?_); rintro g1 _ hf1 ⟨sa, sn, sc, wa, wn, wc, cells, rfl, hh, rc0, rs2⟩
  replace hs := hs.getOwn hf1 hh; have hqe := hf1.le
  replace le0 := le0.trans hqe; replace rs0 := rs0.mono hqe; clear hh
  obtain ⟨gz, hwz, hsz, hqz, rs1⟩ := hs.fzRow (α := Step) (i := 0) rfl rc0
  clear hqe; have hqe := hqz; rw [← hwz]; replace hs := hsz; clear hsz rc0; replace le0 := G.le.trans le0 hqe; replace rs0 := rs0.mono hqe; replace rs2 := rs2.mono hqe
  have hval := made_valid x
  have hn40 := valid_n hval
  have hmr : ∀ c, InR (made x) (pickM c (made x).steps.length) := fun c => made_inR x
  generalize hfe : made x = f at *
  obtain ⟨_, _, e⟩ := rs1.isSlice; obtain ⟨rfl, rfl, rfl⟩ := Value.slice.inj e; clear e
  have fl0 : RFlow gz (.agg #[.int .i64 f.moveMin, .int .i64 f.moveMax, .slice sa f.steps.length sc, .slice wa wn wc]) f := ⟨_, _, _, _, _, _, rfl, rs1, rs2⟩
  skip
  refine WL_o rfl rfl (OpR_alloc T.ok rfl hs rfl rfl ?_); clear hs; rintro bf g1 hs hqe; replace le0 := G.le.trans le0 hqe; replace rs0 := rs0.mono hqe; replace rs1 := rs1.mono hqe; replace rs2 := rs2.mono hqe; replace fl0 := fl0.mono hqe
  skip
  refine WL_n rfl (OpR_storeO T.ok 0 rfl hs rfl rfl rfl rfl rfl rfl rfl rfl rfl ?_); replace hs := hs; rintro g1 hs hqe; replace le0 := G.le.trans le0 hqe; replace rs0 := rs0.mono hqe; replace rs1 := rs1.mono hqe; replace rs2 := rs2.mono hqe; replace fl0 := fl0.mono hqe
  obtain ⟨g2, hw2, hs2, hqe, hep⟩ := hs.fzObj (i := 0) rfl; replace hs := hs2; clear hs2; rw [← hw2]; replace le0 := G.le.trans le0 hqe; replace rs0 := rs0.mono hqe; replace rs1 := rs1.mono hqe; replace rs2 := rs2.mono hqe; replace fl0 := fl0.mono hqe
  have ep0 := hep; clear hep
  refine WL_nil ?_; (with_reducible refine T_then ?_); refine W_seq ?_; refine W_region ?_; refine WL_o rfl rfl (OpR_loadE T.ok 0 rfl ep0 rfl rfl ?_)
  refine WL_o rfl rfl (OpR_ret cl15 allF rfl rfl rfl rfl rfl (check_c _ f _ fl0) ?_); rintro g1 _ hf1 ⟨pa, pn, pc, rfl, rs3⟩; replace hs := hs.call hf1; have hqe := hf1.le; replace le0 := G.le.trans le0 hqe; replace ep0 := ep0.mono hqe; replace rs0 := rs0.mono hqe; replace rs1 := rs1.mono hqe; replace rs2 := rs2.mono hqe; replace fl0 := fl0.mono hqe
  skip
  refine WL_o rfl rfl (OpR_alloc T.ok rfl hs rfl rfl ?_); clear hs; rintro bp g1 hs hqe; replace le0 := G.le.trans le0 hqe; replace ep0 := ep0.mono hqe; replace rs0 := rs0.mono hqe; replace rs1 := rs1.mono hqe; replace rs2 := rs2.mono hqe; replace rs3 := rs3.mono hqe; replace fl0 := fl0.mono hqe
  skip
  refine WL_n rfl (OpR_storeO T.ok 0 rfl hs rfl rfl rfl rfl rfl rfl rfl rfl rfl ?_); replace hs := hs; rintro g1 hs hqe; replace le0 := G.le.trans le0 hqe; replace ep0 := ep0.mono hqe; replace rs0 := rs0.mono hqe; replace rs1 := rs1.mono hqe; replace rs2 := rs2.mono hqe; replace rs3 := rs3.mono hqe; replace fl0 := fl0.mono hqe
  obtain ⟨g2, hw2, hs2, hqe, hep⟩ := hs.fzObj (i := 0) rfl; replace hs := hs2; clear hs2; rw [← hw2]; replace le0 := G.le.trans le0 hqe; replace ep0 := ep0.mono hqe; replace rs0 := rs0.mono hqe; replace rs1 := rs1.mono hqe; replace rs2 := rs2.mono hqe; replace rs3 := rs3.mono hqe; replace fl0 := fl0.mono hqe
  have ep1 := hep; clear hep
  refine WL_nil ?_; (with_reducible refine T_then ?_); refine W_seq ?_; refine W_seq ?_; refine W_region ?_; refine P1 T.ok rfl rfl rfl ?_; refine WL_o rfl rfl (OpR_loadE T.ok 0 rfl ep1 rfl rfl ?_); refine P1 T.ok rfl rfl rfl ?_; refine WL_nil ?_; (with_reducible refine T_then ?_)
  have hl1 := law_dead hval; have hl2 := law_cycle hval; have hl0 := law_none (f := f)
  generalize check f = pr at *
  obtain ⟨kd, l⟩ := pr
  simp only at hl0 hl1 hl2 rs3 ep1
  obtain ⟨_, _, e⟩ := rs3.isSlice; obtain ⟨rfl, rfl, rfl⟩ := Value.slice.inj e; clear e
  by_cases hk0 : kd = 0
  · obtain ⟨_, rfl⟩ := Prod.mk.inj (hl0 hk0)
    refine W_yes (b := kd == 0) (beq_iff_eq.2 hk0) rfl ?_
    refine W_seq ?_; refine W_region ?_; (iterate 3 refine P1 T.ok rfl rfl rfl ?_); refine WL_o rfl rfl (OpR_loadE T.ok 1 rfl ep1 rfl rfl ?_); (iterate 4 refine P1 T.ok rfl rfl rfl ?_); refine WL_nil ?_; (with_reducible refine T_then ?_)
    exact W_ret (ret1 rfl rfl (hs.ret rfl))
  · refine W_no (b := kd == 0) (beq_eq_false_iff_ne.2 hk0) rfl ?_
    refine W_skip ?_; (with_reducible refine T_then ?_); refine W_seq ?_; refine W_seq ?_; refine W_region ?_; refine P1 T.ok rfl rfl rfl ?_; refine WL_o rfl rfl (OpR_loadE T.ok 1 rfl ep1 rfl rfl ?_); refine P1 T.ok rfl rfl rfl ?_; refine P1 T.ok rfl rfl rfl ?_; refine WL_nil ?_; (with_reducible refine T_then ?_)
    have hcase : (kd = 1 ∧ ∃ n, l = [n] ∧ n ∈ reach f 0 ∧ ∀ m ∈ reach f n, InR f m ∧ isEnd (stepD f m) = false) ∨ (kd = 2 ∧ ∃ n, n ∈ reach f 0 ∧ Pth f (reached f 0) n l ∧ n ∈ (stepD f (lastD l)).next) := by
      by_cases hk1 : kd = 1
      · obtain ⟨n, h1, h2, h3⟩ := hl1 hk1
        exact .inl ⟨hk1, n, h1, h2, h3⟩
      · obtain ⟨n, h1, h2, h3⟩ := hl2 hk0 hk1
        exact .inr ⟨h1, n, h2, h3⟩
    have hget : ∀ i (hi : i < l.length), l[i] ∈ reach f 0 ∧ (0 < i → l[0]'(by omega) < l[i]) := by
      rcases hcase with ⟨_, n, rfl, h2, _⟩ | ⟨_, n, h2, h3, _⟩
      · intro i hi
        have : i = 0 := by simpa using hi
        subst this
        exact ⟨h2, fun h => absurd h (by omega)⟩
      · exact pth_get hval h2 h3
    have hlp : 0 < l.length := by
      rcases hcase with ⟨_, n, rfl, _⟩ | ⟨_, n, _, h3, _⟩
      · simp
      · exact List.length_pos_iff.2 h3.ne
    clear hl0 hl1 hl2
    have hll := rs3.len_le
    unfold maxLen at hll
    refine W_no (b := ((l.length : Nat) : Int) == 0) (beq_eq_false_iff_ne.2 (by omega)) rfl ?_
    refine W_skip ?_; (with_reducible refine T_then ?_); refine W_seq ?_; refine W_seq ?_; refine W_region ?_; refine P1 T.ok rfl rfl rfl ?_; refine WL_nil ?_; (with_reducible refine T_then ?_); refine W_block ?_
    have hcap := rs3.isSlice
    have fl0c := fl0; have ep0c := ep0; have ep1c := ep1; have rs1c := rs1; have rs3c := rs3; have le8 := G.le.refl g2
    refine W_loop (fun m a' w => ∃ (i : Nat) (g3 : G), w = g3.w ∧ St g g3 [] ∧ G.le g2 g3 ∧ i ≤ l.length ∧ m = l.length - i ∧
        Fr 177 [] [(3, .bool true), (4, .pointer (some ⟨bf, 0, none⟩)), (5, .pointer (some ⟨bp, 0, none⟩)), (6, .int .i64 i)] a') l.length
      (fun a' ha => ⟨0, g2, rfl, hs, le8, Nat.zero_le _, rfl, ha.keep (by (repeat (first | exact trivial | refine ⟨rfl, ?_⟩)))⟩) ?_
    clear hs le8 fl0 ep0 ep1 rs1 rs3 rs0 rs2 le0
    rintro m a' _ ⟨i, g3, rfl, hs, le8, hi, rfl, ha'⟩
    have fl0 := fl0c.mono le8; have ep0 := ep0c.mono le8; have ep1 := ep1c.mono le8; have rs1 := rs1c.mono le8; have rs3 := rs3c.mono le8
    revert a'
    (with_reducible refine T_wp ?_); refine W_seq ?_; refine W_seq ?_; refine W_region ?_; refine P1 T.ok rfl rfl rfl ?_; refine P1 T.ok rfl rfl rfl ?_; refine WL_o rfl rfl (OpR_loadE T.ok 1 rfl ep1 rfl rfl ?_); refine P1 T.ok rfl rfl rfl ?_; refine P1 T.ok rfl rfl rfl ?_; refine WL_nil ?_; (with_reducible refine T_then ?_)
    by_cases hlt : i < l.length
    · refine W_yes (b := decide ((i : Int) < (l.length : Int))) (decide_eq_true (by omega)) rfl ?_
      obtain ⟨hn, hgt⟩ := hget i hlt
      have hgi := geti_of (xs := l) (n := (i : Int)) rfl hlt
      have hg0 := geti_of (xs := l) (n := (0 : Int)) rfl hlp
      have hnr := mem_reach_inR hn
      generalize l[i] = n at *
      generalize l[0] = n0 at *
      have hn0 := hnr.1; have hn1 := hnr.2
      rcases Nat.eq_zero_or_pos i with hz | hz
      · refine W_skip ?_; (with_reducible refine T_then ?_); refine W_seq ?_; refine W_block ?_; refine W_seq ?_
        apply W_draw allF rfl (Fact.eq _ :: (Fact.rs (reach f 0)) :: Fact.eq _ :: Fact.eq _ :: Fact.eq _ :: (intPtr n) :: Fact.eq _ :: Fact.eq _ :: Fact.eq _ :: Fact.eq _ :: Fact.eq _ :: Fact.eq _ :: Fact.eq _ :: (intPtr n) :: Fact.eq _ :: Fact.eq _ :: Fact.eq _ :: Fact.eq _ :: Fact.eq _ :: Fact.eq _ :: Fact.eq _ :: (intPtr n) :: Fact.eq _ :: Fact.eq _ :: Fact.eq _ :: Fact.eq _ :: Fact.eq _ :: Fact.eq _ :: Fact.eq _ :: Fact.eq _ :: Fact.eq _ :: Fact.eq _ :: Fact.eq _ :: Fact.eq _ :: Fact.eq _ :: Fact.eq _ :: Fact.eq _ :: Fact.eq _ :: Fact.eq _ :: Fact.eq _ :: Fact.eq _ :: Fact.eq _ :: Fact.eq _ :: Fact.eq _ :: []) 44 [(43, 79)] rfl rfl
        · refine D_cons (D_step2 (js := []) (by kernel_rfl) fun gd hf => ?_) ?_
          · have hsd := hs.dr.call hf; have hfe := (G.le_dr _).trans hf.le
            refine QA_nil ?_
            (refine D_yes rfl ?_; refine OpR_loadE T.ok 0 rfl (ep0.mono hfe) rfl rfl ?_; refine ⟨_, rfl, Fr0.refl _, ?_⟩; exact rfl)
          refine D_cons (D_step2 (js := [(0, 36)]) (by kernel_rfl) fun gd hf => ?_) ?_
          · have hsd := hs.dr.call hf; have hfe := (G.le_dr _).trans hf.le
            refine QA_eq rfl ?_
            refine QA_nil ?_
            refine D_yes rfl ?_
            refine OpR_ret cl29 allF rfl rfl rfl rfl rfl (reach_c _ f 0 _ (fl0.mono hfe)) fun g' v h1 h2 => ?_
            obtain ⟨g2, e1, e2, e3, e4⟩ := (St.start gd).ownRs h1 h2
            exact ⟨g2, e1, e2.fr0, e4⟩
          refine D_cons (D_step2 (js := []) (by kernel_rfl) fun gd hf => ?_) ?_
          · have hsd := hs.dr.call hf; have hfe := (G.le_dr _).trans hf.le
            refine QA_nil ?_
            (refine D_yes rfl ?_; refine OpR_pure _ T.ok rfl ?_; refine ⟨_, rfl, Fr0.refl _, ?_⟩; exact rfl)
          refine D_cons (D_step2 (js := [(2, 38)]) (by kernel_rfl) fun gd hf => ?_) ?_
          · have hsd := hs.dr.call hf; have hfe := (G.le_dr _).trans hf.le
            refine QA_eq rfl ?_
            refine QA_nil ?_
            (refine D_yes rfl ?_; refine OpR_loadE T.ok 1 rfl (ep1.mono hfe) rfl rfl ?_; refine ⟨_, rfl, Fr0.refl _, ?_⟩; exact rfl)
          refine D_cons (D_step2 (js := []) (by kernel_rfl) fun gd hf => ?_) ?_
          · have hsd := hs.dr.call hf; have hfe := (G.le_dr _).trans hf.le
            refine QA_nil ?_
            (refine D_yes rfl ?_; refine OpR_pure _ T.ok rfl ?_; refine ⟨_, rfl, Fr0.refl _, ?_⟩; exact rfl)
          refine D_cons (D_step2 (js := [(3, 39), (4, 40)]) (by kernel_rfl) fun gd hf => ?_) ?_
          · have hsd := hs.dr.call hf; have hfe := (G.le_dr _).trans hf.le
            refine QA_eq rfl ?_; refine QA_eq rfl ?_
            refine QA_nil ?_
            refine D_yes rfl ?_
            refine OpR_idx T.ok rfl (rs3.mono hfe) (y := n) hgi rfl rfl rfl rfl rfl rfl ?_
            intro b p ys hep hrc
            exact ⟨_, rfl, Fr0.refl _, b, p, rfl, by rw [← show ys = [Value.int .i64 (n)] from hrc]; exact hep⟩
          refine D_cons (D_step2 (js := [(5, 41)]) (by kernel_rfl) fun gd hf => ?_) ?_
          · have hsd := hs.dr.call hf; have hfe := (G.le_dr _).trans hf.le
            refine QA_any fun v5 h5 => ?_
            refine QA_nil ?_
            obtain ⟨b, p, rfl, hep⟩ := h5
            refine D_yes rfl ?_
            refine OpR_loadE T.ok 0 rfl hep rfl rfl ?_
            refine ⟨_, rfl, Fr0.refl _, ?_⟩
            exact rfl
          refine D_cons (D_step2 (js := [(1, 37), (6, 42), (1, 37)]) (by kernel_rfl) fun gd hf => ?_) ?_
          · have hsd := hs.dr.call hf; have hfe := (G.le_dr _).trans hf.le
            refine QA_any fun v1 h1 => ?_; refine QA_eq rfl ?_; refine QA_any fun v1 h1 => ?_
            refine QA_nil ?_
            refine D_yes rfl ?_
            refine OpR_ret cl31 allF rfl rfl rfl rfl rfl (has_c _ _ _ _ h1) fun g' v h1 h2 => ⟨g', rfl, h1, ?_⟩
            exact h2.trans (congrArg Value.bool (decide_eq_true hn))
          refine D_cons (D_step2 (js := [(7, 43)]) (by kernel_rfl) fun gd hf => ?_) ?_
          · have hsd := hs.dr.call hf; have hfe := (G.le_dr _).trans hf.le
            refine QA_eq rfl ?_
            refine QA_nil ?_
            (refine D_yes rfl ?_; refine OpR_pure _ T.ok rfl ?_; refine ⟨_, rfl, Fr0.refl _, ?_⟩; exact rfl)
          refine D_cons (D_step2 (js := [(8, 44)]) (by kernel_rfl) fun gd hf => ?_) ?_
          · have hsd := hs.dr.call hf; have hfe := (G.le_dr _).trans hf.le
            refine QA_eq rfl ?_
            refine QA_nil ?_
            (refine D_yes rfl ?_; refine OpR_pure _ T.ok rfl ?_; refine ⟨_, rfl, Fr0.refl _, ?_⟩; exact rfl)
          refine D_cons (D_step2 (js := [(9, 45)]) (by kernel_rfl) fun gd hf => ?_) ?_
          · have hsd := hs.dr.call hf; have hfe := (G.le_dr _).trans hf.le
            refine QA_eq rfl ?_
            refine QA_nil ?_
            (refine D_yes rfl ?_; refine OpR_pure _ T.ok rfl ?_; refine ⟨_, rfl, Fr0.refl _, ?_⟩; exact rfl)
          refine D_cons (D_step2 (js := [(10, 46), (9, 45)]) (by kernel_rfl) fun gd hf => ?_) ?_
          · have hsd := hs.dr.call hf; have hfe := (G.le_dr _).trans hf.le
            refine QA_eq rfl ?_; refine QA_eq rfl ?_
            refine QA_nil ?_
            (refine D_yes rfl ?_; refine OpR_loadE T.ok 1 rfl (ep1.mono hfe) rfl rfl ?_; refine ⟨_, rfl, Fr0.refl _, ?_⟩; exact rfl)
          refine D_cons (D_step2 (js := [(9, 45)]) (by kernel_rfl) fun gd hf => ?_) ?_
          · have hsd := hs.dr.call hf; have hfe := (G.le_dr _).trans hf.le
            refine QA_eq rfl ?_
            refine QA_nil ?_
            (refine D_yes rfl ?_; refine OpR_pure _ T.ok rfl ?_; refine ⟨_, rfl, Fr0.refl _, ?_⟩; exact rfl)
          refine D_cons (D_step2 (js := [(11, 47), (12, 48), (9, 45)]) (by kernel_rfl) fun gd hf => ?_) ?_
          · have hsd := hs.dr.call hf; have hfe := (G.le_dr _).trans hf.le
            refine QA_eq rfl ?_; refine QA_eq rfl ?_; refine QA_eq rfl ?_
            refine QA_nil ?_
            refine D_yes rfl ?_
            refine OpR_idx T.ok rfl (rs3.mono hfe) (y := n) hgi rfl rfl rfl rfl rfl rfl ?_
            intro b p ys hep hrc
            exact ⟨_, rfl, Fr0.refl _, b, p, rfl, by rw [← show ys = [Value.int .i64 (n)] from hrc]; exact hep⟩
          refine D_cons (D_step2 (js := [(13, 49), (9, 45)]) (by kernel_rfl) fun gd hf => ?_) ?_
          · have hsd := hs.dr.call hf; have hfe := (G.le_dr _).trans hf.le
            refine QA_any fun v13 h13 => ?_; refine QA_eq rfl ?_
            refine QA_nil ?_
            obtain ⟨b, p, rfl, hep⟩ := h13
            refine D_yes rfl ?_
            refine OpR_loadE T.ok 0 rfl hep rfl rfl ?_
            refine ⟨_, rfl, Fr0.refl _, ?_⟩
            exact rfl
          refine D_cons (D_step2 (js := [(14, 50), (9, 45)]) (by kernel_rfl) fun gd hf => ?_) ?_
          · have hsd := hs.dr.call hf; have hfe := (G.le_dr _).trans hf.le
            refine QA_eq rfl ?_; refine QA_eq rfl ?_
            refine QA_nil ?_
            refine D_yes rfl ?_
            refine OpR_pure _ T.ok rfl ?_
            refine ⟨_, rfl, Fr0.refl _, ?_⟩
            exact congrArg Value.bool (decide_eq_false (by omega))
          refine D_cons (D_step2 (js := [(9, 45), (15, 51)]) (by kernel_rfl) fun gd hf => ?_) ?_
          · have hsd := hs.dr.call hf; have hfe := (G.le_dr _).trans hf.le
            refine QA_eq rfl ?_; refine QA_eq rfl ?_
            refine QA_nil ?_
            (refine D_yes rfl ?_; refine OpR_pure _ T.ok rfl ?_; refine ⟨_, rfl, Fr0.refl _, ?_⟩; exact rfl)
          refine D_cons (D_step2 (js := [(16, 52)]) (by kernel_rfl) fun gd hf => ?_) ?_
          · have hsd := hs.dr.call hf; have hfe := (G.le_dr _).trans hf.le
            refine QA_eq rfl ?_
            refine QA_nil ?_
            (refine D_yes rfl ?_; refine OpR_pure _ T.ok rfl ?_; refine ⟨_, rfl, Fr0.refl _, ?_⟩; exact rfl)
          refine D_cons (D_step2 (js := [(17, 53)]) (by kernel_rfl) fun gd hf => ?_) ?_
          · have hsd := hs.dr.call hf; have hfe := (G.le_dr _).trans hf.le
            refine QA_eq rfl ?_
            refine QA_nil ?_
            (refine D_yes rfl ?_; refine OpR_pure _ T.ok rfl ?_; refine ⟨_, rfl, Fr0.refl _, ?_⟩; exact rfl)
          refine D_cons (D_step2 (js := [(18, 54), (17, 53)]) (by kernel_rfl) fun gd hf => ?_) ?_
          · have hsd := hs.dr.call hf; have hfe := (G.le_dr _).trans hf.le
            refine QA_eq rfl ?_; refine QA_eq rfl ?_
            refine QA_nil ?_
            (refine D_yes rfl ?_; refine OpR_loadE T.ok 1 rfl (ep1.mono hfe) rfl rfl ?_; refine ⟨_, rfl, Fr0.refl _, ?_⟩; exact rfl)
          refine D_cons (D_step2 (js := [(17, 53)]) (by kernel_rfl) fun gd hf => ?_) ?_
          · have hsd := hs.dr.call hf; have hfe := (G.le_dr _).trans hf.le
            refine QA_eq rfl ?_
            refine QA_nil ?_
            (refine D_yes rfl ?_; refine OpR_pure _ T.ok rfl ?_; refine ⟨_, rfl, Fr0.refl _, ?_⟩; exact rfl)
          refine D_cons (D_step2 (js := [(19, 55), (20, 56), (17, 53)]) (by kernel_rfl) fun gd hf => ?_) ?_
          · have hsd := hs.dr.call hf; have hfe := (G.le_dr _).trans hf.le
            refine QA_eq rfl ?_; refine QA_eq rfl ?_; refine QA_eq rfl ?_
            refine QA_nil ?_
            refine D_yes rfl ?_
            refine OpR_idx T.ok rfl (rs3.mono hfe) (y := n) hgi rfl rfl rfl rfl rfl rfl ?_
            intro b p ys hep hrc
            exact ⟨_, rfl, Fr0.refl _, b, p, rfl, by rw [← show ys = [Value.int .i64 (n)] from hrc]; exact hep⟩
          refine D_cons (D_step2 (js := [(21, 57), (17, 53)]) (by kernel_rfl) fun gd hf => ?_) ?_
          · have hsd := hs.dr.call hf; have hfe := (G.le_dr _).trans hf.le
            refine QA_any fun v21 h21 => ?_; refine QA_eq rfl ?_
            refine QA_nil ?_
            obtain ⟨b, p, rfl, hep⟩ := h21
            refine D_yes rfl ?_
            refine OpR_loadE T.ok 0 rfl hep rfl rfl ?_
            refine ⟨_, rfl, Fr0.refl _, ?_⟩
            exact rfl
          refine D_cons (D_step2 (js := [(17, 53)]) (by kernel_rfl) fun gd hf => ?_) ?_
          · have hsd := hs.dr.call hf; have hfe := (G.le_dr _).trans hf.le
            refine QA_eq rfl ?_
            refine QA_nil ?_
            (refine D_yes rfl ?_; refine OpR_pure _ T.ok rfl ?_; refine ⟨_, rfl, Fr0.refl _, ?_⟩; exact rfl)
          refine D_cons (D_step2 (js := [(23, 59), (17, 53)]) (by kernel_rfl) fun gd hf => ?_) ?_
          · have hsd := hs.dr.call hf; have hfe := (G.le_dr _).trans hf.le
            refine QA_eq rfl ?_; refine QA_eq rfl ?_
            refine QA_nil ?_
            (refine D_yes rfl ?_; refine OpR_loadE T.ok 2 rfl (ep0.mono hfe) rfl rfl ?_; refine ⟨_, rfl, Fr0.refl _, ?_⟩; exact rfl)
          refine D_cons (D_step2 (js := [(24, 60), (17, 53)]) (by kernel_rfl) fun gd hf => ?_) ?_
          · have hsd := hs.dr.call hf; have hfe := (G.le_dr _).trans hf.le
            refine QA_eq rfl ?_; refine QA_eq rfl ?_
            refine QA_nil ?_
            (refine D_yes rfl ?_; refine OpR_pure _ T.ok rfl ?_; refine ⟨_, rfl, Fr0.refl _, ?_⟩; exact rfl)
          refine D_cons (D_step2 (js := [(22, 58), (25, 61), (17, 53)]) (by kernel_rfl) fun gd hf => ?_) ?_
          · have hsd := hs.dr.call hf; have hfe := (G.le_dr _).trans hf.le
            refine QA_eq rfl ?_; refine QA_eq rfl ?_; refine QA_eq rfl ?_
            refine QA_nil ?_
            refine D_yes rfl ?_
            refine OpR_pure _ T.ok rfl ?_
            refine ⟨_, rfl, Fr0.refl _, ?_⟩
            exact congrArg Value.bool (decide_eq_false (by omega))
          refine D_cons (D_step2 (js := [(17, 53), (26, 62)]) (by kernel_rfl) fun gd hf => ?_) ?_
          · have hsd := hs.dr.call hf; have hfe := (G.le_dr _).trans hf.le
            refine QA_eq rfl ?_; refine QA_eq rfl ?_
            refine QA_nil ?_
            (refine D_yes rfl ?_; refine OpR_pure _ T.ok rfl ?_; refine ⟨_, rfl, Fr0.refl _, ?_⟩; exact rfl)
          refine D_cons (D_step2 (js := [(27, 63)]) (by kernel_rfl) fun gd hf => ?_) ?_
          · have hsd := hs.dr.call hf; have hfe := (G.le_dr _).trans hf.le
            refine QA_eq rfl ?_
            refine QA_nil ?_
            (refine D_yes rfl ?_; refine OpR_pure _ T.ok rfl ?_; refine ⟨_, rfl, Fr0.refl _, ?_⟩; exact rfl)
          refine D_cons (D_step2 (js := [(28, 64)]) (by kernel_rfl) fun gd hf => ?_) ?_
          · have hsd := hs.dr.call hf; have hfe := (G.le_dr _).trans hf.le
            refine QA_eq rfl ?_
            refine QA_nil ?_
            (refine D_yes rfl ?_; refine OpR_pure _ T.ok rfl ?_; refine ⟨_, rfl, Fr0.refl _, ?_⟩; exact rfl)
          refine D_cons (D_step2 (js := [(29, 65), (28, 64)]) (by kernel_rfl) fun gd hf => ?_) ?_
          · have hsd := hs.dr.call hf; have hfe := (G.le_dr _).trans hf.le
            refine QA_eq rfl ?_; refine QA_eq rfl ?_
            refine QA_nil ?_
            refine D_yes rfl ?_
            refine OpR_pure _ T.ok rfl ?_
            refine ⟨_, rfl, Fr0.refl _, ?_⟩
            exact congrArg Value.bool (decide_eq_false (by omega))
          refine D_cons (D_step2 (js := [(30, 66), (28, 64), (28, 64)]) (by kernel_rfl) fun gd hf => ?_) ?_
          · have hsd := hs.dr.call hf; have hfe := (G.le_dr _).trans hf.le
            refine QA_eq rfl ?_; refine QA_eq rfl ?_; refine QA_eq rfl ?_
            refine QA_nil ?_
            (refine D_yes rfl ?_; refine OpR_pure _ T.ok rfl ?_; refine ⟨_, rfl, Fr0.refl _, ?_⟩; exact rfl)
          refine D_cons (D_step2 (js := [(31, 67)]) (by kernel_rfl) fun gd hf => ?_) ?_
          · have hsd := hs.dr.call hf; have hfe := (G.le_dr _).trans hf.le
            refine QA_eq rfl ?_
            refine QA_nil ?_
            (refine D_no rfl ?_; exact rfl)
          refine D_cons (D_step2 (js := [(32, 68), (31, 67)]) (by kernel_rfl) fun gd hf => ?_) ?_
          · have hsd := hs.dr.call hf; have hfe := (G.le_dr _).trans hf.le
            refine QA_eq rfl ?_; refine QA_eq rfl ?_
            refine QA_nil ?_
            (refine D_no rfl ?_; exact rfl)
          refine D_cons (D_step2 (js := [(31, 67)]) (by kernel_rfl) fun gd hf => ?_) ?_
          · have hsd := hs.dr.call hf; have hfe := (G.le_dr _).trans hf.le
            refine QA_eq rfl ?_
            refine QA_nil ?_
            (refine D_no rfl ?_; exact rfl)
          refine D_cons (D_step2 (js := [(33, 69), (34, 70), (31, 67)]) (by kernel_rfl) fun gd hf => ?_) ?_
          · have hsd := hs.dr.call hf; have hfe := (G.le_dr _).trans hf.le
            refine QA_eq rfl ?_; refine QA_eq rfl ?_; refine QA_eq rfl ?_
            refine QA_nil ?_
            (refine D_no rfl ?_; exact rfl)
          refine D_cons (D_step2 (js := [(35, 71), (31, 67)]) (by kernel_rfl) fun gd hf => ?_) ?_
          · have hsd := hs.dr.call hf; have hfe := (G.le_dr _).trans hf.le
            refine QA_eq rfl ?_; refine QA_eq rfl ?_
            refine QA_nil ?_
            (refine D_no rfl ?_; exact rfl)
          refine D_cons (D_step2 (js := [(31, 67)]) (by kernel_rfl) fun gd hf => ?_) ?_
          · have hsd := hs.dr.call hf; have hfe := (G.le_dr _).trans hf.le
            refine QA_eq rfl ?_
            refine QA_nil ?_
            (refine D_no rfl ?_; exact rfl)
          refine D_cons (D_step2 (js := [(37, 73), (31, 67)]) (by kernel_rfl) fun gd hf => ?_) ?_
          · have hsd := hs.dr.call hf; have hfe := (G.le_dr _).trans hf.le
            refine QA_eq rfl ?_; refine QA_eq rfl ?_
            refine QA_nil ?_
            (refine D_no rfl ?_; exact rfl)
          refine D_cons (D_step2 (js := [(38, 74), (31, 67)]) (by kernel_rfl) fun gd hf => ?_) ?_
          · have hsd := hs.dr.call hf; have hfe := (G.le_dr _).trans hf.le
            refine QA_eq rfl ?_; refine QA_eq rfl ?_
            refine QA_nil ?_
            (refine D_no rfl ?_; exact rfl)
          refine D_cons (D_step2 (js := [(39, 75), (31, 67)]) (by kernel_rfl) fun gd hf => ?_) ?_
          · have hsd := hs.dr.call hf; have hfe := (G.le_dr _).trans hf.le
            refine QA_eq rfl ?_; refine QA_eq rfl ?_
            refine QA_nil ?_
            (refine D_no rfl ?_; exact rfl)
          refine D_cons (D_step2 (js := [(36, 72), (40, 76), (31, 67)]) (by kernel_rfl) fun gd hf => ?_) ?_
          · have hsd := hs.dr.call hf; have hfe := (G.le_dr _).trans hf.le
            refine QA_eq rfl ?_; refine QA_eq rfl ?_; refine QA_eq rfl ?_
            refine QA_nil ?_
            (refine D_no rfl ?_; exact rfl)
          refine D_cons (D_step2 (js := [(31, 67), (41, 77), (28, 64)]) (by kernel_rfl) fun gd hf => ?_) ?_
          · have hsd := hs.dr.call hf; have hfe := (G.le_dr _).trans hf.le
            refine QA_eq rfl ?_; refine QA_eq rfl ?_; refine QA_eq rfl ?_
            refine QA_nil ?_
            (refine D_yes rfl ?_; refine OpR_pure _ T.ok rfl ?_; refine ⟨_, rfl, Fr0.refl _, ?_⟩; exact rfl)
          refine D_cons (D_step2 (js := [(28, 64), (42, 78)]) (by kernel_rfl) fun gd hf => ?_) ?_
          · have hsd := hs.dr.call hf; have hfe := (G.le_dr _).trans hf.le
            refine QA_eq rfl ?_; refine QA_eq rfl ?_
            refine QA_nil ?_
            (refine D_yes rfl ?_; refine OpR_pure _ T.ok rfl ?_; refine ⟨_, rfl, Fr0.refl _, ?_⟩; exact rfl)
          exact D_nil
        intro g1 hf1; refine QA_eq rfl ?_; refine QA_nil ?_
        replace hs := hs.dr.call hf1; have hqe := (G.le_dr _).trans hf1.le; replace le8 := G.le.trans le8 hqe; replace ep0 := ep0.mono hqe; replace ep1 := ep1.mono hqe; replace rs1 := rs1.mono hqe; replace rs3 := rs3.mono hqe; replace fl0 := fl0.mono hqe
        refine WL_nil ?_; (with_reducible refine T_then ?_)
        refine W_no rfl rfl ?_
        refine W_skip ?_; (with_reducible refine T_bn ?_); (with_reducible refine T_then ?_); refine W_region ?_; (iterate 3 refine P1 T.ok rfl rfl rfl ?_); refine WL_nil ?_
        exact fun a ha => ⟨l.length - (i + 1), by omega, i + 1, _, rfl, hs, le8, by omega, rfl, ha.keep ⟨rfl, rfl, rfl, kI rfl (by rw [wr (by omega) (by omega)]; omega), trivial⟩⟩
      · have hgt := hgt hz
        refine W_skip ?_; (with_reducible refine T_then ?_); refine W_seq ?_; refine W_block ?_; refine W_seq ?_
        apply W_draw allF rfl (Fact.eq _ :: (Fact.rs (reach f 0)) :: Fact.eq _ :: Fact.eq _ :: Fact.eq _ :: (intPtr n) :: Fact.eq _ :: Fact.eq _ :: Fact.eq _ :: Fact.eq _ :: Fact.eq _ :: Fact.eq _ :: Fact.eq _ :: (intPtr n) :: Fact.eq _ :: Fact.eq _ :: Fact.eq _ :: Fact.eq _ :: Fact.eq _ :: Fact.eq _ :: Fact.eq _ :: (intPtr n) :: Fact.eq _ :: Fact.eq _ :: Fact.eq _ :: Fact.eq _ :: Fact.eq _ :: Fact.eq _ :: Fact.eq _ :: Fact.eq _ :: Fact.eq _ :: Fact.eq _ :: Fact.eq _ :: Fact.eq _ :: Fact.eq _ :: (intPtr n) :: Fact.eq _ :: Fact.eq _ :: Fact.eq _ :: (intPtr n0) :: Fact.eq _ :: Fact.eq _ :: Fact.eq _ :: Fact.eq _ :: []) 44 [(43, 79)] rfl rfl
        · refine D_cons (D_step2 (js := []) (by kernel_rfl) fun gd hf => ?_) ?_
          · have hsd := hs.dr.call hf; have hfe := (G.le_dr _).trans hf.le
            refine QA_nil ?_
            (refine D_yes rfl ?_; refine OpR_loadE T.ok 0 rfl (ep0.mono hfe) rfl rfl ?_; refine ⟨_, rfl, Fr0.refl _, ?_⟩; exact rfl)
          refine D_cons (D_step2 (js := [(0, 36)]) (by kernel_rfl) fun gd hf => ?_) ?_
          · have hsd := hs.dr.call hf; have hfe := (G.le_dr _).trans hf.le
            refine QA_eq rfl ?_
            refine QA_nil ?_
            refine D_yes rfl ?_
            refine OpR_ret cl29 allF rfl rfl rfl rfl rfl (reach_c _ f 0 _ (fl0.mono hfe)) fun g' v h1 h2 => ?_
            obtain ⟨g2, e1, e2, e3, e4⟩ := (St.start gd).ownRs h1 h2
            exact ⟨g2, e1, e2.fr0, e4⟩
          refine D_cons (D_step2 (js := []) (by kernel_rfl) fun gd hf => ?_) ?_
          · have hsd := hs.dr.call hf; have hfe := (G.le_dr _).trans hf.le
            refine QA_nil ?_
            (refine D_yes rfl ?_; refine OpR_pure _ T.ok rfl ?_; refine ⟨_, rfl, Fr0.refl _, ?_⟩; exact rfl)
          refine D_cons (D_step2 (js := [(2, 38)]) (by kernel_rfl) fun gd hf => ?_) ?_
          · have hsd := hs.dr.call hf; have hfe := (G.le_dr _).trans hf.le
            refine QA_eq rfl ?_
            refine QA_nil ?_
            (refine D_yes rfl ?_; refine OpR_loadE T.ok 1 rfl (ep1.mono hfe) rfl rfl ?_; refine ⟨_, rfl, Fr0.refl _, ?_⟩; exact rfl)
          refine D_cons (D_step2 (js := []) (by kernel_rfl) fun gd hf => ?_) ?_
          · have hsd := hs.dr.call hf; have hfe := (G.le_dr _).trans hf.le
            refine QA_nil ?_
            (refine D_yes rfl ?_; refine OpR_pure _ T.ok rfl ?_; refine ⟨_, rfl, Fr0.refl _, ?_⟩; exact rfl)
          refine D_cons (D_step2 (js := [(3, 39), (4, 40)]) (by kernel_rfl) fun gd hf => ?_) ?_
          · have hsd := hs.dr.call hf; have hfe := (G.le_dr _).trans hf.le
            refine QA_eq rfl ?_; refine QA_eq rfl ?_
            refine QA_nil ?_
            refine D_yes rfl ?_
            refine OpR_idx T.ok rfl (rs3.mono hfe) (y := n) hgi rfl rfl rfl rfl rfl rfl ?_
            intro b p ys hep hrc
            exact ⟨_, rfl, Fr0.refl _, b, p, rfl, by rw [← show ys = [Value.int .i64 (n)] from hrc]; exact hep⟩
          refine D_cons (D_step2 (js := [(5, 41)]) (by kernel_rfl) fun gd hf => ?_) ?_
          · have hsd := hs.dr.call hf; have hfe := (G.le_dr _).trans hf.le
            refine QA_any fun v5 h5 => ?_
            refine QA_nil ?_
            obtain ⟨b, p, rfl, hep⟩ := h5
            refine D_yes rfl ?_
            refine OpR_loadE T.ok 0 rfl hep rfl rfl ?_
            refine ⟨_, rfl, Fr0.refl _, ?_⟩
            exact rfl
          refine D_cons (D_step2 (js := [(1, 37), (6, 42), (1, 37)]) (by kernel_rfl) fun gd hf => ?_) ?_
          · have hsd := hs.dr.call hf; have hfe := (G.le_dr _).trans hf.le
            refine QA_any fun v1 h1 => ?_; refine QA_eq rfl ?_; refine QA_any fun v1 h1 => ?_
            refine QA_nil ?_
            refine D_yes rfl ?_
            refine OpR_ret cl31 allF rfl rfl rfl rfl rfl (has_c _ _ _ _ h1) fun g' v h1 h2 => ⟨g', rfl, h1, ?_⟩
            exact h2.trans (congrArg Value.bool (decide_eq_true hn))
          refine D_cons (D_step2 (js := [(7, 43)]) (by kernel_rfl) fun gd hf => ?_) ?_
          · have hsd := hs.dr.call hf; have hfe := (G.le_dr _).trans hf.le
            refine QA_eq rfl ?_
            refine QA_nil ?_
            (refine D_yes rfl ?_; refine OpR_pure _ T.ok rfl ?_; refine ⟨_, rfl, Fr0.refl _, ?_⟩; exact rfl)
          refine D_cons (D_step2 (js := [(8, 44)]) (by kernel_rfl) fun gd hf => ?_) ?_
          · have hsd := hs.dr.call hf; have hfe := (G.le_dr _).trans hf.le
            refine QA_eq rfl ?_
            refine QA_nil ?_
            (refine D_yes rfl ?_; refine OpR_pure _ T.ok rfl ?_; refine ⟨_, rfl, Fr0.refl _, ?_⟩; exact rfl)
          refine D_cons (D_step2 (js := [(9, 45)]) (by kernel_rfl) fun gd hf => ?_) ?_
          · have hsd := hs.dr.call hf; have hfe := (G.le_dr _).trans hf.le
            refine QA_eq rfl ?_
            refine QA_nil ?_
            (refine D_yes rfl ?_; refine OpR_pure _ T.ok rfl ?_; refine ⟨_, rfl, Fr0.refl _, ?_⟩; exact rfl)
          refine D_cons (D_step2 (js := [(10, 46), (9, 45)]) (by kernel_rfl) fun gd hf => ?_) ?_
          · have hsd := hs.dr.call hf; have hfe := (G.le_dr _).trans hf.le
            refine QA_eq rfl ?_; refine QA_eq rfl ?_
            refine QA_nil ?_
            (refine D_yes rfl ?_; refine OpR_loadE T.ok 1 rfl (ep1.mono hfe) rfl rfl ?_; refine ⟨_, rfl, Fr0.refl _, ?_⟩; exact rfl)
          refine D_cons (D_step2 (js := [(9, 45)]) (by kernel_rfl) fun gd hf => ?_) ?_
          · have hsd := hs.dr.call hf; have hfe := (G.le_dr _).trans hf.le
            refine QA_eq rfl ?_
            refine QA_nil ?_
            (refine D_yes rfl ?_; refine OpR_pure _ T.ok rfl ?_; refine ⟨_, rfl, Fr0.refl _, ?_⟩; exact rfl)
          refine D_cons (D_step2 (js := [(11, 47), (12, 48), (9, 45)]) (by kernel_rfl) fun gd hf => ?_) ?_
          · have hsd := hs.dr.call hf; have hfe := (G.le_dr _).trans hf.le
            refine QA_eq rfl ?_; refine QA_eq rfl ?_; refine QA_eq rfl ?_
            refine QA_nil ?_
            refine D_yes rfl ?_
            refine OpR_idx T.ok rfl (rs3.mono hfe) (y := n) hgi rfl rfl rfl rfl rfl rfl ?_
            intro b p ys hep hrc
            exact ⟨_, rfl, Fr0.refl _, b, p, rfl, by rw [← show ys = [Value.int .i64 (n)] from hrc]; exact hep⟩
          refine D_cons (D_step2 (js := [(13, 49), (9, 45)]) (by kernel_rfl) fun gd hf => ?_) ?_
          · have hsd := hs.dr.call hf; have hfe := (G.le_dr _).trans hf.le
            refine QA_any fun v13 h13 => ?_; refine QA_eq rfl ?_
            refine QA_nil ?_
            obtain ⟨b, p, rfl, hep⟩ := h13
            refine D_yes rfl ?_
            refine OpR_loadE T.ok 0 rfl hep rfl rfl ?_
            refine ⟨_, rfl, Fr0.refl _, ?_⟩
            exact rfl
          refine D_cons (D_step2 (js := [(14, 50), (9, 45)]) (by kernel_rfl) fun gd hf => ?_) ?_
          · have hsd := hs.dr.call hf; have hfe := (G.le_dr _).trans hf.le
            refine QA_eq rfl ?_; refine QA_eq rfl ?_
            refine QA_nil ?_
            refine D_yes rfl ?_
            refine OpR_pure _ T.ok rfl ?_
            refine ⟨_, rfl, Fr0.refl _, ?_⟩
            exact congrArg Value.bool (decide_eq_false (by omega))
          refine D_cons (D_step2 (js := [(9, 45), (15, 51)]) (by kernel_rfl) fun gd hf => ?_) ?_
          · have hsd := hs.dr.call hf; have hfe := (G.le_dr _).trans hf.le
            refine QA_eq rfl ?_; refine QA_eq rfl ?_
            refine QA_nil ?_
            (refine D_yes rfl ?_; refine OpR_pure _ T.ok rfl ?_; refine ⟨_, rfl, Fr0.refl _, ?_⟩; exact rfl)
          refine D_cons (D_step2 (js := [(16, 52)]) (by kernel_rfl) fun gd hf => ?_) ?_
          · have hsd := hs.dr.call hf; have hfe := (G.le_dr _).trans hf.le
            refine QA_eq rfl ?_
            refine QA_nil ?_
            (refine D_yes rfl ?_; refine OpR_pure _ T.ok rfl ?_; refine ⟨_, rfl, Fr0.refl _, ?_⟩; exact rfl)
          refine D_cons (D_step2 (js := [(17, 53)]) (by kernel_rfl) fun gd hf => ?_) ?_
          · have hsd := hs.dr.call hf; have hfe := (G.le_dr _).trans hf.le
            refine QA_eq rfl ?_
            refine QA_nil ?_
            (refine D_yes rfl ?_; refine OpR_pure _ T.ok rfl ?_; refine ⟨_, rfl, Fr0.refl _, ?_⟩; exact rfl)
          refine D_cons (D_step2 (js := [(18, 54), (17, 53)]) (by kernel_rfl) fun gd hf => ?_) ?_
          · have hsd := hs.dr.call hf; have hfe := (G.le_dr _).trans hf.le
            refine QA_eq rfl ?_; refine QA_eq rfl ?_
            refine QA_nil ?_
            (refine D_yes rfl ?_; refine OpR_loadE T.ok 1 rfl (ep1.mono hfe) rfl rfl ?_; refine ⟨_, rfl, Fr0.refl _, ?_⟩; exact rfl)
          refine D_cons (D_step2 (js := [(17, 53)]) (by kernel_rfl) fun gd hf => ?_) ?_
          · have hsd := hs.dr.call hf; have hfe := (G.le_dr _).trans hf.le
            refine QA_eq rfl ?_
            refine QA_nil ?_
            (refine D_yes rfl ?_; refine OpR_pure _ T.ok rfl ?_; refine ⟨_, rfl, Fr0.refl _, ?_⟩; exact rfl)
          refine D_cons (D_step2 (js := [(19, 55), (20, 56), (17, 53)]) (by kernel_rfl) fun gd hf => ?_) ?_
          · have hsd := hs.dr.call hf; have hfe := (G.le_dr _).trans hf.le
            refine QA_eq rfl ?_; refine QA_eq rfl ?_; refine QA_eq rfl ?_
            refine QA_nil ?_
            refine D_yes rfl ?_
            refine OpR_idx T.ok rfl (rs3.mono hfe) (y := n) hgi rfl rfl rfl rfl rfl rfl ?_
            intro b p ys hep hrc
            exact ⟨_, rfl, Fr0.refl _, b, p, rfl, by rw [← show ys = [Value.int .i64 (n)] from hrc]; exact hep⟩
          refine D_cons (D_step2 (js := [(21, 57), (17, 53)]) (by kernel_rfl) fun gd hf => ?_) ?_
          · have hsd := hs.dr.call hf; have hfe := (G.le_dr _).trans hf.le
            refine QA_any fun v21 h21 => ?_; refine QA_eq rfl ?_
            refine QA_nil ?_
            obtain ⟨b, p, rfl, hep⟩ := h21
            refine D_yes rfl ?_
            refine OpR_loadE T.ok 0 rfl hep rfl rfl ?_
            refine ⟨_, rfl, Fr0.refl _, ?_⟩
            exact rfl
          refine D_cons (D_step2 (js := [(17, 53)]) (by kernel_rfl) fun gd hf => ?_) ?_
          · have hsd := hs.dr.call hf; have hfe := (G.le_dr _).trans hf.le
            refine QA_eq rfl ?_
            refine QA_nil ?_
            (refine D_yes rfl ?_; refine OpR_pure _ T.ok rfl ?_; refine ⟨_, rfl, Fr0.refl _, ?_⟩; exact rfl)
          refine D_cons (D_step2 (js := [(23, 59), (17, 53)]) (by kernel_rfl) fun gd hf => ?_) ?_
          · have hsd := hs.dr.call hf; have hfe := (G.le_dr _).trans hf.le
            refine QA_eq rfl ?_; refine QA_eq rfl ?_
            refine QA_nil ?_
            (refine D_yes rfl ?_; refine OpR_loadE T.ok 2 rfl (ep0.mono hfe) rfl rfl ?_; refine ⟨_, rfl, Fr0.refl _, ?_⟩; exact rfl)
          refine D_cons (D_step2 (js := [(24, 60), (17, 53)]) (by kernel_rfl) fun gd hf => ?_) ?_
          · have hsd := hs.dr.call hf; have hfe := (G.le_dr _).trans hf.le
            refine QA_eq rfl ?_; refine QA_eq rfl ?_
            refine QA_nil ?_
            (refine D_yes rfl ?_; refine OpR_pure _ T.ok rfl ?_; refine ⟨_, rfl, Fr0.refl _, ?_⟩; exact rfl)
          refine D_cons (D_step2 (js := [(22, 58), (25, 61), (17, 53)]) (by kernel_rfl) fun gd hf => ?_) ?_
          · have hsd := hs.dr.call hf; have hfe := (G.le_dr _).trans hf.le
            refine QA_eq rfl ?_; refine QA_eq rfl ?_; refine QA_eq rfl ?_
            refine QA_nil ?_
            refine D_yes rfl ?_
            refine OpR_pure _ T.ok rfl ?_
            refine ⟨_, rfl, Fr0.refl _, ?_⟩
            exact congrArg Value.bool (decide_eq_false (by omega))
          refine D_cons (D_step2 (js := [(17, 53), (26, 62)]) (by kernel_rfl) fun gd hf => ?_) ?_
          · have hsd := hs.dr.call hf; have hfe := (G.le_dr _).trans hf.le
            refine QA_eq rfl ?_; refine QA_eq rfl ?_
            refine QA_nil ?_
            (refine D_yes rfl ?_; refine OpR_pure _ T.ok rfl ?_; refine ⟨_, rfl, Fr0.refl _, ?_⟩; exact rfl)
          refine D_cons (D_step2 (js := [(27, 63)]) (by kernel_rfl) fun gd hf => ?_) ?_
          · have hsd := hs.dr.call hf; have hfe := (G.le_dr _).trans hf.le
            refine QA_eq rfl ?_
            refine QA_nil ?_
            (refine D_yes rfl ?_; refine OpR_pure _ T.ok rfl ?_; refine ⟨_, rfl, Fr0.refl _, ?_⟩; exact rfl)
          refine D_cons (D_step2 (js := [(28, 64)]) (by kernel_rfl) fun gd hf => ?_) ?_
          · have hsd := hs.dr.call hf; have hfe := (G.le_dr _).trans hf.le
            refine QA_eq rfl ?_
            refine QA_nil ?_
            (refine D_yes rfl ?_; refine OpR_pure _ T.ok rfl ?_; refine ⟨_, rfl, Fr0.refl _, ?_⟩; exact rfl)
          refine D_cons (D_step2 (js := [(29, 65), (28, 64)]) (by kernel_rfl) fun gd hf => ?_) ?_
          · have hsd := hs.dr.call hf; have hfe := (G.le_dr _).trans hf.le
            refine QA_eq rfl ?_; refine QA_eq rfl ?_
            refine QA_nil ?_
            refine D_yes rfl ?_
            refine OpR_pure _ T.ok rfl ?_
            refine ⟨_, rfl, Fr0.refl _, ?_⟩
            exact congrArg Value.bool (decide_eq_true (by omega))
          refine D_cons (D_step2 (js := [(30, 66), (28, 64), (28, 64)]) (by kernel_rfl) fun gd hf => ?_) ?_
          · have hsd := hs.dr.call hf; have hfe := (G.le_dr _).trans hf.le
            refine QA_eq rfl ?_; refine QA_eq rfl ?_; refine QA_eq rfl ?_
            refine QA_nil ?_
            (refine D_yes rfl ?_; refine OpR_pure _ T.ok rfl ?_; refine ⟨_, rfl, Fr0.refl _, ?_⟩; exact rfl)
          refine D_cons (D_step2 (js := [(31, 67)]) (by kernel_rfl) fun gd hf => ?_) ?_
          · have hsd := hs.dr.call hf; have hfe := (G.le_dr _).trans hf.le
            refine QA_eq rfl ?_
            refine QA_nil ?_
            (refine D_yes rfl ?_; refine OpR_pure _ T.ok rfl ?_; refine ⟨_, rfl, Fr0.refl _, ?_⟩; exact rfl)
          refine D_cons (D_step2 (js := [(32, 68), (31, 67)]) (by kernel_rfl) fun gd hf => ?_) ?_
          · have hsd := hs.dr.call hf; have hfe := (G.le_dr _).trans hf.le
            refine QA_eq rfl ?_; refine QA_eq rfl ?_
            refine QA_nil ?_
            (refine D_yes rfl ?_; refine OpR_loadE T.ok 1 rfl (ep1.mono hfe) rfl rfl ?_; refine ⟨_, rfl, Fr0.refl _, ?_⟩; exact rfl)
          refine D_cons (D_step2 (js := [(31, 67)]) (by kernel_rfl) fun gd hf => ?_) ?_
          · have hsd := hs.dr.call hf; have hfe := (G.le_dr _).trans hf.le
            refine QA_eq rfl ?_
            refine QA_nil ?_
            (refine D_yes rfl ?_; refine OpR_pure _ T.ok rfl ?_; refine ⟨_, rfl, Fr0.refl _, ?_⟩; exact rfl)
          refine D_cons (D_step2 (js := [(33, 69), (34, 70), (31, 67)]) (by kernel_rfl) fun gd hf => ?_) ?_
          · have hsd := hs.dr.call hf; have hfe := (G.le_dr _).trans hf.le
            refine QA_eq rfl ?_; refine QA_eq rfl ?_; refine QA_eq rfl ?_
            refine QA_nil ?_
            refine D_yes rfl ?_
            refine OpR_idx T.ok rfl (rs3.mono hfe) (y := n) hgi rfl rfl rfl rfl rfl rfl ?_
            intro b p ys hep hrc
            exact ⟨_, rfl, Fr0.refl _, b, p, rfl, by rw [← show ys = [Value.int .i64 (n)] from hrc]; exact hep⟩
          refine D_cons (D_step2 (js := [(35, 71), (31, 67)]) (by kernel_rfl) fun gd hf => ?_) ?_
          · have hsd := hs.dr.call hf; have hfe := (G.le_dr _).trans hf.le
            refine QA_any fun v35 h35 => ?_; refine QA_eq rfl ?_
            refine QA_nil ?_
            obtain ⟨b, p, rfl, hep⟩ := h35
            refine D_yes rfl ?_
            refine OpR_loadE T.ok 0 rfl hep rfl rfl ?_
            refine ⟨_, rfl, Fr0.refl _, ?_⟩
            exact rfl
          refine D_cons (D_step2 (js := [(31, 67)]) (by kernel_rfl) fun gd hf => ?_) ?_
          · have hsd := hs.dr.call hf; have hfe := (G.le_dr _).trans hf.le
            refine QA_eq rfl ?_
            refine QA_nil ?_
            (refine D_yes rfl ?_; refine OpR_pure _ T.ok rfl ?_; refine ⟨_, rfl, Fr0.refl _, ?_⟩; exact rfl)
          refine D_cons (D_step2 (js := [(37, 73), (31, 67)]) (by kernel_rfl) fun gd hf => ?_) ?_
          · have hsd := hs.dr.call hf; have hfe := (G.le_dr _).trans hf.le
            refine QA_eq rfl ?_; refine QA_eq rfl ?_
            refine QA_nil ?_
            (refine D_yes rfl ?_; refine OpR_loadE T.ok 1 rfl (ep1.mono hfe) rfl rfl ?_; refine ⟨_, rfl, Fr0.refl _, ?_⟩; exact rfl)
          refine D_cons (D_step2 (js := [(38, 74), (31, 67)]) (by kernel_rfl) fun gd hf => ?_) ?_
          · have hsd := hs.dr.call hf; have hfe := (G.le_dr _).trans hf.le
            refine QA_eq rfl ?_; refine QA_eq rfl ?_
            refine QA_nil ?_
            refine D_yes rfl ?_
            refine OpR_idx T.ok rfl (rs3.mono hfe) (y := n0) hg0 rfl rfl rfl rfl rfl rfl ?_
            intro b p ys hep hrc
            exact ⟨_, rfl, Fr0.refl _, b, p, rfl, by rw [← show ys = [Value.int .i64 (n0)] from hrc]; exact hep⟩
          refine D_cons (D_step2 (js := [(39, 75), (31, 67)]) (by kernel_rfl) fun gd hf => ?_) ?_
          · have hsd := hs.dr.call hf; have hfe := (G.le_dr _).trans hf.le
            refine QA_any fun v39 h39 => ?_; refine QA_eq rfl ?_
            refine QA_nil ?_
            obtain ⟨b, p, rfl, hep⟩ := h39
            refine D_yes rfl ?_
            refine OpR_loadE T.ok 0 rfl hep rfl rfl ?_
            refine ⟨_, rfl, Fr0.refl _, ?_⟩
            exact rfl
          refine D_cons (D_step2 (js := [(36, 72), (40, 76), (31, 67)]) (by kernel_rfl) fun gd hf => ?_) ?_
          · have hsd := hs.dr.call hf; have hfe := (G.le_dr _).trans hf.le
            refine QA_eq rfl ?_; refine QA_eq rfl ?_; refine QA_eq rfl ?_
            refine QA_nil ?_
            refine D_yes rfl ?_
            refine OpR_pure _ T.ok rfl ?_
            refine ⟨_, rfl, Fr0.refl _, ?_⟩
            exact congrArg Value.bool (decide_eq_false (by omega))
          refine D_cons (D_step2 (js := [(31, 67), (41, 77), (28, 64)]) (by kernel_rfl) fun gd hf => ?_) ?_
          · have hsd := hs.dr.call hf; have hfe := (G.le_dr _).trans hf.le
            refine QA_eq rfl ?_; refine QA_eq rfl ?_; refine QA_eq rfl ?_
            refine QA_nil ?_
            (refine D_yes rfl ?_; refine OpR_pure _ T.ok rfl ?_; refine ⟨_, rfl, Fr0.refl _, ?_⟩; exact rfl)
          refine D_cons (D_step2 (js := [(28, 64), (42, 78)]) (by kernel_rfl) fun gd hf => ?_) ?_
          · have hsd := hs.dr.call hf; have hfe := (G.le_dr _).trans hf.le
            refine QA_eq rfl ?_; refine QA_eq rfl ?_
            refine QA_nil ?_
            (refine D_yes rfl ?_; refine OpR_pure _ T.ok rfl ?_; refine ⟨_, rfl, Fr0.refl _, ?_⟩; exact rfl)
          exact D_nil
        intro g1 hf1; refine QA_eq rfl ?_; refine QA_nil ?_
        replace hs := hs.dr.call hf1; have hqe := (G.le_dr _).trans hf1.le; replace le8 := G.le.trans le8 hqe; replace ep0 := ep0.mono hqe; replace ep1 := ep1.mono hqe; replace rs1 := rs1.mono hqe; replace rs3 := rs3.mono hqe; replace fl0 := fl0.mono hqe
        refine WL_nil ?_; (with_reducible refine T_then ?_)
        refine W_no rfl rfl ?_
        refine W_skip ?_; (with_reducible refine T_bn ?_); (with_reducible refine T_then ?_); refine W_region ?_; (iterate 3 refine P1 T.ok rfl rfl rfl ?_); refine WL_nil ?_
        exact fun a ha => ⟨l.length - (i + 1), by omega, i + 1, _, rfl, hs, le8, by omega, rfl, ha.keep ⟨rfl, rfl, rfl, kI rfl (by rw [wr (by omega) (by omega)]; omega), trivial⟩⟩
    · refine W_no (b := decide ((i : Int) < (l.length : Int))) (decide_eq_false (by omega)) rfl ?_
      refine W_exit ?_; (with_reducible refine T_tx ?_; with_reducible refine T_tx ?_); (with_reducible refine T_bx ?_); (with_reducible refine T_then ?_); refine W_seq ?_; refine W_seq ?_; refine W_region ?_; refine P1 T.ok rfl rfl rfl ?_; refine WL_o rfl rfl (OpR_loadE T.ok 0 rfl ep1 rfl rfl ?_); refine P1 T.ok rfl rfl rfl ?_; refine WL_nil ?_; (with_reducible refine T_then ?_)
      rcases hcase with ⟨rfl, n, rfl, h2, h3⟩ | ⟨rfl, n, h2, h3, h4⟩
      · refine W_yes rfl rfl ?_
        refine W_seq ?_
        apply W_draw allF rfl (Fact.eq _ :: Fact.eq _ :: Fact.eq _ :: (intPtr n) :: Fact.eq _ :: (Fact.rs (reach f n)) :: (Fact.rs (reach f n)) :: []) 7 [(6, 7)] rfl rfl
        · refine D_cons (D_step2 (js := []) (by kernel_rfl) fun gd hf => ?_) ?_
          · have hsd := hs.dr.call hf; have hfe := (G.le_dr _).trans hf.le
            refine QA_nil ?_
            (refine D_yes rfl ?_; refine OpR_loadE T.ok 0 rfl (ep0.mono hfe) rfl rfl ?_; refine ⟨_, rfl, Fr0.refl _, ?_⟩; exact rfl)
          refine D_cons (D_step2 (js := []) (by kernel_rfl) fun gd hf => ?_) ?_
          · have hsd := hs.dr.call hf; have hfe := (G.le_dr _).trans hf.le
            refine QA_nil ?_
            (refine D_yes rfl ?_; refine OpR_pure _ T.ok rfl ?_; refine ⟨_, rfl, Fr0.refl _, ?_⟩; exact rfl)
          refine D_cons (D_step2 (js := [(1, 84)]) (by kernel_rfl) fun gd hf => ?_) ?_
          · have hsd := hs.dr.call hf; have hfe := (G.le_dr _).trans hf.le
            refine QA_eq rfl ?_
            refine QA_nil ?_
            (refine D_yes rfl ?_; refine OpR_loadE T.ok 1 rfl (ep1.mono hfe) rfl rfl ?_; refine ⟨_, rfl, Fr0.refl _, ?_⟩; exact rfl)
          refine D_cons (D_step2 (js := [(2, 85)]) (by kernel_rfl) fun gd hf => ?_) ?_
          · have hsd := hs.dr.call hf; have hfe := (G.le_dr _).trans hf.le
            refine QA_eq rfl ?_
            refine QA_nil ?_
            refine D_yes rfl ?_
            refine OpR_idx T.ok rfl (rs3.mono hfe) (y := n) rfl rfl rfl rfl rfl rfl rfl ?_
            intro b p ys hep hrc
            exact ⟨_, rfl, Fr0.refl _, b, p, rfl, by rw [← show ys = [Value.int .i64 (n)] from hrc]; exact hep⟩
          refine D_cons (D_step2 (js := [(3, 86)]) (by kernel_rfl) fun gd hf => ?_) ?_
          · have hsd := hs.dr.call hf; have hfe := (G.le_dr _).trans hf.le
            refine QA_any fun v3 h3 => ?_
            refine QA_nil ?_
            obtain ⟨b, p, rfl, hep⟩ := h3
            refine D_yes rfl ?_
            refine OpR_loadE T.ok 0 rfl hep rfl rfl ?_
            refine ⟨_, rfl, Fr0.refl _, ?_⟩
            exact rfl
          refine D_cons (D_step2 (js := [(0, 83), (4, 87)]) (by kernel_rfl) fun gd hf => ?_) ?_
          · have hsd := hs.dr.call hf; have hfe := (G.le_dr _).trans hf.le
            refine QA_eq rfl ?_; refine QA_eq rfl ?_
            refine QA_nil ?_
            refine D_yes rfl ?_
            refine OpR_ret cl29 allF rfl rfl rfl rfl rfl (reach_c _ f n _ (fl0.mono hfe)) fun g' v h1 h2 => ?_
            obtain ⟨g2, e1, e2, e3, e4⟩ := (St.start gd).ownRs h1 h2
            exact ⟨g2, e1, e2.fr0, e4⟩
          refine D_cons (D_step2 (js := [(5, 88), (5, 88), (5, 88)]) (by kernel_rfl) fun gd hf => ?_) ?_
          · have hsd := hs.dr.call hf; have hfe := (G.le_dr _).trans hf.le
            refine QA_any fun v5 h5 => ?_; refine QA_any fun v5 h5 => ?_; refine QA_any fun v5 h5 => ?_
            refine QA_nil ?_
            refine D_yes rfl ?_
            refine OpR_pure _ T.ok rfl ?_
            exact ⟨_, rfl, Fr0.refl _, h5⟩
          exact D_nil
        intro g1 hf1; refine QA_any fun v6 h6 => ?_; refine QA_nil ?_
        replace hs := hs.dr.call hf1; have hqe := (G.le_dr _).trans hf1.le; replace le8 := G.le.trans le8 hqe; replace ep0 := ep0.mono hqe; replace ep1 := ep1.mono hqe; replace rs1 := rs1.mono hqe; replace rs3 := rs3.mono hqe; replace fl0 := fl0.mono hqe
        have rs4 : Rs g1 v6 (reach f n) := h6
        clear h6
        obtain ⟨ar, cr, rfl⟩ := rs4.isSlice
        have hrl := reach_len f n
        generalize hre : reach f n = r at *
        refine WL_nil ?_; (with_reducible refine T_then ?_); refine W_seq ?_; refine W_seq ?_; refine W_region ?_; refine P1 T.ok rfl rfl rfl ?_; refine WL_nil ?_; (with_reducible refine T_then ?_); refine W_block ?_
        have ep0d := ep0; have ep1d := ep1; have rs1d := rs1; have rs4d := rs4; have le9 := G.le.refl g1
        refine W_loop (fun m a' w => ∃ (j : Nat) (g4 : G), w = g4.w ∧ St g g4 [] ∧ G.le g1 g4 ∧ j ≤ r.length ∧ m = r.length - j ∧
            Fr 177 [] [(3, .bool true), (4, .pointer (some ⟨bf, 0, none⟩)), (5, .pointer (some ⟨bp, 0, none⟩)), (7, .slice ar r.length cr), (8, .int .i64 j)] a') r.length
          (fun a' ha => ⟨0, g1, rfl, hs, le9, Nat.zero_le _, rfl, ha.keep (by (repeat (first | exact trivial | refine ⟨rfl, ?_⟩)))⟩) ?_
        clear hs le8 le9 fl0 ep0 ep1 rs1 rs3 rs4
        rintro m a' _ ⟨j, g4, rfl, hs, le9, hj, rfl, ha'⟩
        have ep0 := ep0d.mono le9; have ep1 := ep1d.mono le9; have rs1 := rs1d.mono le9; have rs4 := rs4d.mono le9
        revert a'
        (with_reducible refine T_wp ?_); refine W_seq ?_; refine W_seq ?_; refine W_region ?_; (iterate 4 refine P1 T.ok rfl rfl rfl ?_); refine WL_nil ?_; (with_reducible refine T_then ?_)
        by_cases hlj : j < r.length
        · refine W_yes (b := decide ((j : Int) < (r.length : Int))) (decide_eq_true (by omega)) rfl ?_
          have hgi := geti_of (xs := r) (n := (j : Int)) rfl hlj
          obtain ⟨hnr, hen⟩ := h3 _ (List.getElem_mem hlj)
          generalize r[j] = q at *
          have hn0 := hnr.1; have hn1 := hnr.2
          refine W_skip ?_; (with_reducible refine T_then ?_); refine W_seq ?_; refine W_block ?_; refine W_seq ?_
          apply W_draw allF rfl (Fact.eq _ :: Fact.eq _ :: (intPtr q) :: Fact.eq _ :: Fact.eq _ :: Fact.eq _ :: Fact.eq _ :: Fact.eq _ :: (intPtr q) :: Fact.eq _ :: Fact.eq _ :: Fact.eq _ :: Fact.eq _ :: Fact.eq _ :: Fact.eq _ :: Fact.eq _ :: Fact.eq _ :: Fact.eq _ :: Fact.eq _ :: Fact.eq _ :: (intPtr q) :: Fact.eq _ :: (stepPtr 0 (stepD f q)) :: (stepPtr 4 (stepD f q)) :: (Fact.rs (stepD f q).next) :: Fact.eq _ :: Fact.eq _ :: Fact.eq _ :: []) 28 [(27, 122)] rfl rfl
          · refine D_cons (D_step2 (js := []) (by kernel_rfl) fun gd hf => ?_) ?_
            · have hsd := hs.dr.call hf; have hfe := (G.le_dr _).trans hf.le
              refine QA_nil ?_
              (refine D_yes rfl ?_; refine OpR_pure _ T.ok rfl ?_; refine ⟨_, rfl, Fr0.refl _, ?_⟩; exact rfl)
            refine D_cons (D_step2 (js := []) (by kernel_rfl) fun gd hf => ?_) ?_
            · have hsd := hs.dr.call hf; have hfe := (G.le_dr _).trans hf.le
              refine QA_nil ?_
              (refine D_yes rfl ?_; refine OpR_pure _ T.ok rfl ?_; refine ⟨_, rfl, Fr0.refl _, ?_⟩; exact rfl)
            refine D_cons (D_step2 (js := [(0, 95), (1, 96)]) (by kernel_rfl) fun gd hf => ?_) ?_
            · have hsd := hs.dr.call hf; have hfe := (G.le_dr _).trans hf.le
              refine QA_eq rfl ?_; refine QA_eq rfl ?_
              refine QA_nil ?_
              refine D_yes rfl ?_
              refine OpR_idx T.ok rfl (rs4.mono hfe) (y := q) hgi rfl rfl rfl rfl rfl rfl ?_
              intro b p ys hep hrc
              exact ⟨_, rfl, Fr0.refl _, b, p, rfl, by rw [← show ys = [Value.int .i64 (q)] from hrc]; exact hep⟩
            refine D_cons (D_step2 (js := [(2, 97)]) (by kernel_rfl) fun gd hf => ?_) ?_
            · have hsd := hs.dr.call hf; have hfe := (G.le_dr _).trans hf.le
              refine QA_any fun v2 h2 => ?_
              refine QA_nil ?_
              obtain ⟨b, p, rfl, hep⟩ := h2
              refine D_yes rfl ?_
              refine OpR_loadE T.ok 0 rfl hep rfl rfl ?_
              refine ⟨_, rfl, Fr0.refl _, ?_⟩
              exact rfl
            refine D_cons (D_step2 (js := [(3, 98)]) (by kernel_rfl) fun gd hf => ?_) ?_
            · have hsd := hs.dr.call hf; have hfe := (G.le_dr _).trans hf.le
              refine QA_eq rfl ?_
              refine QA_nil ?_
              refine D_yes rfl ?_
              refine OpR_pure _ T.ok rfl ?_
              refine ⟨_, rfl, Fr0.refl _, ?_⟩
              exact congrArg Value.bool (decide_eq_false (by omega))
            refine D_cons (D_step2 (js := [(4, 99)]) (by kernel_rfl) fun gd hf => ?_) ?_
            · have hsd := hs.dr.call hf; have hfe := (G.le_dr _).trans hf.le
              refine QA_eq rfl ?_
              refine QA_nil ?_
              (refine D_yes rfl ?_; refine OpR_pure _ T.ok rfl ?_; refine ⟨_, rfl, Fr0.refl _, ?_⟩; exact rfl)
            refine D_cons (D_step2 (js := [(5, 100)]) (by kernel_rfl) fun gd hf => ?_) ?_
            · have hsd := hs.dr.call hf; have hfe := (G.le_dr _).trans hf.le
              refine QA_eq rfl ?_
              refine QA_nil ?_
              (refine D_yes rfl ?_; refine OpR_pure _ T.ok rfl ?_; refine ⟨_, rfl, Fr0.refl _, ?_⟩; exact rfl)
            refine D_cons (D_step2 (js := [(5, 100)]) (by kernel_rfl) fun gd hf => ?_) ?_
            · have hsd := hs.dr.call hf; have hfe := (G.le_dr _).trans hf.le
              refine QA_eq rfl ?_
              refine QA_nil ?_
              (refine D_yes rfl ?_; refine OpR_pure _ T.ok rfl ?_; refine ⟨_, rfl, Fr0.refl _, ?_⟩; exact rfl)
            refine D_cons (D_step2 (js := [(6, 101), (7, 102), (5, 100)]) (by kernel_rfl) fun gd hf => ?_) ?_
            · have hsd := hs.dr.call hf; have hfe := (G.le_dr _).trans hf.le
              refine QA_eq rfl ?_; refine QA_eq rfl ?_; refine QA_eq rfl ?_
              refine QA_nil ?_
              refine D_yes rfl ?_
              refine OpR_idx T.ok rfl (rs4.mono hfe) (y := q) hgi rfl rfl rfl rfl rfl rfl ?_
              intro b p ys hep hrc
              exact ⟨_, rfl, Fr0.refl _, b, p, rfl, by rw [← show ys = [Value.int .i64 (q)] from hrc]; exact hep⟩
            refine D_cons (D_step2 (js := [(8, 103), (5, 100)]) (by kernel_rfl) fun gd hf => ?_) ?_
            · have hsd := hs.dr.call hf; have hfe := (G.le_dr _).trans hf.le
              refine QA_any fun v8 h8 => ?_; refine QA_eq rfl ?_
              refine QA_nil ?_
              obtain ⟨b, p, rfl, hep⟩ := h8
              refine D_yes rfl ?_
              refine OpR_loadE T.ok 0 rfl hep rfl rfl ?_
              refine ⟨_, rfl, Fr0.refl _, ?_⟩
              exact rfl
            refine D_cons (D_step2 (js := [(5, 100)]) (by kernel_rfl) fun gd hf => ?_) ?_
            · have hsd := hs.dr.call hf; have hfe := (G.le_dr _).trans hf.le
              refine QA_eq rfl ?_
              refine QA_nil ?_
              (refine D_yes rfl ?_; refine OpR_pure _ T.ok rfl ?_; refine ⟨_, rfl, Fr0.refl _, ?_⟩; exact rfl)
            refine D_cons (D_step2 (js := [(10, 105), (5, 100)]) (by kernel_rfl) fun gd hf => ?_) ?_
            · have hsd := hs.dr.call hf; have hfe := (G.le_dr _).trans hf.le
              refine QA_eq rfl ?_; refine QA_eq rfl ?_
              refine QA_nil ?_
              (refine D_yes rfl ?_; refine OpR_loadE T.ok 2 rfl (ep0.mono hfe) rfl rfl ?_; refine ⟨_, rfl, Fr0.refl _, ?_⟩; exact rfl)
            refine D_cons (D_step2 (js := [(11, 106), (5, 100)]) (by kernel_rfl) fun gd hf => ?_) ?_
            · have hsd := hs.dr.call hf; have hfe := (G.le_dr _).trans hf.le
              refine QA_eq rfl ?_; refine QA_eq rfl ?_
              refine QA_nil ?_
              (refine D_yes rfl ?_; refine OpR_pure _ T.ok rfl ?_; refine ⟨_, rfl, Fr0.refl _, ?_⟩; exact rfl)
            refine D_cons (D_step2 (js := [(9, 104), (12, 107), (5, 100)]) (by kernel_rfl) fun gd hf => ?_) ?_
            · have hsd := hs.dr.call hf; have hfe := (G.le_dr _).trans hf.le
              refine QA_eq rfl ?_; refine QA_eq rfl ?_; refine QA_eq rfl ?_
              refine QA_nil ?_
              refine D_yes rfl ?_
              refine OpR_pure _ T.ok rfl ?_
              refine ⟨_, rfl, Fr0.refl _, ?_⟩
              exact congrArg Value.bool (decide_eq_false (by omega))
            refine D_cons (D_step2 (js := [(5, 100), (13, 108)]) (by kernel_rfl) fun gd hf => ?_) ?_
            · have hsd := hs.dr.call hf; have hfe := (G.le_dr _).trans hf.le
              refine QA_eq rfl ?_; refine QA_eq rfl ?_
              refine QA_nil ?_
              (refine D_yes rfl ?_; refine OpR_pure _ T.ok rfl ?_; refine ⟨_, rfl, Fr0.refl _, ?_⟩; exact rfl)
            refine D_cons (D_step2 (js := [(14, 109)]) (by kernel_rfl) fun gd hf => ?_) ?_
            · have hsd := hs.dr.call hf; have hfe := (G.le_dr _).trans hf.le
              refine QA_eq rfl ?_
              refine QA_nil ?_
              (refine D_yes rfl ?_; refine OpR_pure _ T.ok rfl ?_; refine ⟨_, rfl, Fr0.refl _, ?_⟩; exact rfl)
            refine D_cons (D_step2 (js := [(15, 110)]) (by kernel_rfl) fun gd hf => ?_) ?_
            · have hsd := hs.dr.call hf; have hfe := (G.le_dr _).trans hf.le
              refine QA_eq rfl ?_
              refine QA_nil ?_
              (refine D_yes rfl ?_; refine OpR_pure _ T.ok rfl ?_; refine ⟨_, rfl, Fr0.refl _, ?_⟩; exact rfl)
            refine D_cons (D_step2 (js := [(16, 111), (15, 110)]) (by kernel_rfl) fun gd hf => ?_) ?_
            · have hsd := hs.dr.call hf; have hfe := (G.le_dr _).trans hf.le
              refine QA_eq rfl ?_; refine QA_eq rfl ?_
              refine QA_nil ?_
              (refine D_yes rfl ?_; refine OpR_loadE T.ok 2 rfl (ep0.mono hfe) rfl rfl ?_; refine ⟨_, rfl, Fr0.refl _, ?_⟩; exact rfl)
            refine D_cons (D_step2 (js := [(15, 110)]) (by kernel_rfl) fun gd hf => ?_) ?_
            · have hsd := hs.dr.call hf; have hfe := (G.le_dr _).trans hf.le
              refine QA_eq rfl ?_
              refine QA_nil ?_
              (refine D_yes rfl ?_; refine OpR_pure _ T.ok rfl ?_; refine ⟨_, rfl, Fr0.refl _, ?_⟩; exact rfl)
            refine D_cons (D_step2 (js := [(15, 110)]) (by kernel_rfl) fun gd hf => ?_) ?_
            · have hsd := hs.dr.call hf; have hfe := (G.le_dr _).trans hf.le
              refine QA_eq rfl ?_
              refine QA_nil ?_
              (refine D_yes rfl ?_; refine OpR_pure _ T.ok rfl ?_; refine ⟨_, rfl, Fr0.refl _, ?_⟩; exact rfl)
            refine D_cons (D_step2 (js := [(18, 113), (19, 114), (15, 110)]) (by kernel_rfl) fun gd hf => ?_) ?_
            · have hsd := hs.dr.call hf; have hfe := (G.le_dr _).trans hf.le
              refine QA_eq rfl ?_; refine QA_eq rfl ?_; refine QA_eq rfl ?_
              refine QA_nil ?_
              refine D_yes rfl ?_
              refine OpR_idx T.ok rfl (rs4.mono hfe) (y := q) hgi rfl rfl rfl rfl rfl rfl ?_
              intro b p ys hep hrc
              exact ⟨_, rfl, Fr0.refl _, b, p, rfl, by rw [← show ys = [Value.int .i64 (q)] from hrc]; exact hep⟩
            refine D_cons (D_step2 (js := [(20, 115), (15, 110)]) (by kernel_rfl) fun gd hf => ?_) ?_
            · have hsd := hs.dr.call hf; have hfe := (G.le_dr _).trans hf.le
              refine QA_any fun v20 h20 => ?_; refine QA_eq rfl ?_
              refine QA_nil ?_
              obtain ⟨b, p, rfl, hep⟩ := h20
              refine D_yes rfl ?_
              refine OpR_loadE T.ok 0 rfl hep rfl rfl ?_
              refine ⟨_, rfl, Fr0.refl _, ?_⟩
              exact rfl
            refine D_cons (D_step2 (js := [(17, 112), (21, 116), (15, 110)]) (by kernel_rfl) fun gd hf => ?_) ?_
            · have hsd := hs.dr.call hf; have hfe := (G.le_dr _).trans hf.le
              refine QA_eq rfl ?_; refine QA_eq rfl ?_; refine QA_eq rfl ?_
              refine QA_nil ?_
              refine D_yes rfl ?_
              refine OpR_idx T.ok rfl (rs1.mono hfe) (y := stepD f q) (step_geti hnr) rfl rfl rfl rfl rfl rfl ?_
              intro b p ys hep hrc
              exact ⟨_, rfl, Fr0.refl _, b, p, ys, rfl, hep, hrc⟩
            refine D_cons (D_step2 (js := [(22, 117), (15, 110)]) (by kernel_rfl) fun gd hf => ?_) ?_
            · have hsd := hs.dr.call hf; have hfe := (G.le_dr _).trans hf.le
              refine QA_any fun v22 h22 => ?_; refine QA_eq rfl ?_
              refine QA_nil ?_
              obtain ⟨b, p, ys, rfl, hep, hrc⟩ := h22
              refine D_yes rfl ?_
              refine OpR_pure _ T.ok rfl ?_
              exact ⟨_, rfl, Fr0.refl _, b, p, ys, rfl, hep, hrc⟩
            refine D_cons (D_step2 (js := [(23, 118), (15, 110)]) (by kernel_rfl) fun gd hf => ?_) ?_
            · have hsd := hs.dr.call hf; have hfe := (G.le_dr _).trans hf.le
              refine QA_any fun v23 h23 => ?_; refine QA_eq rfl ?_
              refine QA_nil ?_
              obtain ⟨b, p, ys, rfl, hep, hrc⟩ := h23
              obtain ⟨b1, b2, b3, b4, b5, b6, rfl, hx1, hx2⟩ := hrc
              refine D_yes rfl ?_
              refine OpR_loadE T.ok 4 rfl hep rfl rfl ?_
              exact ⟨_, rfl, Fr0.refl _, hx2⟩
            refine D_cons (D_step2 (js := [(24, 119), (15, 110)]) (by kernel_rfl) fun gd hf => ?_) ?_
            · have hsd := hs.dr.call hf; have hfe := (G.le_dr _).trans hf.le
              refine QA_any fun v24 h24 => ?_; refine QA_eq rfl ?_
              refine QA_nil ?_
              obtain ⟨a5, c5, rfl⟩ := Rs.isSlice h24
              refine D_yes rfl ?_
              refine OpR_pure _ T.ok rfl ?_
              refine ⟨_, rfl, Fr0.refl _, ?_⟩
              exact rfl
            refine D_cons (D_step2 (js := [(25, 120), (15, 110)]) (by kernel_rfl) fun gd hf => ?_) ?_
            · have hsd := hs.dr.call hf; have hfe := (G.le_dr _).trans hf.le
              refine QA_eq rfl ?_; refine QA_eq rfl ?_
              refine QA_nil ?_
              refine D_yes rfl ?_
              refine OpR_pure _ T.ok rfl ?_
              refine ⟨_, rfl, Fr0.refl _, ?_⟩
              exact congrArg Value.bool (show _ = false from hen)
            refine D_cons (D_step2 (js := [(15, 110), (26, 121)]) (by kernel_rfl) fun gd hf => ?_) ?_
            · have hsd := hs.dr.call hf; have hfe := (G.le_dr _).trans hf.le
              refine QA_eq rfl ?_; refine QA_eq rfl ?_
              refine QA_nil ?_
              (refine D_yes rfl ?_; refine OpR_pure _ T.ok rfl ?_; refine ⟨_, rfl, Fr0.refl _, ?_⟩; exact rfl)
            exact D_nil
          intro g1 hf1; refine QA_eq rfl ?_; refine QA_nil ?_
          replace hs := hs.dr.call hf1; have hqe := (G.le_dr _).trans hf1.le; replace le9 := G.le.trans le9 hqe; replace ep0 := ep0.mono hqe; replace ep1 := ep1.mono hqe; replace rs1 := rs1.mono hqe; replace rs4 := rs4.mono hqe
          refine WL_nil ?_; (with_reducible refine T_then ?_)
          refine W_no rfl rfl ?_
          refine W_skip ?_; (with_reducible refine T_bn ?_); (with_reducible refine T_then ?_); refine W_region ?_; (iterate 3 refine P1 T.ok rfl rfl rfl ?_); refine WL_nil ?_
          exact fun a ha => ⟨r.length - (j + 1), by omega, j + 1, _, rfl, hs, le9, by omega, rfl, ha.keep ⟨rfl, rfl, rfl, rfl, kI rfl (by rw [wr (by omega) (by omega)]; omega), trivial⟩⟩
        · refine W_no (b := decide ((j : Int) < (r.length : Int))) (decide_eq_false (by omega)) rfl ?_
          refine W_exit ?_; (with_reducible refine T_tx ?_; with_reducible refine T_tx ?_); (with_reducible refine T_bx ?_); (with_reducible refine T_then ?_); refine W_seq ?_; refine W_region ?_; (iterate 3 refine P1 T.ok rfl rfl rfl ?_); refine WL_o rfl rfl (OpR_loadE T.ok 1 rfl ep1 rfl rfl ?_); (iterate 4 refine P1 T.ok rfl rfl rfl ?_); refine WL_nil ?_; (with_reducible refine T_then ?_)
          exact W_ret (ret1 rfl rfl (hs.ret rfl))
      · refine W_no rfl rfl ?_
        refine W_skip ?_; (with_reducible refine T_then ?_); refine W_seq ?_; refine W_seq ?_; refine W_region ?_; refine P1 T.ok rfl rfl rfl ?_; refine WL_nil ?_; (with_reducible refine T_then ?_); refine W_block ?_
        have fl0d := fl0; have ep0d := ep0; have ep1d := ep1; have rs1d := rs1; have rs3d := rs3; have le9 := G.le.refl g3
        refine W_loop (fun m a' w => ∃ (j : Nat) (g4 : G), w = g4.w ∧ St g g4 [] ∧ G.le g3 g4 ∧ j ≤ l.length ∧ m = l.length - j ∧
            Fr 177 [] [(3, .bool true), (4, .pointer (some ⟨bf, 0, none⟩)), (5, .pointer (some ⟨bp, 0, none⟩)), (9, .int .i64 j)] a') l.length
          (fun a' ha => ⟨0, g3, rfl, hs, le9, Nat.zero_le _, rfl, ha.keep (by (repeat (first | exact trivial | refine ⟨rfl, ?_⟩)))⟩) ?_
        clear hs le8 le9 fl0 ep0 ep1 rs1 rs3
        rintro m a' _ ⟨j, g4, rfl, hs, le9, hj, rfl, ha'⟩
        have fl0 := fl0d.mono le9; have ep0 := ep0d.mono le9; have ep1 := ep1d.mono le9; have rs1 := rs1d.mono le9; have rs3 := rs3d.mono le9
        revert a'
        (with_reducible refine T_wp ?_); refine W_seq ?_; refine W_seq ?_; refine W_region ?_; refine P1 T.ok rfl rfl rfl ?_; refine P1 T.ok rfl rfl rfl ?_; refine WL_o rfl rfl (OpR_loadE T.ok 1 rfl ep1 rfl rfl ?_); refine P1 T.ok rfl rfl rfl ?_; refine P1 T.ok rfl rfl rfl ?_; refine WL_nil ?_; (with_reducible refine T_then ?_)
        by_cases hlj : j < l.length
        · refine W_yes (b := decide ((j : Int) < (l.length : Int))) (decide_eq_true (by omega)) rfl ?_
          have hgi := geti_of (xs := l) (n := (j : Int)) rfl hlj
          have hnr := mem_reach_inR (hget j hlj).1
          obtain ⟨hc1, hc2⟩ := pth_cyc h3 h4 j hlj
          have hmt : (((j : Nat) : Int) + 1).tmod (l.length : Int) = (((j + 1) % l.length : Nat) : Int) := by
            rw [Int.ofNat_tmod]; rfl
          have hgn := geti_of (xs := l) (n := ((((j + 1) % l.length : Nat)) : Int)) rfl (Nat.mod_lt _ hlp)
          have hcut : Rs g4 (.slice (if pc = 0 then pa else pa.map (·.add (0 * 1))) (j - 0) (pc - 0)) ((l.take j).drop 0) := rs3.cut (a := 0) (b := j) (by omega) (by omega)
          have hlc : l.length ≤ pc := by obtain ⟨_, _, _, e, h1, ⟨h2, _⟩, _⟩ := id rs3; cases e; exact h2
          generalize l[j] = q at *
          generalize l[(j + 1) % l.length]'(Nat.mod_lt _ (by omega)) = q2 at *
          have hn0 := hnr.1; have hn1 := hnr.2
          refine W_skip ?_; (with_reducible refine T_then ?_); refine W_seq ?_; refine W_block ?_; refine W_seq ?_
          apply W_draw allF rfl (Fact.eq _ :: Fact.eq _ :: Fact.eq _ :: Fact.eq _ :: Fact.eq _ :: (intPtr q) :: Fact.eq _ :: (stepPtr 0 (stepD f q)) :: (stepPtr 4 (stepD f q)) :: (Fact.rs (stepD f q).next) :: Fact.eq _ :: Fact.eq _ :: Fact.eq _ :: Fact.eq _ :: Fact.eq _ :: Fact.eq _ :: Fact.eq _ :: Fact.eq _ :: (intPtr q2) :: Fact.eq _ :: Fact.eq _ :: Fact.eq _ :: Fact.eq _ :: Fact.eq _ :: Fact.eq _ :: Fact.eq _ :: (Fact.rs (l.take j)) :: Fact.eq _ :: Fact.eq _ :: Fact.eq _ :: (intPtr q) :: Fact.eq _ :: Fact.eq _ :: Fact.eq _ :: []) 34 [(33, 170)] rfl rfl
          · refine D_cons (D_step2 (js := []) (by kernel_rfl) fun gd hf => ?_) ?_
            · have hsd := hs.dr.call hf; have hfe := (G.le_dr _).trans hf.le
              refine QA_nil ?_
              (refine D_yes rfl ?_; refine OpR_pure _ T.ok rfl ?_; refine ⟨_, rfl, Fr0.refl _, ?_⟩; exact rfl)
            refine D_cons (D_step2 (js := [(0, 137)]) (by kernel_rfl) fun gd hf => ?_) ?_
            · have hsd := hs.dr.call hf; have hfe := (G.le_dr _).trans hf.le
              refine QA_eq rfl ?_
              refine QA_nil ?_
              (refine D_yes rfl ?_; refine OpR_loadE T.ok 2 rfl (ep0.mono hfe) rfl rfl ?_; refine ⟨_, rfl, Fr0.refl _, ?_⟩; exact rfl)
            refine D_cons (D_step2 (js := []) (by kernel_rfl) fun gd hf => ?_) ?_
            · have hsd := hs.dr.call hf; have hfe := (G.le_dr _).trans hf.le
              refine QA_nil ?_
              (refine D_yes rfl ?_; refine OpR_pure _ T.ok rfl ?_; refine ⟨_, rfl, Fr0.refl _, ?_⟩; exact rfl)
            refine D_cons (D_step2 (js := [(2, 139)]) (by kernel_rfl) fun gd hf => ?_) ?_
            · have hsd := hs.dr.call hf; have hfe := (G.le_dr _).trans hf.le
              refine QA_eq rfl ?_
              refine QA_nil ?_
              (refine D_yes rfl ?_; refine OpR_loadE T.ok 1 rfl (ep1.mono hfe) rfl rfl ?_; refine ⟨_, rfl, Fr0.refl _, ?_⟩; exact rfl)
            refine D_cons (D_step2 (js := []) (by kernel_rfl) fun gd hf => ?_) ?_
            · have hsd := hs.dr.call hf; have hfe := (G.le_dr _).trans hf.le
              refine QA_nil ?_
              (refine D_yes rfl ?_; refine OpR_pure _ T.ok rfl ?_; refine ⟨_, rfl, Fr0.refl _, ?_⟩; exact rfl)
            refine D_cons (D_step2 (js := [(3, 140), (4, 141)]) (by kernel_rfl) fun gd hf => ?_) ?_
            · have hsd := hs.dr.call hf; have hfe := (G.le_dr _).trans hf.le
              refine QA_eq rfl ?_; refine QA_eq rfl ?_
              refine QA_nil ?_
              refine D_yes rfl ?_
              refine OpR_idx T.ok rfl (rs3.mono hfe) (y := q) hgi rfl rfl rfl rfl rfl rfl ?_
              intro b p ys hep hrc
              exact ⟨_, rfl, Fr0.refl _, b, p, rfl, by rw [← show ys = [Value.int .i64 (q)] from hrc]; exact hep⟩
            refine D_cons (D_step2 (js := [(5, 142)]) (by kernel_rfl) fun gd hf => ?_) ?_
            · have hsd := hs.dr.call hf; have hfe := (G.le_dr _).trans hf.le
              refine QA_any fun v5 h5 => ?_
              refine QA_nil ?_
              obtain ⟨b, p, rfl, hep⟩ := h5
              refine D_yes rfl ?_
              refine OpR_loadE T.ok 0 rfl hep rfl rfl ?_
              refine ⟨_, rfl, Fr0.refl _, ?_⟩
              exact rfl
            refine D_cons (D_step2 (js := [(1, 138), (6, 143)]) (by kernel_rfl) fun gd hf => ?_) ?_
            · have hsd := hs.dr.call hf; have hfe := (G.le_dr _).trans hf.le
              refine QA_eq rfl ?_; refine QA_eq rfl ?_
              refine QA_nil ?_
              refine D_yes rfl ?_
              refine OpR_idx T.ok rfl (rs1.mono hfe) (y := stepD f q) (step_geti hnr) rfl rfl rfl rfl rfl rfl ?_
              intro b p ys hep hrc
              exact ⟨_, rfl, Fr0.refl _, b, p, ys, rfl, hep, hrc⟩
            refine D_cons (D_step2 (js := [(7, 144)]) (by kernel_rfl) fun gd hf => ?_) ?_
            · have hsd := hs.dr.call hf; have hfe := (G.le_dr _).trans hf.le
              refine QA_any fun v7 h7 => ?_
              refine QA_nil ?_
              obtain ⟨b, p, ys, rfl, hep, hrc⟩ := h7
              refine D_yes rfl ?_
              refine OpR_pure _ T.ok rfl ?_
              exact ⟨_, rfl, Fr0.refl _, b, p, ys, rfl, hep, hrc⟩
            refine D_cons (D_step2 (js := [(8, 145)]) (by kernel_rfl) fun gd hf => ?_) ?_
            · have hsd := hs.dr.call hf; have hfe := (G.le_dr _).trans hf.le
              refine QA_any fun v8 h8 => ?_
              refine QA_nil ?_
              obtain ⟨b, p, ys, rfl, hep, hrc⟩ := h8
              obtain ⟨b1, b2, b3, b4, b5, b6, rfl, hx1, hx2⟩ := hrc
              refine D_yes rfl ?_
              refine OpR_loadE T.ok 4 rfl hep rfl rfl ?_
              exact ⟨_, rfl, Fr0.refl _, hx2⟩
            refine D_cons (D_step2 (js := []) (by kernel_rfl) fun gd hf => ?_) ?_
            · have hsd := hs.dr.call hf; have hfe := (G.le_dr _).trans hf.le
              refine QA_nil ?_
              (refine D_yes rfl ?_; refine OpR_pure _ T.ok rfl ?_; refine ⟨_, rfl, Fr0.refl _, ?_⟩; exact rfl)
            refine D_cons (D_step2 (js := [(10, 147)]) (by kernel_rfl) fun gd hf => ?_) ?_
            · have hsd := hs.dr.call hf; have hfe := (G.le_dr _).trans hf.le
              refine QA_eq rfl ?_
              refine QA_nil ?_
              (refine D_yes rfl ?_; refine OpR_loadE T.ok 1 rfl (ep1.mono hfe) rfl rfl ?_; refine ⟨_, rfl, Fr0.refl _, ?_⟩; exact rfl)
            refine D_cons (D_step2 (js := []) (by kernel_rfl) fun gd hf => ?_) ?_
            · have hsd := hs.dr.call hf; have hfe := (G.le_dr _).trans hf.le
              refine QA_nil ?_
              (refine D_yes rfl ?_; refine OpR_pure _ T.ok rfl ?_; refine ⟨_, rfl, Fr0.refl _, ?_⟩; exact rfl)
            refine D_cons (D_step2 (js := [(12, 149)]) (by kernel_rfl) fun gd hf => ?_) ?_
            · have hsd := hs.dr.call hf; have hfe := (G.le_dr _).trans hf.le
              refine QA_eq rfl ?_
              refine QA_nil ?_
              refine D_yes rfl ?_
              refine OpR_pure _ T.ok rfl ?_
              refine ⟨_, rfl, Fr0.refl _, ?_⟩
              exact congrArg (Value.int .i64) (show _ = (j : Int) + 1 from wr (by omega) (by omega))
            refine D_cons (D_step2 (js := []) (by kernel_rfl) fun gd hf => ?_) ?_
            · have hsd := hs.dr.call hf; have hfe := (G.le_dr _).trans hf.le
              refine QA_nil ?_
              (refine D_yes rfl ?_; refine OpR_pure _ T.ok rfl ?_; refine ⟨_, rfl, Fr0.refl _, ?_⟩; exact rfl)
            refine D_cons (D_step2 (js := [(14, 151)]) (by kernel_rfl) fun gd hf => ?_) ?_
            · have hsd := hs.dr.call hf; have hfe := (G.le_dr _).trans hf.le
              refine QA_eq rfl ?_
              refine QA_nil ?_
              (refine D_yes rfl ?_; refine OpR_loadE T.ok 1 rfl (ep1.mono hfe) rfl rfl ?_; refine ⟨_, rfl, Fr0.refl _, ?_⟩; exact rfl)
            refine D_cons (D_step2 (js := [(15, 152)]) (by kernel_rfl) fun gd hf => ?_) ?_
            · have hsd := hs.dr.call hf; have hfe := (G.le_dr _).trans hf.le
              refine QA_eq rfl ?_
              refine QA_nil ?_
              (refine D_yes rfl ?_; refine OpR_pure _ T.ok rfl ?_; refine ⟨_, rfl, Fr0.refl _, ?_⟩; exact rfl)
            refine D_cons (D_step2 (js := [(13, 150), (16, 153)]) (by kernel_rfl) fun gd hf => ?_) ?_
            · have hsd := hs.dr.call hf; have hfe := (G.le_dr _).trans hf.le
              refine QA_eq rfl ?_; refine QA_eq rfl ?_
              refine QA_nil ?_
              refine D_yes rfl ?_
              refine OpR_rem rfl rfl rfl (by omega) ?_
              refine ⟨_, rfl, Fr0.refl _, ?_⟩
              exact congrArg (Value.int .i64) hmt
            refine D_cons (D_step2 (js := [(11, 148), (17, 154)]) (by kernel_rfl) fun gd hf => ?_) ?_
            · have hsd := hs.dr.call hf; have hfe := (G.le_dr _).trans hf.le
              refine QA_eq rfl ?_; refine QA_eq rfl ?_
              refine QA_nil ?_
              refine D_yes rfl ?_
              refine OpR_idx T.ok rfl (rs3.mono hfe) (y := q2) hgn rfl rfl rfl rfl rfl rfl ?_
              intro b p ys hep hrc
              exact ⟨_, rfl, Fr0.refl _, b, p, rfl, by rw [← show ys = [Value.int .i64 (q2)] from hrc]; exact hep⟩
            refine D_cons (D_step2 (js := [(18, 155)]) (by kernel_rfl) fun gd hf => ?_) ?_
            · have hsd := hs.dr.call hf; have hfe := (G.le_dr _).trans hf.le
              refine QA_any fun v18 h18 => ?_
              refine QA_nil ?_
              obtain ⟨b, p, rfl, hep⟩ := h18
              refine D_yes rfl ?_
              refine OpR_loadE T.ok 0 rfl hep rfl rfl ?_
              refine ⟨_, rfl, Fr0.refl _, ?_⟩
              exact rfl
            refine D_cons (D_step2 (js := [(9, 146), (19, 156)]) (by kernel_rfl) fun gd hf => ?_) ?_
            · have hsd := hs.dr.call hf; have hfe := (G.le_dr _).trans hf.le
              refine QA_any fun v9 h9 => ?_; refine QA_eq rfl ?_
              refine QA_nil ?_
              refine D_yes rfl ?_
              refine OpR_ret cl31 allF rfl rfl rfl rfl rfl (has_c _ _ _ _ h9) fun g' v h1 h2 => ⟨g', rfl, h1, ?_⟩
              exact h2.trans (congrArg Value.bool (decide_eq_true hc1))
            refine D_cons (D_step2 (js := [(20, 157)]) (by kernel_rfl) fun gd hf => ?_) ?_
            · have hsd := hs.dr.call hf; have hfe := (G.le_dr _).trans hf.le
              refine QA_eq rfl ?_
              refine QA_nil ?_
              (refine D_yes rfl ?_; refine OpR_pure _ T.ok rfl ?_; refine ⟨_, rfl, Fr0.refl _, ?_⟩; exact rfl)
            refine D_cons (D_step2 (js := [(21, 158)]) (by kernel_rfl) fun gd hf => ?_) ?_
            · have hsd := hs.dr.call hf; have hfe := (G.le_dr _).trans hf.le
              refine QA_eq rfl ?_
              refine QA_nil ?_
              (refine D_yes rfl ?_; refine OpR_pure _ T.ok rfl ?_; refine ⟨_, rfl, Fr0.refl _, ?_⟩; exact rfl)
            refine D_cons (D_step2 (js := [(22, 159)]) (by kernel_rfl) fun gd hf => ?_) ?_
            · have hsd := hs.dr.call hf; have hfe := (G.le_dr _).trans hf.le
              refine QA_eq rfl ?_
              refine QA_nil ?_
              (refine D_yes rfl ?_; refine OpR_pure _ T.ok rfl ?_; refine ⟨_, rfl, Fr0.refl _, ?_⟩; exact rfl)
            refine D_cons (D_step2 (js := [(23, 160), (22, 159)]) (by kernel_rfl) fun gd hf => ?_) ?_
            · have hsd := hs.dr.call hf; have hfe := (G.le_dr _).trans hf.le
              refine QA_eq rfl ?_; refine QA_eq rfl ?_
              refine QA_nil ?_
              (refine D_yes rfl ?_; refine OpR_loadE T.ok 1 rfl (ep1.mono hfe) rfl rfl ?_; refine ⟨_, rfl, Fr0.refl _, ?_⟩; exact rfl)
            refine D_cons (D_step2 (js := [(22, 159)]) (by kernel_rfl) fun gd hf => ?_) ?_
            · have hsd := hs.dr.call hf; have hfe := (G.le_dr _).trans hf.le
              refine QA_eq rfl ?_
              refine QA_nil ?_
              (refine D_yes rfl ?_; refine OpR_pure _ T.ok rfl ?_; refine ⟨_, rfl, Fr0.refl _, ?_⟩; exact rfl)
            refine D_cons (D_step2 (js := [(24, 161), (25, 162), (22, 159)]) (by kernel_rfl) fun gd hf => ?_) ?_
            · have hsd := hs.dr.call hf; have hfe := (G.le_dr _).trans hf.le
              refine QA_eq rfl ?_; refine QA_eq rfl ?_; refine QA_eq rfl ?_
              refine QA_nil ?_
              refine D_yes rfl ?_
              refine OpR_cut T.ok rfl rfl rfl rfl (a := 0) (b := j) rfl rfl ⟨.i64, rfl⟩ (by omega) (by omega) ?_
              exact ⟨_, rfl, Fr0.refl _, hcut.mono hfe⟩
            refine D_cons (D_step2 (js := [(22, 159)]) (by kernel_rfl) fun gd hf => ?_) ?_
            · have hsd := hs.dr.call hf; have hfe := (G.le_dr _).trans hf.le
              refine QA_eq rfl ?_
              refine QA_nil ?_
              (refine D_yes rfl ?_; refine OpR_pure _ T.ok rfl ?_; refine ⟨_, rfl, Fr0.refl _, ?_⟩; exact rfl)
            refine D_cons (D_step2 (js := [(27, 164), (22, 159)]) (by kernel_rfl) fun gd hf => ?_) ?_
            · have hsd := hs.dr.call hf; have hfe := (G.le_dr _).trans hf.le
              refine QA_eq rfl ?_; refine QA_eq rfl ?_
              refine QA_nil ?_
              (refine D_yes rfl ?_; refine OpR_loadE T.ok 1 rfl (ep1.mono hfe) rfl rfl ?_; refine ⟨_, rfl, Fr0.refl _, ?_⟩; exact rfl)
            refine D_cons (D_step2 (js := [(22, 159)]) (by kernel_rfl) fun gd hf => ?_) ?_
            · have hsd := hs.dr.call hf; have hfe := (G.le_dr _).trans hf.le
              refine QA_eq rfl ?_
              refine QA_nil ?_
              (refine D_yes rfl ?_; refine OpR_pure _ T.ok rfl ?_; refine ⟨_, rfl, Fr0.refl _, ?_⟩; exact rfl)
            refine D_cons (D_step2 (js := [(28, 165), (29, 166), (22, 159)]) (by kernel_rfl) fun gd hf => ?_) ?_
            · have hsd := hs.dr.call hf; have hfe := (G.le_dr _).trans hf.le
              refine QA_eq rfl ?_; refine QA_eq rfl ?_; refine QA_eq rfl ?_
              refine QA_nil ?_
              refine D_yes rfl ?_
              refine OpR_idx T.ok rfl (rs3.mono hfe) (y := q) hgi rfl rfl rfl rfl rfl rfl ?_
              intro b p ys hep hrc
              exact ⟨_, rfl, Fr0.refl _, b, p, rfl, by rw [← show ys = [Value.int .i64 (q)] from hrc]; exact hep⟩
            refine D_cons (D_step2 (js := [(30, 167), (22, 159)]) (by kernel_rfl) fun gd hf => ?_) ?_
            · have hsd := hs.dr.call hf; have hfe := (G.le_dr _).trans hf.le
              refine QA_any fun v30 h30 => ?_; refine QA_eq rfl ?_
              refine QA_nil ?_
              obtain ⟨b, p, rfl, hep⟩ := h30
              refine D_yes rfl ?_
              refine OpR_loadE T.ok 0 rfl hep rfl rfl ?_
              refine ⟨_, rfl, Fr0.refl _, ?_⟩
              exact rfl
            refine D_cons (D_step2 (js := [(26, 163), (31, 168), (22, 159), (22, 159)]) (by kernel_rfl) fun gd hf => ?_) ?_
            · have hsd := hs.dr.call hf; have hfe := (G.le_dr _).trans hf.le
              refine QA_any fun v26 h26 => ?_; refine QA_eq rfl ?_; refine QA_eq rfl ?_; refine QA_eq rfl ?_
              refine QA_nil ?_
              refine D_yes rfl ?_
              refine OpR_ret cl31 allF rfl rfl rfl rfl rfl (has_c _ _ _ _ h26) fun g' v h1 h2 => ⟨g', rfl, h1, ?_⟩
              exact h2.trans (congrArg Value.bool (decide_eq_false hc2))
            refine D_cons (D_step2 (js := [(22, 159), (32, 169)]) (by kernel_rfl) fun gd hf => ?_) ?_
            · have hsd := hs.dr.call hf; have hfe := (G.le_dr _).trans hf.le
              refine QA_eq rfl ?_; refine QA_eq rfl ?_
              refine QA_nil ?_
              (refine D_yes rfl ?_; refine OpR_pure _ T.ok rfl ?_; refine ⟨_, rfl, Fr0.refl _, ?_⟩; exact rfl)
            exact D_nil
          intro g1 hf1; refine QA_eq rfl ?_; refine QA_nil ?_
          replace hs := hs.dr.call hf1; have hqe := (G.le_dr _).trans hf1.le; replace le9 := G.le.trans le9 hqe; replace ep0 := ep0.mono hqe; replace ep1 := ep1.mono hqe; replace rs1 := rs1.mono hqe; replace rs3 := rs3.mono hqe; replace fl0 := fl0.mono hqe
          refine WL_nil ?_; (with_reducible refine T_then ?_)
          refine W_no rfl rfl ?_
          refine W_skip ?_; (with_reducible refine T_bn ?_); (with_reducible refine T_then ?_); refine W_region ?_; (iterate 3 refine P1 T.ok rfl rfl rfl ?_); refine WL_nil ?_
          exact fun a ha => ⟨l.length - (j + 1), by omega, j + 1, _, rfl, hs, le9, by omega, rfl, ha.keep ⟨rfl, rfl, rfl, kI rfl (by rw [wr (by omega) (by omega)]; omega), trivial⟩⟩
        · refine W_no (b := decide ((j : Int) < (l.length : Int))) (decide_eq_false (by omega)) rfl ?_
          refine W_exit ?_; (with_reducible refine T_tx ?_; with_reducible refine T_tx ?_); (with_reducible refine T_bx ?_); (with_reducible refine T_then ?_); refine W_seq ?_; refine W_region ?_; (iterate 3 refine P1 T.ok rfl rfl rfl ?_); refine WL_o rfl rfl (OpR_loadE T.ok 0 rfl ep1 rfl rfl ?_); (iterate 3 refine P1 T.ok rfl rfl rfl ?_); refine WL_nil ?_; (with_reducible refine T_then ?_)
          exact W_ret (ret1 rfl rfl (hs.ret rfl))
end Go.Proofs.Ytijmlfmapfhabaa

/- The walk through the statement GraphShortest. -/
namespace Go.Proofs.Ytijmlfmapfhabaa
open Go Go.K
set_option maxRecDepth 10000
attribute [local irreducible] W WL OpR
set_option maxHeartbeats 4000000

/-- The steps that follow by Next those of a set. -/
def nxStep (f : Flow) (S o : List Bool) (k : Nat) : List Bool := if S.getD k false = true then setAll (stepD f (k : Int)).next o else o
def nxTo (f : Flow) (S : List Bool) (k : Nat) : List Bool := (List.range k).foldl (nxStep f S) (List.replicate f.steps.length false)
def nxs (f : Flow) (o : List Bool) : Nat → List Bool
  | 0 => o
  | d + 1 => nxTo f (nxs f o d) f.steps.length
theorem nxTo_succ (f : Flow) (S : List Bool) (k : Nat) : nxTo f S (k + 1) = nxStep f S (nxTo f S k) k := by
  unfold nxTo; rw [List.range_succ, List.foldl_append]; rfl
theorem nxTo_len (f : Flow) (S : List Bool) (k : Nat) : (nxTo f S k).length = f.steps.length := by
  induction k with
  | zero => simp [nxTo]
  | succ k ih => rw [nxTo_succ]; unfold nxStep; split <;> simp [setAll_len, ih]
theorem nxs_len {f : Flow} {o : List Bool} (h : o.length = f.steps.length) (d : Nat) : (nxs f o d).length = f.steps.length := by
  cases d with
  | zero => exact h
  | succ d => exact nxTo_len _ _ _
theorem nxTo_spec {f : Flow} (hval : valid f = true) (S : List Bool) (k : Nat) (hk : k ≤ f.steps.length) {m : Int} (hm : InR f m) :
    isIn (nxTo f S k) m ↔ ∃ s : Nat, s < k ∧ isIn S (s : Int) ∧ m ∈ (stepD f (s : Int)).next := by
  induction k with
  | zero => exact ⟨fun h => absurd h (by unfold nxTo; exact isIn_replicate _ _), fun ⟨s, h, _⟩ => absurd h (by omega)⟩
  | succ k ih =>
    have ih := ih (by omega)
    rw [nxTo_succ]
    unfold nxStep
    by_cases h : S.getD k false = true
    · rw [if_pos h, isIn_setAll (fun c hc => next_inR hval (show InR f (k : Int) from ⟨by omega, by omega⟩) c hc) (nxTo_len _ _ _) hm, ih]
      constructor
      · rintro (h1 | ⟨s, h1, h2, h3⟩)
        · exact ⟨k, by omega, h, h1⟩
        · exact ⟨s, by omega, h2, h3⟩
      · rintro ⟨s, h1, h2, h3⟩
        by_cases e : s = k
        · subst e; exact .inl h3
        · exact .inr ⟨s, by omega, h2, h3⟩
    · rw [if_neg h, ih]
      constructor
      · rintro ⟨s, h1, h2, h3⟩
        exact ⟨s, by omega, h2, h3⟩
      · rintro ⟨s, h1, h2, h3⟩
        by_cases e : s = k
        · subst e; exact absurd h2 h
        · exact ⟨s, by omega, h2, h3⟩
theorem nxs_spec {f : Flow} (hval : valid f = true) {a : Int} (ha : InR f a) (d : Nat) : ∀ {m : Int}, InR f m → (isIn (nxs f ((List.replicate f.steps.length false).set a.toNat true) d) m ↔ Nst f d a m) := by
  induction d with
  | zero =>
    intro m hm
    show isIn ((List.replicate f.steps.length false).set a.toNat true) m ↔ _
    rw [isIn_set (by simp) ha hm]
    constructor
    · rintro (rfl | h)
      · exact .zero _
      · exact absurd h (isIn_replicate _ _)
    · intro h
      cases h
      exact .inl rfl
  | succ d ih =>
    intro m hm
    show isIn (nxTo f (nxs f _ d) f.steps.length) m ↔ _
    rw [nxTo_spec hval _ _ (Nat.le_refl _) hm]
    constructor
    · rintro ⟨s, h1, h2, h3⟩
      exact .succ ((ih ⟨by omega, by omega⟩).1 h2) h3
    · intro h
      cases h with
      | succ hb hc =>
        rename_i b
        have hbr := hb.inR hval ha
        have hbn := hbr.1; have hbn2 := hbr.2
        exact ⟨b.toNat, by omega, by rw [Int.toNat_of_nonneg hbn]; exact (ih hbr).2 hb, by rw [Int.toNat_of_nonneg hbn]; exact hc⟩











theorem lawshortest_c (v : Value) (x : List Y6) (g : G) (rs0 : Rs g v x) (hx : ∀ y ∈ x, y.fit) :
    CallsIn Wd 0 Try.prog 7 #[v] g.w (Ret g fun _ r => r = .bool true) := by
  have hs := St.start g
  have le0 := G.le.refl g
  refine enter Try.func7 rfl Try.ntmps7 rfl ?_
  refine W_seq ?_; refine W_region ?_; refine P1 T.ok rfl rfl rfl ?_; refine WL_nil ?_; (with_reducible refine T_then ?_); refine W_seq ?_; refine W_region ?_
  refine WL_o rfl rfl (OpR_ret cl12 allF rfl rfl rfl rfl rfl (sane_c _) ?_); rintro g1 _ hf1 rfl; replace hs := hs.call hf1; have hqe := hf1.le; replace le0 := G.le.trans le0 hqe; replace rs0 := rs0.mono hqe
  refine P1 T.ok rfl rfl rfl ?_; refine WL_nil ?_; (with_reducible refine T_then ?_); refine W_seq ?_; refine W_region ?_; refine P1 T.ok rfl rfl rfl ?_
  refine WL_o rfl rfl (OpR_ret cl14 allF rfl rfl rfl rfl rfl (made_c _ x _ rs0 hx) ?_); rintro g1 _ hf1 ⟨sa, sn, sc, wa, wn, wc, cells, rfl, hh, rc0, rs2⟩
  replace hs := hs.getOwn hf1 hh; have hqe := hf1.le
  replace le0 := le0.trans hqe; replace rs0 := rs0.mono hqe; clear hh
  obtain ⟨gz, hwz, hsz, hqz, rs1⟩ := hs.fzRow (α := Step) (i := 0) rfl rc0
  clear hqe; have hqe := hqz; rw [← hwz]; replace hs := hsz; clear hsz rc0; replace le0 := G.le.trans le0 hqe; replace rs0 := rs0.mono hqe; replace rs2 := rs2.mono hqe
  have hval := made_valid x
  have hn40 := valid_n hval
  have hmr : ∀ c, InR (made x) (pickM c (made x).steps.length) := fun c => made_inR x
  generalize hfe : made x = f at *
  obtain ⟨_, _, e⟩ := rs1.isSlice; obtain ⟨rfl, rfl, rfl⟩ := Value.slice.inj e; clear e
  have fl0 : RFlow gz (.agg #[.int .i64 f.moveMin, .int .i64 f.moveMax, .slice sa f.steps.length sc, .slice wa wn wc]) f := ⟨_, _, _, _, _, _, rfl, rs1, rs2⟩
  skip
  refine WL_o rfl rfl (OpR_alloc T.ok rfl hs rfl rfl ?_); clear hs; rintro bf g1 hs hqe; replace le0 := G.le.trans le0 hqe; replace rs0 := rs0.mono hqe; replace rs1 := rs1.mono hqe; replace rs2 := rs2.mono hqe; replace fl0 := fl0.mono hqe
  skip
  refine WL_n rfl (OpR_storeO T.ok 0 rfl hs rfl rfl rfl rfl rfl rfl rfl rfl rfl ?_); replace hs := hs; rintro g1 hs hqe; replace le0 := G.le.trans le0 hqe; replace rs0 := rs0.mono hqe; replace rs1 := rs1.mono hqe; replace rs2 := rs2.mono hqe; replace fl0 := fl0.mono hqe
  obtain ⟨g2, hw2, hs2, hqe, hep⟩ := hs.fzObj (i := 0) rfl; replace hs := hs2; clear hs2; rw [← hw2]; replace le0 := G.le.trans le0 hqe; replace rs0 := rs0.mono hqe; replace rs1 := rs1.mono hqe; replace rs2 := rs2.mono hqe; replace fl0 := fl0.mono hqe
  have ep0 := hep; clear hep
  refine WL_nil ?_; (with_reducible refine T_then ?_); refine W_seq ?_; refine W_region ?_; refine WL_o rfl rfl (OpR_loadE T.ok 0 rfl ep0 rfl rfl ?_)
  refine WL_o rfl rfl (OpR_ret cl15 allF rfl rfl rfl rfl rfl (check_c _ f _ fl0) ?_); rintro g1 _ hf1 ⟨pa, pn, pc, rfl, rs3⟩; replace hs := hs.call hf1; have hqe := hf1.le; replace le0 := G.le.trans le0 hqe; replace ep0 := ep0.mono hqe; replace rs0 := rs0.mono hqe; replace rs1 := rs1.mono hqe; replace rs2 := rs2.mono hqe; replace fl0 := fl0.mono hqe
  skip
  refine WL_o rfl rfl (OpR_alloc T.ok rfl hs rfl rfl ?_); clear hs; rintro bp g1 hs hqe; replace le0 := G.le.trans le0 hqe; replace ep0 := ep0.mono hqe; replace rs0 := rs0.mono hqe; replace rs1 := rs1.mono hqe; replace rs2 := rs2.mono hqe; replace rs3 := rs3.mono hqe; replace fl0 := fl0.mono hqe
  skip
  refine WL_n rfl (OpR_storeO T.ok 0 rfl hs rfl rfl rfl rfl rfl rfl rfl rfl rfl ?_); replace hs := hs; rintro g1 hs hqe; replace le0 := G.le.trans le0 hqe; replace ep0 := ep0.mono hqe; replace rs0 := rs0.mono hqe; replace rs1 := rs1.mono hqe; replace rs2 := rs2.mono hqe; replace rs3 := rs3.mono hqe; replace fl0 := fl0.mono hqe
  obtain ⟨g2, hw2, hs2, hqe, hep⟩ := hs.fzObj (i := 0) rfl; replace hs := hs2; clear hs2; rw [← hw2]; replace le0 := G.le.trans le0 hqe; replace ep0 := ep0.mono hqe; replace rs0 := rs0.mono hqe; replace rs1 := rs1.mono hqe; replace rs2 := rs2.mono hqe; replace rs3 := rs3.mono hqe; replace fl0 := fl0.mono hqe
  have ep1 := hep; clear hep
  refine WL_nil ?_; (with_reducible refine T_then ?_); refine W_seq ?_; refine W_region ?_; refine P1 T.ok rfl rfl rfl ?_; refine WL_o rfl rfl (OpR_loadE T.ok 2 rfl ep0 rfl rfl ?_); refine P1 T.ok rfl rfl rfl ?_; refine P1 T.ok rfl rfl rfl ?_; refine WL_nil ?_; (with_reducible refine T_then ?_); refine W_seq ?_; refine W_seq ?_; refine W_region ?_; refine P1 T.ok rfl rfl rfl ?_; refine WL_o rfl rfl (OpR_loadE T.ok 0 rfl ep1 rfl rfl ?_); refine P1 T.ok rfl rfl rfl ?_; refine WL_nil ?_; (with_reducible refine T_then ?_)
  have hl1 := fun {a} h {d} hd h2 => law_shortest hval (a := a) h (d := d) hd h2; have hl2 := law_cycle hval
  generalize check f = pr at *
  obtain ⟨kd, l⟩ := pr
  simp only at hl1 hl2 rs3 ep1
  obtain ⟨_, _, e⟩ := rs3.isSlice; obtain ⟨rfl, rfl, rfl⟩ := Value.slice.inj e; clear e
  by_cases hk1 : kd = 1
  · refine W_yes (b := kd == 1) (beq_iff_eq.2 hk1) rfl ?_
    refine W_seq ?_; refine W_region ?_; refine P1 T.ok rfl rfl rfl ?_; refine P1 T.ok rfl rfl rfl ?_; refine WL_nil ?_; (with_reducible refine T_then ?_)
    exact W_ret (ret1 rfl rfl (hs.ret rfl))
  · refine W_no (b := kd == 1) (beq_eq_false_iff_ne.2 hk1) rfl ?_
    refine W_skip ?_; (with_reducible refine T_then ?_); refine W_seq ?_; refine W_region ?_; (iterate 3 refine P1 T.ok rfl rfl rfl ?_); refine WL_nil ?_; (with_reducible refine T_then ?_); refine W_seq ?_; refine W_seq ?_; refine W_region ?_; refine P1 T.ok rfl rfl rfl ?_; refine WL_o rfl rfl (OpR_loadE T.ok 0 rfl ep1 rfl rfl ?_); refine P1 T.ok rfl rfl rfl ?_; refine WL_nil ?_; (with_reducible refine T_then ?_)
    have hll := rs3.len_le
    unfold maxLen at hll
    obtain ⟨L, hL, hL0, hL1, hL2⟩ : ∃ L : Nat, L ≤ 2 ^ 63 - 1 ∧ (kd ≠ 2 → L = f.steps.length + 1) ∧ (kd = 2 → L = l.length) ∧ ∀ a ∈ reach f 0, ∀ d, 0 < d → d < L → ¬ Nst f d a a := by
      by_cases h2 : kd = 2
      · refine ⟨l.length, by omega, fun h => absurd h2 h, fun _ => rfl, fun a ha d hd hdl hn => ?_⟩
        rcases hl1 ha hd hn with h | ⟨_, h⟩ <;> omega
      · refine ⟨f.steps.length + 1, by omega, fun _ => rfl, fun h => absurd h h2, fun a ha d hd hdl hn => ?_⟩
        rcases hl1 ha hd hn with h | ⟨h, _⟩ <;> omega
    skip
    refine W_mid (fun a' w' => ∃ g4, w' = g4.w ∧ St g g4 [] ∧ G.le g2 g4 ∧
        Fr 113 [] [(3, .bool true), (4, .pointer (some ⟨bf, 0, none⟩)), (6, .int .i64 f.steps.length), (7, .int .i64 L)] a') ?_ ?_
    · have le8 := G.le.refl g2
      by_cases h2 : kd = 2
      · refine W_yes (b := kd == 2) (beq_iff_eq.2 h2) rfl ?_
        refine W_region ?_; refine P1 T.ok rfl rfl rfl ?_; refine WL_o rfl rfl (OpR_loadE T.ok 1 rfl ep1 rfl rfl ?_); refine P1 T.ok rfl rfl rfl ?_; refine P1 T.ok rfl rfl rfl ?_; refine WL_nil ?_
        rw [← hL1 h2]
        exact fun a ha => T_mid ⟨_, rfl, hs, le8, ha.keep (by (repeat (first | exact trivial | refine ⟨rfl, ?_⟩)))⟩
      · refine W_no (b := kd == 2) (beq_eq_false_iff_ne.2 h2) rfl ?_
        refine W_skip ?_
        exact fun a ha => T_mid ⟨_, rfl, hs, le8, ha.keep ⟨rfl, rfl, rfl, kI rfl (by rw [wr (by omega) (by omega), hL0 h2]; omega), trivial⟩⟩
    rintro a' _ ⟨g4, rfl, hs', hqe, ha'⟩
    replace hs := hs'; clear hs' hl1 hl2 hL0 hL1 rs3
    replace le0 := G.le.trans le0 hqe; replace ep0 := ep0.mono hqe; replace ep1 := ep1.mono hqe; replace rs0 := rs0.mono hqe; replace rs1 := rs1.mono hqe; replace rs2 := rs2.mono hqe; replace fl0 := fl0.mono hqe
    revert a'
    (with_reducible refine T_wp ?_); refine W_seq ?_; refine W_region ?_; refine WL_o rfl rfl (OpR_loadE T.ok 0 rfl ep0 rfl rfl ?_)
    refine WL_o rfl rfl (OpR_ret cl29 allF rfl rfl rfl rfl rfl (reach_c _ f 0 _ fl0) ?_); rintro g1 vo hf1 hvo; obtain ⟨gz, hwz, hsz, hqz, rs4⟩ := hs.ownRs hf1 hvo; have hqe := hf1.le.trans hqz; rw [← hwz]; replace hs := hsz; clear hsz hvo; replace le0 := G.le.trans le0 hqe; replace ep0 := ep0.mono hqe; replace ep1 := ep1.mono hqe; replace rs0 := rs0.mono hqe; replace rs1 := rs1.mono hqe; replace rs2 := rs2.mono hqe; replace fl0 := fl0.mono hqe
    obtain ⟨ar, cr, rfl⟩ := rs4.isSlice
    have hrl := reach_len f 0
    have hrr : ∀ n ∈ reach f 0, InR f n := fun n hn => mem_reach_inR hn
    generalize hre : reach f 0 = r at *
    refine P1 T.ok rfl rfl rfl ?_; refine WL_nil ?_; (with_reducible refine T_then ?_); refine W_seq ?_; refine W_seq ?_; refine W_region ?_; refine P1 T.ok rfl rfl rfl ?_; refine WL_nil ?_; (with_reducible refine T_then ?_); refine W_block ?_
    have ep0c := ep0; have rs1c := rs1; have rs4c := rs4; have le8 := G.le.refl gz
    refine W_loop (fun m a' w => ∃ (i : Nat) (g3 : G), w = g3.w ∧ St g g3 [] ∧ G.le gz g3 ∧ i ≤ r.length ∧ m = r.length - i ∧
        Fr 113 [] [(3, .bool true), (4, .pointer (some ⟨bf, 0, none⟩)), (6, .int .i64 f.steps.length), (7, .int .i64 L), (8, .slice ar r.length cr), (9, .int .i64 i)] a') r.length
      (fun a' ha => ⟨0, gz, rfl, hs, le8, Nat.zero_le _, rfl, ha.keep (by (repeat (first | exact trivial | refine ⟨rfl, ?_⟩)))⟩) ?_
    clear hs le8 fl0 ep0 rs1 rs4 rs0 rs2 le0 ep1
    rintro m a' _ ⟨i, g3, rfl, hs, le8, hi, rfl, ha'⟩
    have ep0 := ep0c.mono le8; have rs1 := rs1c.mono le8; have rs4 := rs4c.mono le8
    revert a'
    (with_reducible refine T_wp ?_); refine W_seq ?_; refine W_seq ?_; refine W_region ?_; (iterate 4 refine P1 T.ok rfl rfl rfl ?_); refine WL_nil ?_; (with_reducible refine T_then ?_)
    by_cases hlt : i < r.length
    · refine W_yes (b := decide ((i : Int) < (r.length : Int))) (decide_eq_true (by omega)) rfl ?_
      have hgi := geti_of (xs := r) (n := (i : Int)) rfl hlt
      have hnr := hrr _ (List.getElem_mem hlt)
      have hno := hL2 _ (List.getElem_mem hlt)
      generalize r[i] = a at *
      have hn0 := hnr.1; have hn1 := hnr.2
      refine W_skip ?_; (with_reducible refine T_then ?_); refine W_seq ?_; refine W_block ?_; refine W_seq ?_; refine W_region ?_; refine P1 T.ok rfl rfl rfl ?_
      refine WL_o rfl rfl (OpR_make T.ok rfl hs rfl rfl rfl rfl rfl rfl (by decide) rfl (by show 1 * f.steps.length ≤ _; omega) (by unfold maxLen; omega) ?_); rintro ob gm hs hqe; replace le8 := G.le.trans le8 hqe; replace ep0 := ep0.mono hqe; replace rs1 := rs1.mono hqe; replace rs4 := rs4.mono hqe
      refine P1 T.ok rfl rfl rfl ?_; refine WL_nil ?_; (with_reducible refine T_then ?_); refine W_seq ?_; refine W_seq ?_; refine W_region ?_; refine P1 T.ok rfl rfl rfl ?_; refine P1 T.ok rfl rfl rfl ?_
      have hfl : (List.replicate f.steps.length [Value.bool false]).flatten = (List.replicate f.steps.length false).map Value.bool := by simp
      have hst : St g gm [rowB ob f.steps.length (List.replicate f.steps.length false)] := by
        unfold rowB; rw [← hfl]; exact hs
      replace hs := hst; clear hst
      refine WL_o rfl rfl (OpR_idx T.ok rfl rs4 (y := a) hgi rfl rfl rfl rfl rfl rfl ?_)
      rintro b q ys hep rfl
      refine WL_o rfl rfl (OpR_loadE T.ok 0 rfl hep rfl rfl ?_)
      refine P1 T.ok rfl rfl rfl ?_; refine P1 T.ok rfl rfl rfl ?_
      refine WL_know 50 (b' := false) (decide_eq_false (by omega)) rfl ?_
      refine P1 T.ok rfl rfl rfl ?_; refine P1 T.ok rfl rfl rfl ?_
      refine WL_o rfl rfl (OpR_idx T.ok rfl rs4 (y := a) hgi rfl rfl rfl rfl rfl rfl ?_)
      rintro b q ys hep rfl
      refine WL_o rfl rfl (OpR_loadE T.ok 0 rfl hep rfl rfl ?_)
      (iterate 3 refine P1 T.ok rfl rfl rfl ?_); refine WL_nil ?_; (with_reducible refine T_then ?_)
      refine W_no (b := decide ((f.steps.length : Int) ≤ a)) (decide_eq_false (by omega)) rfl ?_
      refine W_skip ?_; (with_reducible refine T_then ?_); refine W_seq ?_; refine W_region ?_; (iterate 3 refine P1 T.ok rfl rfl rfl ?_)
      refine WL_o rfl rfl (OpR_idx T.ok rfl rs4 (y := a) hgi rfl rfl rfl rfl rfl rfl ?_)
      rintro b q ys hep rfl
      refine WL_o rfl rfl (OpR_loadE T.ok 0 rfl hep rfl rfl ?_)
      refine WL_o rfl rfl (OpR_idxR T.ok rfl (hs.own 0 _ rfl).1 hn0 (by omega) rfl rfl rfl rfl rfl rfl ?_)
      rintro b q hh; obtain ⟨rfl, rfl⟩ : ob = b ∧ 0 = q := by simpa using hh
      refine WL_n rfl (OpR_storeR T.ok 0 (a.toNat * 1) (us := [.bool true]) rfl hs rfl rfl rfl rfl rfl rfl rfl (by decide) (by simp; omega) (set_spl _ _ Value.bool true (by simp; omega)) ?_)
      rintro gm2 hs hqe; replace le8 := G.le.trans le8 hqe; replace ep0 := ep0.mono hqe; replace rs1 := rs1.mono hqe; replace rs4 := rs4.mono hqe
      obtain ⟨gs, hws, hss, hqs, rs5⟩ := hs.fzRow (α := Bool) (i := 0) rfl (RcL.bools _ _)
      clear hqe; have hqe := hqs; rw [← hws]; replace hs := hss; clear hss; replace le8 := G.le.trans le8 hqe; replace ep0 := ep0.mono hqe; replace rs1 := rs1.mono hqe; replace rs4 := rs4.mono hqe
      have hspec := fun d => nxs_spec hval hnr d hnr
      generalize hS0 : (List.replicate f.steps.length false).set a.toNat true = S0 at *
      have hS0l : S0.length = f.steps.length := by rw [← hS0]; simp
      refine WL_nil ?_; (with_reducible refine T_then ?_); refine W_seq ?_; refine W_region ?_; refine P1 T.ok rfl rfl rfl ?_; refine WL_nil ?_; (with_reducible refine T_then ?_); refine W_block ?_
      have ep0d := ep0; have rs1d := rs1; have rs4d := rs4; have le9 := G.le.refl gs; have le8d := le8
      have hd1 : St g gs [] := hs
      refine W_loop (fun m a' w => ∃ (d oq : Nat) (g4 : G), w = g4.w ∧ St g g4 [] ∧ G.le gs g4 ∧ (d ≤ L ∨ d = 1) ∧ 1 ≤ d ∧ m = L - d ∧ Rs g4 (.slice (some ⟨oq, 0, none⟩) f.steps.length f.steps.length) (nxs f S0 (d - 1)) ∧
          Fr 113 [] [(3, .bool true), (4, .pointer (some ⟨bf, 0, none⟩)), (6, .int .i64 f.steps.length), (7, .int .i64 L), (8, .slice ar r.length cr), (9, .int .i64 i), (10, .slice (some ⟨oq, 0, none⟩) f.steps.length f.steps.length), (11, .int .i64 d)] a') (L - 1)
        (fun a' ha => ⟨1, ob, gs, rfl, hd1, le9, .inr rfl, Nat.le_refl _, rfl, rs5, ha.keep (by (repeat (first | exact trivial | refine ⟨rfl, ?_⟩)))⟩) ?_
      clear hs hd1 le9 le8 ep0 rs1 rs4 rs5
      rintro m a' _ ⟨d, oq, g4, rfl, hs, le9, hdL, hd1, rfl, rs5, ha'⟩
      have ep0 := ep0d.mono le9; have rs1 := rs1d.mono le9; have rs4 := rs4d.mono le9
      revert a'
      (with_reducible refine T_wp ?_); refine W_seq ?_; refine W_seq ?_; refine W_region ?_; (iterate 3 refine P1 T.ok rfl rfl rfl ?_); refine WL_nil ?_; (with_reducible refine T_then ?_)
      by_cases hld : d < L
      · refine W_yes (b := decide ((d : Int) < (L : Int))) (decide_eq_true (by omega)) rfl ?_
        have hSl := nxs_len hS0l (d - 1)
        have hSn : nxs f S0 d = nxTo f (nxs f S0 (d - 1)) f.steps.length := by
          conv => lhs; rw [show d = d - 1 + 1 from by omega]
          rfl
        have hno2 : ¬ isIn (nxs f S0 d) a := fun h => hno d hd1 hld ((hspec d).1 h)
        rw [hSn] at hno2
        generalize hSe : nxs f S0 (d - 1) = S at *
        refine W_skip ?_; (with_reducible refine T_then ?_); refine W_seq ?_; refine W_block ?_; refine W_seq ?_; refine W_region ?_; refine P1 T.ok rfl rfl rfl ?_
        refine WL_o rfl rfl (OpR_make T.ok rfl hs rfl rfl rfl rfl rfl rfl (by decide) rfl (by show 1 * f.steps.length ≤ _; omega) (by unfold maxLen; omega) ?_); rintro on gn hs hqe; replace le9 := G.le.trans le9 hqe; replace ep0 := ep0.mono hqe; replace rs1 := rs1.mono hqe; replace rs4 := rs4.mono hqe; replace rs5 := rs5.mono hqe
        have hst : St g gn [rowB on f.steps.length (List.replicate f.steps.length false)] := by
          unfold rowB; rw [← hfl]; exact hs
        replace hs := hst; clear hst
        refine P1 T.ok rfl rfl rfl ?_; refine WL_nil ?_; (with_reducible refine T_then ?_); refine W_seq ?_; refine W_seq ?_; refine W_region ?_; refine P1 T.ok rfl rfl rfl ?_; refine WL_nil ?_; (with_reducible refine T_then ?_); refine W_block ?_
        have ep0e := ep0; have rs1e := rs1; have rs4e := rs4; have rs5e := rs5; have le3 := G.le.refl gn
        refine W_loop (fun m a' w => ∃ (k : Nat) (g5 : G), w = g5.w ∧ St g g5 [rowB on f.steps.length (nxTo f S k)] ∧ G.le gn g5 ∧ k ≤ f.steps.length ∧ m = f.steps.length - k ∧
            Fr 113 [] [(3, .bool true), (4, .pointer (some ⟨bf, 0, none⟩)), (6, .int .i64 f.steps.length), (7, .int .i64 L), (8, .slice ar r.length cr), (9, .int .i64 i), (10, .slice (some ⟨oq, 0, none⟩) f.steps.length f.steps.length), (11, .int .i64 d), (12, .slice (some ⟨on, 0, none⟩) f.steps.length f.steps.length), (13, .int .i64 k)] a') f.steps.length
          (fun a' ha => ⟨0, gn, rfl, hs, le3, Nat.zero_le _, rfl, ha.keep (by (repeat (first | exact trivial | refine ⟨rfl, ?_⟩)))⟩) ?_
        clear hs le3 ep0 rs1 rs4 rs5
        rintro m a' _ ⟨k, g5, rfl, hs, le3, hk, rfl, ha'⟩
        have ep0 := ep0e.mono le3; have rs1 := rs1e.mono le3; have rs4 := rs4e.mono le3; have rs5 := rs5e.mono le3
        revert a'
        (with_reducible refine T_wp ?_); refine W_seq ?_; refine W_seq ?_; refine W_region ?_; (iterate 3 refine P1 T.ok rfl rfl rfl ?_); refine WL_nil ?_; (with_reducible refine T_then ?_)
        by_cases hlk : k < f.steps.length
        · refine W_yes (b := decide ((k : Int) < (f.steps.length : Int))) (decide_eq_true (by omega)) rfl ?_
          have hks := nxTo_succ f S k
          unfold nxStep at hks
          have hkr : InR f (k : Int) := ⟨by omega, by omega⟩
          have hnl := fun c hc => next_inR hval hkr c hc
          have hgk := step_geti hkr
          have hol0 := nxTo_len f S k
          generalize stepD f (k : Int) = sk at *
          generalize nxTo f S k = o at *
          have hgs : geti S (k : Int) = some (S.getD k false) := by
            rw [geti_of (j := k) rfl (by omega), List.getD_eq_getElem?_getD, List.getElem?_eq_getElem (by omega)]; rfl
          generalize S.getD k false = sb at *
          refine W_skip ?_; (with_reducible refine T_then ?_); refine W_seq ?_; refine W_block ?_; refine W_seq ?_; refine W_region ?_; refine P1 T.ok rfl rfl rfl ?_; refine WL_nil ?_; (with_reducible refine T_then ?_); refine W_block ?_
          have ep0f := ep0; have rs1f := rs1; have rs5f := rs5; have le2 := G.le.refl g5
          refine W_loop (fun m a' w => ∃ (j : Nat) (g6 : G), w = g6.w ∧ St g g6 [rowB on f.steps.length (setAll (sk.next.take j) o)] ∧ G.le g5 g6 ∧ j ≤ sk.next.length ∧ m = sk.next.length - j ∧ (j = 0 ∨ sb = true) ∧
              Fr 113 [] [(3, .bool true), (4, .pointer (some ⟨bf, 0, none⟩)), (6, .int .i64 f.steps.length), (7, .int .i64 L), (8, .slice ar r.length cr), (9, .int .i64 i), (10, .slice (some ⟨oq, 0, none⟩) f.steps.length f.steps.length), (11, .int .i64 d), (12, .slice (some ⟨on, 0, none⟩) f.steps.length f.steps.length), (13, .int .i64 k), (14, .int .i64 j)] a') sk.next.length
            (fun a' ha => ⟨0, g5, rfl, hs, le2, Nat.zero_le _, rfl, .inl rfl, ha.keep (by (repeat (first | exact trivial | refine ⟨rfl, ?_⟩)))⟩) ?_
          clear hs le2 ep0 rs1 rs4 rs5
          rintro m a' _ ⟨j, g6, rfl, hs, le2, hj, rfl, hjb, ha'⟩
          have ep0 := ep0f.mono le2; have rs1 := rs1f.mono le2; have rs5 := rs5f.mono le2
          revert a'
          (with_reducible refine T_wp ?_); refine W_seq ?_; refine W_seq ?_; refine W_region ?_; refine P1 T.ok rfl rfl rfl ?_; refine P1 T.ok rfl rfl rfl ?_; refine WL_o rfl rfl (OpR_loadE T.ok 2 rfl ep0 rfl rfl ?_); refine P1 T.ok rfl rfl rfl ?_
          refine WL_o rfl rfl (OpR_idx T.ok rfl rs1 (y := sk) hgk rfl rfl rfl rfl rfl rfl ?_)
          rintro b q ys hep ⟨b1, b2, b3, b4, b5, b6, rfl, _, rs6⟩
          obtain ⟨_, _, e⟩ := rs6.isSlice; obtain ⟨rfl, rfl, rfl⟩ := Value.slice.inj e; clear e
          have hsl := rs6.len_le
          unfold maxLen at hsl
          refine WL_o rfl rfl (OpR_pure _ T.ok rfl ?_)
          refine WL_o rfl rfl (OpR_loadE T.ok 4 rfl hep rfl rfl ?_)
          (iterate 3 refine P1 T.ok rfl rfl rfl ?_)
          by_cases hlj : j < sk.next.length
          · refine WL_know 85 (b' := true) (decide_eq_true (by omega)) rfl ?_
            refine P1 T.ok rfl rfl rfl ?_; refine P1 T.ok rfl rfl rfl ?_
            refine WL_o rfl rfl (OpR_idx T.ok rfl rs5 (y := sb) hgs rfl rfl rfl rfl rfl rfl ?_)
            rintro b q' ys' hep2 rfl
            refine WL_o rfl rfl (OpR_loadE T.ok 0 rfl hep2 rfl rfl ?_)
            refine P1 T.ok rfl rfl rfl ?_; refine WL_nil ?_; (with_reducible refine T_then ?_)
            cases sb with
            | false =>
              obtain rfl : j = 0 := hjb.resolve_right (by simp)
              rw [if_neg (by simp)] at hks
              refine W_no rfl rfl ?_
              refine W_exit ?_; (with_reducible refine T_tx ?_; with_reducible refine T_tx ?_); (with_reducible refine T_bx ?_); (with_reducible refine T_bn ?_); (with_reducible refine T_then ?_); refine W_region ?_; (iterate 3 refine P1 T.ok rfl rfl rfl ?_); refine WL_nil ?_
              exact fun a ha => ⟨f.steps.length - (k + 1), by omega, k + 1, _, rfl, by rw [hks]; exact hs, le3.trans le2, by omega, rfl, ha.keep ⟨rfl, rfl, rfl, rfl, rfl, rfl, rfl, rfl, rfl, kI rfl (by rw [wr (by omega) (by omega)]; omega), trivial⟩⟩
            | true =>
              refine W_yes rfl rfl ?_
              have hsn : setAll (sk.next.take (j + 1)) o = (setAll (sk.next.take j) o).set sk.next[j].toNat true := by rw [List.take_succ_eq_append_getElem hlj, setAll_snoc]
              have hgj := geti_of (xs := sk.next) (n := (j : Int)) rfl hlj
              have hcr := hnl _ (List.getElem_mem hlj)
              have hol : (setAll (sk.next.take j) o).length = f.steps.length := by rw [setAll_len, hol0]
              generalize sk.next[j] = c at *
              have hc0 := hcr.1; have hc1 := hcr.2
              clear hep
              refine W_skip ?_; (with_reducible refine T_then ?_); refine W_seq ?_; refine W_block ?_; refine W_region ?_; refine P1 T.ok rfl rfl rfl ?_; refine P1 T.ok rfl rfl rfl ?_; refine WL_o rfl rfl (OpR_loadE T.ok 2 rfl ep0 rfl rfl ?_); refine P1 T.ok rfl rfl rfl ?_
              refine WL_o rfl rfl (OpR_idx T.ok rfl rs1 (y := sk) hgk rfl rfl rfl rfl rfl rfl ?_)
              rintro b q ys hep ⟨b1, b2, b3, b4, b5, b6, rfl, _, rs7⟩
              obtain ⟨_, _, e⟩ := rs7.isSlice; obtain ⟨rfl, rfl, rfl⟩ := Value.slice.inj e; clear e
              refine WL_o rfl rfl (OpR_pure _ T.ok rfl ?_)
              refine WL_o rfl rfl (OpR_loadE T.ok 4 rfl hep rfl rfl ?_)
              refine P1 T.ok rfl rfl rfl ?_
              refine WL_o rfl rfl (OpR_idx T.ok rfl rs7 (y := c) hgj rfl rfl rfl rfl rfl rfl ?_)
              rintro b q'' ys'' hep3 rfl
              refine WL_o rfl rfl (OpR_loadE T.ok 0 rfl hep3 rfl rfl ?_)
              refine WL_o rfl rfl (OpR_idxR T.ok rfl (hs.own 0 _ rfl).1 hc0 (by omega) rfl rfl rfl rfl rfl rfl ?_)
              rintro b q hh; obtain ⟨rfl, rfl⟩ : on = b ∧ 0 = q := by simpa using hh
              clear hep
              refine WL_n rfl (OpR_storeR T.ok 0 (c.toNat * 1) (us := [.bool true]) rfl hs rfl rfl rfl rfl rfl rfl rfl (by decide) (by simp; omega) (set_spl _ _ Value.bool true (by omega)) ?_)
              rintro g9 hs hqe; replace le2 := G.le.trans le2 hqe; replace ep0 := ep0.mono hqe; replace rs1 := rs1.mono hqe; replace rs5 := rs5.mono hqe; replace rs6 := rs6.mono hqe; replace rs7 := rs7.mono hqe
              have le2b := le2
              refine WL_nil ?_; (with_reducible refine T_bn ?_); (with_reducible refine T_then ?_); refine W_region ?_; (iterate 3 refine P1 T.ok rfl rfl rfl ?_); refine WL_nil ?_
              exact fun a ha => ⟨sk.next.length - (j + 1), by omega, j + 1, _, rfl, by rw [hsn]; exact hs, le2b, by omega, rfl, .inr rfl, ha.keep ⟨rfl, rfl, rfl, rfl, rfl, rfl, rfl, rfl, rfl, rfl, kI rfl (by rw [wr (by omega) (by omega)]; omega), trivial⟩⟩
          · refine WL_know 85 (b' := false) (decide_eq_false (by omega)) rfl ?_
            rw [List.take_of_length_le (by omega)] at hs
            have hks2 : nxTo f S (k + 1) = setAll sk.next o := by
              rw [hks]
              rcases hjb with e | e
              · have : sk.next = [] := List.eq_nil_of_length_eq_zero (by omega)
                rw [this]
                split <;> rfl
              · rw [if_pos e]
            (iterate 4 refine S1 allF rfl rfl ?_); refine P1 T.ok rfl rfl rfl ?_; refine WL_nil ?_; (with_reducible refine T_then ?_)
            refine W_no rfl rfl ?_
            refine W_exit ?_; (with_reducible refine T_tx ?_; with_reducible refine T_tx ?_); (with_reducible refine T_bx ?_); (with_reducible refine T_bn ?_); (with_reducible refine T_then ?_); refine W_region ?_; (iterate 3 refine P1 T.ok rfl rfl rfl ?_); refine WL_nil ?_
            exact fun a ha => ⟨f.steps.length - (k + 1), by omega, k + 1, _, rfl, by rw [hks2]; exact hs, le3.trans le2, by omega, rfl, ha.keep ⟨rfl, rfl, rfl, rfl, rfl, rfl, rfl, rfl, rfl, kI rfl (by rw [wr (by omega) (by omega)]; omega), trivial⟩⟩
        · refine W_no (b := decide ((k : Int) < (f.steps.length : Int))) (decide_eq_false (by omega)) rfl ?_
          obtain rfl : k = f.steps.length := by omega
          obtain ⟨gs2, hws, hss, hqs, rs6⟩ := hs.fzRow (α := Bool) (i := 0) rfl (RcL.bools _ _)
          have hqe := hqs; rw [← hws]; replace hs := hss; clear hss; replace le3 := G.le.trans le3 hqe; replace ep0 := ep0.mono hqe; replace rs1 := rs1.mono hqe; replace rs4 := rs4.mono hqe; replace rs5 := rs5.mono hqe
          have hol := nxTo_len f S f.steps.length
          rw [← hSn] at rs6 hno2 hol
          have hga : geti (nxs f S0 d) a = some false := by
            have hlt : a.toNat < (nxs f S0 d).length := by omega
            rw [geti_of (j := a.toNat) (by omega) hlt]
            unfold isIn at hno2
            rw [List.getD_eq_getElem?_getD, List.getElem?_eq_getElem hlt] at hno2
            cases hb : (nxs f S0 d)[a.toNat] with
            | false => rfl
            | true => exact absurd (by rw [hb]; rfl) hno2
          refine W_exit ?_; (with_reducible refine T_tx ?_; with_reducible refine T_tx ?_); (with_reducible refine T_bx ?_); (with_reducible refine T_then ?_); refine W_seq ?_; refine W_region ?_; refine P1 T.ok rfl rfl rfl ?_; refine P1 T.ok rfl rfl rfl ?_; refine WL_nil ?_; (with_reducible refine T_then ?_); refine W_seq ?_; refine W_region ?_; (iterate 3 refine P1 T.ok rfl rfl rfl ?_)
          refine WL_o rfl rfl (OpR_idx T.ok rfl rs4 (y := a) hgi rfl rfl rfl rfl rfl rfl ?_)
          rintro b q ys hep rfl
          refine WL_o rfl rfl (OpR_loadE T.ok 0 rfl hep rfl rfl ?_)
          refine WL_o rfl rfl (OpR_idx T.ok rfl rs6 (y := false) hga rfl rfl rfl rfl rfl rfl ?_)
          rintro b q' ys' hep2 rfl
          refine WL_o rfl rfl (OpR_loadE T.ok 0 rfl hep2 rfl rfl ?_)
          refine WL_nil ?_; (with_reducible refine T_then ?_)
          refine W_no rfl rfl ?_
          refine W_skip ?_; (with_reducible refine T_bn ?_); (with_reducible refine T_then ?_); refine W_region ?_; (iterate 3 refine P1 T.ok rfl rfl rfl ?_); refine WL_nil ?_
          exact fun a ha => ⟨L - (d + 1), by omega, d + 1, on, _, rfl, hs, le9.trans le3, .inl (by omega), by omega, rfl, rs6, ha.keep ⟨rfl, rfl, rfl, rfl, rfl, rfl, rfl, kI rfl (by rw [wr (by omega) (by omega)]; omega), trivial⟩⟩
      · refine W_no (b := decide ((d : Int) < (L : Int))) (decide_eq_false (by omega)) rfl ?_
        refine W_exit ?_; (with_reducible refine T_tx ?_; with_reducible refine T_tx ?_); (with_reducible refine T_bx ?_); (with_reducible refine T_bn ?_); (with_reducible refine T_then ?_); refine W_region ?_; (iterate 3 refine P1 T.ok rfl rfl rfl ?_); refine WL_nil ?_
        exact fun a ha => ⟨r.length - (i + 1), by omega, i + 1, _, rfl, hs, le8d.trans le9, by omega, rfl, ha.keep ⟨rfl, rfl, rfl, rfl, rfl, kI rfl (by rw [wr (by omega) (by omega)]; omega), trivial⟩⟩
    · refine W_no (b := decide ((i : Int) < (r.length : Int))) (decide_eq_false (by omega)) rfl ?_
      refine W_exit ?_; (with_reducible refine T_tx ?_; with_reducible refine T_tx ?_); (with_reducible refine T_bx ?_); (with_reducible refine T_then ?_); refine W_seq ?_; refine W_region ?_; refine P1 T.ok rfl rfl rfl ?_; refine P1 T.ok rfl rfl rfl ?_; refine WL_nil ?_; (with_reducible refine T_then ?_)
      exact W_ret (ret1 rfl rfl (hs.ret rfl))
end Go.Proofs.Ytijmlfmapfhabaa
