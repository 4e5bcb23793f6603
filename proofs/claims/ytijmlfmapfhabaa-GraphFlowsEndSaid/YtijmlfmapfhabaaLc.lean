/- The walk through GraphFlowsEnd. -/
import Derived.Test.YtijmlfmapfhabaaLb

namespace Go.Proofs.Ytijmlfmapfhabaa
open Go Go.K
set_option maxRecDepth 10000
attribute [local irreducible] W WL OpR
set_option maxHeartbeats 4000000

theorem sum_set {l : List Int} : ∀ {i : Nat} {x : Int} (h : i < l.length), (l.set i x).sum = l.sum - l[i] + x := by
  induction l with
  | nil => intro i x h; simp at h
  | cons a r ih =>
    intro i x h
    cases i with
    | zero => simp only [List.set_cons_zero, List.sum_cons, List.getElem_cons_zero]; omega
    | succ i =>
      have := ih (i := i) (x := x) (by simpa using h)
      simp only [List.set_cons_succ, List.sum_cons, List.getElem_cons_succ]
      omega
theorem sum_bounds {l : List Int} {b : Int} (h : ∀ x ∈ l, 0 ≤ x ∧ x ≤ b) : 0 ≤ l.sum ∧ l.sum ≤ b * l.length := by
  induction l with
  | nil => simp
  | cons a r ih =>
    have h1 := h a (by simp)
    have h2 := ih fun x hx => h x (by simp [hx])
    rw [List.sum_cons]
    have : b * ((a :: r).length : Int) = b * (r.length : Int) + b := by
      rw [List.length_cons, Int.natCast_add, Int.mul_add]; simp
    omega

/-- How often one may still go back, step by step. -/
structure Lft (f : Flow) (l : List Int) : Prop where
  len : l.length = f.steps.length
  all : ∀ i (h : i < l.length), 0 ≤ l[i] ∧ l[i] ≤ (stepD f (i : Int)).limit
theorem right_limit {s : Step} {n : Int} (h : rightStep s n = true) : 0 ≤ s.limit ∧ s.limit ≤ 9 ∧ (0 < s.limit → 0 ≤ s.back ∧ s.back < n) := by
  unfold rightStep within at h
  simp only [Bool.and_eq_true, decide_eq_true_eq, Bool.or_eq_true, beq_iff_eq] at h
  rcases h.1.1.1.1.1.1.1 with h | h <;> omega
theorem Lft.nonneg {f : Flow} (hval : valid f = true) {l : List Int} (h : Lft f l) : 0 ≤ l.sum ∧ l.sum ≤ 360 := by
  have hn := valid_n hval
  have := sum_bounds (l := l) (b := 9) fun x hx => by
    obtain ⟨i, hi, rfl⟩ := List.getElem_of_mem hx
    have h1 := h.all i hi
    have h2 := h.len
    have h3 := right_limit (valid_step hval (n := (i : Int)) (by omega) (by omega))
    omega
  have := h.len
  omega
theorem Lft.less {f : Flow} {l : List Int} (h : Lft f l) {k : Nat} (hk : k < l.length) (h0 : 0 < l[k]) : Lft f (l.set k (l[k] - 1)) := by
  refine ⟨by rw [List.length_set]; exact h.len, fun i hi => ?_⟩
  rw [List.length_set] at hi
  rw [List.getElem_set]
  have := h.all i hi
  split
  · rename_i e; subst e; omega
  · exact this

/-- The first k of the limits are written. -/
structure Fil (f : Flow) (k : Nat) (l : List Int) : Prop where
  len : l.length = f.steps.length
  done : ∀ i (h : i < l.length), l[i] = if i < k then (stepD f (i : Int)).limit else 0
theorem Fil.zero (f : Flow) : Fil f 0 (List.replicate f.steps.length 0) := ⟨by simp, fun i h => by simp⟩
theorem Fil.next {f : Flow} {k : Nat} {l : List Int} (h : Fil f k l) (hk : k < f.steps.length) : Fil f (k + 1) (l.set k (stepD f (k : Int)).limit) ∧ (l.set k (stepD f (k : Int)).limit).sum = l.sum + (stepD f (k : Int)).limit := by
  have hl := h.len
  refine ⟨⟨by rw [List.length_set]; exact hl, fun i hi => ?_⟩, ?_⟩
  · rw [List.length_set] at hi
    rw [List.getElem_set]
    have := h.done i hi
    by_cases e : k = i
    · subst e; simp
    · rw [if_neg e, this]
      by_cases h1 : i < k
      · rw [if_pos h1, if_pos (by omega)]
      · rw [if_neg h1, if_neg (by omega)]
  · rw [sum_set (by omega), h.done k (by omega), if_neg (by omega)]; omega
theorem Fil.lft {f : Flow} (hval : valid f = true) {k : Nat} {l : List Int} (h : Fil f k l) : Lft f l := by
  refine ⟨h.len, fun i hi => ?_⟩
  rw [h.done i hi]
  have h2 := h.len
  have h3 := right_limit (valid_step hval (n := (i : Int)) (by omega) (by omega))
  split <;> omega

theorem rowI_zero (n : Nat) : (List.replicate n [Value.int .i64 0]).flatten = (List.replicate n (0 : Int)).map (Value.int .i64) := by simp

theorem right_nextlen {s : Step} {n : Int} (h : rightStep s n = true) : s.next.length ≤ 4 := by
  unfold rightStep at h
  simp only [Bool.and_eq_true, decide_eq_true_eq] at h
  omega
theorem mul_less {n a : Int} : n * (a - 1) = n * a - n := by rw [Int.mul_sub, Int.mul_one]











def rowI (ob N : Nat) (l : List Int) : Ent := .row 3 1 (.slice (some ⟨ob, 0, none⟩) N N) N (l.map (Value.int .i64))

theorem lawflowsend_c (v : Value) (x : List Y6) (cv : Value) (ch : List Int) (g : G) (rs0 : Rs g v x) (hx : ∀ y ∈ x, y.fit) (rs6 : Rs g cv ch) (hch : ∀ c ∈ ch, I64 c) :
    CallsIn Wd 0 Try.prog 5 #[v, cv] g.w (Ret g fun _ r => r = .bool true) := by
  obtain ⟨ca, cc, rfl⟩ := rs6.isSlice
  have hcl := rs6.len_le
  unfold maxLen at hcl
  have rsC := rs6; clear rs6
  have hs := St.start g
  have le0 := G.le.refl g
  refine enter Try.func5 rfl Try.ntmps5 rfl ?_
  refine W_seq ?_; refine W_region ?_; refine P1 T.ok rfl rfl rfl ?_; refine WL_nil ?_; (with_reducible refine T_then ?_); refine W_seq ?_; refine W_region ?_
  refine WL_o rfl rfl (OpR_ret cl12 allF rfl rfl rfl rfl rfl (sane_c _) ?_); rintro g1 _ hf1 rfl; replace hs := hs.call hf1; have hqe := hf1.le; replace le0 := G.le.trans le0 hqe; replace rs0 := rs0.mono hqe
  refine P1 T.ok rfl rfl rfl ?_; refine WL_nil ?_; (with_reducible refine T_then ?_); refine W_seq ?_; refine W_region ?_; refine P1 T.ok rfl rfl rfl ?_
  refine WL_o rfl rfl (OpR_ret cl14 allF rfl rfl rfl rfl rfl (made_c _ x _ rs0 hx) ?_); rintro g1 _ hf1 ⟨sa, sn, sc, wa, wn, wc, cells, rfl, hh, rc0, rs2⟩
  replace hs := hs.getOwn hf1 hh; have hqe := hf1.le
  replace le0 := le0.trans hqe; replace rs0 := rs0.mono hqe; clear hh
  obtain ⟨gz, hwz, hsz, hqz, rs1⟩ := hs.fzRow (α := Step) (i := 0) rfl rc0
  clear hqe; have hqe := hqz; rw [← hwz]; replace hs := hsz; clear hsz rc0; replace le0 := G.le.trans le0 hqe; replace rs0 := rs0.mono hqe; replace rs2 := rs2.mono hqe
  have hval := made_valid x
  have hn40 := valid_n hval
  have hmr : ∀ c, InR (made x) (pickM c (made x).steps.length) := fun c => made_inR x
  generalize hfe : made x = f at *
  obtain ⟨_, _, e⟩ := rs1.isSlice; obtain ⟨rfl, rfl, rfl⟩ := Value.slice.inj e; clear e
  have fl0 : RFlow gz (.agg #[.int .i64 f.moveMin, .int .i64 f.moveMax, .slice sa f.steps.length sc, .slice wa wn wc]) f := ⟨_, _, _, _, _, _, rfl, rs1, rs2⟩
  skip
  refine WL_o rfl rfl (OpR_alloc T.ok rfl hs rfl rfl ?_); clear hs; rintro bf g1 hs hqe; replace le0 := G.le.trans le0 hqe; replace rs0 := rs0.mono hqe; replace rs1 := rs1.mono hqe; replace rs2 := rs2.mono hqe; replace fl0 := fl0.mono hqe
  skip
  refine WL_n rfl (OpR_storeO T.ok 0 rfl hs rfl rfl rfl rfl rfl rfl rfl rfl rfl ?_); replace hs := hs; rintro g1 hs hqe; replace le0 := G.le.trans le0 hqe; replace rs0 := rs0.mono hqe; replace rs1 := rs1.mono hqe; replace rs2 := rs2.mono hqe; replace fl0 := fl0.mono hqe
  obtain ⟨g2, hw2, hs2, hqe, hep⟩ := hs.fzObj (i := 0) rfl; replace hs := hs2; clear hs2; rw [← hw2]; replace le0 := G.le.trans le0 hqe; replace rs0 := rs0.mono hqe; replace rs1 := rs1.mono hqe; replace rs2 := rs2.mono hqe; replace fl0 := fl0.mono hqe
  have ep0 := hep; clear hep
  refine WL_nil ?_; (with_reducible refine T_then ?_); refine W_seq ?_; refine W_region ?_; refine WL_o rfl rfl (OpR_loadE T.ok 0 rfl ep0 rfl rfl ?_)
  have rs6 := rsC.mono le0
  refine WL_o rfl rfl (OpR_ret cl15 allF rfl rfl rfl rfl rfl (check_c _ f _ fl0) ?_); rintro g1 _ hf1 ⟨pa, pn, pc, rfl, rs3⟩; replace hs := hs.call hf1; have hqe := hf1.le; replace le0 := G.le.trans le0 hqe; replace ep0 := ep0.mono hqe; replace rs0 := rs0.mono hqe; replace rs1 := rs1.mono hqe; replace rs2 := rs2.mono hqe; replace rs6 := rs6.mono hqe; replace fl0 := fl0.mono hqe
  skip
  refine WL_o rfl rfl (OpR_alloc T.ok rfl hs rfl rfl ?_); clear hs; rintro bp g1 hs hqe; replace le0 := G.le.trans le0 hqe; replace ep0 := ep0.mono hqe; replace rs0 := rs0.mono hqe; replace rs1 := rs1.mono hqe; replace rs2 := rs2.mono hqe; replace rs3 := rs3.mono hqe; replace rs6 := rs6.mono hqe; replace fl0 := fl0.mono hqe
  skip
  refine WL_n rfl (OpR_storeO T.ok 0 rfl hs rfl rfl rfl rfl rfl rfl rfl rfl rfl ?_); replace hs := hs; rintro g1 hs hqe; replace le0 := G.le.trans le0 hqe; replace ep0 := ep0.mono hqe; replace rs0 := rs0.mono hqe; replace rs1 := rs1.mono hqe; replace rs2 := rs2.mono hqe; replace rs3 := rs3.mono hqe; replace rs6 := rs6.mono hqe; replace fl0 := fl0.mono hqe
  obtain ⟨g2, hw2, hs2, hqe, hep⟩ := hs.fzObj (i := 0) rfl; replace hs := hs2; clear hs2; rw [← hw2]; replace le0 := G.le.trans le0 hqe; replace ep0 := ep0.mono hqe; replace rs0 := rs0.mono hqe; replace rs1 := rs1.mono hqe; replace rs2 := rs2.mono hqe; replace rs3 := rs3.mono hqe; replace rs6 := rs6.mono hqe; replace fl0 := fl0.mono hqe
  have ep1 := hep; clear hep
  refine WL_nil ?_; (with_reducible refine T_then ?_); refine W_seq ?_; refine W_seq ?_; refine W_region ?_; refine P1 T.ok rfl rfl rfl ?_; refine WL_o rfl rfl (OpR_loadE T.ok 0 rfl ep1 rfl rfl ?_); refine P1 T.ok rfl rfl rfl ?_; refine WL_nil ?_; (with_reducible refine T_then ?_)
  have hfa := falls hval
  generalize check f = pr at *
  obtain ⟨kd, l⟩ := pr
  simp only at hfa rs3 ep1
  obtain ⟨_, _, e⟩ := rs3.isSlice; obtain ⟨rfl, rfl, rfl⟩ := Value.slice.inj e; clear e
  by_cases hk0 : kd = 0
  · refine W_no (b := kd != 0) (by simp [hk0]) rfl ?_
    obtain ⟨rk, hrk1, hrk2⟩ := hfa hk0
    have h0 := zero_inR hval
    have hm0 := fun {m} (h : Rch f 0 m) => (mem_reach hval h0).2 h
    clear ep1 rs3
    refine W_skip ?_; (with_reducible refine T_then ?_); refine W_seq ?_; refine W_region ?_; refine P1 T.ok rfl rfl rfl ?_; refine WL_o rfl rfl (OpR_loadE T.ok 2 rfl ep0 rfl rfl ?_); refine P1 T.ok rfl rfl rfl ?_; refine P1 T.ok rfl rfl rfl ?_; refine WL_nil ?_; (with_reducible refine T_then ?_); refine W_seq ?_; refine W_region ?_; refine P1 T.ok rfl rfl rfl ?_
    refine WL_o rfl rfl (OpR_make T.ok rfl hs rfl rfl rfl rfl rfl rfl (by decide) rfl (by show 8 * f.steps.length ≤ _; omega) (by unfold maxLen; omega) ?_); rintro ol gm hs hqe; replace le0 := G.le.trans le0 hqe; replace ep0 := ep0.mono hqe; replace rs0 := rs0.mono hqe; replace rs1 := rs1.mono hqe; replace rs2 := rs2.mono hqe; replace rs6 := rs6.mono hqe; replace fl0 := fl0.mono hqe
    have hst : St g gm [rowI ol f.steps.length (List.replicate f.steps.length 0)] := by
      unfold rowI; rw [← rowI_zero]; exact hs
    replace hs := hst; clear hst
    refine P1 T.ok rfl rfl rfl ?_; refine WL_nil ?_; (with_reducible refine T_then ?_); refine W_seq ?_; refine W_region ?_; refine P1 T.ok rfl rfl rfl ?_; refine WL_nil ?_; (with_reducible refine T_then ?_); refine W_seq ?_; refine W_seq ?_; refine W_region ?_; refine P1 T.ok rfl rfl rfl ?_; refine WL_nil ?_; (with_reducible refine T_then ?_); refine W_block ?_
    have ep0c := ep0; have rs1c := rs1; have rs6c := rs6; have fl0c := fl0; have le8 := G.le.refl gm
    refine W_loop (fun m a' w => ∃ (i : Nat) (left : List Int) (g3 : G), w = g3.w ∧ St g g3 [rowI ol f.steps.length left] ∧ G.le gm g3 ∧ i ≤ f.steps.length ∧ m = f.steps.length - i ∧ Fil f i left ∧
        Fr 177 [] [(1, .slice ca ch.length cc), (5, .bool true), (6, .pointer (some ⟨bf, 0, none⟩)), (8, .int .i64 f.steps.length), (9, .slice (some ⟨ol, 0, none⟩) f.steps.length f.steps.length), (10, .int .i64 (1 + left.sum)), (11, .int .i64 i)] a') f.steps.length
      (fun a' ha => ⟨0, _, gm, rfl, hs, le8, Nat.zero_le _, rfl, Fil.zero f, ha.keep ⟨rfl, rfl, rfl, rfl, rfl, by simp; rfl, rfl, trivial⟩⟩) ?_
    clear hs le8 ep0 rs1 rs6 fl0 rs0 rs2 le0
    rintro m a' _ ⟨i, left, g3, rfl, hs, le8, hi, rfl, hfil, ha'⟩
    have ep0 := ep0c.mono le8; have rs1 := rs1c.mono le8; have rs6 := rs6c.mono le8; have fl0 := fl0c.mono le8
    have hsb := (hfil.lft hval).nonneg hval
    have hll := hfil.len
    revert a'
    (with_reducible refine T_wp ?_); refine W_seq ?_; refine W_seq ?_; refine W_region ?_; (iterate 3 refine P1 T.ok rfl rfl rfl ?_); refine WL_nil ?_; (with_reducible refine T_then ?_)
    by_cases hlt : i < f.steps.length
    · refine W_yes (b := decide ((i : Int) < (f.steps.length : Int))) (decide_eq_true (by omega)) rfl ?_
      have hir : InR f (i : Int) := ⟨by omega, by omega⟩
      have hgi := step_geti hir
      have hlim := right_limit (valid_step hval hir.1 hir.2)
      obtain ⟨hf2, hsum⟩ := hfil.next hlt
      generalize stepD f (i : Int) = sk at *
      refine W_skip ?_; (with_reducible refine T_then ?_); refine W_seq ?_; refine W_block ?_; refine W_seq ?_; refine W_region ?_; (iterate 3 refine P1 T.ok rfl rfl rfl ?_); refine WL_o rfl rfl (OpR_loadE T.ok 2 rfl ep0 rfl rfl ?_); refine P1 T.ok rfl rfl rfl ?_
      refine WL_o rfl rfl (OpR_idx T.ok rfl rs1 (y := sk) hgi rfl rfl rfl rfl rfl rfl ?_)
      rintro b q ys hep ⟨b1, b2, b3, b4, b5, b6, rfl, _, rs7⟩
      refine WL_o rfl rfl (OpR_pure _ T.ok rfl ?_)
      refine WL_o rfl rfl (OpR_loadE T.ok 6 rfl hep rfl rfl ?_)
      refine WL_o rfl rfl (OpR_idxR T.ok rfl (hs.own 0 _ rfl).1 (by omega) (by omega) rfl rfl rfl rfl rfl rfl ?_)
      rintro b q hh; obtain ⟨rfl, rfl⟩ : ol = b ∧ 0 = q := by simpa using hh
      clear hep rs7
      refine WL_n rfl (OpR_storeR T.ok 0 (i * 1) (us := [.int .i64 sk.limit]) rfl hs rfl rfl rfl rfl rfl rfl rfl (by simp) (by simp; omega) (set_spl _ _ (Value.int .i64) sk.limit (by omega)) ?_)
      rintro g5 hs hqe; replace le8 := G.le.trans le8 hqe; replace ep0 := ep0.mono hqe; replace rs1 := rs1.mono hqe; replace rs6 := rs6.mono hqe; replace fl0 := fl0.mono hqe
      refine WL_nil ?_; (with_reducible refine T_then ?_); refine W_region ?_; refine P1 T.ok rfl rfl rfl ?_; refine P1 T.ok rfl rfl rfl ?_; refine WL_o rfl rfl (OpR_loadE T.ok 2 rfl ep0 rfl rfl ?_); refine P1 T.ok rfl rfl rfl ?_
      refine WL_o rfl rfl (OpR_idx T.ok rfl rs1 (y := sk) hgi rfl rfl rfl rfl rfl rfl ?_)
      rintro b q ys hep ⟨b1, b2, b3, b4, b5, b6, rfl, _, rs7⟩
      refine WL_o rfl rfl (OpR_pure _ T.ok rfl ?_)
      refine WL_o rfl rfl (OpR_loadE T.ok 6 rfl hep rfl rfl ?_)
      refine P1 T.ok rfl rfl rfl ?_; refine P1 T.ok rfl rfl rfl ?_; refine WL_nil ?_; (with_reducible refine T_bn ?_); (with_reducible refine T_then ?_); refine W_region ?_; (iterate 3 refine P1 T.ok rfl rfl rfl ?_); refine WL_nil ?_
      exact fun a ha => ⟨f.steps.length - (i + 1), by omega, i + 1, _, _, rfl, hs, le8, by omega, rfl, hf2, ha.keep ⟨rfl, rfl, rfl, rfl, rfl, kI rfl (by rw [wr (by omega) (by omega), hsum]; omega), kI rfl (by rw [wr (by omega) (by omega)]; omega), trivial⟩⟩
    · refine W_no (b := decide ((i : Int) < (f.steps.length : Int))) (decide_eq_false (by omega)) rfl ?_
      have hlft := hfil.lft hval
      clear hfil
      refine W_exit ?_; (with_reducible refine T_tx ?_; with_reducible refine T_tx ?_); (with_reducible refine T_bx ?_); (with_reducible refine T_then ?_); refine W_seq ?_; refine W_region ?_; (iterate 4 refine P1 T.ok rfl rfl rfl ?_); refine WL_nil ?_; (with_reducible refine T_then ?_); refine W_seq ?_; refine W_region ?_; refine P1 T.ok rfl rfl rfl ?_; refine WL_nil ?_; (with_reducible refine T_then ?_); refine W_seq ?_; refine W_region ?_; refine P1 T.ok rfl rfl rfl ?_; refine WL_nil ?_; (with_reducible refine T_then ?_); refine W_seq ?_; refine W_seq ?_; refine W_region ?_; refine P1 T.ok rfl rfl rfl ?_; refine WL_nil ?_; (with_reducible refine T_then ?_); refine W_block ?_
      obtain ⟨B, hB, hBe, hBu⟩ : ∃ B : Int, IntKind.i64.wrap ((1 + left.sum) * (f.steps.length : Int)) = B ∧ B = f.steps.length + f.steps.length * left.sum ∧ B ≤ 20000 := by
        have e1 : (1 + left.sum) * (f.steps.length : Int) = f.steps.length + f.steps.length * left.sum := by rw [Int.add_mul, Int.one_mul, Int.mul_comm left.sum]
        have e2 : (f.steps.length : Int) * left.sum ≤ 40 * 360 := Int.mul_le_mul (by omega) hsb.2 hsb.1 (by omega)
        have e3 : 0 ≤ (f.steps.length : Int) * left.sum := Int.mul_nonneg (by omega) hsb.1
        exact ⟨_, rfl, by rw [e1]; exact wr (by omega) (by omega), by rw [e1, wr (by omega) (by omega)]; omega⟩
      rw [hB]
      clear hB
      have hrk0 := hrk1 0 (hm0 (.refl _))
      have ep0d := ep0; have rs1d := rs1; have rs6d := rs6; have le9 := G.le.refl g3
      refine W_loop (fun m a' w => ∃ (i : Nat) (c : Int) (lf : List Int) (g4 : G), w = g4.w ∧ St g g4 [rowI ol f.steps.length lf] ∧ G.le g3 g4 ∧ Rch f 0 c ∧ Lft f lf ∧ (i : Int) + 1 + rk c + f.steps.length * lf.sum ≤ B ∧ m = (B - i).toNat ∧
          Fr 177 [] [(1, .slice ca ch.length cc), (5, .bool true), (6, .pointer (some ⟨bf, 0, none⟩)), (8, .int .i64 f.steps.length), (9, .slice (some ⟨ol, 0, none⟩) f.steps.length f.steps.length), (10, .int .i64 B), (12, .int .i64 c), (13, .int .i64 ((i : Int) + 1)), (14, .int .i64 i)] a') B.toNat
        (fun a' ha => ⟨0, 0, left, g3, rfl, hs, le9, .refl _, hlft, by omega, by simp, ha.keep (by (repeat (first | exact trivial | refine ⟨rfl, ?_⟩)))⟩) ?_
      clear hs le9 ep0 rs1 rs6 fl0 hlft hsb hll hBe
      rintro m a' _ ⟨i, c, left, g4, rfl, hs, le9, hrc, hlft, hpot, rfl, ha'⟩
      have ep0 := ep0d.mono le9; have rs1 := rs1d.mono le9; have rs6 := rs6d.mono le9
      have hsb := hlft.nonneg hval
      have hll := hlft.len
      have hcr := hrc.inR hval h0
      have hc0 := hcr.1; have hc1 := hcr.2
      have hgi := step_geti hcr
      have hrt := valid_step hval hcr.1 hcr.2
      have hnx : ∀ d ∈ (stepD f c).next, Rch f 0 d ∧ rk d + 1 ≤ rk c := fun d hd => ⟨.step hrc (mem_after.2 (.inl hd)), hrk2 c (hm0 hrc) d hd⟩
      have hbk : 0 < (stepD f c).limit → Rch f 0 (stepD f c).back ∧ rk (stepD f c).back + 1 ≤ f.steps.length := fun hp => by
        have h := (right_limit hrt).2.2 hp
        have h2 : Rch f 0 (stepD f c).back := .step hrc (mem_after.2 (.inr ⟨rfl, h.1⟩))
        exact ⟨h2, hrk1 _ (hm0 h2)⟩
      have hnl := right_nextlen hrt
      obtain ⟨lv, hlv, hlv0, hlv1, hlvs⟩ : ∃ lv, left[c.toNat]? = some lv ∧ 0 ≤ lv ∧ lv ≤ (stepD f c).limit ∧ (0 < lv → Lft f (left.set c.toNat (lv - 1)) ∧ (left.set c.toNat (lv - 1)).sum = left.sum - 1) := by
        have hlt : c.toNat < left.length := by omega
        have h := hlft.all c.toNat hlt
        rw [Int.toNat_of_nonneg hc0] at h
        exact ⟨left[c.toNat], List.getElem?_eq_getElem hlt, h.1, h.2, fun hp => ⟨hlft.less hlt hp, by rw [sum_set hlt]; omega⟩⟩
      have hlim := right_limit hrt
      have hmn : (f.steps.length : Int) * (left.sum - 1) = f.steps.length * left.sum - f.steps.length := mul_less
      have hm1 : 0 ≤ (f.steps.length : Int) * left.sum := Int.mul_nonneg (by omega) hsb.1
      generalize stepD f c = sk at *
      revert a'
      (with_reducible refine T_wp ?_); refine W_seq ?_; refine W_block ?_; refine W_seq ?_; refine W_region ?_; refine P1 T.ok rfl rfl rfl ?_; refine WL_o rfl rfl (OpR_loadE T.ok 2 rfl ep0 rfl rfl ?_); refine P1 T.ok rfl rfl rfl ?_
      refine WL_o rfl rfl (OpR_idx T.ok rfl rs1 (y := sk) hgi rfl rfl rfl rfl rfl rfl ?_)
      rintro b q ys hep ⟨b1, b2, b3, b4, b5, b6, rfl, _, rs7⟩
      obtain ⟨_, _, e⟩ := rs7.isSlice; obtain ⟨rfl, rfl, rfl⟩ := Value.slice.inj e; clear e
      refine WL_o rfl rfl (OpR_loadE T.ok 0 rfl hep rfl rfl ?_)
      clear hep
      skip
      refine WL_o rfl rfl (OpR_alloc T.ok rfl hs rfl rfl ?_); clear hs; rintro bs g1 hs hqe; replace le9 := G.le.trans le9 hqe; replace ep0 := ep0.mono hqe; replace rs1 := rs1.mono hqe; replace rs6 := rs6.mono hqe; replace rs7 := rs7.mono hqe
      skip
      refine WL_n rfl (OpR_storeO T.ok 0 rfl hs rfl rfl rfl rfl rfl rfl rfl rfl rfl ?_); replace hs := hs; rintro g1 hs hqe; replace le9 := G.le.trans le9 hqe; replace ep0 := ep0.mono hqe; replace rs1 := rs1.mono hqe; replace rs6 := rs6.mono hqe; replace rs7 := rs7.mono hqe
      obtain ⟨g2, hw2, hs2, hqe, hep⟩ := hs.fzObj (i := 0) rfl; replace hs := hs2; clear hs2; rw [← hw2]; replace le9 := G.le.trans le9 hqe; replace ep0 := ep0.mono hqe; replace rs1 := rs1.mono hqe; replace rs6 := rs6.mono hqe; replace rs7 := rs7.mono hqe
      have ep2 := hep; clear hep
      refine WL_nil ?_; (with_reducible refine T_then ?_); refine W_seq ?_; refine W_region ?_
      refine WL_o rfl rfl (OpR_lit T.ok rfl hs (vs := []) (cells := []) rfl rfl rfl rfl rfl rfl (by decide) (by decide) (by kernel_rfl) rfl ?_); rintro bl gl hs hqe; replace le9 := G.le.trans le9 hqe; replace ep0 := ep0.mono hqe; replace ep2 := ep2.mono hqe; replace rs1 := rs1.mono hqe; replace rs6 := rs6.mono hqe; replace rs7 := rs7.mono hqe
      refine P1 T.ok rfl rfl rfl ?_; refine WL_o rfl rfl (OpR_loadE T.ok 4 rfl ep2 rfl rfl ?_)
      obtain ⟨_, news, hrcl, hsrc⟩ := Src.of_rs rs7
      obtain rfl := RcL.ints_inv hrcl
      refine WL_o rfl rfl (OpR_append T.ok 0 rfl hs rfl rfl rfl rfl rfl rfl rfl (by decide) rfl hsrc (by simp [ints, Value.oneCell']) (by show (0 + sk.next.length) * 8 ≤ _; omega) (by unfold maxLen; omega) ?_); rintro a9 c9 g8 hs hqe; replace le9 := G.le.trans le9 hqe; replace ep0 := ep0.mono hqe; replace ep2 := ep2.mono hqe; replace rs1 := rs1.mono hqe; replace rs6 := rs6.mono hqe; replace rs7 := rs7.mono hqe
      refine P1 T.ok rfl rfl rfl ?_; refine WL_nil ?_; (with_reducible refine T_then ?_); refine W_seq ?_; refine W_seq ?_; refine W_region ?_; refine P1 T.ok rfl rfl rfl ?_; refine P1 T.ok rfl rfl rfl ?_
      refine WL_o rfl rfl (OpR_idxR T.ok rfl (hs.own 1 _ rfl).1 hc0 (by omega) rfl rfl rfl rfl rfl rfl ?_)
      rintro b q hh; obtain ⟨rfl, rfl⟩ : ol = b ∧ 0 = q := by simpa using hh
      refine WL_o rfl rfl (OpR_loadR T.ok (c.toNat * 1) rfl (hs.own 1 _ rfl).1 rfl (v := .int .i64 lv) (by show (List.map (Value.int .i64) _)[c.toNat * 1]? = _; rw [Nat.mul_one, List.getElem?_map, hlv]; rfl) ?_)
      refine P1 T.ok rfl rfl rfl ?_; refine WL_nil ?_; (with_reducible refine T_then ?_)
      obtain ⟨op, hop, hopm⟩ : ∃ op : List Int, op = sk.next ++ (if 0 < lv then [sk.back] else []) ∧ True := ⟨_, rfl, trivial⟩
      refine W_mid (fun a' w' => ∃ (oa : Option Addr) (oc : Nat) (g5 : G), w' = g5.w ∧ St g g5 [rowI ol f.steps.length left] ∧ G.le g8 g5 ∧ Rs g5 (.slice oa op.length oc) op ∧
          Fr 177 [] [(1, .slice ca ch.length cc), (5, .bool true), (6, .pointer (some ⟨bf, 0, none⟩)), (8, .int .i64 f.steps.length), (9, .slice (some ⟨ol, 0, none⟩) f.steps.length f.steps.length), (10, .int .i64 B), (12, .int .i64 c), (13, .int .i64 ((i : Int) + 1)), (14, .int .i64 i), (15, .pointer (some ⟨bs, 0, none⟩)), (16, .slice oa op.length oc)] a') ?_ ?_
      · have le2 := G.le.refl g8
        by_cases hp : 0 < lv
        · refine W_yes (b := decide (0 < lv)) (decide_eq_true hp) rfl ?_
          rw [if_pos hp] at hop
          have hol : op.length = 0 + sk.next.length + 1 := by rw [hop]; simp
          refine W_region ?_; refine P1 T.ok rfl rfl rfl ?_; refine P1 T.ok rfl rfl rfl ?_; refine WL_o rfl rfl (OpR_loadE T.ok 5 rfl ep2 rfl rfl ?_)
          refine WL_o rfl rfl (OpR_lit T.ok rfl hs (vs := [(0, .int .i64 sk.back)]) (cells := [.int .i64 sk.back]) rfl rfl rfl rfl rfl rfl (by decide) (by decide) (by kernel_rfl) rfl ?_); rintro bl gl hs hqe; replace le2 := G.le.trans le2 hqe; replace le9 := G.le.trans le9 hqe; replace ep0 := ep0.mono hqe; replace ep2 := ep2.mono hqe; replace rs1 := rs1.mono hqe; replace rs6 := rs6.mono hqe; replace rs7 := rs7.mono hqe
          skip
          refine WL_o rfl rfl (OpR_append T.ok 1 rfl hs rfl rfl rfl rfl rfl rfl rfl (by decide) rfl (Src.of_row (hs.own 0 _ rfl).1).2 (by simp [Value.oneCell']) (by show (0 + sk.next.length + 1) * 8 ≤ _; omega) (by unfold maxLen; omega) ?_); rintro a9 c9 g9 hs hqe; replace le2 := G.le.trans le2 hqe; replace le9 := G.le.trans le9 hqe; replace ep0 := ep0.mono hqe; replace ep2 := ep2.mono hqe; replace rs1 := rs1.mono hqe; replace rs6 := rs6.mono hqe; replace rs7 := rs7.mono hqe
          obtain ⟨gz, hwz, hsz, hqz, rs5⟩ := hs.fzRow (α := Int) (xs := op) (i := 1) rfl (by have h := RcL.ints g9 op; rw [hop] at h ⊢; simpa [ints] using h)
          clear hqe; have hqe := hqz; rw [← hwz]; replace hs := hsz.drop 0; clear hsz; replace le2 := G.le.trans le2 hqe; replace le9 := G.le.trans le9 hqe; replace ep0 := ep0.mono hqe; replace ep2 := ep2.mono hqe; replace rs1 := rs1.mono hqe; replace rs6 := rs6.mono hqe; replace rs7 := rs7.mono hqe
          refine P1 T.ok rfl rfl rfl ?_; refine WL_nil ?_
          exact fun a ha => T_mid ⟨a9, c9, _, rfl, hs, le2, by rw [hol]; exact rs5, ha.keep ⟨rfl, rfl, rfl, rfl, rfl, rfl, rfl, rfl, rfl, rfl, by rw [hol]; rfl, trivial⟩⟩
        · refine W_no (b := decide (0 < lv)) (decide_eq_false hp) rfl ?_
          rw [if_neg hp] at hop
          have hol : op.length = 0 + sk.next.length := by rw [hop]; simp
          obtain ⟨gz, hwz, hsz, hqz, rs5⟩ := hs.fzRow (α := Int) (xs := op) (i := 0) rfl (by have h := RcL.ints g8 op; rw [hop] at h ⊢; simpa [ints] using h)
          have hqe := hqz; rw [← hwz]; replace hs := hsz; clear hsz; replace le2 := G.le.trans le2 hqe; replace le9 := G.le.trans le9 hqe; replace ep0 := ep0.mono hqe; replace ep2 := ep2.mono hqe; replace rs1 := rs1.mono hqe; replace rs6 := rs6.mono hqe; replace rs7 := rs7.mono hqe
          refine W_skip ?_
          exact fun a ha => T_mid ⟨a9, c9, _, rfl, hs, le2, by rw [hol]; exact rs5, ha.keep ⟨rfl, rfl, rfl, rfl, rfl, rfl, rfl, rfl, rfl, rfl, by rw [hol]; rfl, trivial⟩⟩
      rintro a' _ ⟨oa, oc, g5, rfl, hs', hqe, rs5, ha'⟩
      replace hs := hs'; clear hs'
      replace le9 := G.le.trans le9 hqe; replace ep0 := ep0.mono hqe; replace ep2 := ep2.mono hqe; replace rs1 := rs1.mono hqe; replace rs6 := rs6.mono hqe; replace rs7 := rs7.mono hqe
      revert a'
      (with_reducible refine T_wp ?_); refine W_seq ?_; refine W_seq ?_; refine W_region ?_; (iterate 3 refine P1 T.ok rfl rfl rfl ?_); refine WL_nil ?_; (with_reducible refine T_then ?_)
      by_cases hol : op.length = 0
      · refine W_yes (b := ((op.length : Nat) : Int) == 0) (beq_iff_eq.2 (by omega)) rfl ?_
        refine W_exit ?_; (with_reducible refine T_tx ?_); ((with_reducible refine T_by ?_ ?_); exact rfl); (with_reducible refine T_tx ?_; with_reducible refine T_tx ?_); (with_reducible refine T_bx ?_); (with_reducible refine T_then ?_); refine W_seq ?_; refine W_region ?_; refine WL_o rfl rfl (OpR_loadE T.ok 0 rfl ep0 rfl rfl ?_)
        have fl0 := fl0c.mono (le8.trans le9)
        clear rs5 ep2 rs6
        refine WL_o rfl rfl (OpR_ret cl29 allF rfl rfl rfl rfl rfl (reach_c _ f 0 _ fl0) ?_); rintro g1 vo hf1 hvo; obtain ⟨gz, hwz, hsz, hqz, rs4⟩ := hs.ownRs hf1 hvo; have hqe := hf1.le.trans hqz; rw [← hwz]; replace hs := hsz; clear hsz hvo; replace le9 := G.le.trans le9 hqe; replace ep0 := ep0.mono hqe; replace rs1 := rs1.mono hqe; replace rs7 := rs7.mono hqe; replace fl0 := fl0.mono hqe
        obtain ⟨ar, cr, rfl⟩ := rs4.isSlice
        have hrl := reach_len f 0
        have hrr : ∀ n ∈ reach f 0, InR f n ∧ Rch f 0 n := fun n hn => ⟨mem_reach_inR hn, (mem_reach hval h0).1 hn⟩
        clear hnx hbk hnl hlvs hlim hmn hm1 hgi hrt
        generalize hre : reach f 0 = r at *
        refine P1 T.ok rfl rfl rfl ?_; refine WL_nil ?_; (with_reducible refine T_then ?_); refine W_seq ?_; refine W_seq ?_; refine W_region ?_; refine P1 T.ok rfl rfl rfl ?_; refine WL_nil ?_; (with_reducible refine T_then ?_); refine W_block ?_
        have ep0e := ep0; have rs1e := rs1; have rs4e := rs4; have le3 := G.le.refl gz
        refine W_loop (fun m a' w => ∃ (j : Nat) (g5 : G), w = g5.w ∧ St g g5 [] ∧ G.le gz g5 ∧ j ≤ r.length ∧ m = r.length - j ∧
            Fr 177 [] [(5, .bool true), (6, .pointer (some ⟨bf, 0, none⟩)), (8, .int .i64 f.steps.length), (18, .slice ar r.length cr), (19, .int .i64 j)] a') r.length
          (fun a' ha => ⟨0, gz, rfl, hs.drop 0, le3, Nat.zero_le _, rfl, ha.keep (by (repeat (first | exact trivial | refine ⟨rfl, ?_⟩)))⟩) ?_
        clear hs le3 le9 ep0 rs1 rs4 fl0
        rintro m a' _ ⟨j, g5, rfl, hs, le3, hj, rfl, ha'⟩
        have ep0 := ep0e.mono le3; have rs1 := rs1e.mono le3; have rs4 := rs4e.mono le3
        revert a'
        (with_reducible refine T_wp ?_); refine W_seq ?_; refine W_seq ?_; refine W_region ?_; (iterate 4 refine P1 T.ok rfl rfl rfl ?_); refine WL_nil ?_; (with_reducible refine T_then ?_)
        by_cases hlj : j < r.length
        · refine W_yes (b := decide ((j : Int) < (r.length : Int))) (decide_eq_true (by omega)) rfl ?_
          have hgj := geti_of (xs := r) (n := (j : Int)) rfl hlj
          obtain ⟨har, hra⟩ := hrr _ (List.getElem_mem hlj)
          generalize r[j] = a at *
          have ha0 := har.1; have ha1 := har.2
          refine W_skip ?_; (with_reducible refine T_then ?_); refine W_seq ?_; refine W_block ?_; refine W_seq ?_; refine W_seq ?_; refine W_region ?_; refine P1 T.ok rfl rfl rfl ?_; refine P1 T.ok rfl rfl rfl ?_
          refine WL_o rfl rfl (OpR_idx T.ok rfl rs4 (y := a) hgj rfl rfl rfl rfl rfl rfl ?_)
          rintro b q ys hep rfl
          refine WL_o rfl rfl (OpR_loadE T.ok 0 rfl hep rfl rfl ?_)
          refine P1 T.ok rfl rfl rfl ?_; refine P1 T.ok rfl rfl rfl ?_
          refine WL_know 134 (b' := false) (decide_eq_false (by omega)) rfl ?_
          refine P1 T.ok rfl rfl rfl ?_; refine P1 T.ok rfl rfl rfl ?_
          refine WL_o rfl rfl (OpR_idx T.ok rfl rs4 (y := a) hgj rfl rfl rfl rfl rfl rfl ?_)
          rintro b q ys hep rfl
          refine WL_o rfl rfl (OpR_loadE T.ok 0 rfl hep rfl rfl ?_)
          (iterate 3 refine P1 T.ok rfl rfl rfl ?_); refine WL_nil ?_; (with_reducible refine T_then ?_)
          refine W_no (b := decide ((f.steps.length : Int) ≤ a)) (decide_eq_false (by omega)) rfl ?_
          refine W_skip ?_; (with_reducible refine T_then ?_); refine W_seq ?_; refine W_region ?_; refine P1 T.ok rfl rfl rfl ?_; refine P1 T.ok rfl rfl rfl ?_
          refine WL_o rfl rfl (OpR_idx T.ok rfl rs4 (y := a) hgj rfl rfl rfl rfl rfl rfl ?_)
          rintro b q ys hep rfl
          refine WL_o rfl rfl (OpR_loadE T.ok 0 rfl hep rfl rfl ?_)
          clear hep
          refine P1 T.ok rfl rfl rfl ?_; refine WL_nil ?_; (with_reducible refine T_then ?_); refine W_seq ?_; refine W_region ?_; refine P1 T.ok rfl rfl rfl ?_; refine WL_nil ?_; (with_reducible refine T_then ?_); refine W_block ?_
          have hrka := hrk1 a (hm0 hra)
          have ep0f := ep0; have rs1f := rs1; have le2 := G.le.refl g5
          refine W_loop (fun m a' w => ∃ (k : Nat) (d : Int) (g6 : G), w = g6.w ∧ St g g6 [] ∧ G.le g5 g6 ∧ Rch f 0 d ∧ k + rk d + 1 ≤ f.steps.length ∧ m = f.steps.length - k ∧
              Fr 177 [] [(5, .bool true), (6, .pointer (some ⟨bf, 0, none⟩)), (8, .int .i64 f.steps.length), (18, .slice ar r.length cr), (19, .int .i64 j), (20, .int .i64 d), (21, .int .i64 k)] a') f.steps.length
            (fun a' ha => ⟨0, a, g5, rfl, hs, le2, hra, by omega, rfl, ha.keep (by (repeat (first | exact trivial | refine ⟨rfl, ?_⟩)))⟩) ?_
          clear hs le2 ep0 rs1 rs4
          rintro m a' _ ⟨k, d, g6, rfl, hs, le2, hrd, hkd, rfl, ha'⟩
          have ep0 := ep0f.mono le2; have rs1 := rs1f.mono le2
          revert a'
          have hdr := hrd.inR hval h0
          have hgd := step_geti hdr
          have hnd : ∀ y ∈ (stepD f d).next, Rch f 0 y ∧ rk y + 1 ≤ rk d := fun y hy => ⟨.step hrd (mem_after.2 (.inl hy)), hrk2 d (hm0 hrd) y hy⟩
          have hnl := right_nextlen (valid_step hval hdr.1 hdr.2)
          (with_reducible refine T_wp ?_); refine W_seq ?_; refine W_seq ?_; refine W_region ?_; refine P1 T.ok rfl rfl rfl ?_; refine WL_o rfl rfl (OpR_loadE T.ok 2 rfl ep0 rfl rfl ?_); refine P1 T.ok rfl rfl rfl ?_
          refine WL_o rfl rfl (OpR_idx T.ok rfl rs1 (y := stepD f d) hgd rfl rfl rfl rfl rfl rfl ?_)
          rintro b q ys hep ⟨b1, b2, b3, b4, b5, b6, rfl, _, rs7⟩
          obtain ⟨_, _, e⟩ := rs7.isSlice; obtain ⟨rfl, rfl, rfl⟩ := Value.slice.inj e; clear e
          refine WL_o rfl rfl (OpR_pure _ T.ok rfl ?_)
          refine WL_o rfl rfl (OpR_loadE T.ok 4 rfl hep rfl rfl ?_)
          clear hep rs7
          refine P1 T.ok rfl rfl rfl ?_; refine P1 T.ok rfl rfl rfl ?_; refine WL_nil ?_; (with_reducible refine T_then ?_)
          by_cases hnn : 0 < (stepD f d).next.length
          · refine W_yes (b := decide (0 < ((stepD f d).next.length : Int))) (decide_eq_true (by omega)) rfl ?_
            have hpr := pickM_range (c := (k : Int)) (n := ((stepD f d).next.length : Int)) (by omega)
            obtain ⟨y, hgy, hyl⟩ : ∃ y, geti (stepD f d).next (pickM k (stepD f d).next.length) = some y ∧ y ∈ (stepD f d).next := by
              have hj : (pickM k (stepD f d).next.length).toNat < (stepD f d).next.length := by omega
              exact ⟨(stepD f d).next[(pickM k (stepD f d).next.length).toNat], geti_of (by omega) hj, List.getElem_mem hj⟩
            obtain ⟨hy1, hy2⟩ := hnd y hyl
            refine W_skip ?_; (with_reducible refine T_then ?_); refine W_seq ?_; refine W_block ?_; refine W_seq ?_; refine W_seq ?_; refine W_region ?_; (iterate 3 refine P1 T.ok rfl rfl rfl ?_); refine WL_nil ?_; (with_reducible refine T_then ?_)
            refine W_no (b := decide ((f.steps.length : Int) ≤ (k : Int))) (decide_eq_false (by omega)) rfl ?_
            refine W_skip ?_; (with_reducible refine T_then ?_)
            apply W_draw allF rfl (Fact.eq _ :: Fact.eq _ :: Fact.eq _ :: (stepPtr 0 (stepD f d)) :: (stepPtr 4 (stepD f d)) :: (Fact.rs (stepD f d).next) :: Fact.eq _ :: Fact.eq _ :: Fact.eq _ :: Fact.eq _ :: (stepPtr 0 (stepD f d)) :: (stepPtr 4 (stepD f d)) :: (Fact.rs (stepD f d).next) :: Fact.eq _ :: Fact.eq _ :: (intPtr y) :: Fact.eq _ :: []) 17 [(16, 175)] rfl rfl
            · refine D_cons (D_step2 (js := []) (by kernel_rfl) fun gd hf => ?_) ?_
              · have hsd := hs.dr.call hf; have hfe := (G.le_dr _).trans hf.le
                refine QA_nil ?_
                (refine D_yes rfl ?_; refine OpR_pure _ T.ok rfl ?_; refine ⟨_, rfl, Fr0.refl _, ?_⟩; exact rfl)
              refine D_cons (D_step2 (js := [(0, 159)]) (by kernel_rfl) fun gd hf => ?_) ?_
              · have hsd := hs.dr.call hf; have hfe := (G.le_dr _).trans hf.le
                refine QA_eq rfl ?_
                refine QA_nil ?_
                (refine D_yes rfl ?_; refine OpR_loadE T.ok 2 rfl (ep0.mono hfe) rfl rfl ?_; refine ⟨_, rfl, Fr0.refl _, ?_⟩; exact rfl)
              refine D_cons (D_step2 (js := []) (by kernel_rfl) fun gd hf => ?_) ?_
              · have hsd := hs.dr.call hf; have hfe := (G.le_dr _).trans hf.le
                refine QA_nil ?_
                (refine D_yes rfl ?_; refine OpR_pure _ T.ok rfl ?_; refine ⟨_, rfl, Fr0.refl _, ?_⟩; exact rfl)
              refine D_cons (D_step2 (js := [(1, 160), (2, 161)]) (by kernel_rfl) fun gd hf => ?_) ?_
              · have hsd := hs.dr.call hf; have hfe := (G.le_dr _).trans hf.le
                refine QA_eq rfl ?_; refine QA_eq rfl ?_
                refine QA_nil ?_
                refine D_yes rfl ?_
                refine OpR_idx T.ok rfl (rs1.mono hfe) (y := stepD f d) (step_geti hdr) rfl rfl rfl rfl rfl rfl ?_
                intro b p ys hep hrc
                exact ⟨_, rfl, Fr0.refl _, b, p, ys, rfl, hep, hrc⟩
              refine D_cons (D_step2 (js := [(3, 162)]) (by kernel_rfl) fun gd hf => ?_) ?_
              · have hsd := hs.dr.call hf; have hfe := (G.le_dr _).trans hf.le
                refine QA_any fun v3 h3 => ?_
                refine QA_nil ?_
                obtain ⟨b, p, ys, rfl, hep, hrc⟩ := h3
                refine D_yes rfl ?_
                refine OpR_pure _ T.ok rfl ?_
                exact ⟨_, rfl, Fr0.refl _, b, p, ys, rfl, hep, hrc⟩
              refine D_cons (D_step2 (js := [(4, 163)]) (by kernel_rfl) fun gd hf => ?_) ?_
              · have hsd := hs.dr.call hf; have hfe := (G.le_dr _).trans hf.le
                refine QA_any fun v4 h4 => ?_
                refine QA_nil ?_
                obtain ⟨b, p, ys, rfl, hep, hrc⟩ := h4
                obtain ⟨b1, b2, b3, b4, b5, b6, rfl, hx1, hx2⟩ := hrc
                refine D_yes rfl ?_
                refine OpR_loadE T.ok 4 rfl hep rfl rfl ?_
                exact ⟨_, rfl, Fr0.refl _, hx2⟩
              refine D_cons (D_step2 (js := []) (by kernel_rfl) fun gd hf => ?_) ?_
              · have hsd := hs.dr.call hf; have hfe := (G.le_dr _).trans hf.le
                refine QA_nil ?_
                (refine D_yes rfl ?_; refine OpR_pure _ T.ok rfl ?_; refine ⟨_, rfl, Fr0.refl _, ?_⟩; exact rfl)
              refine D_cons (D_step2 (js := []) (by kernel_rfl) fun gd hf => ?_) ?_
              · have hsd := hs.dr.call hf; have hfe := (G.le_dr _).trans hf.le
                refine QA_nil ?_
                (refine D_yes rfl ?_; refine OpR_pure _ T.ok rfl ?_; refine ⟨_, rfl, Fr0.refl _, ?_⟩; exact rfl)
              refine D_cons (D_step2 (js := [(7, 166)]) (by kernel_rfl) fun gd hf => ?_) ?_
              · have hsd := hs.dr.call hf; have hfe := (G.le_dr _).trans hf.le
                refine QA_eq rfl ?_
                refine QA_nil ?_
                (refine D_yes rfl ?_; refine OpR_loadE T.ok 2 rfl (ep0.mono hfe) rfl rfl ?_; refine ⟨_, rfl, Fr0.refl _, ?_⟩; exact rfl)
              refine D_cons (D_step2 (js := []) (by kernel_rfl) fun gd hf => ?_) ?_
              · have hsd := hs.dr.call hf; have hfe := (G.le_dr _).trans hf.le
                refine QA_nil ?_
                (refine D_yes rfl ?_; refine OpR_pure _ T.ok rfl ?_; refine ⟨_, rfl, Fr0.refl _, ?_⟩; exact rfl)
              refine D_cons (D_step2 (js := [(8, 167), (9, 168)]) (by kernel_rfl) fun gd hf => ?_) ?_
              · have hsd := hs.dr.call hf; have hfe := (G.le_dr _).trans hf.le
                refine QA_eq rfl ?_; refine QA_eq rfl ?_
                refine QA_nil ?_
                refine D_yes rfl ?_
                refine OpR_idx T.ok rfl (rs1.mono hfe) (y := stepD f d) (step_geti hdr) rfl rfl rfl rfl rfl rfl ?_
                intro b p ys hep hrc
                exact ⟨_, rfl, Fr0.refl _, b, p, ys, rfl, hep, hrc⟩
              refine D_cons (D_step2 (js := [(10, 169)]) (by kernel_rfl) fun gd hf => ?_) ?_
              · have hsd := hs.dr.call hf; have hfe := (G.le_dr _).trans hf.le
                refine QA_any fun v10 h10 => ?_
                refine QA_nil ?_
                obtain ⟨b, p, ys, rfl, hep, hrc⟩ := h10
                refine D_yes rfl ?_
                refine OpR_pure _ T.ok rfl ?_
                exact ⟨_, rfl, Fr0.refl _, b, p, ys, rfl, hep, hrc⟩
              refine D_cons (D_step2 (js := [(11, 170)]) (by kernel_rfl) fun gd hf => ?_) ?_
              · have hsd := hs.dr.call hf; have hfe := (G.le_dr _).trans hf.le
                refine QA_any fun v11 h11 => ?_
                refine QA_nil ?_
                obtain ⟨b, p, ys, rfl, hep, hrc⟩ := h11
                obtain ⟨b1, b2, b3, b4, b5, b6, rfl, hx1, hx2⟩ := hrc
                refine D_yes rfl ?_
                refine OpR_loadE T.ok 4 rfl hep rfl rfl ?_
                exact ⟨_, rfl, Fr0.refl _, hx2⟩
              refine D_cons (D_step2 (js := [(12, 171)]) (by kernel_rfl) fun gd hf => ?_) ?_
              · have hsd := hs.dr.call hf; have hfe := (G.le_dr _).trans hf.le
                refine QA_any fun v12 h12 => ?_
                refine QA_nil ?_
                obtain ⟨a5, c5, rfl⟩ := Rs.isSlice h12
                refine D_yes rfl ?_
                refine OpR_pure _ T.ok rfl ?_
                refine ⟨_, rfl, Fr0.refl _, ?_⟩
                exact rfl
              refine D_cons (D_step2 (js := [(6, 165), (13, 172)]) (by kernel_rfl) fun gd hf => ?_) ?_
              · have hsd := hs.dr.call hf; have hfe := (G.le_dr _).trans hf.le
                refine QA_eq rfl ?_; refine QA_eq rfl ?_
                refine QA_nil ?_
                refine D_yes rfl ?_
                refine OpR_ret cl20 allF rfl rfl rfl rfl rfl (pick_c _ _ _ (show I64 (k : Int) from ⟨by omega, by omega⟩) (by omega)) fun g' v h1 h2 => ⟨g', rfl, h1, ?_⟩
                exact h2
              refine D_cons (D_step2 (js := [(5, 164), (14, 173)]) (by kernel_rfl) fun gd hf => ?_) ?_
              · have hsd := hs.dr.call hf; have hfe := (G.le_dr _).trans hf.le
                refine QA_any fun v5 h5 => ?_; refine QA_eq rfl ?_
                refine QA_nil ?_
                refine D_yes rfl ?_
                refine OpR_idx T.ok rfl h5 (y := y) hgy rfl rfl rfl rfl rfl rfl ?_
                intro b p ys hep hrc
                exact ⟨_, rfl, Fr0.refl _, b, p, rfl, by rw [← show ys = [Value.int .i64 y] from hrc]; exact hep⟩
              refine D_cons (D_step2 (js := [(15, 174)]) (by kernel_rfl) fun gd hf => ?_) ?_
              · have hsd := hs.dr.call hf; have hfe := (G.le_dr _).trans hf.le
                refine QA_any fun v15 h15 => ?_
                refine QA_nil ?_
                obtain ⟨b, p, rfl, hep⟩ := h15
                refine D_yes rfl ?_
                refine OpR_loadE T.ok 0 rfl hep rfl rfl ?_
                refine ⟨_, rfl, Fr0.refl _, ?_⟩
                exact rfl
              exact D_nil
            intro g1 hf1; refine QA_eq rfl ?_; refine QA_nil ?_
            replace hs := hs.dr.call hf1; have hqe := (G.le_dr _).trans hf1.le; replace le2 := G.le.trans le2 hqe; replace ep0 := ep0.mono hqe; replace rs1 := rs1.mono hqe
            refine P1 T.ok rfl rfl rfl ?_; refine WL_nil ?_; (with_reducible refine T_bn ?_); (with_reducible refine T_then ?_); refine W_region ?_; (iterate 3 refine P1 T.ok rfl rfl rfl ?_); refine WL_nil ?_
            exact fun a ha => ⟨f.steps.length - (k + 1), by omega, k + 1, y, _, rfl, hs, le2, hy1, by omega, rfl, ha.keep ⟨rfl, rfl, rfl, rfl, rfl, rfl, kI rfl (by rw [wr (by omega) (by omega)]; omega), trivial⟩⟩
          · refine W_no (b := decide (0 < ((stepD f d).next.length : Int))) (decide_eq_false (by omega)) rfl ?_
            refine W_exit ?_; (with_reducible refine T_tx ?_; with_reducible refine T_tx ?_); (with_reducible refine T_bx ?_); (with_reducible refine T_bn ?_); (with_reducible refine T_then ?_); refine W_region ?_; (iterate 3 refine P1 T.ok rfl rfl rfl ?_); refine WL_nil ?_
            exact fun a ha => ⟨r.length - (j + 1), by omega, j + 1, _, rfl, hs, le3.trans le2, by omega, rfl, ha.keep ⟨rfl, rfl, rfl, rfl, kI rfl (by rw [wr (by omega) (by omega)]; omega), trivial⟩⟩
        · refine W_no (b := decide ((j : Int) < (r.length : Int))) (decide_eq_false (by omega)) rfl ?_
          refine W_exit ?_; (with_reducible refine T_tx ?_; with_reducible refine T_tx ?_); (with_reducible refine T_bx ?_); (with_reducible refine T_then ?_); refine W_seq ?_; refine W_region ?_; refine P1 T.ok rfl rfl rfl ?_; refine P1 T.ok rfl rfl rfl ?_; refine WL_nil ?_; (with_reducible refine T_then ?_)
          exact W_ret (ret1 rfl rfl (hs.ret rfl))
      · refine W_no (b := ((op.length : Nat) : Int) == 0) (beq_eq_false_iff_ne.2 (by omega)) rfl ?_
        have hoL : op.length ≤ 5 := by rw [hop]; split <;> simp <;> omega
        refine W_skip ?_; (with_reducible refine T_then ?_); refine W_seq ?_; refine W_region ?_; (iterate 4 refine P1 T.ok rfl rfl rfl ?_); refine WL_nil ?_; (with_reducible refine T_then ?_); refine W_seq ?_; refine W_seq ?_; refine W_region ?_; (iterate 3 refine P1 T.ok rfl rfl rfl ?_); refine WL_nil ?_; (with_reducible refine T_then ?_)
        refine W_mid (fun a' w' => ∃ (pk : Nat) (g6 : G), w' = g6.w ∧ St g g6 [rowI ol f.steps.length left] ∧ G.le g5 g6 ∧ pk < op.length ∧
            Fr 177 [] [(1, .slice ca ch.length cc), (5, .bool true), (6, .pointer (some ⟨bf, 0, none⟩)), (8, .int .i64 f.steps.length), (9, .slice (some ⟨ol, 0, none⟩) f.steps.length f.steps.length), (10, .int .i64 B), (12, .int .i64 c), (13, .int .i64 ((i : Int) + 1)), (14, .int .i64 i), (15, .pointer (some ⟨bs, 0, none⟩)), (16, .slice oa op.length oc), (17, .int .i64 pk)] a') ?_ ?_
        · have le2 := G.le.refl g5
          by_cases hch0 : 0 < ch.length
          · refine W_yes (b := decide (0 < (ch.length : Int))) (decide_eq_true (by omega)) rfl ?_
            have hgc := geti_of (xs := ch) (n := ((i % ch.length : Nat) : Int)) rfl (Nat.mod_lt _ hch0)
            have hcf := hch _ (List.getElem_mem (Nat.mod_lt i hch0))
            have hmt : ((i : Nat) : Int).tmod (ch.length : Int) = ((i % ch.length : Nat) : Int) := by rw [Int.ofNat_tmod]
            generalize ch[i % ch.length]'(Nat.mod_lt _ hch0) = cx at *
            have hpr := pickM_range (c := cx) (n := (op.length : Int)) (by omega)
            refine W_region ?_; (iterate 4 refine P1 T.ok rfl rfl rfl ?_)
            refine WL_o rfl rfl (OpR_rem rfl rfl rfl (by omega) ?_)
            rw [hmt]
            refine WL_o rfl rfl (OpR_idx T.ok rfl rs6 (y := cx) hgc rfl rfl rfl rfl rfl rfl ?_)
            rintro b q ys hep rfl
            refine WL_o rfl rfl (OpR_loadE T.ok 0 rfl hep rfl rfl ?_)
            clear hep
            refine P1 T.ok rfl rfl rfl ?_; refine P1 T.ok rfl rfl rfl ?_
            refine WL_o rfl rfl (OpR_ret cl20 allF rfl rfl rfl rfl rfl (pick_c _ _ _ hcf (by omega)) ?_); rintro g1 _ hf1 rfl; replace hs := hs.call hf1; have hqe := hf1.le; replace le2 := G.le.trans le2 hqe; replace le9 := G.le.trans le9 hqe; replace ep0 := ep0.mono hqe; replace ep2 := ep2.mono hqe; replace rs1 := rs1.mono hqe; replace rs5 := rs5.mono hqe; replace rs6 := rs6.mono hqe; replace rs7 := rs7.mono hqe
            refine P1 T.ok rfl rfl rfl ?_; refine WL_nil ?_
            exact fun a ha => T_mid ⟨(pickM cx op.length).toNat, _, rfl, hs, le2, by omega, ha.keep ⟨rfl, rfl, rfl, rfl, rfl, rfl, rfl, rfl, rfl, rfl, rfl, kI rfl (by omega), trivial⟩⟩
          · refine W_no (b := decide (0 < (ch.length : Int))) (decide_eq_false (by omega)) rfl ?_
            refine W_skip ?_
            exact fun a ha => T_mid ⟨op.length - 1, _, rfl, hs, le2, by omega, ha.keep ⟨rfl, rfl, rfl, rfl, rfl, rfl, rfl, rfl, rfl, rfl, rfl, kI rfl (by rw [wr (by omega) (by omega)]; omega), trivial⟩⟩
        rintro a' _ ⟨pk, g6, rfl, hs', hqe, hpk, ha'⟩
        replace hs := hs'; clear hs'
        replace le9 := G.le.trans le9 hqe; replace ep0 := ep0.mono hqe; replace ep2 := ep2.mono hqe; replace rs1 := rs1.mono hqe; replace rs5 := rs5.mono hqe; replace rs6 := rs6.mono hqe; replace rs7 := rs7.mono hqe
        revert a'
        have hgo := geti_of (xs := op) (n := (pk : Int)) rfl hpk
        have hstep : Rch f 0 op[pk] ∧ ((pk = sk.next.length ∧ 0 < lv ∧ rk op[pk] + 1 ≤ f.steps.length) ∨ (pk ≠ sk.next.length ∧ rk op[pk] + 1 ≤ rk c)) := by
          subst hop
          by_cases e : pk < sk.next.length
          · rw [List.getElem_append_left e]
            have := hnx _ (List.getElem_mem e)
            exact ⟨this.1, .inr ⟨by omega, this.2⟩⟩
          · by_cases hp : 0 < lv
            · simp only [if_pos hp] at hpk ⊢
              have e2 : pk = sk.next.length := by rw [List.length_append] at hpk; simp at hpk; omega
              subst e2
              have := hbk (by omega)
              rw [List.getElem_append_right (Nat.le_refl _)]
              simp only [Nat.sub_self, List.getElem_cons_zero]
              exact ⟨this.1, .inl ⟨trivial, hp, this.2⟩⟩
            · simp only [if_neg hp, List.append_nil] at hpk
              exact absurd hpk e
        generalize op[pk] = d at *
        (with_reducible refine T_wp ?_); refine W_seq ?_; refine W_seq ?_; refine W_region ?_; refine P1 T.ok rfl rfl rfl ?_; refine P1 T.ok rfl rfl rfl ?_; refine WL_o rfl rfl (OpR_loadE T.ok 4 rfl ep2 rfl rfl ?_); refine P1 T.ok rfl rfl rfl ?_; refine P1 T.ok rfl rfl rfl ?_; refine WL_nil ?_; (with_reducible refine T_then ?_)
        refine W_mid (fun a' w' => ∃ (lf : List Int) (g7 : G), w' = g7.w ∧ St g g7 [rowI ol f.steps.length lf] ∧ G.le g6 g7 ∧ Lft f lf ∧ (rk d : Int) + 1 + f.steps.length * lf.sum ≤ rk c + f.steps.length * left.sum ∧
            Fr 177 [] [(1, .slice ca ch.length cc), (5, .bool true), (6, .pointer (some ⟨bf, 0, none⟩)), (8, .int .i64 f.steps.length), (9, .slice (some ⟨ol, 0, none⟩) f.steps.length f.steps.length), (10, .int .i64 B), (12, .int .i64 c), (13, .int .i64 ((i : Int) + 1)), (14, .int .i64 i), (16, .slice oa op.length oc), (17, .int .i64 pk)] a') ?_ ?_
        · have le2 := G.le.refl g6
          rcases hstep.2 with ⟨rfl, hp, hrd⟩ | ⟨hne, hrd⟩
          · obtain ⟨hl2, hl3⟩ := hlvs hp
            refine W_yes (b := ((sk.next.length : Nat) : Int) == ((sk.next.length : Nat) : Int)) (by simp) rfl ?_
            refine W_region ?_; refine P1 T.ok rfl rfl rfl ?_; refine P1 T.ok rfl rfl rfl ?_
            refine WL_o rfl rfl (OpR_idxR T.ok rfl (hs.own 0 _ rfl).1 hc0 (by omega) rfl rfl rfl rfl rfl rfl ?_)
            rintro b q hh; obtain ⟨rfl, rfl⟩ : ol = b ∧ 0 = q := by simpa using hh
            refine WL_o rfl rfl (OpR_loadR T.ok (c.toNat * 1) rfl (hs.own 0 _ rfl).1 rfl (v := .int .i64 lv) (by show (List.map (Value.int .i64) _)[c.toNat * 1]? = _; rw [Nat.mul_one, List.getElem?_map, hlv]; rfl) ?_)
            refine P1 T.ok rfl rfl rfl ?_
            rw [wr (n := lv - 1) (by omega) (by omega)]
            refine WL_o rfl rfl (OpR_idxR T.ok rfl (hs.own 0 _ rfl).1 hc0 (by omega) rfl rfl rfl rfl rfl rfl ?_)
            rintro b q hh; obtain ⟨rfl, rfl⟩ : ol = b ∧ 0 = q := by simpa using hh
            refine WL_n rfl (OpR_storeR T.ok 0 (c.toNat * 1) (us := [.int .i64 (lv - 1)]) rfl hs rfl rfl rfl rfl rfl rfl rfl (by simp) (by simp; omega) (set_spl _ _ (Value.int .i64) (lv - 1) (by omega)) ?_)
            rintro g9 hs hqe; replace le2 := G.le.trans le2 hqe; replace le9 := G.le.trans le9 hqe; replace ep0 := ep0.mono hqe; replace ep2 := ep2.mono hqe; replace rs1 := rs1.mono hqe; replace rs5 := rs5.mono hqe; replace rs6 := rs6.mono hqe; replace rs7 := rs7.mono hqe
            refine WL_nil ?_
            exact fun a ha => T_mid ⟨_, _, rfl, hs, le2, hl2, by rw [hl3, hmn]; omega, ha.keep (by (repeat (first | exact trivial | refine ⟨rfl, ?_⟩)))⟩
          · refine W_no (b := ((pk : Nat) : Int) == ((sk.next.length : Nat) : Int)) (by simp; omega) rfl ?_
            refine W_skip ?_
            exact fun a ha => T_mid ⟨_, _, rfl, hs, le2, hlft, by omega, ha.keep (by (repeat (first | exact trivial | refine ⟨rfl, ?_⟩)))⟩
        rintro a' _ ⟨lf, g7, rfl, hs', hqe, hlf, hpd, ha'⟩
        replace hs := hs'; clear hs'
        replace le9 := G.le.trans le9 hqe; replace ep0 := ep0.mono hqe; replace ep2 := ep2.mono hqe; replace rs1 := rs1.mono hqe; replace rs5 := rs5.mono hqe; replace rs6 := rs6.mono hqe; replace rs7 := rs7.mono hqe
        revert a'
        have hm2 : 0 ≤ (f.steps.length : Int) * lf.sum := Int.mul_nonneg (by omega) (hlf.nonneg hval).1
        (with_reducible refine T_wp ?_); refine W_seq ?_; refine W_region ?_; refine P1 T.ok rfl rfl rfl ?_; refine P1 T.ok rfl rfl rfl ?_
        refine WL_o rfl rfl (OpR_idx T.ok rfl rs5 (y := d) hgo rfl rfl rfl rfl rfl rfl ?_)
        rintro b q ys hep rfl
        refine WL_o rfl rfl (OpR_loadE T.ok 0 rfl hep rfl rfl ?_)
        clear hep
        refine P1 T.ok rfl rfl rfl ?_; refine WL_nil ?_; (with_reducible refine T_then ?_); refine W_seq ?_; refine W_region ?_; (iterate 3 refine P1 T.ok rfl rfl rfl ?_); refine WL_nil ?_; (with_reducible refine T_then ?_); refine W_seq ?_; refine W_region ?_; (iterate 3 refine P1 T.ok rfl rfl rfl ?_); refine WL_nil ?_; (with_reducible refine T_then ?_)
        rw [wr (n := (i : Int) + 1 + 1) (by omega) (by omega)]
        skip
        refine W_no (b := decide (B < (i : Int) + 1 + 1)) (decide_eq_false (by omega)) rfl ?_
        refine W_skip ?_; (with_reducible refine T_bn ?_); (with_reducible refine T_then ?_); refine W_region ?_; (iterate 3 refine P1 T.ok rfl rfl rfl ?_); refine WL_nil ?_
        exact fun a ha => ⟨(B - ((i + 1 : Nat) : Int)).toNat, by omega, i + 1, d, lf, _, rfl, hs, le9, hstep.1, hlf, by omega, rfl, ha.keep ⟨rfl, rfl, rfl, rfl, rfl, rfl, rfl, rfl, kI rfl (by rw [wr (by omega) (by omega)]; omega), trivial⟩⟩
  · refine W_yes (b := kd != 0) (by simp [hk0]) rfl ?_
    refine W_seq ?_; refine W_region ?_; refine P1 T.ok rfl rfl rfl ?_; refine P1 T.ok rfl rfl rfl ?_; refine WL_nil ?_; (with_reducible refine T_then ?_)
    exact W_ret (ret1 rfl rfl (hs.ret rfl))
end Go.Proofs.Ytijmlfmapfhabaa
