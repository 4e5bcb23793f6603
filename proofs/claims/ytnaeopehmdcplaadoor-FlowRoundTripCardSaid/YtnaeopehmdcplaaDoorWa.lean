/- The walk through FlowRoundTrip. -/
import Derived.Test.YtnaeopehmdcplaaDoorFg

namespace Go.Proofs.YtnaeopehmdcplaaDoor
open Go Go.K
set_option maxRecDepth 10000
attribute [local irreducible] W WL OpR bitAnd bitOr bitXor bitClr bitNot shlI shrI
set_option maxHeartbeats 8000000

def RFlowC (g : G) (cs : List Value) (f : Flow) : Prop :=
  ∃ a1 n1 c1 a2 n2 c2, cs = [.int .i64 f.moveMin, .int .i64 f.moveMax, .slice a1 n1 c1, .slice a2 n2 c2] ∧ Rs g (.slice a1 n1 c1) f.steps ∧ Rs g (.slice a2 n2 c2) f.windows
instance : El Flow where
  k := 4
  pos := by omega
  rc := RFlowC
  len h := by obtain ⟨_, _, _, _, _, _, rfl, _⟩ := h; rfl
  mono hle h := by obtain ⟨a1, n1, c1, a2, n2, c2, e, h1, h2⟩ := h; exact ⟨a1, n1, c1, a2, n2, c2, e, h1.mono hle, h2.mono hle⟩
  one h := by obtain ⟨_, _, _, _, _, _, rfl, _⟩ := h; simp [Value.oneCell']
theorem printM_small {f : Flow} (h : valid f = true) : (printM f).length ≤ 8192 := printM_len (valid_N h)


theorem roundTrip_c (v : Value) (raw : Flow) (u : Value) (x : List Y6) (t : Value) (zs : List Y3) (g : G) (hF : FlAt g) (fl0 : RFlow g v raw) (rs0 : Rs g u x) (hx : ∀ y ∈ x, y.fit) (rs1 : Rs g t zs) (hz : ∀ z ∈ zs, z.fit) :
    CallsIn Wd 0 Tryd.prog 3 #[v, u, t] g.w (Ret g fun _ r => r = .bool true) := by
  obtain ⟨a1, n1, c1, a2, n2, c2, rfl, rs2, rs3⟩ := fl0
  obtain ⟨ua, uc, rfl⟩ := rs0.isSlice
  obtain ⟨ta, tc, rfl⟩ := rs1.isSlice
  have hs := St.start g
  have le0 := G.le.refl g
  refine enter Tryd.func3 rfl Tryd.ntmps3 rfl ?_
  refine W_seq ?_; refine W_region ?_
  refine WL_o rfl rfl (OpR_box rfl hs rfl rfl ?_); clear hs; rintro bx g1 hs hqe; replace le0 := G.le.trans le0 hqe; replace rs0 := rs0.mono hqe; replace rs1 := rs1.mono hqe; replace rs2 := rs2.mono hqe; replace rs3 := rs3.mono hqe
  refine P1 T.ok rfl rfl rfl ?_; refine WL_nil ?_; (with_reducible refine T_then ?_); refine W_seq ?_; refine W_region ?_
  refine WL_o rfl rfl (OpR_ret cl8 allF rfl rfl rfl rfl rfl (sane_c _ (hF.mono le0)) ?_); rintro g1 _ hf1 rfl; replace hs := hs.call hf1; have hqe := hf1.le; replace le0 := G.le.trans le0 hqe; replace rs0 := rs0.mono hqe; replace rs1 := rs1.mono hqe; replace rs2 := rs2.mono hqe; replace rs3 := rs3.mono hqe
  refine P1 T.ok rfl rfl rfl ?_; refine WL_nil ?_; (with_reducible refine T_then ?_); refine W_seq ?_; refine W_seq ?_; refine W_region ?_; refine WL_o rfl rfl (OpR_loadO T.ok 0 rfl hs rfl rfl rfl ?_)
  refine WL_o rfl rfl (OpR_ret cl9 allF rfl rfl rfl rfl rfl (few_c _ raw _ ⟨_, _, _, _, _, _, rfl, rs2, rs3⟩) ?_); rintro g1 _ hf1 fl1; replace hs := hs.call hf1; have hqe := hf1.le; replace le0 := G.le.trans le0 hqe; replace rs0 := rs0.mono hqe; replace rs1 := rs1.mono hqe; replace rs2 := rs2.mono hqe; replace rs3 := rs3.mono hqe
  refine P1 T.ok rfl rfl rfl ?_; refine P1 T.ok rfl rfl rfl ?_
  refine WL_o rfl rfl (OpR_ret cl10 allF rfl rfl rfl rfl rfl (make_c _ _ x zs _ rs0 rs1 hx hz) ?_); rintro g1 _ hf1 fl2; replace hs := hs.call hf1; have hqe := hf1.le; replace le0 := G.le.trans le0 hqe; replace rs0 := rs0.mono hqe; replace rs1 := rs1.mono hqe; replace rs2 := rs2.mono hqe; replace rs3 := rs3.mono hqe; replace fl1 := fl1.mono hqe
  obtain ⟨a3, n3, c3, a4, n4, c4, rfl, rs4, rs5⟩ := fl1
  obtain ⟨a5, n5, c5, a6, n6, c6, rfl, rs6, rs7⟩ := fl2
  skip
  refine WL_o rfl rfl (OpR_lit T.ok rfl hs (vs := [(0, .agg #[.int .i64 (fewM raw).moveMin, .int .i64 (fewM raw).moveMax, .slice a3 n3 c3, .slice a4 n4 c4]), (1, .agg #[.int .i64 (mk x zs).moveMin, .int .i64 (mk x zs).moveMax, .slice a5 n5 c5, .slice a6 n6 c6])]) (cells := [.int .i64 (fewM raw).moveMin, .int .i64 (fewM raw).moveMax, .slice a3 n3 c3, .slice a4 n4 c4, .int .i64 (mk x zs).moveMin, .int .i64 (mk x zs).moveMax, .slice a5 n5 c5, .slice a6 n6 c6]) rfl rfl rfl rfl rfl rfl (by decide) (by decide) (by kernel_rfl) rfl ?_)
  clear hs
  rintro bl gl hs hqe; replace le0 := G.le.trans le0 hqe; replace rs0 := rs0.mono hqe; replace rs1 := rs1.mono hqe; replace rs2 := rs2.mono hqe; replace rs3 := rs3.mono hqe; replace rs4 := rs4.mono hqe; replace rs5 := rs5.mono hqe; replace rs6 := rs6.mono hqe; replace rs7 := rs7.mono hqe
  obtain ⟨gz, hwz, hsz, hqz, rs8⟩ := hs.fzRow (α := Flow) (xs := [fewM raw, mk x zs]) (i := 0) rfl ⟨_, _, rfl, ⟨_, _, _, _, _, _, rfl, rs4, rs5⟩, [.int .i64 (mk x zs).moveMin, .int .i64 (mk x zs).moveMax, .slice a5 n5 c5, .slice a6 n6 c6], [], rfl, ⟨_, _, _, _, _, _, rfl, rs6, rs7⟩, rfl⟩
  have hqe := hqz; rw [← hwz]; replace hs := hsz; clear hsz hqz; replace le0 := G.le.trans le0 hqe; replace rs0 := rs0.mono hqe; replace rs1 := rs1.mono hqe; replace rs2 := rs2.mono hqe; replace rs3 := rs3.mono hqe; replace rs4 := rs4.mono hqe; replace rs5 := rs5.mono hqe; replace rs6 := rs6.mono hqe; replace rs7 := rs7.mono hqe
  clear rs4 rs5 rs6 rs7 rs2 rs3 rs0 rs1
  replace hs : St g gz [] := hs.tail (M := [_])
  refine P1 T.ok rfl rfl rfl ?_; refine P1 T.ok rfl rfl rfl ?_; refine WL_nil ?_; (with_reducible refine T_then ?_); refine W_block ?_
  have rs8c := rs8
  have le0c := le0
  have hget : ∀ k : Nat, k < 2 → ∃ f, geti [fewM raw, mk x zs] (k : Int) = some f := fun k hk => ⟨_, geti_of (xs := [fewM raw, mk x zs]) rfl hk⟩
  generalize hFSx : [fewM raw, mk x zs] = FSx at *
  clear hFSx
  refine W_loop (fun m a' w => ∃ (k : Nat) (g' : G), w = g'.w ∧ St g g' [] ∧ G.le gz g' ∧ k ≤ 2 ∧ m = 2 - k ∧
    Fr 76 [] [(7, .bool true), (21, .slice (some ⟨bl, 0, none⟩) 2 2), (22, .int .i64 2), (23, .int .i64 k)] a') 2 (fun a' ha => ⟨0, gz, rfl, hs, G.le.refl _, Nat.zero_le _, rfl, ha.keep (by (repeat (first | exact trivial | refine ⟨rfl, ?_⟩)))⟩) ?_
  clear hs le0 rs8
  rintro m a' _ ⟨k, g', rfl, hs, le8, hk, rfl, ha'⟩
  have rs8 := rs8c.mono le8
  have le0 := le0c.trans le8
  revert a'
  (with_reducible refine T_wp ?_); refine W_seq ?_; refine W_region ?_; refine P1 T.ok rfl rfl rfl ?_; refine WL_nil ?_; (with_reducible refine T_then ?_); refine W_seq ?_
  by_cases hlt : k < 2
  · refine W_yes (b := _) ?_ rfl ?_
    · simp; omega
    obtain ⟨f, hgf⟩ := hget k hlt
    refine W_skip ?_; (with_reducible refine T_then ?_); refine W_seq ?_; refine W_block ?_; refine W_seq ?_; refine W_region ?_
    refine WL_o rfl rfl (OpR_idx T.ok rfl rs8 (y := f) hgf rfl rfl rfl rfl rfl rfl ?_)
    rintro bq pq ys hep ⟨a1, n1, c1, a2, n2, c2, rfl, rs2, rs3⟩
    refine WL_o rfl rfl (OpR_loadE T.ok 0 rfl hep rfl rfl ?_)
    skip
    refine WL_o rfl rfl (OpR_alloc T.ok rfl hs rfl rfl ?_); clear hs; rintro b9 g1 hs hqe; replace le0 := G.le.trans le0 hqe; replace le8 := G.le.trans le8 hqe; replace rs2 := rs2.mono hqe; replace rs3 := rs3.mono hqe; replace rs8 := rs8.mono hqe
    skip
    refine WL_n rfl (OpR_storeO T.ok 0 rfl hs rfl rfl rfl rfl rfl rfl rfl rfl rfl ?_); replace hs := hs; rintro g1 hs hqe; replace le0 := G.le.trans le0 hqe; replace le8 := G.le.trans le8 hqe; replace rs2 := rs2.mono hqe; replace rs3 := rs3.mono hqe; replace rs8 := rs8.mono hqe
    refine WL_nil ?_; (with_reducible refine T_then ?_); refine W_seq ?_; refine W_region ?_; refine WL_o rfl rfl (OpR_loadO T.ok 0 rfl hs rfl rfl rfl ?_)
    refine WL_o rfl rfl (OpR_ret cl11 allF rfl rfl rfl rfl rfl (print_c _ f _ ⟨_, _, _, _, _, _, rfl, rs2, rs3⟩ (hF.mono le0)) ?_); rintro g1 _ hf1 hp; replace hs := hs.call hf1; have hqe := hf1.le; replace le0 := G.le.trans le0 hqe; replace le8 := G.le.trans le8 hqe; replace rs2 := rs2.mono hqe; replace rs3 := rs3.mono hqe; replace rs8 := rs8.mono hqe
    by_cases hv : valid f = true
    · rw [printRes_yes hv] at hp
      subst hp
      have hl := printM_small hv
      (iterate 5 refine P1 T.ok rfl rfl rfl ?_); refine WL_nil ?_; (with_reducible refine T_then ?_); refine W_seq ?_; refine W_seq ?_; refine W_region ?_; refine P1 T.ok rfl rfl rfl ?_; refine P1 T.ok rfl rfl rfl ?_; refine WL_o rfl rfl (OpR_loadO T.ok 0 rfl hs rfl rfl rfl ?_)
      refine WL_o rfl rfl (OpR_ret cl12 allF rfl rfl rfl rfl rfl (valid_c _ f _ ⟨_, _, _, _, _, _, rfl, rs2, rs3⟩) ?_); rintro g1 _ hf1 hp; replace hs := hs.call hf1; have hqe := hf1.le; replace le0 := G.le.trans le0 hqe; replace le8 := G.le.trans le8 hqe; replace rs2 := rs2.mono hqe; replace rs3 := rs3.mono hqe; replace rs8 := rs8.mono hqe
      rw [hv] at hp
      subst hp
      refine WL_o rfl rfl (OpR_eqBool T.ok (neg := true) rfl rfl rfl rfl rfl ?_)
      (iterate 4 refine P1 T.ok rfl rfl rfl ?_); (iterate 6 refine S1 allF rfl rfl ?_); refine P1 T.ok rfl rfl rfl ?_; refine P1 T.ok rfl rfl rfl ?_; refine WL_nil ?_; (with_reducible refine T_then ?_)
      refine W_no rfl rfl ?_
      refine W_skip ?_; (with_reducible refine T_then ?_); refine W_seq ?_; refine W_seq ?_; refine W_region ?_; refine P1 T.ok rfl rfl rfl ?_; refine P1 T.ok rfl rfl rfl ?_; refine WL_nil ?_; (with_reducible refine T_then ?_)
      refine W_no rfl rfl ?_
      refine W_skip ?_; (with_reducible refine T_then ?_); refine W_seq ?_; refine W_region ?_; refine P1 T.ok rfl rfl rfl ?_
      refine WL_o rfl rfl (OpR_ret cl13 allF rfl rfl rfl rfl rfl (parse_c (printM f) _ (by omega) (hF.mono le0)) ?_); rintro g1 _ hf1 hp; replace hs := hs.call hf1; have hqe := hf1.le; replace le0 := G.le.trans le0 hqe; replace le8 := G.le.trans le8 hqe; replace rs2 := rs2.mono hqe; replace rs3 := rs3.mono hqe; replace rs8 := rs8.mono hqe
      rw [parse_print hv] at hp
      obtain ⟨_, rfl, a5, n5, c5, a6, n6, c6, rfl, rs4, rs5⟩ := hp
      (iterate 4 refine P1 T.ok rfl rfl rfl ?_)
      refine WL_o rfl rfl (OpR_alloc T.ok rfl hs rfl rfl ?_); clear hs; rintro b12 g1 hs hqe; replace le0 := G.le.trans le0 hqe; replace le8 := G.le.trans le8 hqe; replace rs2 := rs2.mono hqe; replace rs3 := rs3.mono hqe; replace rs4 := rs4.mono hqe; replace rs5 := rs5.mono hqe; replace rs8 := rs8.mono hqe
      skip
      refine WL_n rfl (OpR_storeO T.ok 0 rfl hs rfl rfl rfl rfl rfl rfl rfl rfl rfl ?_); replace hs := hs; rintro g1 hs hqe; replace le0 := G.le.trans le0 hqe; replace le8 := G.le.trans le8 hqe; replace rs2 := rs2.mono hqe; replace rs3 := rs3.mono hqe; replace rs4 := rs4.mono hqe; replace rs5 := rs5.mono hqe; replace rs8 := rs8.mono hqe
      refine P1 T.ok rfl rfl rfl ?_; refine P1 T.ok rfl rfl rfl ?_; refine WL_nil ?_; (with_reducible refine T_then ?_); refine W_seq ?_; refine W_region ?_; (iterate 7 refine P1 T.ok rfl rfl rfl ?_); refine WL_o rfl rfl (OpR_loadO T.ok 1 rfl hs rfl rfl rfl ?_); refine WL_o rfl rfl (OpR_loadO T.ok 0 rfl hs rfl rfl rfl ?_)
      refine WL_o rfl rfl (OpR_ret cl14 allF rfl rfl rfl rfl rfl (same_c _ _ f f _ ⟨_, _, _, _, _, _, rfl, rs2, rs3⟩ ⟨_, _, _, _, _, _, rfl, rs4, rs5⟩) ?_); rintro g1 _ hf1 hp; replace hs := hs.call hf1; have hqe := hf1.le; replace le0 := G.le.trans le0 hqe; replace le8 := G.le.trans le8 hqe; replace rs2 := rs2.mono hqe; replace rs3 := rs3.mono hqe; replace rs4 := rs4.mono hqe; replace rs5 := rs5.mono hqe; replace rs8 := rs8.mono hqe
      rw [(sameF_iff f f).2 rfl] at hp
      subst hp
      (iterate 7 refine P1 T.ok rfl rfl rfl ?_); refine WL_nil ?_; (with_reducible refine T_then ?_)
      refine W_no (b := _) ?_ rfl ?_
      · simp [bs_size]; omega
      refine W_skip ?_; (with_reducible refine T_bn ?_); (with_reducible refine T_then ?_); refine W_region ?_; refine P1 T.ok rfl rfl rfl ?_; refine P1 T.ok rfl rfl rfl ?_; refine WL_nil ?_
      exact fun a ha => ⟨2 - (k + 1), by omega, k + 1, _, rfl, hs.tail (M := [_, _]), le8, by omega, rfl, ha.keep ⟨rfl, rfl, rfl, kI rfl (by rw [wr (by omega) (by omega)]; omega), trivial⟩⟩
    · have hv0 : valid f = false := by simpa using hv
      rw [printRes_no hv0] at hp
      subst hp
      (iterate 5 refine P1 T.ok rfl rfl rfl ?_); refine WL_nil ?_; (with_reducible refine T_then ?_); refine W_seq ?_; refine W_seq ?_; refine W_region ?_; refine P1 T.ok rfl rfl rfl ?_; refine P1 T.ok rfl rfl rfl ?_; refine WL_o rfl rfl (OpR_loadO T.ok 0 rfl hs rfl rfl rfl ?_)
      refine WL_o rfl rfl (OpR_ret cl12 allF rfl rfl rfl rfl rfl (valid_c _ f _ ⟨_, _, _, _, _, _, rfl, rs2, rs3⟩) ?_); rintro g1 _ hf1 hp; replace hs := hs.call hf1; have hqe := hf1.le; replace le0 := G.le.trans le0 hqe; replace le8 := G.le.trans le8 hqe; replace rs2 := rs2.mono hqe; replace rs3 := rs3.mono hqe; replace rs8 := rs8.mono hqe
      rw [hv0] at hp
      subst hp
      refine WL_o rfl rfl (OpR_eqBool T.ok (neg := true) rfl rfl rfl rfl rfl ?_)
      (iterate 12 refine P1 T.ok rfl rfl rfl ?_); refine WL_nil ?_; (with_reducible refine T_then ?_)
      refine W_no (b := _) ?_ rfl ?_
      · simp [bs_toList]
      refine W_skip ?_; (with_reducible refine T_then ?_); refine W_seq ?_; refine W_seq ?_; refine W_region ?_; refine P1 T.ok rfl rfl rfl ?_; refine P1 T.ok rfl rfl rfl ?_; refine WL_nil ?_; (with_reducible refine T_then ?_)
      refine W_yes rfl rfl ?_
      refine W_exit ?_; (with_reducible refine T_tx ?_); (with_reducible refine T_bx ?_); (with_reducible refine T_then ?_); refine W_region ?_; refine P1 T.ok rfl rfl rfl ?_; refine P1 T.ok rfl rfl rfl ?_; refine WL_nil ?_
      exact fun a ha => ⟨2 - (k + 1), by omega, k + 1, _, rfl, hs.tail (M := [_]), le8, by omega, rfl, ha.keep ⟨rfl, rfl, rfl, kI rfl (by rw [wr (by omega) (by omega)]; omega), trivial⟩⟩
  · refine W_no (b := _) ?_ rfl ?_
    · simp; omega
    refine W_exit ?_; (with_reducible refine T_tx ?_; with_reducible refine T_tx ?_); (with_reducible refine T_bx ?_); (with_reducible refine T_then ?_); refine W_seq ?_; refine W_region ?_; refine P1 T.ok rfl rfl rfl ?_; refine P1 T.ok rfl rfl rfl ?_; refine WL_nil ?_; (with_reducible refine T_then ?_)
    refine W_ret ?_
    skip
    exact ret1 rfl rfl (hs.ret rfl)
end Go.Proofs.YtnaeopehmdcplaaDoor
