/- The walk through FlowFirstError. -/
import Derived.Test.YtnaeopehmdcplaaDoorFg

/- The walk of FlowRoundTrip. -/
namespace Go.Proofs.YtnaeopehmdcplaaDoor
open Go Go.K
set_option maxRecDepth 10000
attribute [local irreducible] W WL OpR bitAnd bitOr bitXor bitClr bitNot shlI shrI
set_option maxHeartbeats 8000000

def RFlowC (g : G) (cs : List Value) (f : Flow) : Prop :=
  ∃ a1 n1 c1 a2 n2 c2, cs = [.int .i64 f.moveMin, .int .i64 f.moveMax, .slice a1 n1 c1, .slice a2 n2 c2] ∧ Rs g (.slice a1 n1 c1) f.steps ∧ Rs g (.slice a2 n2 c2) f.windows
instance : El Flow where
  k := 4
  pos := by omega
  rc := RFlowC
  len h := by obtain ⟨_, _, _, _, _, _, rfl, _⟩ := h; rfl
  mono hle h := by obtain ⟨a1, n1, c1, a2, n2, c2, e, h1, h2⟩ := h; exact ⟨a1, n1, c1, a2, n2, c2, e, h1.mono hle, h2.mono hle⟩
  one h := by obtain ⟨_, _, _, _, _, _, rfl, _⟩ := h; simp [Value.oneCell']
theorem printM_small {f : Flow} (h : valid f = true) : (printM f).length ≤ 8192 := printM_len (valid_N h)


theorem roundTrip_c (v : Value) (raw : Flow) (u : Value) (x : List Y6) (t : Value) (zs : List Y3) (g : G) (hF : FlAt g) (fl0 : RFlow g v raw) (rs0 : Rs g u x) (hx : ∀ y ∈ x, y.fit) (rs1 : Rs g t zs) (hz : ∀ z ∈ zs, z.fit) :
    CallsIn Wd 0 Tryd.prog 3 #[v, u, t] g.w (Ret g fun _ r => r = .bool true) := by
  obtain ⟨a1, n1, c1, a2, n2, c2, rfl, rs2, rs3⟩ := fl0
  obtain ⟨ua, uc, rfl⟩ := rs0.isSlice
  obtain ⟨ta, tc, rfl⟩ := rs1.isSlice
  have hs := St.start g
  have le0 := G.le.refl g
  refine enter Tryd.func3 rfl Tryd.ntmps3 rfl ?_
  refine W_seq ?_; refine W_region ?_
  refine WL_o rfl rfl (OpR_box rfl hs rfl rfl ?_); clear hs; rintro bx g1 hs hqe; replace le0 := G.le.trans le0 hqe; replace rs0 := rs0.mono hqe; replace rs1 := rs1.mono hqe; replace rs2 := rs2.mono hqe; replace rs3 := rs3.mono hqe
  refine P1 T.ok rfl rfl rfl ?_; refine WL_nil ?_; (with_reducible refine T_then ?_); refine W_seq ?_; refine W_region ?_
  refine WL_o rfl rfl (OpR_ret cl8 allF rfl rfl rfl rfl rfl (sane_c _ (hF.mono le0)) ?_); rintro g1 _ hf1 rfl; replace hs := hs.call hf1; have hqe := hf1.le; replace le0 := G.le.trans le0 hqe; replace rs0 := rs0.mono hqe; replace rs1 := rs1.mono hqe; replace rs2 := rs2.mono hqe; replace rs3 := rs3.mono hqe
  refine P1 T.ok rfl rfl rfl ?_; refine WL_nil ?_; (with_reducible refine T_then ?_); refine W_seq ?_; refine W_seq ?_; refine W_region ?_; refine WL_o rfl rfl (OpR_loadO T.ok 0 rfl hs rfl rfl rfl ?_)
  refine WL_o rfl rfl (OpR_ret cl9 allF rfl rfl rfl rfl rfl (few_c _ raw _ ⟨_, _, _, _, _, _, rfl, rs2, rs3⟩) ?_); rintro g1 _ hf1 fl1; replace hs := hs.call hf1; have hqe := hf1.le; replace le0 := G.le.trans le0 hqe; replace rs0 := rs0.mono hqe; replace rs1 := rs1.mono hqe; replace rs2 := rs2.mono hqe; replace rs3 := rs3.mono hqe
  refine P1 T.ok rfl rfl rfl ?_; refine P1 T.ok rfl rfl rfl ?_
  refine WL_o rfl rfl (OpR_ret cl10 allF rfl rfl rfl rfl rfl (make_c _ _ x zs _ rs0 rs1 hx hz) ?_); rintro g1 _ hf1 fl2; replace hs := hs.call hf1; have hqe := hf1.le; replace le0 := G.le.trans le0 hqe; replace rs0 := rs0.mono hqe; replace rs1 := rs1.mono hqe; replace rs2 := rs2.mono hqe; replace rs3 := rs3.mono hqe; replace fl1 := fl1.mono hqe
  obtain ⟨a3, n3, c3, a4, n4, c4, rfl, rs4, rs5⟩ := fl1
  obtain ⟨a5, n5, c5, a6, n6, c6, rfl, rs6, rs7⟩ := fl2
  skip
  refine WL_o rfl rfl (OpR_lit T.ok rfl hs (vs := [(0, .agg #[.int .i64 (fewM raw).moveMin, .int .i64 (fewM raw).moveMax, .slice a3 n3 c3, .slice a4 n4 c4]), (1, .agg #[.int .i64 (mk x zs).moveMin, .int .i64 (mk x zs).moveMax, .slice a5 n5 c5, .slice a6 n6 c6])]) (cells := [.int .i64 (fewM raw).moveMin, .int .i64 (fewM raw).moveMax, .slice a3 n3 c3, .slice a4 n4 c4, .int .i64 (mk x zs).moveMin, .int .i64 (mk x zs).moveMax, .slice a5 n5 c5, .slice a6 n6 c6]) rfl rfl rfl rfl rfl rfl (by decide) (by decide) (by kernel_rfl) rfl ?_)
  clear hs
  rintro bl gl hs hqe; replace le0 := G.le.trans le0 hqe; replace rs0 := rs0.mono hqe; replace rs1 := rs1.mono hqe; replace rs2 := rs2.mono hqe; replace rs3 := rs3.mono hqe; replace rs4 := rs4.mono hqe; replace rs5 := rs5.mono hqe; replace rs6 := rs6.mono hqe; replace rs7 := rs7.mono hqe
  obtain ⟨gz, hwz, hsz, hqz, rs8⟩ := hs.fzRow (α := Flow) (xs := [fewM raw, mk x zs]) (i := 0) rfl ⟨_, _, rfl, ⟨_, _, _, _, _, _, rfl, rs4, rs5⟩, [.int .i64 (mk x zs).moveMin, .int .i64 (mk x zs).moveMax, .slice a5 n5 c5, .slice a6 n6 c6], [], rfl, ⟨_, _, _, _, _, _, rfl, rs6, rs7⟩, rfl⟩
  have hqe := hqz; rw [← hwz]; replace hs := hsz; clear hsz hqz; replace le0 := G.le.trans le0 hqe; replace rs0 := rs0.mono hqe; replace rs1 := rs1.mono hqe; replace rs2 := rs2.mono hqe; replace rs3 := rs3.mono hqe; replace rs4 := rs4.mono hqe; replace rs5 := rs5.mono hqe; replace rs6 := rs6.mono hqe; replace rs7 := rs7.mono hqe
  clear rs4 rs5 rs6 rs7 rs2 rs3 rs0 rs1
  replace hs : St g gz [] := hs.tail (M := [_])
  refine P1 T.ok rfl rfl rfl ?_; refine P1 T.ok rfl rfl rfl ?_; refine WL_nil ?_; (with_reducible refine T_then ?_); refine W_block ?_
  have rs8c := rs8
  have le0c := le0
  have hget : ∀ k : Nat, k < 2 → ∃ f, geti [fewM raw, mk x zs] (k : Int) = some f := fun k hk => ⟨_, geti_of (xs := [fewM raw, mk x zs]) rfl hk⟩
  generalize hFSx : [fewM raw, mk x zs] = FSx at *
  clear hFSx
  refine W_loop (fun m a' w => ∃ (k : Nat) (g' : G), w = g'.w ∧ St g g' [] ∧ G.le gz g' ∧ k ≤ 2 ∧ m = 2 - k ∧
    Fr 76 [] [(7, .bool true), (21, .slice (some ⟨bl, 0, none⟩) 2 2), (22, .int .i64 2), (23, .int .i64 k)] a') 2 (fun a' ha => ⟨0, gz, rfl, hs, G.le.refl _, Nat.zero_le _, rfl, ha.keep (by (repeat (first | exact trivial | refine ⟨rfl, ?_⟩)))⟩) ?_
  clear hs le0 rs8
  rintro m a' _ ⟨k, g', rfl, hs, le8, hk, rfl, ha'⟩
  have rs8 := rs8c.mono le8
  have le0 := le0c.trans le8
  revert a'
  (with_reducible refine T_wp ?_); refine W_seq ?_; refine W_region ?_; refine P1 T.ok rfl rfl rfl ?_; refine WL_nil ?_; (with_reducible refine T_then ?_); refine W_seq ?_
  by_cases hlt : k < 2
  · refine W_yes (b := _) ?_ rfl ?_
    · simp; omega
    obtain ⟨f, hgf⟩ := hget k hlt
    refine W_skip ?_; (with_reducible refine T_then ?_); refine W_seq ?_; refine W_block ?_; refine W_seq ?_; refine W_region ?_
    refine WL_o rfl rfl (OpR_idx T.ok rfl rs8 (y := f) hgf rfl rfl rfl rfl rfl rfl ?_)
    rintro bq pq ys hep ⟨a1, n1, c1, a2, n2, c2, rfl, rs2, rs3⟩
    refine WL_o rfl rfl (OpR_loadE T.ok 0 rfl hep rfl rfl ?_)
    skip
    refine WL_o rfl rfl (OpR_alloc T.ok rfl hs rfl rfl ?_); clear hs; rintro b9 g1 hs hqe; replace le0 := G.le.trans le0 hqe; replace le8 := G.le.trans le8 hqe; replace rs2 := rs2.mono hqe; replace rs3 := rs3.mono hqe; replace rs8 := rs8.mono hqe
    skip
    refine WL_n rfl (OpR_storeO T.ok 0 rfl hs rfl rfl rfl rfl rfl rfl rfl rfl rfl ?_); replace hs := hs; rintro g1 hs hqe; replace le0 := G.le.trans le0 hqe; replace le8 := G.le.trans le8 hqe; replace rs2 := rs2.mono hqe; replace rs3 := rs3.mono hqe; replace rs8 := rs8.mono hqe
    refine WL_nil ?_; (with_reducible refine T_then ?_); refine W_seq ?_; refine W_region ?_; refine WL_o rfl rfl (OpR_loadO T.ok 0 rfl hs rfl rfl rfl ?_)
    refine WL_o rfl rfl (OpR_ret cl11 allF rfl rfl rfl rfl rfl (print_c _ f _ ⟨_, _, _, _, _, _, rfl, rs2, rs3⟩ (hF.mono le0)) ?_); rintro g1 _ hf1 hp; replace hs := hs.call hf1; have hqe := hf1.le; replace le0 := G.le.trans le0 hqe; replace le8 := G.le.trans le8 hqe; replace rs2 := rs2.mono hqe; replace rs3 := rs3.mono hqe; replace rs8 := rs8.mono hqe
    by_cases hv : valid f = true
    · rw [printRes_yes hv] at hp
      subst hp
      have hl := printM_small hv
      (iterate 5 refine P1 T.ok rfl rfl rfl ?_); refine WL_nil ?_; (with_reducible refine T_then ?_); refine W_seq ?_; refine W_seq ?_; refine W_region ?_; refine P1 T.ok rfl rfl rfl ?_; refine P1 T.ok rfl rfl rfl ?_; refine WL_o rfl rfl (OpR_loadO T.ok 0 rfl hs rfl rfl rfl ?_)
      refine WL_o rfl rfl (OpR_ret cl12 allF rfl rfl rfl rfl rfl (valid_c _ f _ ⟨_, _, _, _, _, _, rfl, rs2, rs3⟩) ?_); rintro g1 _ hf1 hp; replace hs := hs.call hf1; have hqe := hf1.le; replace le0 := G.le.trans le0 hqe; replace le8 := G.le.trans le8 hqe; replace rs2 := rs2.mono hqe; replace rs3 := rs3.mono hqe; replace rs8 := rs8.mono hqe
      rw [hv] at hp
      subst hp
      refine WL_o rfl rfl (OpR_eqBool T.ok (neg := true) rfl rfl rfl rfl rfl ?_)
      (iterate 4 refine P1 T.ok rfl rfl rfl ?_); (iterate 6 refine S1 allF rfl rfl ?_); refine P1 T.ok rfl rfl rfl ?_; refine P1 T.ok rfl rfl rfl ?_; refine WL_nil ?_; (with_reducible refine T_then ?_)
      refine W_no rfl rfl ?_
      refine W_skip ?_; (with_reducible refine T_then ?_); refine W_seq ?_; refine W_seq ?_; refine W_region ?_; refine P1 T.ok rfl rfl rfl ?_; refine P1 T.ok rfl rfl rfl ?_; refine WL_nil ?_; (with_reducible refine T_then ?_)
      refine W_no rfl rfl ?_
      refine W_skip ?_; (with_reducible refine T_then ?_); refine W_seq ?_; refine W_region ?_; refine P1 T.ok rfl rfl rfl ?_
      refine WL_o rfl rfl (OpR_ret cl13 allF rfl rfl rfl rfl rfl (parse_c (printM f) _ (by omega) (hF.mono le0)) ?_); rintro g1 _ hf1 hp; replace hs := hs.call hf1; have hqe := hf1.le; replace le0 := G.le.trans le0 hqe; replace le8 := G.le.trans le8 hqe; replace rs2 := rs2.mono hqe; replace rs3 := rs3.mono hqe; replace rs8 := rs8.mono hqe
      rw [parse_print hv] at hp
      obtain ⟨_, rfl, a5, n5, c5, a6, n6, c6, rfl, rs4, rs5⟩ := hp
      (iterate 4 refine P1 T.ok rfl rfl rfl ?_)
      refine WL_o rfl rfl (OpR_alloc T.ok rfl hs rfl rfl ?_); clear hs; rintro b12 g1 hs hqe; replace le0 := G.le.trans le0 hqe; replace le8 := G.le.trans le8 hqe; replace rs2 := rs2.mono hqe; replace rs3 := rs3.mono hqe; replace rs4 := rs4.mono hqe; replace rs5 := rs5.mono hqe; replace rs8 := rs8.mono hqe
      skip
      refine WL_n rfl (OpR_storeO T.ok 0 rfl hs rfl rfl rfl rfl rfl rfl rfl rfl rfl ?_); replace hs := hs; rintro g1 hs hqe; replace le0 := G.le.trans le0 hqe; replace le8 := G.le.trans le8 hqe; replace rs2 := rs2.mono hqe; replace rs3 := rs3.mono hqe; replace rs4 := rs4.mono hqe; replace rs5 := rs5.mono hqe; replace rs8 := rs8.mono hqe
      refine P1 T.ok rfl rfl rfl ?_; refine P1 T.ok rfl rfl rfl ?_; refine WL_nil ?_; (with_reducible refine T_then ?_); refine W_seq ?_; refine W_region ?_; (iterate 7 refine P1 T.ok rfl rfl rfl ?_); refine WL_o rfl rfl (OpR_loadO T.ok 1 rfl hs rfl rfl rfl ?_); refine WL_o rfl rfl (OpR_loadO T.ok 0 rfl hs rfl rfl rfl ?_)
      refine WL_o rfl rfl (OpR_ret cl14 allF rfl rfl rfl rfl rfl (same_c _ _ f f _ ⟨_, _, _, _, _, _, rfl, rs2, rs3⟩ ⟨_, _, _, _, _, _, rfl, rs4, rs5⟩) ?_); rintro g1 _ hf1 hp; replace hs := hs.call hf1; have hqe := hf1.le; replace le0 := G.le.trans le0 hqe; replace le8 := G.le.trans le8 hqe; replace rs2 := rs2.mono hqe; replace rs3 := rs3.mono hqe; replace rs4 := rs4.mono hqe; replace rs5 := rs5.mono hqe; replace rs8 := rs8.mono hqe
      rw [(sameF_iff f f).2 rfl] at hp
      subst hp
      (iterate 7 refine P1 T.ok rfl rfl rfl ?_); refine WL_nil ?_; (with_reducible refine T_then ?_)
      refine W_no (b := _) ?_ rfl ?_
      · simp [bs_size]; omega
      refine W_skip ?_; (with_reducible refine T_bn ?_); (with_reducible refine T_then ?_); refine W_region ?_; refine P1 T.ok rfl rfl rfl ?_; refine P1 T.ok rfl rfl rfl ?_; refine WL_nil ?_
      exact fun a ha => ⟨2 - (k + 1), by omega, k + 1, _, rfl, hs.tail (M := [_, _]), le8, by omega, rfl, ha.keep ⟨rfl, rfl, rfl, kI rfl (by rw [wr (by omega) (by omega)]; omega), trivial⟩⟩
    · have hv0 : valid f = false := by simpa using hv
      rw [printRes_no hv0] at hp
      subst hp
      (iterate 5 refine P1 T.ok rfl rfl rfl ?_); refine WL_nil ?_; (with_reducible refine T_then ?_); refine W_seq ?_; refine W_seq ?_; refine W_region ?_; refine P1 T.ok rfl rfl rfl ?_; refine P1 T.ok rfl rfl rfl ?_; refine WL_o rfl rfl (OpR_loadO T.ok 0 rfl hs rfl rfl rfl ?_)
      refine WL_o rfl rfl (OpR_ret cl12 allF rfl rfl rfl rfl rfl (valid_c _ f _ ⟨_, _, _, _, _, _, rfl, rs2, rs3⟩) ?_); rintro g1 _ hf1 hp; replace hs := hs.call hf1; have hqe := hf1.le; replace le0 := G.le.trans le0 hqe; replace le8 := G.le.trans le8 hqe; replace rs2 := rs2.mono hqe; replace rs3 := rs3.mono hqe; replace rs8 := rs8.mono hqe
      rw [hv0] at hp
      subst hp
      refine WL_o rfl rfl (OpR_eqBool T.ok (neg := true) rfl rfl rfl rfl rfl ?_)
      (iterate 12 refine P1 T.ok rfl rfl rfl ?_); refine WL_nil ?_; (with_reducible refine T_then ?_)
      refine W_no (b := _) ?_ rfl ?_
      · simp [bs_toList]
      refine W_skip ?_; (with_reducible refine T_then ?_); refine W_seq ?_; refine W_seq ?_; refine W_region ?_; refine P1 T.ok rfl rfl rfl ?_; refine P1 T.ok rfl rfl rfl ?_; refine WL_nil ?_; (with_reducible refine T_then ?_)
      refine W_yes rfl rfl ?_
      refine W_exit ?_; (with_reducible refine T_tx ?_); (with_reducible refine T_bx ?_); (with_reducible refine T_then ?_); refine W_region ?_; refine P1 T.ok rfl rfl rfl ?_; refine P1 T.ok rfl rfl rfl ?_; refine WL_nil ?_
      exact fun a ha => ⟨2 - (k + 1), by omega, k + 1, _, rfl, hs.tail (M := [_]), le8, by omega, rfl, ha.keep ⟨rfl, rfl, rfl, kI rfl (by rw [wr (by omega) (by omega)]; omega), trivial⟩⟩
  · refine W_no (b := _) ?_ rfl ?_
    · simp; omega
    refine W_exit ?_; (with_reducible refine T_tx ?_; with_reducible refine T_tx ?_); (with_reducible refine T_bx ?_); (with_reducible refine T_then ?_); refine W_seq ?_; refine W_region ?_; refine P1 T.ok rfl rfl rfl ?_; refine P1 T.ok rfl rfl rfl ?_; refine WL_nil ?_; (with_reducible refine T_then ?_)
    refine W_ret ?_
    skip
    exact ret1 rfl rfl (hs.ret rfl)
end Go.Proofs.YtnaeopehmdcplaaDoor

/- The walk of FlowFirstError. -/
namespace Go.Proofs.YtnaeopehmdcplaaDoor
open Go Go.K
set_option maxRecDepth 10000
attribute [local irreducible] W WL OpR bitAnd bitOr bitXor bitClr bitNot shlI shrI
set_option maxHeartbeats 8000000

theorem textOf_take_len (ls : List (List UInt8)) (k : Nat) : (textOf (ls.take k)).length ≤ (textOf ls).length := by
  conv => rhs; rw [← List.take_append_drop k ls, textOf_app, List.length_append]
  omega
theorem textOf_succ {ls : List (List UInt8)} {k : Nat} (hk : k < ls.length) : textOf (ls.take (k + 1)) = textOf (ls.take k) ++ ls[k] ++ [10] := by
  rw [List.take_succ_eq_append_getElem hk, textOf_app]
  simp [textOf, List.append_assoc]
theorem bads_len : bads.length = 14 := rfl
theorem bads_small : ∀ l ∈ bads, l.length ≤ 200 := by decide
theorem firstError_c (u : Value) (x : List Y6) (t : Value) (zs : List Y3) (at' which : Int) (more : List UInt8) (g : G) (hF : FlAt g) (rs0 : Rs g u x) (hx : ∀ y ∈ x, y.fit) (rs1 : Rs g t zs) (hz : ∀ z ∈ zs, z.fit) (hat : I64 at') (hwh : I64 which) :
    CallsIn Wd 0 Tryd.prog 7 #[u, t, .int .i64 at', .int .i64 which, .string (bs more)] g.w (Ret g fun _ r => r = .bool true) := by
  obtain ⟨ua, uc, rfl⟩ := rs0.isSlice
  obtain ⟨ta, tc, rfl⟩ := rs1.isSlice
  have hs := St.start g
  have le0 := G.le.refl g
  refine enter Tryd.func7 rfl Tryd.ntmps7 rfl ?_
  refine W_seq ?_; refine W_region ?_; refine P1 T.ok rfl rfl rfl ?_; refine WL_nil ?_; (with_reducible refine T_then ?_); refine W_seq ?_; refine W_seq ?_; refine W_region ?_
  refine WL_o rfl rfl (OpR_ret cl8 allF rfl rfl rfl rfl rfl (sane_c _ (hF.mono le0)) ?_); rintro g1 _ hf1 rfl; replace hs := hs.call hf1; have hqe := hf1.le; replace le0 := G.le.trans le0 hqe; replace rs0 := rs0.mono hqe; replace rs1 := rs1.mono hqe
  refine P1 T.ok rfl rfl rfl ?_; refine WL_nil ?_; (with_reducible refine T_then ?_)
  refine W_no rfl rfl ?_
  refine W_skip ?_; (with_reducible refine T_then ?_); refine W_seq ?_; refine W_region ?_; refine P1 T.ok rfl rfl rfl ?_; refine P1 T.ok rfl rfl rfl ?_
  refine WL_o rfl rfl (OpR_ret cl10 allF rfl rfl rfl rfl rfl (make_c _ _ x zs _ rs0 rs1 hx hz) ?_); rintro g1 _ hf1 fl1; replace hs := hs.call hf1; have hqe := hf1.le; replace le0 := G.le.trans le0 hqe; replace rs0 := rs0.mono hqe; replace rs1 := rs1.mono hqe
  skip
  refine WL_o rfl rfl (OpR_ret cl11 allF rfl rfl rfl rfl rfl (print_c _ _ _ fl1 (hF.mono le0)) ?_); rintro g1 _ hf1 hp; replace hs := hs.call hf1; have hqe := hf1.le; replace le0 := G.le.trans le0 hqe; replace rs0 := rs0.mono hqe; replace rs1 := rs1.mono hqe; replace fl1 := fl1.mono hqe
  have hmv := mk_valid x zs
  rw [printRes_yes hmv] at hp
  subst hp
  have hTl := printM_small hmv
  have hbad := fun k hk bad more hb hsk h0 h1 => parse_bad hmv k hk bad more hb hsk h0 h1
  generalize mk x zs = F at *
  clear fl1 rs0 rs1 hx hz hmv
  rw [printM_lines] at hTl ⊢
  have hno : ∀ l ∈ linesOf F, (10 : UInt8) ∉ l := linesOf_no
  have hlines := split_text (linesOf F) hno
  have h1l : 1 ≤ (linesOf F).length := by unfold linesOf; simp
  generalize linesOf F = ls at *
  clear hno F
  (iterate 5 refine P1 T.ok rfl rfl rfl ?_); refine WL_nil ?_; (with_reducible refine T_then ?_); refine W_seq ?_; refine W_region ?_; refine P1 T.ok rfl rfl rfl ?_
  refine WL_o rfl rfl (OpR_ret cl16 allF rfl rfl rfl rfl rfl (lines_c (textOf ls) _ (by omega)) ?_); rintro g1 _ hf1 rs6; replace hs := hs.call hf1; have hqe := hf1.le; replace le0 := G.le.trans le0 hqe
  rw [hlines] at rs6
  clear hlines
  have hN : ((ls ++ [[]]).map Str.mk).length = ls.length + 1 := by simp
  have hgl : ∀ (j : Nat) (h : j < ls.length), geti ((ls ++ [[]]).map Str.mk) (j : Int) = some ⟨ls[j]⟩ := by
    intro j h
    have hj : j < ((ls ++ [[]]).map Str.mk).length := by rw [hN]; omega
    rw [geti_of (n := (j : Int)) rfl hj]
    rw [List.getElem_map, List.getElem_append_left h]
  generalize (ls ++ [[]]).map Str.mk = lines at *
  obtain ⟨la, lc, rfl⟩ := rs6.isSlice
  have hNl := rs6.len_le
  unfold maxLen at hNl
  refine P1 T.ok rfl rfl rfl ?_; refine WL_nil ?_; (with_reducible refine T_then ?_); refine W_seq ?_; refine W_seq ?_; refine W_region ?_; (iterate 7 refine P1 T.ok rfl rfl rfl ?_); refine WL_nil ?_; (with_reducible refine T_then ?_)
  refine W_no (b := _) ?_ rfl ?_
  · simp; omega
  refine W_skip ?_; (with_reducible refine T_then ?_); refine W_seq ?_; refine W_region ?_; (iterate 4 refine P1 T.ok rfl rfl rfl ?_)
  have hcall := lpick_c at' (ls.length : Int) g1 hat (by omega)
  refine WL_re (.int .i64 (ls.length : Int)) (t := 42) rfl (congrArg (Value.int .i64) (by rw [wr (by omega) (by omega)]; omega)) ?_
  refine WL_o rfl rfl (OpR_ret cl15 allF rfl rfl rfl rfl rfl (hcall) ?_); rintro g1 _ hf1 rfl; replace hs := hs.call hf1; have hqe := hf1.le; replace le0 := G.le.trans le0 hqe; replace rs6 := rs6.mono hqe
  clear hcall
  have hpr := pickM_range (c := at') (n := (ls.length : Int)) (by omega)
  obtain ⟨kk, hkk⟩ : ∃ kk : Nat, pickM at' (ls.length : Int) = kk := ⟨(pickM at' (ls.length : Int)).toNat, by omega⟩
  rw [hkk] at hpr ⊢
  clear hkk
  have hkl : kk < ls.length := by omega
  have htl := textOf_take_len ls
  refine P1 T.ok rfl rfl rfl ?_; refine WL_nil ?_; (with_reducible refine T_then ?_); refine W_seq ?_; refine W_region ?_; refine P1 T.ok rfl rfl rfl ?_; refine WL_nil ?_; (with_reducible refine T_then ?_); refine W_seq ?_; refine W_seq ?_; refine W_region ?_; refine P1 T.ok rfl rfl rfl ?_; refine WL_nil ?_; (with_reducible refine T_then ?_); refine W_block ?_
  have rs6c := rs6; have le0c := le0
  refine W_loop (fun m a' w => ∃ (k : Nat) (g' : G), w = g'.w ∧ St g g' [] ∧ G.le g1 g' ∧ k ≤ kk ∧ m = kk - k ∧
    Fr 90 [] [(3, .int .i64 which), (4, .string (bs more)), (13, .slice la lines.length lc), (14, .int .i64 kk), (15, .string (bs (textOf (ls.take k)))), (16, .int .i64 k)] a') kk (fun a' ha => ⟨0, g1, rfl, hs, G.le.refl _, Nat.zero_le _, rfl, ha.keep (by (repeat (first | exact trivial | refine ⟨rfl, ?_⟩)))⟩) ?_
  clear hs le0 rs6
  rintro m a' _ ⟨k, g', rfl, hs, le8, hk, rfl, ha'⟩
  have rs6 := rs6c.mono le8
  have le0 := le0c.trans le8
  revert a'
  (with_reducible refine T_wp ?_); refine W_seq ?_; refine W_seq ?_; refine W_region ?_; (iterate 3 refine P1 T.ok rfl rfl rfl ?_); refine WL_nil ?_; (with_reducible refine T_then ?_)
  by_cases hlt : k < kk
  · refine W_yes (b := _) ?_ rfl ?_
    · simp; omega
    have hk2 : k < ls.length := by omega
    have h1 := hgl k hk2
    have h2 := textOf_succ hk2
    have h3 := htl (k + 1)
    rw [h2, List.length_append, List.length_append, List.length_cons] at h3
    generalize ls[k] = ln at *
    refine W_skip ?_; (with_reducible refine T_then ?_); refine W_seq ?_; refine W_block ?_; refine W_region ?_; (iterate 3 refine P1 T.ok rfl rfl rfl ?_)
    refine WL_o rfl rfl (OpR_idx T.ok rfl rs6 (y := ⟨ln⟩) h1 rfl rfl rfl rfl rfl rfl ?_)
    rintro bq pq ys hep rfl
    refine WL_o rfl rfl (OpR_loadE T.ok 0 rfl hep rfl rfl ?_)
    skip
    refine WL_o rfl rfl (OpR_addS (p := textOf (ls.take k)) (q := ln) rfl rfl rfl (by omega) ?_)
    refine WL_o rfl rfl (OpR_addS (p := textOf (ls.take k) ++ ln) (q := [10]) rfl rfl rfl (by rw [List.length_append, List.length_cons]; omega) ?_)
    rw [← h2]
    refine P1 T.ok rfl rfl rfl ?_; refine WL_nil ?_; (with_reducible refine T_bn ?_); (with_reducible refine T_then ?_); refine W_region ?_; (iterate 3 refine P1 T.ok rfl rfl rfl ?_); refine WL_nil ?_
    exact fun a ha => ⟨kk - (k + 1), by omega, k + 1, _, rfl, hs, le8, by omega, rfl, ha.keep ⟨rfl, rfl, rfl, rfl, rfl, kI rfl (by rw [wr (by omega) (by omega)]; omega), trivial⟩⟩
  · refine W_no (b := _) ?_ rfl ?_
    · simp; omega
    obtain rfl : k = kk := by omega
    refine W_exit ?_; (with_reducible refine T_tx ?_; with_reducible refine T_tx ?_); (with_reducible refine T_bx ?_); (with_reducible refine T_then ?_); refine W_seq ?_; refine W_region ?_
    refine WL_o rfl rfl (OpR_lit T.ok rfl hs (vs := [(0, .string (bs bad0)), (1, .string (bs bad1)), (2, .string (bs bad2)), (3, .string (bs bad3)), (4, .string (bs bad4)), (5, .string (bs bad5)), (6, .string (bs bad6)), (7, .string (bs bad7)), (8, .string (bs bad8)), (9, .string (bs bad9)), (10, .string (bs bad10)), (11, .string (bs bad11)), (12, .string (bs bad12)), (13, .string (bs bad13))]) (cells := bads.map fun s => .string (bs s)) rfl rfl rfl rfl rfl rfl (by decide) (by decide) (by kernel_rfl) rfl ?_)
    clear hs
    rintro bl gl hs hqe; replace le0 := G.le.trans le0 hqe; replace le8 := G.le.trans le8 hqe; replace rs6 := rs6.mono hqe
    obtain ⟨gz, hwz, hsz, hqz, rs7⟩ := hs.fzRow (α := Str) (xs := bads.map Str.mk) (i := 0) rfl (RcL.strs _ bads)
    have hqe := hqz; rw [← hwz]; replace hs := hsz; clear hsz; replace le0 := G.le.trans le0 hqe; replace le8 := G.le.trans le8 hqe; replace rs6 := rs6.mono hqe
    replace hs : St g gz [] := hs
    have hcall := lpick_c which 14 gz hwh (by decide)
    refine P1 T.ok rfl rfl rfl ?_
    refine WL_o rfl rfl (OpR_ret cl15 allF rfl rfl rfl rfl rfl (hcall) ?_); rintro g1 _ hf1 rfl; replace hs := hs.call hf1; have hqe := hf1.le; replace le0 := G.le.trans le0 hqe; replace le8 := G.le.trans le8 hqe; replace rs6 := rs6.mono hqe; replace rs7 := rs7.mono hqe
    clear hcall
    have hpr := pickM_range (c := which) (n := 14) (by omega)
    obtain ⟨j, hj⟩ : ∃ j : Nat, pickM which 14 = j := ⟨(pickM which 14).toNat, by omega⟩
    rw [hj] at hpr ⊢
    clear hj
    have hjl : j < bads.length := by rw [bads_len]; omega
    have hB := bads_ok _ (List.getElem_mem hjl)
    have hBl := bads_small _ (List.getElem_mem hjl)
    have hgb : geti (bads.map Str.mk) (j : Int) = some ⟨bads[j]⟩ := by simp [geti, hjl]
    generalize bads[j] = bad at *
    skip
    refine WL_o rfl rfl (OpR_idx T.ok rfl rs7 (y := ⟨bad⟩) hgb rfl rfl rfl rfl rfl rfl ?_)
    rintro bq pq ys hep rfl
    refine WL_o rfl rfl (OpR_loadE T.ok 0 rfl hep rfl rfl ?_)
    have h3 := htl k
    refine P1 T.ok rfl rfl rfl ?_; refine WL_nil ?_; (with_reducible refine T_then ?_); refine W_seq ?_; refine W_region ?_; refine P1 T.ok rfl rfl rfl ?_; refine P1 T.ok rfl rfl rfl ?_
    refine WL_o rfl rfl (OpR_addS (p := textOf (ls.take k)) (q := bad) rfl rfl rfl (by omega) ?_)
    refine WL_o rfl rfl (OpR_addS (p := textOf (ls.take k) ++ bad) (q := [10]) rfl rfl rfl (by rw [List.length_append, List.length_singleton]; omega) ?_)
    (iterate 4 refine P1 T.ok rfl rfl rfl ?_)
    refine WL_o rfl rfl (OpR_cutS T.ok (s := more) (a := 0) (b := min more.length 200) rfl rfl rfl rfl rfl ⟨_, congrArg (fun z => some (Value.int .i64 z)) (by rw [bs_size]; exact min_int more.length 200)⟩ (Nat.zero_le _) (by omega) ?_)
    rw [List.drop_zero]
    have hml : (more.take (min more.length 200)).length ≤ 200 := by rw [List.length_take]; omega
    generalize more.take (min more.length 200) = mr at *
    refine WL_o rfl rfl (OpR_addS (p := textOf (ls.take k) ++ bad ++ [10]) (q := mr) rfl rfl rfl (by rw [List.length_append, List.length_append, List.length_singleton]; omega) ?_)
    have hpm := hbad k hkl bad mr hB.1 hB.2.1 hB.2.2.1 hB.2.2.2
    have he : textOf (ls.take k) ++ bad ++ [10] ++ mr = textOf (ls.take k) ++ bad ++ 10 :: mr := by simp
    rw [he]
    have hel : (textOf (ls.take k) ++ bad ++ 10 :: mr).length ≤ 999999 := by rw [List.length_append, List.length_append, List.length_cons]; omega
    generalize textOf (ls.take k) ++ bad ++ 10 :: mr = W0 at *
    skip
    refine WL_o rfl rfl (OpR_ret cl13 allF rfl rfl rfl rfl rfl (parse_c W0 _ hel (hF.mono le0)) ?_); rintro g1 _ hf1 hp; replace hs := hs.call hf1; have hqe := hf1.le; replace le0 := G.le.trans le0 hqe; replace le8 := G.le.trans le8 hqe; replace rs6 := rs6.mono hqe; replace rs7 := rs7.mono hqe
    rw [hpm] at hp
    obtain rfl := hp
    (iterate 4 refine P1 T.ok rfl rfl rfl ?_)
    refine WL_o rfl rfl (OpR_alloc T.ok rfl hs rfl rfl ?_); clear hs; rintro b8 g1 hs hqe; replace le0 := G.le.trans le0 hqe; replace le8 := G.le.trans le8 hqe; replace rs6 := rs6.mono hqe; replace rs7 := rs7.mono hqe
    skip
    refine WL_n rfl (OpR_storeO T.ok 0 rfl hs rfl rfl rfl rfl rfl rfl rfl rfl rfl ?_); replace hs := hs; rintro g1 hs hqe; replace le0 := G.le.trans le0 hqe; replace le8 := G.le.trans le8 hqe; replace rs6 := rs6.mono hqe; replace rs7 := rs7.mono hqe
    refine P1 T.ok rfl rfl rfl ?_; refine P1 T.ok rfl rfl rfl ?_; refine WL_nil ?_; (with_reducible refine T_then ?_); refine W_seq ?_; refine W_region ?_; (iterate 9 refine P1 T.ok rfl rfl rfl ?_)
    refine WL_know 84 (b' := true) (by rw [wr (by omega) (by omega)]; simp) rfl ?_
    refine P1 T.ok rfl rfl rfl ?_; refine WL_o rfl rfl (OpR_loadO T.ok 0 rfl hs rfl rfl rfl ?_); (iterate 4 refine P1 T.ok rfl rfl rfl ?_); refine WL_nil ?_; (with_reducible refine T_then ?_)
    refine W_ret ?_
    skip
    exact ret1 rfl rfl (hs.ret rfl)
end Go.Proofs.YtnaeopehmdcplaaDoor
