/- The walk through FlowLines. -/
import Derived.Test.YtnaeopehmdcplaaDoorFg

/- The walk of FlowRoundTrip. -/
namespace Go.Proofs.YtnaeopehmdcplaaDoor
open Go Go.K
set_option maxRecDepth 10000
attribute [local irreducible] W WL OpR bitAnd bitOr bitXor bitClr bitNot shlI shrI
set_option maxHeartbeats 8000000

def RFlowC (g : G) (cs : List Value) (f : Flow) : Prop :=
  ∃ a1 n1 c1 a2 n2 c2, cs = [.int .i64 f.moveMin, .int .i64 f.moveMax, .slice a1 n1 c1, .slice a2 n2 c2] ∧ Rs g (.slice a1 n1 c1) f.steps ∧ Rs g (.slice a2 n2 c2) f.windows
instance : El Flow where
  k := 4
  pos := by omega
  rc := RFlowC
  len h := by obtain ⟨_, _, _, _, _, _, rfl, _⟩ := h; rfl
  mono hle h := by obtain ⟨a1, n1, c1, a2, n2, c2, e, h1, h2⟩ := h; exact ⟨a1, n1, c1, a2, n2, c2, e, h1.mono hle, h2.mono hle⟩
  one h := by obtain ⟨_, _, _, _, _, _, rfl, _⟩ := h; simp [Value.oneCell']
theorem printM_small {f : Flow} (h : valid f = true) : (printM f).length ≤ 8192 := printM_len (valid_N h)


theorem roundTrip_c (v : Value) (raw : Flow) (u : Value) (x : List Y6) (t : Value) (zs : List Y3) (g : G) (hF : FlAt g) (fl0 : RFlow g v raw) (rs0 : Rs g u x) (hx : ∀ y ∈ x, y.fit) (rs1 : Rs g t zs) (hz : ∀ z ∈ zs, z.fit) :
    CallsIn Wd 0 Tryd.prog 3 #[v, u, t] g.w (Ret g fun _ r => r = .bool true) := by
  obtain ⟨a1, n1, c1, a2, n2, c2, rfl, rs2, rs3⟩ := fl0
  obtain ⟨ua, uc, rfl⟩ := rs0.isSlice
  obtain ⟨ta, tc, rfl⟩ := rs1.isSlice
  have hs := St.start g
  have le0 := G.le.refl g
  refine enter Tryd.func3 rfl Tryd.ntmps3 rfl ?_
  refine W_seq ?_; refine W_region ?_
  refine WL_o rfl rfl (OpR_box rfl hs rfl rfl ?_); clear hs; rintro bx g1 hs hqe; replace le0 := G.le.trans le0 hqe; replace rs0 := rs0.mono hqe; replace rs1 := rs1.mono hqe; replace rs2 := rs2.mono hqe; replace rs3 := rs3.mono hqe
  refine P1 T.ok rfl rfl rfl ?_; refine WL_nil ?_; (with_reducible refine T_then ?_); refine W_seq ?_; refine W_region ?_
  refine WL_o rfl rfl (OpR_ret cl8 allF rfl rfl rfl rfl rfl (sane_c _ (hF.mono le0)) ?_); rintro g1 _ hf1 rfl; replace hs := hs.call hf1; have hqe := hf1.le; replace le0 := G.le.trans le0 hqe; replace rs0 := rs0.mono hqe; replace rs1 := rs1.mono hqe; replace rs2 := rs2.mono hqe; replace rs3 := rs3.mono hqe
  refine P1 T.ok rfl rfl rfl ?_; refine WL_nil ?_; (with_reducible refine T_then ?_); refine W_seq ?_; refine W_seq ?_; refine W_region ?_; refine WL_o rfl rfl (OpR_loadO T.ok 0 rfl hs rfl rfl rfl ?_)
  refine WL_o rfl rfl (OpR_ret cl9 allF rfl rfl rfl rfl rfl (few_c _ raw _ ⟨_, _, _, _, _, _, rfl, rs2, rs3⟩) ?_); rintro g1 _ hf1 fl1; replace hs := hs.call hf1; have hqe := hf1.le; replace le0 := G.le.trans le0 hqe; replace rs0 := rs0.mono hqe; replace rs1 := rs1.mono hqe; replace rs2 := rs2.mono hqe; replace rs3 := rs3.mono hqe
  refine P1 T.ok rfl rfl rfl ?_; refine P1 T.ok rfl rfl rfl ?_
  refine WL_o rfl rfl (OpR_ret cl10 allF rfl rfl rfl rfl rfl (make_c _ _ x zs _ rs0 rs1 hx hz) ?_); rintro g1 _ hf1 fl2; replace hs := hs.call hf1; have hqe := hf1.le; replace le0 := G.le.trans le0 hqe; replace rs0 := rs0.mono hqe; replace rs1 := rs1.mono hqe; replace rs2 := rs2.mono hqe; replace rs3 := rs3.mono hqe; replace fl1 := fl1.mono hqe
  obtain ⟨a3, n3, c3, a4, n4, c4, rfl, rs4, rs5⟩ := fl1
  obtain ⟨a5, n5, c5, a6, n6, c6, rfl, rs6, rs7⟩ := fl2
  skip
  refine WL_o rfl rfl (OpR_lit T.ok rfl hs (vs := [(0, .agg #[.int .i64 (fewM raw).moveMin, .int .i64 (fewM raw).moveMax, .slice a3 n3 c3, .slice a4 n4 c4]), (1, .agg #[.int .i64 (mk x zs).moveMin, .int .i64 (mk x zs).moveMax, .slice a5 n5 c5, .slice a6 n6 c6])]) (cells := [.int .i64 (fewM raw).moveMin, .int .i64 (fewM raw).moveMax, .slice a3 n3 c3, .slice a4 n4 c4, .int .i64 (mk x zs).moveMin, .int .i64 (mk x zs).moveMax, .slice a5 n5 c5, .slice a6 n6 c6]) rfl rfl rfl rfl rfl rfl (by decide) (by decide) (by kernel_rfl) rfl ?_)
  clear hs
  rintro bl gl hs hqe; replace le0 := G.le.trans le0 hqe; replace rs0 := rs0.mono hqe; replace rs1 := rs1.mono hqe; replace rs2 := rs2.mono hqe; replace rs3 := rs3.mono hqe; replace rs4 := rs4.mono hqe; replace rs5 := rs5.mono hqe; replace rs6 := rs6.mono hqe; replace rs7 := rs7.mono hqe
  obtain ⟨gz, hwz, hsz, hqz, rs8⟩ := hs.fzRow (α := Flow) (xs := [fewM raw, mk x zs]) (i := 0) rfl ⟨_, _, rfl, ⟨_, _, _, _, _, _, rfl, rs4, rs5⟩, [.int .i64 (mk x zs).moveMin, .int .i64 (mk x zs).moveMax, .slice a5 n5 c5, .slice a6 n6 c6], [], rfl, ⟨_, _, _, _, _, _, rfl, rs6, rs7⟩, rfl⟩
  have hqe := hqz; rw [← hwz]; replace hs := hsz; clear hsz hqz; replace le0 := G.le.trans le0 hqe; replace rs0 := rs0.mono hqe; replace rs1 := rs1.mono hqe; replace rs2 := rs2.mono hqe; replace rs3 := rs3.mono hqe; replace rs4 := rs4.mono hqe; replace rs5 := rs5.mono hqe; replace rs6 := rs6.mono hqe; replace rs7 := rs7.mono hqe
  clear rs4 rs5 rs6 rs7 rs2 rs3 rs0 rs1
  replace hs : St g gz [] := hs.tail (M := [_])
  refine P1 T.ok rfl rfl rfl ?_; refine P1 T.ok rfl rfl rfl ?_; refine WL_nil ?_; (with_reducible refine T_then ?_); refine W_block ?_
  have rs8c := rs8
  have le0c := le0
  have hget : ∀ k : Nat, k < 2 → ∃ f, geti [fewM raw, mk x zs] (k : Int) = some f := fun k hk => ⟨_, geti_of (xs := [fewM raw, mk x zs]) rfl hk⟩
  generalize hFSx : [fewM raw, mk x zs] = FSx at *
  clear hFSx
  refine W_loop (fun m a' w => ∃ (k : Nat) (g' : G), w = g'.w ∧ St g g' [] ∧ G.le gz g' ∧ k ≤ 2 ∧ m = 2 - k ∧
    Fr 76 [] [(7, .bool true), (21, .slice (some ⟨bl, 0, none⟩) 2 2), (22, .int .i64 2), (23, .int .i64 k)] a') 2 (fun a' ha => ⟨0, gz, rfl, hs, G.le.refl _, Nat.zero_le _, rfl, ha.keep (by (repeat (first | exact trivial | refine ⟨rfl, ?_⟩)))⟩) ?_
  clear hs le0 rs8
  rintro m a' _ ⟨k, g', rfl, hs, le8, hk, rfl, ha'⟩
  have rs8 := rs8c.mono le8
  have le0 := le0c.trans le8
  revert a'
  (with_reducible refine T_wp ?_); refine W_seq ?_; refine W_region ?_; refine P1 T.ok rfl rfl rfl ?_; refine WL_nil ?_; (with_reducible refine T_then ?_); refine W_seq ?_
  by_cases hlt : k < 2
  · refine W_yes (b := _) ?_ rfl ?_
    · simp; omega
    obtain ⟨f, hgf⟩ := hget k hlt
    refine W_skip ?_; (with_reducible refine T_then ?_); refine W_seq ?_; refine W_block ?_; refine W_seq ?_; refine W_region ?_
    refine WL_o rfl rfl (OpR_idx T.ok rfl rs8 (y := f) hgf rfl rfl rfl rfl rfl rfl ?_)
    rintro bq pq ys hep ⟨a1, n1, c1, a2, n2, c2, rfl, rs2, rs3⟩
    refine WL_o rfl rfl (OpR_loadE T.ok 0 rfl hep rfl rfl ?_)
    skip
    refine WL_o rfl rfl (OpR_alloc T.ok rfl hs rfl rfl ?_); clear hs; rintro b9 g1 hs hqe; replace le0 := G.le.trans le0 hqe; replace le8 := G.le.trans le8 hqe; replace rs2 := rs2.mono hqe; replace rs3 := rs3.mono hqe; replace rs8 := rs8.mono hqe
    skip
    refine WL_n rfl (OpR_storeO T.ok 0 rfl hs rfl rfl rfl rfl rfl rfl rfl rfl rfl ?_); replace hs := hs; rintro g1 hs hqe; replace le0 := G.le.trans le0 hqe; replace le8 := G.le.trans le8 hqe; replace rs2 := rs2.mono hqe; replace rs3 := rs3.mono hqe; replace rs8 := rs8.mono hqe
    refine WL_nil ?_; (with_reducible refine T_then ?_); refine W_seq ?_; refine W_region ?_; refine WL_o rfl rfl (OpR_loadO T.ok 0 rfl hs rfl rfl rfl ?_)
    refine WL_o rfl rfl (OpR_ret cl11 allF rfl rfl rfl rfl rfl (print_c _ f _ ⟨_, _, _, _, _, _, rfl, rs2, rs3⟩ (hF.mono le0)) ?_); rintro g1 _ hf1 hp; replace hs := hs.call hf1; have hqe := hf1.le; replace le0 := G.le.trans le0 hqe; replace le8 := G.le.trans le8 hqe; replace rs2 := rs2.mono hqe; replace rs3 := rs3.mono hqe; replace rs8 := rs8.mono hqe
    by_cases hv : valid f = true
    · rw [printRes_yes hv] at hp
      subst hp
      have hl := printM_small hv
      (iterate 5 refine P1 T.ok rfl rfl rfl ?_); refine WL_nil ?_; (with_reducible refine T_then ?_); refine W_seq ?_; refine W_seq ?_; refine W_region ?_; refine P1 T.ok rfl rfl rfl ?_; refine P1 T.ok rfl rfl rfl ?_; refine WL_o rfl rfl (OpR_loadO T.ok 0 rfl hs rfl rfl rfl ?_)
      refine WL_o rfl rfl (OpR_ret cl12 allF rfl rfl rfl rfl rfl (valid_c _ f _ ⟨_, _, _, _, _, _, rfl, rs2, rs3⟩) ?_); rintro g1 _ hf1 hp; replace hs := hs.call hf1; have hqe := hf1.le; replace le0 := G.le.trans le0 hqe; replace le8 := G.le.trans le8 hqe; replace rs2 := rs2.mono hqe; replace rs3 := rs3.mono hqe; replace rs8 := rs8.mono hqe
      rw [hv] at hp
      subst hp
      refine WL_o rfl rfl (OpR_eqBool T.ok (neg := true) rfl rfl rfl rfl rfl ?_)
      (iterate 4 refine P1 T.ok rfl rfl rfl ?_); (iterate 6 refine S1 allF rfl rfl ?_); refine P1 T.ok rfl rfl rfl ?_; refine P1 T.ok rfl rfl rfl ?_; refine WL_nil ?_; (with_reducible refine T_then ?_)
      refine W_no rfl rfl ?_
      refine W_skip ?_; (with_reducible refine T_then ?_); refine W_seq ?_; refine W_seq ?_; refine W_region ?_; refine P1 T.ok rfl rfl rfl ?_; refine P1 T.ok rfl rfl rfl ?_; refine WL_nil ?_; (with_reducible refine T_then ?_)
      refine W_no rfl rfl ?_
      refine W_skip ?_; (with_reducible refine T_then ?_); refine W_seq ?_; refine W_region ?_; refine P1 T.ok rfl rfl rfl ?_
      refine WL_o rfl rfl (OpR_ret cl13 allF rfl rfl rfl rfl rfl (parse_c (printM f) _ (by omega) (hF.mono le0)) ?_); rintro g1 _ hf1 hp; replace hs := hs.call hf1; have hqe := hf1.le; replace le0 := G.le.trans le0 hqe; replace le8 := G.le.trans le8 hqe; replace rs2 := rs2.mono hqe; replace rs3 := rs3.mono hqe; replace rs8 := rs8.mono hqe
      rw [parse_print hv] at hp
      obtain ⟨_, rfl, a5, n5, c5, a6, n6, c6, rfl, rs4, rs5⟩ := hp
      (iterate 4 refine P1 T.ok rfl rfl rfl ?_)
      refine WL_o rfl rfl (OpR_alloc T.ok rfl hs rfl rfl ?_); clear hs; rintro b12 g1 hs hqe; replace le0 := G.le.trans le0 hqe; replace le8 := G.le.trans le8 hqe; replace rs2 := rs2.mono hqe; replace rs3 := rs3.mono hqe; replace rs4 := rs4.mono hqe; replace rs5 := rs5.mono hqe; replace rs8 := rs8.mono hqe
      skip
      refine WL_n rfl (OpR_storeO T.ok 0 rfl hs rfl rfl rfl rfl rfl rfl rfl rfl rfl ?_); replace hs := hs; rintro g1 hs hqe; replace le0 := G.le.trans le0 hqe; replace le8 := G.le.trans le8 hqe; replace rs2 := rs2.mono hqe; replace rs3 := rs3.mono hqe; replace rs4 := rs4.mono hqe; replace rs5 := rs5.mono hqe; replace rs8 := rs8.mono hqe
      refine P1 T.ok rfl rfl rfl ?_; refine P1 T.ok rfl rfl rfl ?_; refine WL_nil ?_; (with_reducible refine T_then ?_); refine W_seq ?_; refine W_region ?_; (iterate 7 refine P1 T.ok rfl rfl rfl ?_); refine WL_o rfl rfl (OpR_loadO T.ok 1 rfl hs rfl rfl rfl ?_); refine WL_o rfl rfl (OpR_loadO T.ok 0 rfl hs rfl rfl rfl ?_)
      refine WL_o rfl rfl (OpR_ret cl14 allF rfl rfl rfl rfl rfl (same_c _ _ f f _ ⟨_, _, _, _, _, _, rfl, rs2, rs3⟩ ⟨_, _, _, _, _, _, rfl, rs4, rs5⟩) ?_); rintro g1 _ hf1 hp; replace hs := hs.call hf1; have hqe := hf1.le; replace le0 := G.le.trans le0 hqe; replace le8 := G.le.trans le8 hqe; replace rs2 := rs2.mono hqe; replace rs3 := rs3.mono hqe; replace rs4 := rs4.mono hqe; replace rs5 := rs5.mono hqe; replace rs8 := rs8.mono hqe
      rw [(sameF_iff f f).2 rfl] at hp
      subst hp
      (iterate 7 refine P1 T.ok rfl rfl rfl ?_); refine WL_nil ?_; (with_reducible refine T_then ?_)
      refine W_no (b := _) ?_ rfl ?_
      · simp [bs_size]; omega
      refine W_skip ?_; (with_reducible refine T_bn ?_); (with_reducible refine T_then ?_); refine W_region ?_; refine P1 T.ok rfl rfl rfl ?_; refine P1 T.ok rfl rfl rfl ?_; refine WL_nil ?_
      exact fun a ha => ⟨2 - (k + 1), by omega, k + 1, _, rfl, hs.tail (M := [_, _]), le8, by omega, rfl, ha.keep ⟨rfl, rfl, rfl, kI rfl (by rw [wr (by omega) (by omega)]; omega), trivial⟩⟩
    · have hv0 : valid f = false := by simpa using hv
      rw [printRes_no hv0] at hp
      subst hp
      (iterate 5 refine P1 T.ok rfl rfl rfl ?_); refine WL_nil ?_; (with_reducible refine T_then ?_); refine W_seq ?_; refine W_seq ?_; refine W_region ?_; refine P1 T.ok rfl rfl rfl ?_; refine P1 T.ok rfl rfl rfl ?_; refine WL_o rfl rfl (OpR_loadO T.ok 0 rfl hs rfl rfl rfl ?_)
      refine WL_o rfl rfl (OpR_ret cl12 allF rfl rfl rfl rfl rfl (valid_c _ f _ ⟨_, _, _, _, _, _, rfl, rs2, rs3⟩) ?_); rintro g1 _ hf1 hp; replace hs := hs.call hf1; have hqe := hf1.le; replace le0 := G.le.trans le0 hqe; replace le8 := G.le.trans le8 hqe; replace rs2 := rs2.mono hqe; replace rs3 := rs3.mono hqe; replace rs8 := rs8.mono hqe
      rw [hv0] at hp
      subst hp
      refine WL_o rfl rfl (OpR_eqBool T.ok (neg := true) rfl rfl rfl rfl rfl ?_)
      (iterate 12 refine P1 T.ok rfl rfl rfl ?_); refine WL_nil ?_; (with_reducible refine T_then ?_)
      refine W_no (b := _) ?_ rfl ?_
      · simp [bs_toList]
      refine W_skip ?_; (with_reducible refine T_then ?_); refine W_seq ?_; refine W_seq ?_; refine W_region ?_; refine P1 T.ok rfl rfl rfl ?_; refine P1 T.ok rfl rfl rfl ?_; refine WL_nil ?_; (with_reducible refine T_then ?_)
      refine W_yes rfl rfl ?_
      refine W_exit ?_; (with_reducible refine T_tx ?_); (with_reducible refine T_bx ?_); (with_reducible refine T_then ?_); refine W_region ?_; refine P1 T.ok rfl rfl rfl ?_; refine P1 T.ok rfl rfl rfl ?_; refine WL_nil ?_
      exact fun a ha => ⟨2 - (k + 1), by omega, k + 1, _, rfl, hs.tail (M := [_]), le8, by omega, rfl, ha.keep ⟨rfl, rfl, rfl, kI rfl (by rw [wr (by omega) (by omega)]; omega), trivial⟩⟩
  · refine W_no (b := _) ?_ rfl ?_
    · simp; omega
    refine W_exit ?_; (with_reducible refine T_tx ?_; with_reducible refine T_tx ?_); (with_reducible refine T_bx ?_); (with_reducible refine T_then ?_); refine W_seq ?_; refine W_region ?_; refine P1 T.ok rfl rfl rfl ?_; refine P1 T.ok rfl rfl rfl ?_; refine WL_nil ?_; (with_reducible refine T_then ?_)
    refine W_ret ?_
    skip
    exact ret1 rfl rfl (hs.ret rfl)
end Go.Proofs.YtnaeopehmdcplaaDoor

/- The walk of FlowFirstError. -/
namespace Go.Proofs.YtnaeopehmdcplaaDoor
open Go Go.K
set_option maxRecDepth 10000
attribute [local irreducible] W WL OpR bitAnd bitOr bitXor bitClr bitNot shlI shrI
set_option maxHeartbeats 8000000

theorem textOf_take_len (ls : List (List UInt8)) (k : Nat) : (textOf (ls.take k)).length ≤ (textOf ls).length := by
  conv => rhs; rw [← List.take_append_drop k ls, textOf_app, List.length_append]
  omega
theorem textOf_succ {ls : List (List UInt8)} {k : Nat} (hk : k < ls.length) : textOf (ls.take (k + 1)) = textOf (ls.take k) ++ ls[k] ++ [10] := by
  rw [List.take_succ_eq_append_getElem hk, textOf_app]
  simp [textOf, List.append_assoc]
theorem bads_len : bads.length = 14 := rfl
theorem bads_small : ∀ l ∈ bads, l.length ≤ 200 := by decide
theorem firstError_c (u : Value) (x : List Y6) (t : Value) (zs : List Y3) (at' which : Int) (more : List UInt8) (g : G) (hF : FlAt g) (rs0 : Rs g u x) (hx : ∀ y ∈ x, y.fit) (rs1 : Rs g t zs) (hz : ∀ z ∈ zs, z.fit) (hat : I64 at') (hwh : I64 which) :
    CallsIn Wd 0 Tryd.prog 7 #[u, t, .int .i64 at', .int .i64 which, .string (bs more)] g.w (Ret g fun _ r => r = .bool true) := by
  obtain ⟨ua, uc, rfl⟩ := rs0.isSlice
  obtain ⟨ta, tc, rfl⟩ := rs1.isSlice
  have hs := St.start g
  have le0 := G.le.refl g
  refine enter Tryd.func7 rfl Tryd.ntmps7 rfl ?_
  refine W_seq ?_; refine W_region ?_; refine P1 T.ok rfl rfl rfl ?_; refine WL_nil ?_; (with_reducible refine T_then ?_); refine W_seq ?_; refine W_seq ?_; refine W_region ?_
  refine WL_o rfl rfl (OpR_ret cl8 allF rfl rfl rfl rfl rfl (sane_c _ (hF.mono le0)) ?_); rintro g1 _ hf1 rfl; replace hs := hs.call hf1; have hqe := hf1.le; replace le0 := G.le.trans le0 hqe; replace rs0 := rs0.mono hqe; replace rs1 := rs1.mono hqe
  refine P1 T.ok rfl rfl rfl ?_; refine WL_nil ?_; (with_reducible refine T_then ?_)
  refine W_no rfl rfl ?_
  refine W_skip ?_; (with_reducible refine T_then ?_); refine W_seq ?_; refine W_region ?_; refine P1 T.ok rfl rfl rfl ?_; refine P1 T.ok rfl rfl rfl ?_
  refine WL_o rfl rfl (OpR_ret cl10 allF rfl rfl rfl rfl rfl (make_c _ _ x zs _ rs0 rs1 hx hz) ?_); rintro g1 _ hf1 fl1; replace hs := hs.call hf1; have hqe := hf1.le; replace le0 := G.le.trans le0 hqe; replace rs0 := rs0.mono hqe; replace rs1 := rs1.mono hqe
  skip
  refine WL_o rfl rfl (OpR_ret cl11 allF rfl rfl rfl rfl rfl (print_c _ _ _ fl1 (hF.mono le0)) ?_); rintro g1 _ hf1 hp; replace hs := hs.call hf1; have hqe := hf1.le; replace le0 := G.le.trans le0 hqe; replace rs0 := rs0.mono hqe; replace rs1 := rs1.mono hqe; replace fl1 := fl1.mono hqe
  have hmv := mk_valid x zs
  rw [printRes_yes hmv] at hp
  subst hp
  have hTl := printM_small hmv
  have hbad := fun k hk bad more hb hsk h0 h1 => parse_bad hmv k hk bad more hb hsk h0 h1
  generalize mk x zs = F at *
  clear fl1 rs0 rs1 hx hz hmv
  rw [printM_lines] at hTl ⊢
  have hno : ∀ l ∈ linesOf F, (10 : UInt8) ∉ l := linesOf_no
  have hlines := split_text (linesOf F) hno
  have h1l : 1 ≤ (linesOf F).length := by unfold linesOf; simp
  generalize linesOf F = ls at *
  clear hno F
  (iterate 5 refine P1 T.ok rfl rfl rfl ?_); refine WL_nil ?_; (with_reducible refine T_then ?_); refine W_seq ?_; refine W_region ?_; refine P1 T.ok rfl rfl rfl ?_
  refine WL_o rfl rfl (OpR_ret cl16 allF rfl rfl rfl rfl rfl (lines_c (textOf ls) _ (by omega)) ?_); rintro g1 _ hf1 rs6; replace hs := hs.call hf1; have hqe := hf1.le; replace le0 := G.le.trans le0 hqe
  rw [hlines] at rs6
  clear hlines
  have hN : ((ls ++ [[]]).map Str.mk).length = ls.length + 1 := by simp
  have hgl : ∀ (j : Nat) (h : j < ls.length), geti ((ls ++ [[]]).map Str.mk) (j : Int) = some ⟨ls[j]⟩ := by
    intro j h
    have hj : j < ((ls ++ [[]]).map Str.mk).length := by rw [hN]; omega
    rw [geti_of (n := (j : Int)) rfl hj]
    rw [List.getElem_map, List.getElem_append_left h]
  generalize (ls ++ [[]]).map Str.mk = lines at *
  obtain ⟨la, lc, rfl⟩ := rs6.isSlice
  have hNl := rs6.len_le
  unfold maxLen at hNl
  refine P1 T.ok rfl rfl rfl ?_; refine WL_nil ?_; (with_reducible refine T_then ?_); refine W_seq ?_; refine W_seq ?_; refine W_region ?_; (iterate 7 refine P1 T.ok rfl rfl rfl ?_); refine WL_nil ?_; (with_reducible refine T_then ?_)
  refine W_no (b := _) ?_ rfl ?_
  · simp; omega
  refine W_skip ?_; (with_reducible refine T_then ?_); refine W_seq ?_; refine W_region ?_; (iterate 4 refine P1 T.ok rfl rfl rfl ?_)
  have hcall := lpick_c at' (ls.length : Int) g1 hat (by omega)
  refine WL_re (.int .i64 (ls.length : Int)) (t := 42) rfl (congrArg (Value.int .i64) (by rw [wr (by omega) (by omega)]; omega)) ?_
  refine WL_o rfl rfl (OpR_ret cl15 allF rfl rfl rfl rfl rfl (hcall) ?_); rintro g1 _ hf1 rfl; replace hs := hs.call hf1; have hqe := hf1.le; replace le0 := G.le.trans le0 hqe; replace rs6 := rs6.mono hqe
  clear hcall
  have hpr := pickM_range (c := at') (n := (ls.length : Int)) (by omega)
  obtain ⟨kk, hkk⟩ : ∃ kk : Nat, pickM at' (ls.length : Int) = kk := ⟨(pickM at' (ls.length : Int)).toNat, by omega⟩
  rw [hkk] at hpr ⊢
  clear hkk
  have hkl : kk < ls.length := by omega
  have htl := textOf_take_len ls
  refine P1 T.ok rfl rfl rfl ?_; refine WL_nil ?_; (with_reducible refine T_then ?_); refine W_seq ?_; refine W_region ?_; refine P1 T.ok rfl rfl rfl ?_; refine WL_nil ?_; (with_reducible refine T_then ?_); refine W_seq ?_; refine W_seq ?_; refine W_region ?_; refine P1 T.ok rfl rfl rfl ?_; refine WL_nil ?_; (with_reducible refine T_then ?_); refine W_block ?_
  have rs6c := rs6; have le0c := le0
  refine W_loop (fun m a' w => ∃ (k : Nat) (g' : G), w = g'.w ∧ St g g' [] ∧ G.le g1 g' ∧ k ≤ kk ∧ m = kk - k ∧
    Fr 90 [] [(3, .int .i64 which), (4, .string (bs more)), (13, .slice la lines.length lc), (14, .int .i64 kk), (15, .string (bs (textOf (ls.take k)))), (16, .int .i64 k)] a') kk (fun a' ha => ⟨0, g1, rfl, hs, G.le.refl _, Nat.zero_le _, rfl, ha.keep (by (repeat (first | exact trivial | refine ⟨rfl, ?_⟩)))⟩) ?_
  clear hs le0 rs6
  rintro m a' _ ⟨k, g', rfl, hs, le8, hk, rfl, ha'⟩
  have rs6 := rs6c.mono le8
  have le0 := le0c.trans le8
  revert a'
  (with_reducible refine T_wp ?_); refine W_seq ?_; refine W_seq ?_; refine W_region ?_; (iterate 3 refine P1 T.ok rfl rfl rfl ?_); refine WL_nil ?_; (with_reducible refine T_then ?_)
  by_cases hlt : k < kk
  · refine W_yes (b := _) ?_ rfl ?_
    · simp; omega
    have hk2 : k < ls.length := by omega
    have h1 := hgl k hk2
    have h2 := textOf_succ hk2
    have h3 := htl (k + 1)
    rw [h2, List.length_append, List.length_append, List.length_cons] at h3
    generalize ls[k] = ln at *
    refine W_skip ?_; (with_reducible refine T_then ?_); refine W_seq ?_; refine W_block ?_; refine W_region ?_; (iterate 3 refine P1 T.ok rfl rfl rfl ?_)
    refine WL_o rfl rfl (OpR_idx T.ok rfl rs6 (y := ⟨ln⟩) h1 rfl rfl rfl rfl rfl rfl ?_)
    rintro bq pq ys hep rfl
    refine WL_o rfl rfl (OpR_loadE T.ok 0 rfl hep rfl rfl ?_)
    skip
    refine WL_o rfl rfl (OpR_addS (p := textOf (ls.take k)) (q := ln) rfl rfl rfl (by omega) ?_)
    refine WL_o rfl rfl (OpR_addS (p := textOf (ls.take k) ++ ln) (q := [10]) rfl rfl rfl (by rw [List.length_append, List.length_cons]; omega) ?_)
    rw [← h2]
    refine P1 T.ok rfl rfl rfl ?_; refine WL_nil ?_; (with_reducible refine T_bn ?_); (with_reducible refine T_then ?_); refine W_region ?_; (iterate 3 refine P1 T.ok rfl rfl rfl ?_); refine WL_nil ?_
    exact fun a ha => ⟨kk - (k + 1), by omega, k + 1, _, rfl, hs, le8, by omega, rfl, ha.keep ⟨rfl, rfl, rfl, rfl, rfl, kI rfl (by rw [wr (by omega) (by omega)]; omega), trivial⟩⟩
  · refine W_no (b := _) ?_ rfl ?_
    · simp; omega
    obtain rfl : k = kk := by omega
    refine W_exit ?_; (with_reducible refine T_tx ?_; with_reducible refine T_tx ?_); (with_reducible refine T_bx ?_); (with_reducible refine T_then ?_); refine W_seq ?_; refine W_region ?_
    refine WL_o rfl rfl (OpR_lit T.ok rfl hs (vs := [(0, .string (bs bad0)), (1, .string (bs bad1)), (2, .string (bs bad2)), (3, .string (bs bad3)), (4, .string (bs bad4)), (5, .string (bs bad5)), (6, .string (bs bad6)), (7, .string (bs bad7)), (8, .string (bs bad8)), (9, .string (bs bad9)), (10, .string (bs bad10)), (11, .string (bs bad11)), (12, .string (bs bad12)), (13, .string (bs bad13))]) (cells := bads.map fun s => .string (bs s)) rfl rfl rfl rfl rfl rfl (by decide) (by decide) (by kernel_rfl) rfl ?_)
    clear hs
    rintro bl gl hs hqe; replace le0 := G.le.trans le0 hqe; replace le8 := G.le.trans le8 hqe; replace rs6 := rs6.mono hqe
    obtain ⟨gz, hwz, hsz, hqz, rs7⟩ := hs.fzRow (α := Str) (xs := bads.map Str.mk) (i := 0) rfl (RcL.strs _ bads)
    have hqe := hqz; rw [← hwz]; replace hs := hsz; clear hsz; replace le0 := G.le.trans le0 hqe; replace le8 := G.le.trans le8 hqe; replace rs6 := rs6.mono hqe
    replace hs : St g gz [] := hs
    have hcall := lpick_c which 14 gz hwh (by decide)
    refine P1 T.ok rfl rfl rfl ?_
    refine WL_o rfl rfl (OpR_ret cl15 allF rfl rfl rfl rfl rfl (hcall) ?_); rintro g1 _ hf1 rfl; replace hs := hs.call hf1; have hqe := hf1.le; replace le0 := G.le.trans le0 hqe; replace le8 := G.le.trans le8 hqe; replace rs6 := rs6.mono hqe; replace rs7 := rs7.mono hqe
    clear hcall
    have hpr := pickM_range (c := which) (n := 14) (by omega)
    obtain ⟨j, hj⟩ : ∃ j : Nat, pickM which 14 = j := ⟨(pickM which 14).toNat, by omega⟩
    rw [hj] at hpr ⊢
    clear hj
    have hjl : j < bads.length := by rw [bads_len]; omega
    have hB := bads_ok _ (List.getElem_mem hjl)
    have hBl := bads_small _ (List.getElem_mem hjl)
    have hgb : geti (bads.map Str.mk) (j : Int) = some ⟨bads[j]⟩ := by simp [geti, hjl]
    generalize bads[j] = bad at *
    skip
    refine WL_o rfl rfl (OpR_idx T.ok rfl rs7 (y := ⟨bad⟩) hgb rfl rfl rfl rfl rfl rfl ?_)
    rintro bq pq ys hep rfl
    refine WL_o rfl rfl (OpR_loadE T.ok 0 rfl hep rfl rfl ?_)
    have h3 := htl k
    refine P1 T.ok rfl rfl rfl ?_; refine WL_nil ?_; (with_reducible refine T_then ?_); refine W_seq ?_; refine W_region ?_; refine P1 T.ok rfl rfl rfl ?_; refine P1 T.ok rfl rfl rfl ?_
    refine WL_o rfl rfl (OpR_addS (p := textOf (ls.take k)) (q := bad) rfl rfl rfl (by omega) ?_)
    refine WL_o rfl rfl (OpR_addS (p := textOf (ls.take k) ++ bad) (q := [10]) rfl rfl rfl (by rw [List.length_append, List.length_singleton]; omega) ?_)
    (iterate 4 refine P1 T.ok rfl rfl rfl ?_)
    refine WL_o rfl rfl (OpR_cutS T.ok (s := more) (a := 0) (b := min more.length 200) rfl rfl rfl rfl rfl ⟨_, congrArg (fun z => some (Value.int .i64 z)) (by rw [bs_size]; exact min_int more.length 200)⟩ (Nat.zero_le _) (by omega) ?_)
    rw [List.drop_zero]
    have hml : (more.take (min more.length 200)).length ≤ 200 := by rw [List.length_take]; omega
    generalize more.take (min more.length 200) = mr at *
    refine WL_o rfl rfl (OpR_addS (p := textOf (ls.take k) ++ bad ++ [10]) (q := mr) rfl rfl rfl (by rw [List.length_append, List.length_append, List.length_singleton]; omega) ?_)
    have hpm := hbad k hkl bad mr hB.1 hB.2.1 hB.2.2.1 hB.2.2.2
    have he : textOf (ls.take k) ++ bad ++ [10] ++ mr = textOf (ls.take k) ++ bad ++ 10 :: mr := by simp
    rw [he]
    have hel : (textOf (ls.take k) ++ bad ++ 10 :: mr).length ≤ 999999 := by rw [List.length_append, List.length_append, List.length_cons]; omega
    generalize textOf (ls.take k) ++ bad ++ 10 :: mr = W0 at *
    skip
    refine WL_o rfl rfl (OpR_ret cl13 allF rfl rfl rfl rfl rfl (parse_c W0 _ hel (hF.mono le0)) ?_); rintro g1 _ hf1 hp; replace hs := hs.call hf1; have hqe := hf1.le; replace le0 := G.le.trans le0 hqe; replace le8 := G.le.trans le8 hqe; replace rs6 := rs6.mono hqe; replace rs7 := rs7.mono hqe
    rw [hpm] at hp
    obtain rfl := hp
    (iterate 4 refine P1 T.ok rfl rfl rfl ?_)
    refine WL_o rfl rfl (OpR_alloc T.ok rfl hs rfl rfl ?_); clear hs; rintro b8 g1 hs hqe; replace le0 := G.le.trans le0 hqe; replace le8 := G.le.trans le8 hqe; replace rs6 := rs6.mono hqe; replace rs7 := rs7.mono hqe
    skip
    refine WL_n rfl (OpR_storeO T.ok 0 rfl hs rfl rfl rfl rfl rfl rfl rfl rfl rfl ?_); replace hs := hs; rintro g1 hs hqe; replace le0 := G.le.trans le0 hqe; replace le8 := G.le.trans le8 hqe; replace rs6 := rs6.mono hqe; replace rs7 := rs7.mono hqe
    refine P1 T.ok rfl rfl rfl ?_; refine P1 T.ok rfl rfl rfl ?_; refine WL_nil ?_; (with_reducible refine T_then ?_); refine W_seq ?_; refine W_region ?_; (iterate 9 refine P1 T.ok rfl rfl rfl ?_)
    refine WL_know 84 (b' := true) (by rw [wr (by omega) (by omega)]; simp) rfl ?_
    refine P1 T.ok rfl rfl rfl ?_; refine WL_o rfl rfl (OpR_loadO T.ok 0 rfl hs rfl rfl rfl ?_); (iterate 4 refine P1 T.ok rfl rfl rfl ?_); refine WL_nil ?_; (with_reducible refine T_then ?_)
    refine W_ret ?_
    skip
    exact ret1 rfl rfl (hs.ret rfl)
end Go.Proofs.YtnaeopehmdcplaaDoor

/- The walk of FlowLines. -/
namespace Go.Proofs.YtnaeopehmdcplaaDoor
open Go Go.K
set_option maxRecDepth 10000
attribute [local irreducible] W WL OpR bitAnd bitOr bitXor bitClr bitNot shlI shrI
set_option maxHeartbeats 16000000

/-- What the loop has made of the first i lines. -/
def LinesI (ps : List Int) (n kk : Nat) (ls : List (List UInt8)) (i : Nat) (p u : List UInt8) (A : List Nat) (c : Nat) : Prop :=
  (i ≤ ls.length ∧ p = textOf (keptOf (bls ps n kk ls i)) ∧ u = textOf (fullOf (bls ps n kk ls i)) ∧ A = atGo 0 (bls ps n kk ls i) ∧ c = (fullOf (bls ps n kk ls i)).length) ∨
  (i = ls.length + 1 ∧ p = textOf (keptOf (bls ps n kk ls ls.length)) ∧ u = textOf (fullOf (bls ps n kk ls ls.length) ++ igTo ps n ls.length (min ps.length 20)) ∧ ∃ ex, A = atGo 0 (bls ps n kk ls ls.length) ++ ex)
theorem getD_lt {ls : List (List UInt8)} {i : Nat} (h : i < ls.length) : ls.getD i [] = ls[i] := by rw [List.getD_eq_getElem?_getD, List.getElem?_eq_getElem h]; rfl
theorem LinesI.here {ps : List Int} {n kk : Nat} {ls : List (List UInt8)} {i : Nat} {p u : List UInt8} {A : List Nat} {c : Nat} (h : LinesI ps n kk ls i p u A c) (hi : i ≤ ls.length) :
    p = textOf (keptOf (bls ps n kk ls i)) ∧ u = textOf (fullOf (bls ps n kk ls i)) ∧ A = atGo 0 (bls ps n kk ls i) ∧ c = (fullOf (bls ps n kk ls i)).length := by
  rcases h with h | h
  · exact h.2
  · omega
theorem LinesI.line {ps : List Int} {n kk : Nat} {ls : List (List UInt8)} {i : Nat} {p u : List UInt8} {A : List Nat} {c : Nat} (h : LinesI ps n kk ls i p u A c) (hi : i < ls.length) (hk : i ≠ kk) :
    LinesI ps n kk ls (i + 1) (p ++ ls[i] ++ [10]) (u ++ textOf (igTo ps n i (min ps.length 20)) ++ ls[i] ++ [10]) (A ++ [c + (igTo ps n i (min ps.length 20)).length + 1]) (c + (igTo ps n i (min ps.length 20)).length + 1) := by
  obtain ⟨rfl, rfl, rfl, rfl⟩ := h.here (by omega)
  refine .inl ⟨hi, ?_⟩
  have hb : (blkAt ps n kk ls i).line = some ls[i] := by unfold blkAt; dsimp only; rw [if_neg hk, getD_lt hi]
  have hg : (blkAt ps n kk ls i).ig = igTo ps n i (min ps.length 20) := rfl
  rw [bls_succ, keptOf_snoc, fullOf_snoc, atGo_snoc, hb, hg]
  refine ⟨?_, ?_, ?_, ?_⟩
  · rw [textOf_app]; simp [textOf]
  · rw [textOf_app, textOf_app]; simp [textOf]
  · simp
  · simp [Nat.add_assoc]
theorem LinesI.out {ps : List Int} {n kk : Nat} {ls : List (List UInt8)} {i : Nat} {p u : List UInt8} {A : List Nat} {c : Nat} (h : LinesI ps n kk ls i p u A c) (hi : i < ls.length) (hk : i = kk) :
    LinesI ps n kk ls (i + 1) p (u ++ textOf (igTo ps n i (min ps.length 20))) A (c + (igTo ps n i (min ps.length 20)).length) := by
  obtain ⟨rfl, rfl, rfl, rfl⟩ := h.here (by omega)
  refine .inl ⟨hi, ?_⟩
  have hb : (blkAt ps n kk ls i).line = none := by unfold blkAt; dsimp only; rw [if_pos hk]
  have hg : (blkAt ps n kk ls i).ig = igTo ps n i (min ps.length 20) := rfl
  rw [bls_succ, keptOf_snoc, fullOf_snoc, atGo_snoc, hb, hg]
  refine ⟨?_, ?_, ?_, ?_⟩
  · simp
  · rw [textOf_app]; simp [textOf]
  · simp
  · simp
theorem LinesI.last {ps : List Int} {n kk : Nat} {ls : List (List UInt8)} {i : Nat} {p u : List UInt8} {A : List Nat} {c : Nat} (h : LinesI ps n kk ls i p u A c) (hi : i = ls.length) (ex : List Nat) (c' : Nat) :
    LinesI ps n kk ls (i + 1) p (u ++ textOf (igTo ps n i (min ps.length 20))) (A ++ ex) c' := by
  subst hi
  obtain ⟨rfl, rfl, rfl, rfl⟩ := h.here (Nat.le_refl _)
  exact .inr ⟨rfl, rfl, by rw [textOf_app], ex, rfl⟩
/-- Bounds of what the loop makes. -/
theorem LinesI.small {ps : List Int} {n kk : Nat} {ls : List (List UInt8)} {i : Nat} {p u : List UInt8} {A : List Nat} {c : Nat} (h : LinesI ps n kk ls i p u A c) (hl : ls.length ≤ 100) (hs : ∀ l ∈ ls, l.length ≤ 200) :
    p.length ≤ 200000 ∧ u.length ≤ 500000 ∧ (i ≤ ls.length → A.length ≤ 100 ∧ c ≤ 3000 ∧ ∀ a ∈ A, a ≤ 3000) := by
  have hbl : ∀ j, j ≤ ls.length → (keptOf (bls ps n kk ls j)).length ≤ j ∧ (fullOf (bls ps n kk ls j)).length ≤ j * 21 := by
    intro j
    induction j with
    | zero => intro _; exact ⟨Nat.le_refl _, Nat.le_refl _⟩
    | succ j ih =>
      intro hj
      obtain ⟨h1, h2⟩ := ih (by omega)
      rw [bls_succ, keptOf_snoc, fullOf_snoc, List.length_append, List.length_append, List.length_append]
      have h3 : (blkAt ps n kk ls j).line.toList.length ≤ 1 := by cases (blkAt ps n kk ls j).line <;> simp
      have h4 : (blkAt ps n kk ls j).ig.length ≤ min ps.length 20 := igTo_len _ _ _ _
      exact ⟨by omega, by omega⟩
  have hgd : ∀ j, (ls.getD j []).length ≤ 200 := by
    intro j
    rw [List.getD_eq_getElem?_getD]
    cases hj : ls[j]? with
    | none => simp
    | some l => exact hs l (List.mem_of_getElem? hj)
  have hk : ∀ j, ∀ l ∈ keptOf (bls ps n kk ls j), l.length ≤ 200 := by
    intro j l hl
    obtain ⟨b, hb, h⟩ := mem_kept hl
    obtain ⟨q, _, rfl⟩ := bls_mem hb
    rw [blk_line h]; exact hgd q
  have hf : ∀ j, ∀ l ∈ fullOf (bls ps n kk ls j), l.length ≤ 200 := by
    intro j l hl
    obtain ⟨b, hb, h⟩ := mem_full hl
    obtain ⟨q, _, rfl⟩ := bls_mem hb
    rcases h with h | h
    · have := (igTo_ok l h).2.2; omega
    · rw [blk_line h]; exact hgd q
  have hat : ∀ (l : List Blk) (j a : Nat), a ∈ atGo j l → a ≤ j + (fullOf l).length := by
    intro l
    induction l with
    | nil => intro _ _ h; cases h
    | cons b r ih =>
      intro j a h
      rw [atGo] at h
      rw [fullOf, List.length_append, List.length_append]
      rcases List.mem_append.1 h with h | h
      · cases hb : b.line with
        | none => rw [hb] at h; cases h
        | some l =>
          rw [hb] at h
          rw [List.mem_singleton.1 h]
          show _ ≤ _ + (_ + [l].length + _)
          rw [List.length_singleton]; omega
      · have := ih _ _ h; omega
  rcases h with ⟨hi, rfl, rfl, rfl, rfl⟩ | ⟨hi, rfl, rfl, _⟩
  · have h1 := hbl i hi
    refine ⟨Nat.le_trans (textOf_len (hk i)) (by omega), Nat.le_trans (textOf_len (hf i)) (by omega), fun _ => ⟨?_, by omega, fun a ha => ?_⟩⟩
    · rw [atGo_len]; omega
    · have := hat _ _ _ ha; omega
  · have h1 := hbl ls.length (Nat.le_refl _)
    have h2 := igTo_len ps n ls.length (min ps.length 20)
    refine ⟨Nat.le_trans (textOf_len (hk _)) (by omega), ?_, fun h => by omega⟩
    rw [textOf_app, List.length_append]
    have h3 := textOf_len (hf ls.length)
    have h4 := textOf_len (c := 6) fun l hl => (igTo_ok (ps := ps) (n := n) (i := ls.length) (m := min ps.length 20) l hl).2.2
    omega
theorem sep_ok (r : Nat) (hr : r < 3) : ([[10], [35, 32, 115, 116, 101, 112, 10], [35, 10]] : List (List UInt8))[r]? = some (igLine (r : Int) ++ [10]) := by
  match r, hr with
  | 0, _ => rfl
  | 1, _ => rfl
  | 2, _ => rfl




theorem flowLines_c (u0 : Value) (x : List Y6) (t : Value) (zs : List Y3) (out : Int) (v : Value) (ps : List Int) (g : G) (hF : FlAt g) (rs0 : Rs g u0 x) (hx : ∀ y ∈ x, y.fit) (rs1 : Rs g t zs) (hz : ∀ z ∈ zs, z.fit) (hout : I64 out) (rs7 : Rs g v ps) (hps : ∀ n ∈ ps, I64 n) :
    CallsIn Wd 0 Tryd.prog 6 #[u0, t, .int .i64 out, v] g.w (Ret g fun _ r => r = .bool true) := by
  obtain ⟨ua, uc, rfl⟩ := rs0.isSlice
  obtain ⟨ta, tc, rfl⟩ := rs1.isSlice
  obtain ⟨pa, pc, rfl⟩ := rs7.isSlice
  have hpsl := rs7.len_le
  unfold maxLen at hpsl
  have hs := St.start g
  have le0 := G.le.refl g
  refine enter Tryd.func6 rfl Tryd.ntmps6 rfl ?_
  refine W_seq ?_; refine W_region ?_; refine P1 T.ok rfl rfl rfl ?_; refine WL_nil ?_; (with_reducible refine T_then ?_); refine W_seq ?_; refine W_region ?_
  refine WL_o rfl rfl (OpR_ret cl8 allF rfl rfl rfl rfl rfl (sane_c _ (hF.mono le0)) ?_); rintro g1 _ hf1 rfl; replace hs := hs.call hf1; have hqe := hf1.le; replace le0 := G.le.trans le0 hqe; replace rs0 := rs0.mono hqe; replace rs1 := rs1.mono hqe; replace rs7 := rs7.mono hqe
  refine P1 T.ok rfl rfl rfl ?_; refine WL_nil ?_; (with_reducible refine T_then ?_); refine W_seq ?_; refine W_region ?_; refine P1 T.ok rfl rfl rfl ?_; refine P1 T.ok rfl rfl rfl ?_
  refine WL_o rfl rfl (OpR_ret cl10 allF rfl rfl rfl rfl rfl (make_c _ _ x zs _ rs0 rs1 hx hz) ?_); rintro g1 _ hf1 fl1; replace hs := hs.call hf1; have hqe := hf1.le; replace le0 := G.le.trans le0 hqe; replace rs0 := rs0.mono hqe; replace rs1 := rs1.mono hqe; replace rs7 := rs7.mono hqe
  skip
  refine WL_o rfl rfl (OpR_ret cl11 allF rfl rfl rfl rfl rfl (print_c _ _ _ fl1 (hF.mono le0)) ?_); rintro g1 _ hf1 hp; replace hs := hs.call hf1; have hqe := hf1.le; replace le0 := G.le.trans le0 hqe; replace rs0 := rs0.mono hqe; replace rs1 := rs1.mono hqe; replace rs7 := rs7.mono hqe; replace fl1 := fl1.mono hqe
  have hmv := mk_valid x zs
  rw [printRes_yes hmv] at hp
  subst hp
  have hTl := printM_small hmv
  have hB := valid_N hmv
  have hlaw := fun kk n q i => flowLines_law (mk x zs) ps n kk q i
  have hll : (linesOf (mk x zs)).length ≤ 100 := by
    have h1 := hB.n40; have h2 := hB.w20
    have hst : ∀ (ss : List Step) (k : Nat), (stepLs k ss).length = ss.length := by
      intro ss
      induction ss with
      | nil => intro _; rfl
      | cons s r ih => intro k; rw [stepLs, List.length_cons, ih]; rfl
    unfold linesOf
    rw [List.length_cons, List.length_append, List.length_map, hst]; omega
  have hls : ∀ l ∈ linesOf (mk x zs), l.length ≤ 200 := by
    intro l hl
    unfold linesOf at hl
    rcases List.mem_cons.1 hl with rfl | hl
    · have := moveLine_len hB.min hB.max; omega
    · rcases List.mem_append.1 hl with hl | hl
      · have hst : ∀ (ss : List Step) (k : Nat), (∀ s ∈ ss, StepB s) → k + ss.length ≤ 1000 → ∀ l ∈ stepLs k ss, l.length ≤ 200 := by
          intro ss
          induction ss with
          | nil => intro _ _ _ l hl; cases hl
          | cons s r ih =>
            intro k hb hk l hl
            rw [List.length_cons] at hk
            rcases List.mem_cons.1 hl with rfl | hl
            · have h1 := headT_len (i := k) (by omega) (hb s (List.mem_cons_self ..))
              have h2 := tailT_len (hb s (List.mem_cons_self ..))
              rw [stepLine_eq, List.length_append]; omega
            · exact ih (k + 1) (fun s hs => hb s (List.mem_cons_of_mem _ hs)) (by omega) l hl
        exact hst _ 0 hB.steps (by have := hB.n40; omega) l hl
      · obtain ⟨w, hw, rfl⟩ := List.mem_map.1 hl
        have := windowLine_len (hB.wins w hw); omega
  generalize mk x zs = F at *
  clear fl1 rs0 rs1 hx hz hmv hB
  rw [printM_lines] at hTl ⊢
  have hno : ∀ l ∈ linesOf F, (10 : UInt8) ∉ l := linesOf_no
  have hlines := split_text (linesOf F) hno
  generalize linesOf F = ls at *
  clear hno F
  (iterate 5 refine P1 T.ok rfl rfl rfl ?_); refine WL_nil ?_; (with_reducible refine T_then ?_); refine W_seq ?_; refine W_seq ?_; refine W_region ?_; refine P1 T.ok rfl rfl rfl ?_; refine P1 T.ok rfl rfl rfl ?_; refine WL_nil ?_; (with_reducible refine T_then ?_)
  refine W_no rfl rfl ?_
  refine W_skip ?_; (with_reducible refine T_then ?_); refine W_seq ?_; refine W_region ?_; refine P1 T.ok rfl rfl rfl ?_
  refine WL_o rfl rfl (OpR_ret cl16 allF rfl rfl rfl rfl rfl (lines_c (textOf ls) _ (by omega)) ?_); rintro g1 _ hf1 rs6; replace hs := hs.call hf1; have hqe := hf1.le; replace le0 := G.le.trans le0 hqe; replace rs7 := rs7.mono hqe
  rw [hlines] at rs6
  clear hlines
  have hN : ((ls ++ [[]]).map Str.mk).length = ls.length + 1 := by simp
  have hgl : ∀ (j : Nat) (h : j < ls.length), geti ((ls ++ [[]]).map Str.mk) (j : Int) = some ⟨ls[j]⟩ := by
    intro j h
    have hj : j < ((ls ++ [[]]).map Str.mk).length := by rw [hN]; omega
    rw [geti_of (n := (j : Int)) rfl hj]
    rw [List.getElem_map, List.getElem_append_left h]
  have hge : geti ((ls ++ [[]]).map Str.mk) (ls.length : Int) = some ⟨[]⟩ := by
    have hj : ls.length < ((ls ++ [[]]).map Str.mk).length := by rw [hN]; omega
    rw [geti_of (n := (ls.length : Int)) rfl hj]
    simp
  generalize (ls ++ [[]]).map Str.mk = lines at *
  obtain ⟨la, lc, rfl⟩ := rs6.isSlice
  refine P1 T.ok rfl rfl rfl ?_; refine WL_nil ?_; (with_reducible refine T_then ?_); refine W_seq ?_; refine W_region ?_; (iterate 4 refine P1 T.ok rfl rfl rfl ?_)
  have hcall := lpick_c out ((2 * (ls.length + 1) : Nat) : Int) g1 hout (by omega)
  refine WL_re (.int .i64 ((2 * (ls.length + 1) : Nat) : Int)) (t := 42) rfl (congrArg (Value.int .i64) (by rw [wr (by omega) (by omega)]; omega)) ?_
  refine WL_o rfl rfl (OpR_ret cl15 allF rfl rfl rfl rfl rfl (hcall) ?_); rintro g1 _ hf1 rfl; replace hs := hs.call hf1; have hqe := hf1.le; replace le0 := G.le.trans le0 hqe; replace rs6 := rs6.mono hqe; replace rs7 := rs7.mono hqe
  clear hcall
  have hpr := pickM_range (c := out) (n := ((2 * (ls.length + 1) : Nat) : Int)) (by omega)
  obtain ⟨kk, hkk⟩ : ∃ kk : Nat, pickM out ((2 * (ls.length + 1) : Nat) : Int) = kk := ⟨(pickM out ((2 * (ls.length + 1) : Nat) : Int)).toNat, by omega⟩
  rw [hkk] at hpr ⊢
  clear hkk
  replace hs := hs.nilrow 3 1 none
  refine P1 T.ok rfl rfl rfl ?_; refine WL_nil ?_; (with_reducible refine T_then ?_); refine W_seq ?_; refine W_region ?_; refine P1 T.ok rfl rfl rfl ?_; refine WL_nil ?_; (with_reducible refine T_then ?_); refine W_seq ?_; refine W_region ?_; refine P1 T.ok rfl rfl rfl ?_; refine WL_nil ?_; (with_reducible refine T_then ?_); refine W_seq ?_; refine W_region ?_; refine P1 T.ok rfl rfl rfl ?_; refine WL_nil ?_; (with_reducible refine T_then ?_); refine W_seq ?_; refine W_region ?_; refine P1 T.ok rfl rfl rfl ?_; refine WL_nil ?_; (with_reducible refine T_then ?_); refine W_seq ?_; refine W_seq ?_; refine W_region ?_; refine P1 T.ok rfl rfl rfl ?_; refine WL_nil ?_; (with_reducible refine T_then ?_); refine W_block ?_
  have rs6c := rs6; have rs7c := rs7; have le0c := le0
  refine W_loop (fun m a' w => ∃ (i : Nat) (p u : List UInt8) (A : List Nat) (c : Nat) (ra : Option Addr) (rc : Nat) (g2 : G), LinesI ps (ls.length + 1) kk ls i p u A c ∧ w = g2.w ∧ St g g2 [.row 3 1 (.slice ra A.length rc) A.length (A.map fun a => Value.int .i64 (a : Nat))] ∧ G.le g1 g2 ∧ i ≤ ls.length + 1 ∧ m = ls.length + 1 - i ∧ A.length ≤ i ∧
    Fr 187 [] [(3, .slice pa ps.length pc), (9, .bool true), (12, .slice la lines.length lc), (13, .int .i64 kk), (14, .string (bs p)), (15, .string (bs u)), (16, .slice ra A.length rc), (17, .int .i64 c), (18, .int .i64 i)] a') (ls.length + 1) (fun a' ha => ⟨0, [], [], [], 0, none, 0, g1, .inl ⟨Nat.zero_le _, rfl, rfl, rfl, rfl⟩, rfl, hs, G.le.refl _, Nat.zero_le _, rfl, Nat.zero_le _, ha.keep (by (repeat (first | exact trivial | refine ⟨rfl, ?_⟩)))⟩) ?_
  clear hs le0 rs6 rs7
  rintro m a' _ ⟨i, p, u, A, c, ra, rc, g2, hI, rfl, hs, le8, hi, rfl, hAi, ha'⟩
  have rs6 := rs6c.mono le8
  have rs7 := rs7c.mono le8
  have le0 := le0c.trans le8
  have hsm := hI.small hll hls
  revert a'
  (with_reducible refine T_wp ?_); refine W_seq ?_; refine W_seq ?_; refine W_region ?_; (iterate 4 refine P1 T.ok rfl rfl rfl ?_); refine WL_nil ?_; (with_reducible refine T_then ?_)
  by_cases hlt : i < ls.length + 1
  · refine W_yes (b := _) ?_ rfl ?_
    · rw [hN]; simp; omega
    obtain ⟨hA1, hc1, hA2⟩ := hsm.2.2 (by omega)
    refine W_skip ?_; (with_reducible refine T_then ?_); refine W_seq ?_; refine W_block ?_; refine W_seq ?_; refine W_seq ?_; refine W_region ?_; refine P1 T.ok rfl rfl rfl ?_; refine WL_nil ?_; (with_reducible refine T_then ?_); refine W_block ?_
    have le7 := G.le.refl g2
    have rs6d := rs6; have rs7d := rs7; have le0d := le0
    refine W_loop (fun m a' w => ∃ (j : Nat) (g3 : G), w = g3.w ∧ St g g3 [.row 3 1 (.slice ra A.length rc) A.length (A.map fun a => Value.int .i64 (a : Nat))] ∧ G.le g2 g3 ∧ j ≤ min ps.length 20 ∧ m = min ps.length 20 - j ∧
      Fr 187 [] [(3, .slice pa ps.length pc), (9, .bool true), (12, .slice la lines.length lc), (13, .int .i64 kk), (14, .string (bs p)), (15, .string (bs (u ++ textOf (igTo ps (ls.length + 1) i j)))), (16, .slice ra A.length rc), (17, .int .i64 ((c + (igTo ps (ls.length + 1) i j).length : Nat) : Int)), (18, .int .i64 i), (19, .int .i64 j)] a') (min ps.length 20) (fun a' ha => ⟨0, g2, rfl, hs, le7, Nat.zero_le _, rfl, ha.keep ⟨rfl, rfl, rfl, rfl, rfl, kV rfl (by simp [igTo, textOf]), rfl, rfl, rfl, rfl, trivial⟩⟩) ?_
    clear hs le0 rs6 rs7 le7
    rintro m a' _ ⟨j, g3, rfl, hs, le7, hj, rfl, ha'⟩
    have rs6 := rs6d.mono le7
    have rs7 := rs7d.mono le7
    have le0 := le0d.trans le7
    have hig := igTo_len ps (ls.length + 1) i j
    have higl := textOf_len (c := 6) fun l hl => (igTo_ok (ps := ps) (n := ls.length + 1) (i := i) (m := j) l hl).2.2
    revert a'
    by_cases hjl : j < min ps.length 20
    · (with_reducible refine T_wp ?_); refine W_seq ?_; refine W_seq ?_; refine W_region ?_; (iterate 5 refine P1 T.ok rfl rfl rfl ?_)
      refine WL_know 54 (b' := true) (by simp; omega) rfl ?_
      (iterate 3 refine P1 T.ok rfl rfl rfl ?_); refine WL_nil ?_; (with_reducible refine T_then ?_)
      refine W_yes (b := _) ?_ rfl ?_
      · simp only [decide_eq_true_eq]; omega
      have hjp : j < ps.length := by omega
      have hgp : geti ps (j : Int) = some ps[j] := geti_of rfl hjp
      have hfit := hps _ (List.getElem_mem hjp)
      have hy := igTo_yes (ps := ps) (n := ls.length + 1) (i := i) hjp
      have hn := igTo_no (ps := ps) (n := ls.length + 1) (i := i) hjp
      generalize ps[j] = pj at *
      refine W_skip ?_; (with_reducible refine T_then ?_); refine W_seq ?_; refine W_block ?_; refine W_seq ?_; refine W_region ?_; refine P1 T.ok rfl rfl rfl ?_; refine P1 T.ok rfl rfl rfl ?_
      refine WL_o rfl rfl (OpR_idx T.ok rfl rs7 (y := pj) hgp rfl rfl rfl rfl rfl rfl ?_)
      rintro bq pq ys hep rfl
      refine WL_o rfl rfl (OpR_loadE T.ok 0 rfl hep rfl rfl ?_)
      refine P1 T.ok rfl rfl rfl ?_; refine P1 T.ok rfl rfl rfl ?_
      have hcall := lpick_c pj ((ls.length + 1 : Nat) : Int) g3 hfit (by omega)
      refine WL_re (.int .i64 ((ls.length + 1 : Nat) : Int)) (t := 65) rfl (congrArg (Value.int .i64) (by rw [hN])) ?_
      refine WL_o rfl rfl (OpR_ret cl15 allF rfl rfl rfl rfl rfl (hcall) ?_); rintro g1 _ hf1 rfl; replace hs := hs.call hf1; have hqe := hf1.le; replace le0 := G.le.trans le0 hqe; replace rs6 := rs6.mono hqe; replace rs7 := rs7.mono hqe
      replace le7 := le7.trans hqe
      clear hcall
      refine P1 T.ok rfl rfl rfl ?_; refine P1 T.ok rfl rfl rfl ?_; refine WL_nil ?_; (with_reducible refine T_then ?_)
      by_cases hpi : pickM pj ((ls.length + 1 : Nat) : Int) = i
      · refine W_yes (b := _) ?_ rfl ?_
        · first | exact decide_eq_true hpi | exact beq_iff_eq.2 hpi
        replace hy := hy hpi
        have hq := tdiv_I64 (n := ((ls.length + 1 : Nat) : Int)) hfit (by omega)
        have hr := pickM_range (c := pj.tdiv ((ls.length + 1 : Nat) : Int)) (n := 3) (by omega)
        refine W_seq ?_; refine W_region ?_; refine P1 T.ok rfl rfl rfl ?_
        refine WL_o rfl rfl (OpR_lit T.ok rfl hs (vs := [(0, .string (bs [10])), (1, .string (bs [35, 32, 115, 116, 101, 112, 10])), (2, .string (bs [35, 10]))]) (cells := [.string (bs [10]), .string (bs [35, 32, 115, 116, 101, 112, 10]), .string (bs [35, 10])]) rfl rfl rfl rfl rfl rfl (by decide) (by decide) (by kernel_rfl) rfl ?_)
        clear hs
        rintro bl gl hs hqe; replace le0 := G.le.trans le0 hqe; replace rs6 := rs6.mono hqe; replace rs7 := rs7.mono hqe
        replace le7 := le7.trans hqe
        obtain ⟨gz, hwz, hsz, hqz, rs9⟩ := hs.fzRow (α := Str) (xs := [Str.mk [10], Str.mk [35, 32, 115, 116, 101, 112, 10], Str.mk [35, 10]]) (i := 0) rfl (RcL.strs _ [[10], [35, 32, 115, 116, 101, 112, 10], [35, 10]])
        have hqe := hqz; rw [← hwz]; replace hs := hsz; clear hsz; replace le0 := G.le.trans le0 hqe; replace rs6 := rs6.mono hqe; replace rs7 := rs7.mono hqe
        replace le7 := le7.trans hqe
        refine P1 T.ok rfl rfl rfl ?_; refine P1 T.ok rfl rfl rfl ?_
        refine WL_o rfl rfl (OpR_idx T.ok rfl rs7 (y := pj) hgp rfl rfl rfl rfl rfl rfl ?_)
        rintro bq pq ys hep rfl
        refine WL_o rfl rfl (OpR_loadE T.ok 0 rfl hep rfl rfl ?_)
        refine P1 T.ok rfl rfl rfl ?_; refine P1 T.ok rfl rfl rfl ?_
        refine WL_re (.int .i64 ((ls.length + 1 : Nat) : Int)) (t := 76) rfl (congrArg (Value.int .i64) (by rw [hN])) ?_
        refine WL_o rfl rfl (OpR_quo rfl rfl rfl (by omega) ?_)
        refine WL_re (.int .i64 (pj.tdiv ((ls.length + 1 : Nat) : Int))) (t := 77) rfl (congrArg (Value.int .i64) (wr hq.1 hq.2)) ?_
        have hcall := lpick_c (pj.tdiv ((ls.length + 1 : Nat) : Int)) 3 gz hq (by decide)
        refine WL_o rfl rfl (OpR_ret cl15 allF rfl rfl rfl rfl rfl (hcall) ?_); rintro g1 _ hf1 rfl; replace hs := hs.call hf1; have hqe := hf1.le; replace le0 := G.le.trans le0 hqe; replace rs6 := rs6.mono hqe; replace rs7 := rs7.mono hqe; replace rs9 := rs9.mono hqe
        replace le7 := le7.trans hqe
        clear hcall
        obtain ⟨r, hrr⟩ : ∃ r : Nat, pickM (pj.tdiv ((ls.length + 1 : Nat) : Int)) 3 = r := ⟨(pickM (pj.tdiv ((ls.length + 1 : Nat) : Int)) 3).toNat, by omega⟩
        rw [hrr] at hr hy ⊢
        clear hrr
        have hsep : geti [Str.mk [10], Str.mk [35, 32, 115, 116, 101, 112, 10], Str.mk [35, 10]] (r : Int) = some ⟨igLine (r : Int) ++ [10]⟩ := by
          have := sep_ok r (by omega)
          rw [geti_of (xs := [Str.mk [10], Str.mk [35, 32, 115, 116, 101, 112, 10], Str.mk [35, 10]]) (n := (r : Int)) (j := r) rfl (by simp; omega)]
          obtain ⟨h1, h2⟩ := List.getElem?_eq_some_iff.1 this
          rw [← h2]
          have e : [Str.mk [10], Str.mk [35, 32, 115, 116, 101, 112, 10], Str.mk [35, 10]] = ([[10], [35, 32, 115, 116, 101, 112, 10], [35, 10]] : List (List UInt8)).map Str.mk := rfl
          simp only [e, List.getElem_map]
        have hlg := (igLine_ok (r : Int)).2.2
        generalize igLine (r : Int) = ig at *
        refine WL_o rfl rfl (OpR_idx T.ok rfl rs9 (y := ⟨ig ++ [10]⟩) hsep rfl rfl rfl rfl rfl rfl ?_)
        rintro bq pq ys hep rfl
        refine WL_o rfl rfl (OpR_loadE T.ok 0 rfl hep rfl rfl ?_)
        skip
        refine WL_o rfl rfl (OpR_addS (p := u ++ textOf (igTo ps (ls.length + 1) i j)) (q := ig ++ [10]) rfl rfl rfl (by rw [List.length_append, List.length_append, List.length_singleton]; omega) ?_)
        clear rs9 hep
        refine P1 T.ok rfl rfl rfl ?_; refine WL_nil ?_; (with_reducible refine T_then ?_); refine W_region ?_; (iterate 3 refine P1 T.ok rfl rfl rfl ?_); refine WL_nil ?_; (with_reducible refine T_bn ?_); (with_reducible refine T_then ?_); refine W_region ?_; (iterate 3 refine P1 T.ok rfl rfl rfl ?_); refine WL_nil ?_
        refine fun a ha => ⟨min ps.length 20 - (j + 1), by omega, j + 1, _, rfl, hs, le7, by omega, rfl, ha.keep ⟨rfl, rfl, rfl, rfl, rfl, kV rfl (congrArg (fun y => Value.string (bs y)) (by rw [hy, textOf_app]; simp [textOf])), rfl, kI rfl (by rw [hy, wr (by omega) (by omega), List.length_append, List.length_singleton]; omega), rfl, kI rfl (by rw [wr (by omega) (by omega)]; omega), trivial⟩⟩
      · refine W_no (b := _) ?_ rfl ?_
        · first | exact decide_eq_false hpi | exact beq_eq_false_iff_ne.2 hpi
        replace hn := hn hpi
        refine W_skip ?_; (with_reducible refine T_bn ?_); (with_reducible refine T_then ?_); refine W_region ?_; (iterate 3 refine P1 T.ok rfl rfl rfl ?_); refine WL_nil ?_
        refine fun a ha => ⟨min ps.length 20 - (j + 1), by omega, j + 1, _, rfl, hs, le7, by omega, rfl, ha.keep ⟨rfl, rfl, rfl, rfl, rfl, kV rfl (by rw [hn]), rfl, kI rfl (by rw [hn]), rfl, kI rfl (by rw [wr (by omega) (by omega)]; omega), trivial⟩⟩
    · obtain rfl : j = min ps.length 20 := by omega
      (with_reducible refine T_wp ?_); refine W_seq ?_; refine W_seq ?_; refine W_region ?_; (iterate 5 refine P1 T.ok rfl rfl rfl ?_)
      have hfin : ∀ (b : Bool), (b = true → ¬ ps.length ≤ 20) → True := fun _ _ => trivial
      by_cases hp20 : ps.length ≤ 20
      · have e20 : min ps.length 20 = ps.length := by omega
        refine WL_know 54 (b' := false) (by simp; omega) rfl ?_
        refine S1 allF rfl rfl ?_; refine S1 allF rfl rfl ?_; refine P1 T.ok rfl rfl rfl ?_; refine WL_nil ?_; (with_reducible refine T_then ?_)
        refine W_no rfl rfl ?_
        have hig20 : (igTo ps (ls.length + 1) i (min ps.length 20)).length ≤ 20 := by omega
        replace le8 := le8.trans le7
        by_cases hik : i = kk
        · refine W_exit ?_; (with_reducible refine T_tx ?_; with_reducible refine T_tx ?_); (with_reducible refine T_bx ?_); (with_reducible refine T_then ?_); refine W_seq ?_; refine W_seq ?_; refine W_region ?_; (iterate 3 refine P1 T.ok rfl rfl rfl ?_); refine WL_nil ?_; (with_reducible refine T_then ?_)
          refine W_yes (b := _) ?_ rfl ?_
          · simp [hik]
          by_cases hil : i < ls.length
          · refine W_exit ?_; (with_reducible refine T_tx ?_); (with_reducible refine T_bx ?_); (with_reducible refine T_then ?_); refine W_region ?_; (iterate 3 refine P1 T.ok rfl rfl rfl ?_); refine WL_nil ?_
            refine fun a ha => ⟨ls.length + 1 - (i + 1), by omega, i + 1, _, _, _, _, _, _, _, hI.out hil hik, rfl, hs, le8, by omega, rfl, by omega, ha.keep ⟨rfl, rfl, rfl, rfl, rfl, rfl, rfl, rfl, kI rfl (by rw [wr (by omega) (by omega)]; omega), trivial⟩⟩
          · have hI2 := hI.last (show i = ls.length by omega) [] (c + (igTo ps (ls.length + 1) i (min ps.length 20)).length)
            rw [List.append_nil] at hI2
            refine W_exit ?_; (with_reducible refine T_tx ?_); (with_reducible refine T_bx ?_); (with_reducible refine T_then ?_); refine W_region ?_; (iterate 3 refine P1 T.ok rfl rfl rfl ?_); refine WL_nil ?_
            refine fun a ha => ⟨ls.length + 1 - (i + 1), by omega, i + 1, _, _, _, _, _, _, _, hI2, rfl, hs, le8, by omega, rfl, by omega, ha.keep ⟨rfl, rfl, rfl, rfl, rfl, rfl, rfl, rfl, kI rfl (by rw [wr (by omega) (by omega)]; omega), trivial⟩⟩
        · refine W_exit ?_; (with_reducible refine T_tx ?_; with_reducible refine T_tx ?_); (with_reducible refine T_bx ?_); (with_reducible refine T_then ?_); refine W_seq ?_; refine W_seq ?_; refine W_region ?_; (iterate 3 refine P1 T.ok rfl rfl rfl ?_); refine WL_nil ?_; (with_reducible refine T_then ?_)
          refine W_no (b := _) ?_ rfl ?_
          · simp; omega
          have hcw : IntKind.i64.wrap (((c + (igTo ps (ls.length + 1) i (min ps.length 20)).length : Nat) : Int) + 1) = ((c + (igTo ps (ls.length + 1) i (min ps.length 20)).length + 1 : Nat) : Int) := by rw [wr (by omega) (by omega)]; omega
          refine W_skip ?_; (with_reducible refine T_then ?_); refine W_seq ?_; refine W_region ?_; (iterate 3 refine P1 T.ok rfl rfl rfl ?_); refine WL_nil ?_; (with_reducible refine T_then ?_); refine W_seq ?_; refine W_region ?_; refine P1 T.ok rfl rfl rfl ?_; refine P1 T.ok rfl rfl rfl ?_
          refine WL_re (.int .i64 ((c + (igTo ps (ls.length + 1) i (min ps.length 20)).length + 1 : Nat) : Int)) (t := 17) rfl (congrArg (Value.int .i64) hcw) ?_
          refine WL_re (.int .i64 ((c + (igTo ps (ls.length + 1) i (min ps.length 20)).length + 1 : Nat) : Int)) (t := 90) rfl (congrArg (Value.int .i64) hcw) ?_
          refine WL_o rfl rfl (OpR_lit T.ok rfl hs (vs := [(0, .int .i64 ((c + (igTo ps (ls.length + 1) i (min ps.length 20)).length + 1 : Nat) : Int))]) (cells := [.int .i64 ((c + (igTo ps (ls.length + 1) i (min ps.length 20)).length + 1 : Nat) : Int)]) rfl rfl rfl rfl rfl rfl (by decide) (by decide) (by kernel_rfl) rfl ?_)
          clear hs
          rintro bl gl hs hqe; replace le0 := G.le.trans le0 hqe; replace le8 := G.le.trans le8 hqe; replace rs6 := rs6.mono hqe; replace rs7 := rs7.mono hqe
          skip
          refine WL_o rfl rfl (OpR_append T.ok 1 rfl hs rfl rfl rfl rfl rfl rfl rfl (by decide) rfl (Src.of_row (hs.own 0 _ rfl).1).2 (by simp [Value.oneCell']) (by show (A.length + 1) * 8 ≤ _; omega) (by unfold maxLen; show A.length + 1 ≤ _; omega) ?_)
          clear hs
          rintro a9 c9 g9 hs hqe; replace le0 := G.le.trans le0 hqe; replace le8 := G.le.trans le8 hqe; replace rs6 := rs6.mono hqe; replace rs7 := rs7.mono hqe
          replace hs : St g g9 [.row 3 1 (.slice a9 (A ++ [c + (igTo ps (ls.length + 1) i (min ps.length 20)).length + 1]).length c9) (A ++ [c + (igTo ps (ls.length + 1) i (min ps.length 20)).length + 1]).length ((A ++ [c + (igTo ps (ls.length + 1) i (min ps.length 20)).length + 1]).map fun a => Value.int .i64 (a : Nat))] := by
            rw [List.map_append, List.length_append]; exact hs.tail (M := [_])
          by_cases hil : i < ls.length
          · have hI2 := hI.line hil hik
            have h1 := hgl i hil
            have hlw := hls _ (List.getElem_mem hil)
            generalize ls[i] = ln at *
            refine P1 T.ok rfl rfl rfl ?_; refine WL_nil ?_; (with_reducible refine T_then ?_); refine W_seq ?_; refine W_region ?_; (iterate 3 refine P1 T.ok rfl rfl rfl ?_)
            refine WL_o rfl rfl (OpR_idx T.ok rfl rs6 (y := ⟨ln⟩) h1 rfl rfl rfl rfl rfl rfl ?_)
            rintro bq pq ys hep rfl
            refine WL_o rfl rfl (OpR_loadE T.ok 0 rfl hep rfl rfl ?_)
            refine WL_o rfl rfl (OpR_addS (p := p) (q := ln) rfl rfl rfl (by omega) ?_)
            refine P1 T.ok rfl rfl rfl ?_; refine WL_nil ?_; (with_reducible refine T_then ?_); refine W_seq ?_; refine W_region ?_; (iterate 3 refine P1 T.ok rfl rfl rfl ?_)
            refine WL_o rfl rfl (OpR_idx T.ok rfl rs6 (y := ⟨ln⟩) h1 rfl rfl rfl rfl rfl rfl ?_)
            rintro bq pq ys hep rfl
            refine WL_o rfl rfl (OpR_loadE T.ok 0 rfl hep rfl rfl ?_)
            refine WL_o rfl rfl (OpR_addS (p := u ++ textOf (igTo ps (ls.length + 1) i (min ps.length 20))) (q := ln) rfl rfl rfl (by rw [List.length_append]; omega) ?_)
            refine P1 T.ok rfl rfl rfl ?_; refine WL_nil ?_; (with_reducible refine T_then ?_); refine W_seq ?_; refine W_region ?_; (iterate 5 refine P1 T.ok rfl rfl rfl ?_); refine WL_nil ?_; (with_reducible refine T_then ?_)
            refine W_yes (b := _) ?_ rfl ?_
            · rw [hN, wr (by omega) (by omega)]; simp; omega
            refine W_seq ?_; refine W_region ?_; refine P1 T.ok rfl rfl rfl ?_
            refine WL_o rfl rfl (OpR_addS (p := p ++ ln) (q := [10]) rfl rfl rfl (by rw [List.length_append, List.length_singleton]; omega) ?_)
            refine P1 T.ok rfl rfl rfl ?_; refine WL_nil ?_; (with_reducible refine T_then ?_); refine W_region ?_; refine P1 T.ok rfl rfl rfl ?_
            refine WL_o rfl rfl (OpR_addS (p := u ++ textOf (igTo ps (ls.length + 1) i (min ps.length 20)) ++ ln) (q := [10]) rfl rfl rfl (by rw [List.length_append, List.length_append, List.length_singleton]; omega) ?_)
            refine P1 T.ok rfl rfl rfl ?_; refine WL_nil ?_; (with_reducible refine T_bn ?_); (with_reducible refine T_then ?_); refine W_region ?_; (iterate 3 refine P1 T.ok rfl rfl rfl ?_); refine WL_nil ?_
            refine fun a ha => ⟨ls.length + 1 - (i + 1), by omega, i + 1, _, _, _, _, _, _, _, hI2, rfl, hs, le8, by omega, rfl, by rw [List.length_append, List.length_singleton]; omega, ha.keep ⟨rfl, rfl, rfl, rfl, rfl, rfl, kV rfl (by rw [List.length_append]; rfl), rfl, kI rfl (by rw [wr (by omega) (by omega)]; omega), trivial⟩⟩
          · obtain rfl : i = ls.length := by omega
            have hI2 := hI.last rfl [c + (igTo ps (ls.length + 1) ls.length (min ps.length 20)).length + 1] (c + (igTo ps (ls.length + 1) ls.length (min ps.length 20)).length + 1)
            refine P1 T.ok rfl rfl rfl ?_; refine WL_nil ?_; (with_reducible refine T_then ?_); refine W_seq ?_; refine W_region ?_; (iterate 3 refine P1 T.ok rfl rfl rfl ?_)
            refine WL_o rfl rfl (OpR_idx T.ok rfl rs6 (y := ⟨[]⟩) hge rfl rfl rfl rfl rfl rfl ?_)
            rintro bq pq ys hep rfl
            refine WL_o rfl rfl (OpR_loadE T.ok 0 rfl hep rfl rfl ?_)
            refine WL_o rfl rfl (OpR_addS (p := p) (q := []) rfl rfl rfl (by simp; omega) ?_)
            rw [List.append_nil]
            refine P1 T.ok rfl rfl rfl ?_; refine WL_nil ?_; (with_reducible refine T_then ?_); refine W_seq ?_; refine W_region ?_; (iterate 3 refine P1 T.ok rfl rfl rfl ?_)
            refine WL_o rfl rfl (OpR_idx T.ok rfl rs6 (y := ⟨[]⟩) hge rfl rfl rfl rfl rfl rfl ?_)
            rintro bq pq ys hep rfl
            refine WL_o rfl rfl (OpR_loadE T.ok 0 rfl hep rfl rfl ?_)
            refine WL_o rfl rfl (OpR_addS (p := u ++ textOf (igTo ps (ls.length + 1) ls.length (min ps.length 20))) (q := []) rfl rfl rfl (by rw [List.length_append]; simp; omega) ?_)
            rw [List.append_nil]
            refine P1 T.ok rfl rfl rfl ?_; refine WL_nil ?_; (with_reducible refine T_then ?_); refine W_seq ?_; refine W_region ?_; (iterate 5 refine P1 T.ok rfl rfl rfl ?_); refine WL_nil ?_; (with_reducible refine T_then ?_)
            refine W_no (b := _) ?_ rfl ?_
            · rw [hN, wr (by omega) (by omega)]; simp
            refine W_skip ?_; (with_reducible refine T_bn ?_); (with_reducible refine T_then ?_); refine W_region ?_; (iterate 3 refine P1 T.ok rfl rfl rfl ?_); refine WL_nil ?_
            refine fun a ha => ⟨ls.length + 1 - (ls.length + 1), by omega, ls.length + 1, _, _, _, _, _, _, _, hI2, rfl, hs, le8, by omega, rfl, by rw [List.length_append, List.length_singleton]; omega, ha.keep ⟨rfl, rfl, rfl, rfl, rfl, rfl, kV rfl (by rw [List.length_append]; rfl), rfl, kI rfl (by rw [wr (by omega) (by omega)]; omega), trivial⟩⟩
      · refine WL_know 54 (b' := true) (by simp; omega) rfl ?_
        (iterate 3 refine P1 T.ok rfl rfl rfl ?_); refine WL_nil ?_; (with_reducible refine T_then ?_)
        refine W_no (b := _) ?_ rfl ?_
        · simp; omega
        have hig20 : (igTo ps (ls.length + 1) i (min ps.length 20)).length ≤ 20 := by omega
        replace le8 := le8.trans le7
        by_cases hik : i = kk
        · refine W_exit ?_; (with_reducible refine T_tx ?_; with_reducible refine T_tx ?_); (with_reducible refine T_bx ?_); (with_reducible refine T_then ?_); refine W_seq ?_; refine W_seq ?_; refine W_region ?_; (iterate 3 refine P1 T.ok rfl rfl rfl ?_); refine WL_nil ?_; (with_reducible refine T_then ?_)
          refine W_yes (b := _) ?_ rfl ?_
          · simp [hik]
          by_cases hil : i < ls.length
          · refine W_exit ?_; (with_reducible refine T_tx ?_); (with_reducible refine T_bx ?_); (with_reducible refine T_then ?_); refine W_region ?_; (iterate 3 refine P1 T.ok rfl rfl rfl ?_); refine WL_nil ?_
            refine fun a ha => ⟨ls.length + 1 - (i + 1), by omega, i + 1, _, _, _, _, _, _, _, hI.out hil hik, rfl, hs, le8, by omega, rfl, by omega, ha.keep ⟨rfl, rfl, rfl, rfl, rfl, rfl, rfl, rfl, kI rfl (by rw [wr (by omega) (by omega)]; omega), trivial⟩⟩
          · have hI2 := hI.last (show i = ls.length by omega) [] (c + (igTo ps (ls.length + 1) i (min ps.length 20)).length)
            rw [List.append_nil] at hI2
            refine W_exit ?_; (with_reducible refine T_tx ?_); (with_reducible refine T_bx ?_); (with_reducible refine T_then ?_); refine W_region ?_; (iterate 3 refine P1 T.ok rfl rfl rfl ?_); refine WL_nil ?_
            refine fun a ha => ⟨ls.length + 1 - (i + 1), by omega, i + 1, _, _, _, _, _, _, _, hI2, rfl, hs, le8, by omega, rfl, by omega, ha.keep ⟨rfl, rfl, rfl, rfl, rfl, rfl, rfl, rfl, kI rfl (by rw [wr (by omega) (by omega)]; omega), trivial⟩⟩
        · refine W_exit ?_; (with_reducible refine T_tx ?_; with_reducible refine T_tx ?_); (with_reducible refine T_bx ?_); (with_reducible refine T_then ?_); refine W_seq ?_; refine W_seq ?_; refine W_region ?_; (iterate 3 refine P1 T.ok rfl rfl rfl ?_); refine WL_nil ?_; (with_reducible refine T_then ?_)
          refine W_no (b := _) ?_ rfl ?_
          · simp; omega
          have hcw : IntKind.i64.wrap (((c + (igTo ps (ls.length + 1) i (min ps.length 20)).length : Nat) : Int) + 1) = ((c + (igTo ps (ls.length + 1) i (min ps.length 20)).length + 1 : Nat) : Int) := by rw [wr (by omega) (by omega)]; omega
          refine W_skip ?_; (with_reducible refine T_then ?_); refine W_seq ?_; refine W_region ?_; (iterate 3 refine P1 T.ok rfl rfl rfl ?_); refine WL_nil ?_; (with_reducible refine T_then ?_); refine W_seq ?_; refine W_region ?_; refine P1 T.ok rfl rfl rfl ?_; refine P1 T.ok rfl rfl rfl ?_
          refine WL_re (.int .i64 ((c + (igTo ps (ls.length + 1) i (min ps.length 20)).length + 1 : Nat) : Int)) (t := 17) rfl (congrArg (Value.int .i64) hcw) ?_
          refine WL_re (.int .i64 ((c + (igTo ps (ls.length + 1) i (min ps.length 20)).length + 1 : Nat) : Int)) (t := 90) rfl (congrArg (Value.int .i64) hcw) ?_
          refine WL_o rfl rfl (OpR_lit T.ok rfl hs (vs := [(0, .int .i64 ((c + (igTo ps (ls.length + 1) i (min ps.length 20)).length + 1 : Nat) : Int))]) (cells := [.int .i64 ((c + (igTo ps (ls.length + 1) i (min ps.length 20)).length + 1 : Nat) : Int)]) rfl rfl rfl rfl rfl rfl (by decide) (by decide) (by kernel_rfl) rfl ?_)
          clear hs
          rintro bl gl hs hqe; replace le0 := G.le.trans le0 hqe; replace le8 := G.le.trans le8 hqe; replace rs6 := rs6.mono hqe; replace rs7 := rs7.mono hqe
          skip
          refine WL_o rfl rfl (OpR_append T.ok 1 rfl hs rfl rfl rfl rfl rfl rfl rfl (by decide) rfl (Src.of_row (hs.own 0 _ rfl).1).2 (by simp [Value.oneCell']) (by show (A.length + 1) * 8 ≤ _; omega) (by unfold maxLen; show A.length + 1 ≤ _; omega) ?_)
          clear hs
          rintro a9 c9 g9 hs hqe; replace le0 := G.le.trans le0 hqe; replace le8 := G.le.trans le8 hqe; replace rs6 := rs6.mono hqe; replace rs7 := rs7.mono hqe
          replace hs : St g g9 [.row 3 1 (.slice a9 (A ++ [c + (igTo ps (ls.length + 1) i (min ps.length 20)).length + 1]).length c9) (A ++ [c + (igTo ps (ls.length + 1) i (min ps.length 20)).length + 1]).length ((A ++ [c + (igTo ps (ls.length + 1) i (min ps.length 20)).length + 1]).map fun a => Value.int .i64 (a : Nat))] := by
            rw [List.map_append, List.length_append]; exact hs.tail (M := [_])
          by_cases hil : i < ls.length
          · have hI2 := hI.line hil hik
            have h1 := hgl i hil
            have hlw := hls _ (List.getElem_mem hil)
            generalize ls[i] = ln at *
            refine P1 T.ok rfl rfl rfl ?_; refine WL_nil ?_; (with_reducible refine T_then ?_); refine W_seq ?_; refine W_region ?_; (iterate 3 refine P1 T.ok rfl rfl rfl ?_)
            refine WL_o rfl rfl (OpR_idx T.ok rfl rs6 (y := ⟨ln⟩) h1 rfl rfl rfl rfl rfl rfl ?_)
            rintro bq pq ys hep rfl
            refine WL_o rfl rfl (OpR_loadE T.ok 0 rfl hep rfl rfl ?_)
            refine WL_o rfl rfl (OpR_addS (p := p) (q := ln) rfl rfl rfl (by omega) ?_)
            refine P1 T.ok rfl rfl rfl ?_; refine WL_nil ?_; (with_reducible refine T_then ?_); refine W_seq ?_; refine W_region ?_; (iterate 3 refine P1 T.ok rfl rfl rfl ?_)
            refine WL_o rfl rfl (OpR_idx T.ok rfl rs6 (y := ⟨ln⟩) h1 rfl rfl rfl rfl rfl rfl ?_)
            rintro bq pq ys hep rfl
            refine WL_o rfl rfl (OpR_loadE T.ok 0 rfl hep rfl rfl ?_)
            refine WL_o rfl rfl (OpR_addS (p := u ++ textOf (igTo ps (ls.length + 1) i (min ps.length 20))) (q := ln) rfl rfl rfl (by rw [List.length_append]; omega) ?_)
            refine P1 T.ok rfl rfl rfl ?_; refine WL_nil ?_; (with_reducible refine T_then ?_); refine W_seq ?_; refine W_region ?_; (iterate 5 refine P1 T.ok rfl rfl rfl ?_); refine WL_nil ?_; (with_reducible refine T_then ?_)
            refine W_yes (b := _) ?_ rfl ?_
            · rw [hN, wr (by omega) (by omega)]; simp; omega
            refine W_seq ?_; refine W_region ?_; refine P1 T.ok rfl rfl rfl ?_
            refine WL_o rfl rfl (OpR_addS (p := p ++ ln) (q := [10]) rfl rfl rfl (by rw [List.length_append, List.length_singleton]; omega) ?_)
            refine P1 T.ok rfl rfl rfl ?_; refine WL_nil ?_; (with_reducible refine T_then ?_); refine W_region ?_; refine P1 T.ok rfl rfl rfl ?_
            refine WL_o rfl rfl (OpR_addS (p := u ++ textOf (igTo ps (ls.length + 1) i (min ps.length 20)) ++ ln) (q := [10]) rfl rfl rfl (by rw [List.length_append, List.length_append, List.length_singleton]; omega) ?_)
            refine P1 T.ok rfl rfl rfl ?_; refine WL_nil ?_; (with_reducible refine T_bn ?_); (with_reducible refine T_then ?_); refine W_region ?_; (iterate 3 refine P1 T.ok rfl rfl rfl ?_); refine WL_nil ?_
            refine fun a ha => ⟨ls.length + 1 - (i + 1), by omega, i + 1, _, _, _, _, _, _, _, hI2, rfl, hs, le8, by omega, rfl, by rw [List.length_append, List.length_singleton]; omega, ha.keep ⟨rfl, rfl, rfl, rfl, rfl, rfl, kV rfl (by rw [List.length_append]; rfl), rfl, kI rfl (by rw [wr (by omega) (by omega)]; omega), trivial⟩⟩
          · obtain rfl : i = ls.length := by omega
            have hI2 := hI.last rfl [c + (igTo ps (ls.length + 1) ls.length (min ps.length 20)).length + 1] (c + (igTo ps (ls.length + 1) ls.length (min ps.length 20)).length + 1)
            refine P1 T.ok rfl rfl rfl ?_; refine WL_nil ?_; (with_reducible refine T_then ?_); refine W_seq ?_; refine W_region ?_; (iterate 3 refine P1 T.ok rfl rfl rfl ?_)
            refine WL_o rfl rfl (OpR_idx T.ok rfl rs6 (y := ⟨[]⟩) hge rfl rfl rfl rfl rfl rfl ?_)
            rintro bq pq ys hep rfl
            refine WL_o rfl rfl (OpR_loadE T.ok 0 rfl hep rfl rfl ?_)
            refine WL_o rfl rfl (OpR_addS (p := p) (q := []) rfl rfl rfl (by simp; omega) ?_)
            rw [List.append_nil]
            refine P1 T.ok rfl rfl rfl ?_; refine WL_nil ?_; (with_reducible refine T_then ?_); refine W_seq ?_; refine W_region ?_; (iterate 3 refine P1 T.ok rfl rfl rfl ?_)
            refine WL_o rfl rfl (OpR_idx T.ok rfl rs6 (y := ⟨[]⟩) hge rfl rfl rfl rfl rfl rfl ?_)
            rintro bq pq ys hep rfl
            refine WL_o rfl rfl (OpR_loadE T.ok 0 rfl hep rfl rfl ?_)
            refine WL_o rfl rfl (OpR_addS (p := u ++ textOf (igTo ps (ls.length + 1) ls.length (min ps.length 20))) (q := []) rfl rfl rfl (by rw [List.length_append]; simp; omega) ?_)
            rw [List.append_nil]
            refine P1 T.ok rfl rfl rfl ?_; refine WL_nil ?_; (with_reducible refine T_then ?_); refine W_seq ?_; refine W_region ?_; (iterate 5 refine P1 T.ok rfl rfl rfl ?_); refine WL_nil ?_; (with_reducible refine T_then ?_)
            refine W_no (b := _) ?_ rfl ?_
            · rw [hN, wr (by omega) (by omega)]; simp
            refine W_skip ?_; (with_reducible refine T_bn ?_); (with_reducible refine T_then ?_); refine W_region ?_; (iterate 3 refine P1 T.ok rfl rfl rfl ?_); refine WL_nil ?_
            refine fun a ha => ⟨ls.length + 1 - (ls.length + 1), by omega, ls.length + 1, _, _, _, _, _, _, _, hI2, rfl, hs, le8, by omega, rfl, by rw [List.length_append, List.length_singleton]; omega, ha.keep ⟨rfl, rfl, rfl, rfl, rfl, rfl, kV rfl (by rw [List.length_append]; rfl), rfl, kI rfl (by rw [wr (by omega) (by omega)]; omega), trivial⟩⟩
  · obtain rfl : i = ls.length + 1 := by omega
    refine W_no (b := _) ?_ rfl ?_
    · rw [hN]; simp
    rcases hI with ⟨h, _⟩ | ⟨_, rfl, rfl, ex, rfl⟩
    · omega
    have hL := hlaw kk (ls.length + 1) ls.length ls.length
    dsimp only at hL
    have hsp := hsm.1
    have hsu := hsm.2.1
    generalize textOf (keptOf (bls ps (ls.length + 1) kk ls ls.length)) = PP at *
    generalize textOf (fullOf (bls ps (ls.length + 1) kk ls ls.length) ++ igTo ps (ls.length + 1) ls.length (min ps.length 20)) = UU at *
    generalize hAA : atGo 0 (bls ps (ls.length + 1) kk ls ls.length) ++ ex = AA at *
    have hAat : ∀ (a b : Nat), (atGo 0 (bls ps (ls.length + 1) kk ls ls.length))[a]? = some b → AA[a]? = some b := by
      intro a b h
      rw [← hAA, List.getElem?_append_left (List.getElem?_eq_some_iff.1 h).1]; exact h
    clear rs6 rs7 rs6c rs7c hAA hgl hge hlaw hsm
    obtain ⟨gz, hwz, hsz, hqz, rs4⟩ := hs.fzRow (α := Int) (xs := AA.map fun a => ((a : Nat) : Int)) (i := 0) rfl (by have h := RcL.ints g2 (AA.map fun a => ((a : Nat) : Int)); rw [List.map_map] at h; exact h)
    have hqe := hqz; rw [← hwz]; replace hs := hsz; clear hsz; replace le0 := G.le.trans le0 hqe; replace le8 := G.le.trans le8 hqe
    replace hs : St g gz [] := hs
    refine W_exit ?_; (with_reducible refine T_tx ?_; with_reducible refine T_tx ?_); (with_reducible refine T_bx ?_); (with_reducible refine T_then ?_); refine W_seq ?_; refine W_region ?_; refine P1 T.ok rfl rfl rfl ?_
    refine WL_o rfl rfl (OpR_ret cl13 allF rfl rfl rfl rfl rfl (parse_c PP _ (by omega) (hF.mono le0)) ?_); rintro g1 _ hf1 hp; replace hs := hs.call hf1; have hqe := hf1.le; replace le0 := G.le.trans le0 hqe; replace le8 := G.le.trans le8 hqe; replace rs4 := rs4.mono hqe
    rcases hL with ⟨f, hP, hU⟩ | ⟨a, b, hP, hU, ha1, ha2, hor⟩
    · rw [hP] at hp
      obtain ⟨_, rfl, a5, n5, c5, a6, n6, c6, rfl, rs5, rs6⟩ := hp
      (iterate 4 refine P1 T.ok rfl rfl rfl ?_)
      refine WL_o rfl rfl (OpR_alloc T.ok rfl hs rfl rfl ?_); clear hs; rintro b8 g1 hs hqe; replace le0 := G.le.trans le0 hqe; replace le8 := G.le.trans le8 hqe; replace rs4 := rs4.mono hqe; replace rs5 := rs5.mono hqe; replace rs6 := rs6.mono hqe
      skip
      refine WL_n rfl (OpR_storeO T.ok 0 rfl hs rfl rfl rfl rfl rfl rfl rfl rfl rfl ?_); replace hs := hs; rintro g1 hs hqe; replace le0 := G.le.trans le0 hqe; replace le8 := G.le.trans le8 hqe; replace rs4 := rs4.mono hqe; replace rs5 := rs5.mono hqe; replace rs6 := rs6.mono hqe
      refine P1 T.ok rfl rfl rfl ?_; refine P1 T.ok rfl rfl rfl ?_; refine WL_nil ?_; (with_reducible refine T_then ?_); refine W_seq ?_; refine W_region ?_; refine P1 T.ok rfl rfl rfl ?_
      refine WL_o rfl rfl (OpR_ret cl13 allF rfl rfl rfl rfl rfl (parse_c UU _ (by omega) (hF.mono le0)) ?_); rintro g1 _ hf1 hp; replace hs := hs.call hf1; have hqe := hf1.le; replace le0 := G.le.trans le0 hqe; replace le8 := G.le.trans le8 hqe; replace rs4 := rs4.mono hqe; replace rs5 := rs5.mono hqe; replace rs6 := rs6.mono hqe
      rw [hU] at hp
      obtain ⟨_, rfl, a7, n7, c7, a8, n8, c8, rfl, rs7, rs8⟩ := hp
      (iterate 4 refine P1 T.ok rfl rfl rfl ?_)
      refine WL_o rfl rfl (OpR_alloc T.ok rfl hs rfl rfl ?_); clear hs; rintro b9 g1 hs hqe; replace le0 := G.le.trans le0 hqe; replace le8 := G.le.trans le8 hqe; replace rs4 := rs4.mono hqe; replace rs5 := rs5.mono hqe; replace rs6 := rs6.mono hqe; replace rs7 := rs7.mono hqe; replace rs8 := rs8.mono hqe
      skip
      refine WL_n rfl (OpR_storeO T.ok 0 rfl hs rfl rfl rfl rfl rfl rfl rfl rfl rfl ?_); replace hs := hs; rintro g1 hs hqe; replace le0 := G.le.trans le0 hqe; replace le8 := G.le.trans le8 hqe; replace rs4 := rs4.mono hqe; replace rs5 := rs5.mono hqe; replace rs6 := rs6.mono hqe; replace rs7 := rs7.mono hqe; replace rs8 := rs8.mono hqe
      refine P1 T.ok rfl rfl rfl ?_; refine P1 T.ok rfl rfl rfl ?_; refine WL_nil ?_; (with_reducible refine T_then ?_); refine W_seq ?_; refine W_seq ?_; refine W_region ?_; (iterate 4 refine P1 T.ok rfl rfl rfl ?_); refine WL_o rfl rfl (OpR_loadO T.ok 1 rfl hs rfl rfl rfl ?_); refine WL_o rfl rfl (OpR_loadO T.ok 0 rfl hs rfl rfl rfl ?_)
      refine WL_o rfl rfl (OpR_ret cl14 allF rfl rfl rfl rfl rfl (same_c _ _ f f _ ⟨_, _, _, _, _, _, rfl, rs5, rs6⟩ ⟨_, _, _, _, _, _, rfl, rs7, rs8⟩) ?_); rintro g1 _ hf1 hp; replace hs := hs.call hf1; have hqe := hf1.le; replace le0 := G.le.trans le0 hqe; replace le8 := G.le.trans le8 hqe; replace rs4 := rs4.mono hqe; replace rs5 := rs5.mono hqe; replace rs6 := rs6.mono hqe; replace rs7 := rs7.mono hqe; replace rs8 := rs8.mono hqe
      rw [(sameF_iff f f).2 rfl] at hp
      subst hp
      refine P1 T.ok rfl rfl rfl ?_; refine P1 T.ok rfl rfl rfl ?_; refine WL_nil ?_; (with_reducible refine T_then ?_)
      refine W_no rfl rfl ?_
      refine W_skip ?_; (with_reducible refine T_then ?_); refine W_seq ?_; refine W_seq ?_; refine W_region ?_; refine P1 T.ok rfl rfl rfl ?_; refine P1 T.ok rfl rfl rfl ?_; refine WL_nil ?_; (with_reducible refine T_then ?_)
      refine W_yes rfl rfl ?_
      refine W_seq ?_; refine W_region ?_; (iterate 10 refine P1 T.ok rfl rfl rfl ?_); refine WL_nil ?_; (with_reducible refine T_then ?_)
      refine W_ret ?_
      (with_reducible refine T_tr ?_)
      exact ret1 rfl rfl (hs.ret rfl)
    · rw [hP] at hp
      obtain rfl := hp
      (iterate 4 refine P1 T.ok rfl rfl rfl ?_)
      refine WL_o rfl rfl (OpR_alloc T.ok rfl hs rfl rfl ?_); clear hs; rintro b8 g1 hs hqe; replace le0 := G.le.trans le0 hqe; replace le8 := G.le.trans le8 hqe; replace rs4 := rs4.mono hqe
      skip
      refine WL_n rfl (OpR_storeO T.ok 0 rfl hs rfl rfl rfl rfl rfl rfl rfl rfl rfl ?_); replace hs := hs; rintro g1 hs hqe; replace le0 := G.le.trans le0 hqe; replace le8 := G.le.trans le8 hqe; replace rs4 := rs4.mono hqe
      refine P1 T.ok rfl rfl rfl ?_; refine P1 T.ok rfl rfl rfl ?_; refine WL_nil ?_; (with_reducible refine T_then ?_); refine W_seq ?_; refine W_region ?_; refine P1 T.ok rfl rfl rfl ?_
      refine WL_o rfl rfl (OpR_ret cl13 allF rfl rfl rfl rfl rfl (parse_c UU _ (by omega) (hF.mono le0)) ?_); rintro g1 _ hf1 hp; replace hs := hs.call hf1; have hqe := hf1.le; replace le0 := G.le.trans le0 hqe; replace le8 := G.le.trans le8 hqe; replace rs4 := rs4.mono hqe
      rw [hU] at hp
      obtain rfl := hp
      (iterate 4 refine P1 T.ok rfl rfl rfl ?_)
      refine WL_o rfl rfl (OpR_alloc T.ok rfl hs rfl rfl ?_); clear hs; rintro b9 g1 hs hqe; replace le0 := G.le.trans le0 hqe; replace le8 := G.le.trans le8 hqe; replace rs4 := rs4.mono hqe
      skip
      refine WL_n rfl (OpR_storeO T.ok 0 rfl hs rfl rfl rfl rfl rfl rfl rfl rfl rfl ?_); replace hs := hs; rintro g1 hs hqe; replace le0 := G.le.trans le0 hqe; replace le8 := G.le.trans le8 hqe; replace rs4 := rs4.mono hqe
      refine P1 T.ok rfl rfl rfl ?_; refine P1 T.ok rfl rfl rfl ?_; refine WL_nil ?_; (with_reducible refine T_then ?_); refine W_seq ?_; refine W_seq ?_; refine W_region ?_; (iterate 4 refine P1 T.ok rfl rfl rfl ?_); refine WL_o rfl rfl (OpR_loadO T.ok 1 rfl hs rfl rfl rfl ?_); refine WL_o rfl rfl (OpR_loadO T.ok 0 rfl hs rfl rfl rfl ?_)
      refine WL_o rfl rfl (OpR_ret cl14 allF rfl rfl rfl rfl rfl (same_c _ _ flow0 flow0 _ (rflow0 _) (rflow0 _)) ?_); rintro g1 _ hf1 hp; replace hs := hs.call hf1; have hqe := hf1.le; replace le0 := G.le.trans le0 hqe; replace le8 := G.le.trans le8 hqe; replace rs4 := rs4.mono hqe
      rw [(sameF_iff flow0 flow0).2 rfl] at hp
      subst hp
      refine P1 T.ok rfl rfl rfl ?_; refine P1 T.ok rfl rfl rfl ?_; refine WL_nil ?_; (with_reducible refine T_then ?_)
      refine W_no rfl rfl ?_
      refine W_skip ?_; (with_reducible refine T_then ?_); refine W_seq ?_; refine W_seq ?_; refine W_region ?_; refine P1 T.ok rfl rfl rfl ?_; refine P1 T.ok rfl rfl rfl ?_; refine WL_nil ?_; (with_reducible refine T_then ?_)
      refine W_no rfl rfl ?_
      refine W_skip ?_; (with_reducible refine T_then ?_); refine W_seq ?_; refine W_region ?_; refine P1 T.ok rfl rfl rfl ?_
      refine WL_o rfl rfl (OpR_ret cl16 allF rfl rfl rfl rfl rfl (lines_c PP _ (by omega)) ?_); rintro g1 _ hf1 rs5; replace hs := hs.call hf1; have hqe := hf1.le; replace le0 := G.le.trans le0 hqe; replace le8 := G.le.trans le8 hqe; replace rs4 := rs4.mono hqe
      obtain ⟨wa, wc, rfl⟩ := rs5.isSlice
      have hpl := split_len 10 PP
      have hLl : ((splitC 10 PP).map Str.mk).length = (splitC 10 PP).length := List.length_map _
      rw [hLl]
      clear rs5 hLl
      generalize (splitC 10 PP).length = pl at *
      refine P1 T.ok rfl rfl rfl ?_; refine P1 T.ok rfl rfl rfl ?_; refine WL_nil ?_; (with_reducible refine T_then ?_); refine W_seq ?_; refine W_region ?_; (iterate 6 refine P1 T.ok rfl rfl rfl ?_)
      refine WL_know 154 (b' := true) (by simp; omega) rfl ?_
      (iterate 5 refine P1 T.ok rfl rfl rfl ?_)
      refine WL_know 159 (b' := true) (by simp; omega) rfl ?_
      (iterate 6 refine P1 T.ok rfl rfl rfl ?_)
      by_cases hfst : AA[a - 1]? = some b
      · have hlA := (List.getElem?_eq_some_iff.1 hfst).1
        refine WL_know 165 (b' := true) (by rw [wr (by omega) (by omega)]; simp; omega) rfl ?_
        (iterate 4 refine P1 T.ok rfl rfl rfl ?_)
        refine WL_re (.int .i64 ((a - 1 : Nat) : Int)) (t := 169) rfl (congrArg (Value.int .i64) (by rw [wr (by omega) (by omega)]; omega)) ?_
        refine WL_o rfl rfl (OpR_idx T.ok rfl rs4 (y := (b : Int)) (by rw [geti_of (xs := AA.map fun a => ((a : Nat) : Int)) (n := ((a - 1 : Nat) : Int)) (j := a - 1) rfl (by rw [List.length_map]; exact hlA), List.getElem_map]; rw [List.getElem?_eq_getElem hlA] at hfst; rw [Option.some.inj hfst]) rfl rfl rfl rfl rfl rfl ?_)
        rintro bq pq ys hep rfl
        skip
        refine WL_o rfl rfl (OpR_loadE T.ok 0 rfl hep rfl rfl ?_)
        (iterate 3 refine P1 T.ok rfl rfl rfl ?_)
        refine WL_know 174 (b' := true) (by simp) rfl ?_
        (iterate 10 refine S1 allF rfl rfl ?_); (iterate 3 refine P1 T.ok rfl rfl rfl ?_); refine WL_nil ?_; (with_reducible refine T_then ?_)
        refine W_ret ?_
        skip
        exact ret1 rfl rfl (hs.ret rfl)
      · have hse : a = pl ∧ b = (splitC 10 UU).length := by
          rcases hor with h | h
          · exact absurd (hAat _ _ h) hfst
          · exact h
        obtain ⟨rfl, rfl⟩ := hse
        by_cases hlA : a - 1 < AA.length
        · refine WL_know 165 (b' := true) (by rw [wr (by omega) (by omega)]; simp; omega) rfl ?_
          (iterate 4 refine P1 T.ok rfl rfl rfl ?_)
          refine WL_re (.int .i64 ((a - 1 : Nat) : Int)) (t := 169) rfl (congrArg (Value.int .i64) (by rw [wr (by omega) (by omega)]; omega)) ?_
          refine WL_o rfl rfl (OpR_idx T.ok rfl rs4 (y := ((AA[a - 1] : Nat) : Int)) (by rw [geti_of (xs := AA.map fun a => ((a : Nat) : Int)) (n := ((a - 1 : Nat) : Int)) (j := a - 1) rfl (by rw [List.length_map]; exact hlA), List.getElem_map]) rfl rfl rfl rfl rfl rfl ?_)
          rintro bq pq ys hep rfl
          skip
          refine WL_o rfl rfl (OpR_loadE T.ok 0 rfl hep rfl rfl ?_)
          (iterate 3 refine P1 T.ok rfl rfl rfl ?_)
          refine WL_know 174 (b' := false) (by
            rw [List.getElem?_eq_getElem hlA] at hfst
            have : AA[a - 1] ≠ (splitC 10 UU).length := fun h => hfst (by rw [h])
            simp; omega) rfl ?_
          (iterate 4 refine P1 T.ok rfl rfl rfl ?_)
          refine WL_know 178 (b' := true) (by simp) rfl ?_
          refine P1 T.ok rfl rfl rfl ?_; refine P1 T.ok rfl rfl rfl ?_
          refine WL_o rfl rfl (OpR_ret cl16 allF rfl rfl rfl rfl rfl (lines_c UU _ (by omega)) ?_); rintro g1 _ hf1 rs5; replace hs := hs.call hf1; have hqe := hf1.le; replace le0 := G.le.trans le0 hqe; replace le8 := G.le.trans le8 hqe; replace rs4 := rs4.mono hqe
          obtain ⟨za, zc, rfl⟩ := rs5.isSlice
          (iterate 6 refine P1 T.ok rfl rfl rfl ?_); refine WL_nil ?_; (with_reducible refine T_then ?_)
          refine W_ret ?_
          skip
          refine ret1 rfl rfl (hs.ret ?_)
          simp
        · refine WL_know 165 (b' := false) (by rw [wr (by omega) (by omega)]; simp; omega) rfl ?_
          (iterate 7 refine S1 allF rfl rfl ?_); (iterate 6 refine P1 T.ok rfl rfl rfl ?_)
          skip
          refine WL_know 178 (b' := true) (by simp) rfl ?_
          refine P1 T.ok rfl rfl rfl ?_; refine P1 T.ok rfl rfl rfl ?_
          refine WL_o rfl rfl (OpR_ret cl16 allF rfl rfl rfl rfl rfl (lines_c UU _ (by omega)) ?_); rintro g1 _ hf1 rs5; replace hs := hs.call hf1; have hqe := hf1.le; replace le0 := G.le.trans le0 hqe; replace le8 := G.le.trans le8 hqe; replace rs4 := rs4.mono hqe
          obtain ⟨za, zc, rfl⟩ := rs5.isSlice
          (iterate 6 refine P1 T.ok rfl rfl rfl ?_); refine WL_nil ?_; (with_reducible refine T_then ?_)
          refine W_ret ?_
          skip
          refine ret1 rfl rfl (hs.ret ?_)
          simp


end Go.Proofs.YtnaeopehmdcplaaDoor
