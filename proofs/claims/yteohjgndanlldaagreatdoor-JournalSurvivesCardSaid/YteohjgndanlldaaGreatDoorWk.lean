/- The walk through JournalSurvives. -/
import Derived.Test.YteohjgndanlldaaGreatDoorWj

namespace Go.Proofs.YteohjgndanlldaaGreatDoor
open Go Go.K
set_option maxRecDepth 10000
attribute [local irreducible] W WL OpR bitAnd bitOr bitXor bitClr bitNot shlI shrI
set_option maxHeartbeats 4000000

theorem survives_c {e : Addr} (n : Int) (v : Value) (groups : List (List Str)) (cut : Int) (kv : Value) (keep : List Int) (torn : Int) (g : G) (hrk : RoundAt g) (hE : ErrAt e g) (hn : I64 n) (rsg : Rs g v groups) (hcut : I64 cut) (rsk : Rs g kv keep) (htorn : I64 torn) :
    CallsIn Wd 0 Tryz.prog 5 #[.int .i64 n, v, .int .i64 cut, kv, .int .i64 torn] g.w (Ret g fun _ r => r = .bool true) := by
  obtain ⟨a, c, rfl⟩ := rsg.isSlice
  obtain ⟨ak, ck, rfl⟩ := rsk.isSlice
  have hlen := rsg.len_le
  unfold maxLen at hlen
  have hs := St.start g
  have le0 := G.le.refl g
  refine enter Tryz.func5 rfl Tryz.ntmps5 rfl ?_
  refine W_seq ?_; refine W_region ?_; refine P1 T.ok rfl rfl rfl ?_; refine WL_nil ?_; (with_reducible refine T_then ?_); refine W_seq ?_; refine W_region ?_
  refine WL_o rfl rfl (OpR_ret cl8 allF rfl rfl rfl rfl rfl (sane_c _ hrk hE) ?_); rintro g1 _ hf1 rfl; replace hs := hs.call hf1; have hqe := hf1.le; replace le0 := G.le.trans le0 hqe
  refine P1 T.ok rfl rfl rfl ?_; refine WL_nil ?_; (with_reducible refine T_then ?_); refine W_seq ?_; refine W_region ?_; refine P1 T.ok rfl rfl rfl ?_
  refine WL_o rfl rfl (OpR_ret cl15 allF rfl rfl rfl rfl rfl (size_c n _ hn) ?_); rintro g1 _ hf1 rfl; replace hs := hs.call hf1; have hqe := hf1.le; replace le0 := G.le.trans le0 hqe
  have hsz := sizeM_range n
  generalize hZ : sizeM n = Z at *
  skip
  refine WL_o rfl rfl (OpR_st cl24 allF rfl rfl rfl rfl rfl (dnew_c (n := Z) hsz.1 (by omega) hs) ?_)
  clear hs
  rintro g1 _ hqe ⟨A, rfl, hs⟩; replace le0 := G.le.trans le0 hqe
  (iterate 5 refine P1 T.ok rfl rfl rfl ?_); refine WL_nil ?_; (with_reducible refine T_then ?_); refine W_seq ?_; refine W_region ?_; refine P1 T.ok rfl rfl rfl ?_
  have hv0 := Live.new (n := Z) hsz.1 (by omega)
  refine WL_o rfl rfl (OpR_st cl25 allF rfl rfl rfl rfl rfl (jopenJ_c hv0.inv rfl (Nat.zero_le _) (hrk.mono le0) (hE.mono le0) hs) ?_)
  clear hs
  rintro g2 _ hqe ⟨pa, pc, B, rfl, hs⟩; replace le0 := G.le.trans le0 hqe
  (iterate 5 refine P1 T.ok rfl rfl rfl ?_); refine WL_nil ?_; (with_reducible refine T_then ?_); refine W_seq ?_; refine W_seq ?_; refine W_region ?_; refine P1 T.ok rfl rfl rfl ?_; refine P1 T.ok rfl rfl rfl ?_; refine WL_nil ?_; (with_reducible refine T_then ?_)
  refine W_no rfl rfl ?_
  refine W_skip ?_; (with_reducible refine T_then ?_); refine W_seq ?_; refine W_region ?_; refine P1 T.ok rfl rfl rfl ?_; refine WL_nil ?_; (with_reducible refine T_then ?_); refine W_seq ?_; refine W_region ?_; refine P1 T.ok rfl rfl rfl ?_; refine WL_nil ?_; (with_reducible refine T_then ?_); refine W_seq ?_; refine W_seq ?_; refine W_region ?_; refine P1 T.ok rfl rfl rfl ?_; refine WL_nil ?_; (with_reducible refine T_then ?_); refine W_block ?_
  refine W_loop (fun m a' w => ∃ (k : Nat) (g2 : G) (ra pa : Option Addr) (rc pc : Nat) (D : DiskM) (Y : TapeM) (br : Bool) (rs rs' : List (List UInt8)) (v1 v2 : Value), w = g2.w ∧ St g g2 (jnL ⟨B.b, ra, rc⟩ ⟨A.b, A.bd, A.bv, pa, pc⟩ br Y ++ (dkL ⟨A.b, A.bd, A.bv, pa, pc⟩ D ++ [])) ∧ G.le g g2 ∧ Rs g2 v1 (rs.map Str.mk) ∧ Rs g2 v2 (rs'.map Str.mk) ∧
      Any D Y br rs rs' ∧ (k < groups.length ∧ k < 8 → br = false ∧ D.left = 0) ∧ k ≤ groups.length ∧ k ≤ 8 ∧ m = 8 - k ∧
      Fr 122 [] [(1, .slice a groups.length c), (2, .int .i64 cut), (3, .slice ak keep.length ck), (4, .int .i64 torn), (11, .bool true), (12, .pointer (some ⟨A.b, 0, none⟩)), (14, .pointer (some ⟨B.b, 0, none⟩)), (16, v1), (17, v2), (18, .int .i64 k)] a') 8
    (fun a' ha => ⟨0, _, B.ra, pa, B.rc, pc, _, _, false, [], [], _, _, rfl, hs, le0, Rs.nil _, Rs.nil _, .inl ⟨rfl, rfl, hv0⟩, fun _ => ⟨rfl, rfl⟩, Nat.zero_le _, by omega, rfl, ha.keep (by (repeat (first | exact trivial | refine ⟨rfl, ?_⟩)))⟩) ?_
  clear hs le0 hv0
  rintro m a' _ ⟨k, g2, ra, pa, rc, pc, D, Y, br, rs, rs', v1, v2, rfl, hs, le0, rw1, rw2, hany, hgo, hk, hk8, rfl, ha'⟩
  have rs1 := rsg.mono le0
  revert a'
  (with_reducible refine T_wp ?_); refine W_seq ?_; refine W_seq ?_; refine W_region ?_; (iterate 5 refine P1 T.ok rfl rfl rfl ?_)
  by_cases hlt : k < groups.length
  · refine WL_know 41 (b := decide ((k : Int) < (groups.length : Int))) (b' := true) (decide_eq_true (by omega)) rfl ?_
    (iterate 3 refine P1 T.ok rfl rfl rfl ?_); refine WL_nil ?_; (with_reducible refine T_then ?_)
    by_cases h8 : k < 8
    · refine W_yes (b := decide ((k : Int) < 8)) (decide_eq_true (by omega)) rfl ?_
      obtain ⟨rfl, hl0⟩ := hgo ⟨hlt, h8⟩
      obtain ⟨rfl, hlive⟩ : rs' = rs ∧ Live D Y rs := by
        rcases hany with ⟨_, h1, h2⟩ | ⟨h, _⟩
        · exact ⟨h1, h2⟩
        · cases h
      clear hany hgo rw1 rw2
      have hgi : geti groups (k : Int) = some groups[k] := geti_of rfl hlt
      generalize groups[k] = xs at *
      refine W_skip ?_; (with_reducible refine T_then ?_); refine W_seq ?_; refine W_block ?_; refine W_seq ?_; refine W_region ?_; refine P1 T.ok rfl rfl rfl ?_
      have rs1 := rs1
      have hrec := records_c hlive.inv.tok hs
      rw [hlive.inv.recs] at hrec
      refine WL_o rfl rfl (OpR_ret cl19 allF rfl rfl rfl rfl rfl (hrec) ?_); rintro g1 vo hf1 hvo; obtain ⟨gz, hwz, hsz, hqz, rs2⟩ := hs.ownRs hf1 hvo; have hqe := hf1.le.trans hqz; rw [← hwz]; replace hs := hsz; clear hsz hvo; replace le0 := G.le.trans le0 hqe; replace rs1 := rs1.mono hqe
      clear hrec
      obtain ⟨aw, cw, rfl⟩ := rs2.isSlice
      have hnr := hlive.inv.nrec
      have hdl := hlive.inv.ok.le
      refine P1 T.ok rfl rfl rfl ?_; refine WL_nil ?_; (with_reducible refine T_then ?_); refine W_seq ?_
      have hgs := hs
      apply W_draw allF rfl (nilF :: Fact.eq _ :: (ownF 9 gz (rs'.map Str.mk)) :: Fact.eq _ :: Fact.eq _ :: (Fact.ep (fun b p g => ∃ v, EP g b p [v] ∧ Rs g v xs) fun _ _ _ _ hf h => by obtain ⟨v, h1, h2⟩ := h; exact ⟨v, h1.mono hf.le, h2.mono hf.le⟩) :: (Fact.rs xs) :: (Fact.rs (fewM xs)) :: []) 8 [(2, 51), (7, 56)] rfl rfl
      · refine D_cons (D_step2 (js := []) (by kernel_rfl) fun gd hf => ?_) ?_
        · have hsd := hs.dr.call hf; have hfe := (G.le_dr _).trans hf.le
          refine QA_nil ?_
          refine D_yes rfl ?_
          refine OpR_lit T.ok rfl (St.start gd) (vs := []) (cells := []) rfl rfl rfl rfl rfl rfl (by decide) (by decide) (by kernel_rfl) rfl ?_
          intro b2 g2 hs1 hqe1
          exact ⟨g2, rfl, hs1.fr0, _, rfl⟩
        refine D_cons (D_step2 (js := []) (by kernel_rfl) fun gd hf => ?_) ?_
        · have hsd := hs.dr.call hf; have hfe := (G.le_dr _).trans hf.le
          refine QA_nil ?_
          (refine D_yes rfl ?_; refine OpR_pure _ T.ok rfl ?_; refine ⟨_, rfl, Fr0.refl _, ?_⟩; exact rfl)
        refine D_cons (D_step2 (js := [(0, 49), (1, 50)]) (by kernel_rfl) fun gd hf => ?_) ?_
        · have hsd := hs.dr.call hf; have hfe := (G.le_dr _).trans hf.le
          refine QA_any fun v0 h0 => ?_; refine QA_eq rfl ?_
          refine QA_nil ?_
          obtain ⟨ad0, rfl⟩ := h0
          refine D_yes rfl ?_
          obtain ⟨_, news, hnw, hsrc⟩ := Src.of_rs (rs2.mono hfe)
          refine OpR_append T.ok 0 rfl ((St.start gd).nilrow 9 1 ad0) rfl rfl rfl rfl rfl rfl rfl (by decide) rfl hsrc hnw.one (by rw [List.length_map]; show (0 + rs'.length) * 16 ≤ _; omega) (by unfold maxLen; rw [List.length_map]; omega) ?_
          intro a3 c3 g3 hs3 hqe3
          exact ⟨g3, rfl, hs3.fr0, OwnR.base (hs3.toOwn (i := 0) rfl (hnw.mono hqe3)) hf.below.size⟩
        refine D_cons (D_step2 (js := []) (by kernel_rfl) fun gd hf => ?_) ?_
        · have hsd := hs.dr.call hf; have hfe := (G.le_dr _).trans hf.le
          refine QA_nil ?_
          (refine D_yes rfl ?_; refine OpR_pure _ T.ok rfl ?_; refine ⟨_, rfl, Fr0.refl _, ?_⟩; exact rfl)
        refine D_cons (D_step2 (js := []) (by kernel_rfl) fun gd hf => ?_) ?_
        · have hsd := hs.dr.call hf; have hfe := (G.le_dr _).trans hf.le
          refine QA_nil ?_
          (refine D_yes rfl ?_; refine OpR_pure _ T.ok rfl ?_; refine ⟨_, rfl, Fr0.refl _, ?_⟩; exact rfl)
        refine D_cons (D_step2 (js := [(3, 52), (4, 53)]) (by kernel_rfl) fun gd hf => ?_) ?_
        · have hsd := hs.dr.call hf; have hfe := (G.le_dr _).trans hf.le
          refine QA_eq rfl ?_; refine QA_eq rfl ?_
          refine QA_nil ?_
          refine D_yes rfl ?_
          refine OpR_idx T.ok rfl (rs1.mono hfe) (y := xs) hgi rfl rfl rfl rfl rfl rfl ?_
          intro b p ys hep hrc
          obtain ⟨vk, rfl, rsk⟩ := hrc
          exact ⟨_, rfl, Fr0.refl _, b, p, rfl, vk, hep, rsk⟩
        refine D_cons (D_step2 (js := [(5, 54)]) (by kernel_rfl) fun gd hf => ?_) ?_
        · have hsd := hs.dr.call hf; have hfe := (G.le_dr _).trans hf.le
          refine QA_any fun v5 h5 => ?_
          refine QA_nil ?_
          obtain ⟨b, p, rfl, vk, hep, hrs⟩ := h5
          refine D_yes rfl ?_
          refine OpR_loadE T.ok 0 rfl hep rfl rfl ?_
          exact ⟨_, rfl, Fr0.refl _, hrs⟩
        refine D_cons (D_step2 (js := [(6, 55)]) (by kernel_rfl) fun gd hf => ?_) ?_
        · have hsd := hs.dr.call hf; have hfe := (G.le_dr _).trans hf.le
          refine QA_any fun v6 h6 => ?_
          refine QA_nil ?_
          refine D_yes rfl ?_
          refine OpR_ret cl11 allF rfl rfl rfl rfl rfl (few_c _ xs gd h6) fun g' v h1 h2 => ?_
          obtain ⟨g2, hw2, hs2, hle2, hrs⟩ := (St.start gd).ownRs h1 h2
          exact ⟨g2, hw2, hs2.fr0, hrs⟩
        exact D_nil
      intro g1 hf1; refine QA_any fun v2 h2 => ?_; refine QA_any fun v7 h7 => ?_; refine QA_nil ?_
      replace hs := hs.dr.call hf1; have hqe := (G.le_dr _).trans hf1.le; replace le0 := G.le.trans le0 hqe; replace rs1 := rs1.mono hqe; replace rs2 := rs2.mono hqe
      obtain ⟨cells, hh, hrc⟩ := h2
      obtain ⟨a3, c3, rfl⟩ := hh.1.form
      clear hs
      have hs := hgs.dr.getOwn hf1 hh
      clear hgs hh
      obtain rfl := RcL.strs_inv hrc
      obtain ⟨ax, cx, rfl⟩ := h7.isSlice
      obtain ⟨_, news, hnw, hsrc⟩ := Src.of_rs h7
      obtain rfl := RcL.strs_inv (l := (fewM xs).map Str.s) (by rw [List.map_map, show (Str.mk ∘ Str.s) = id from rfl, List.map_id]; exact hnw)
      skip
      refine WL_o rfl rfl (OpR_append T.ok 0 rfl hs rfl rfl rfl rfl rfl rfl rfl (by decide) rfl hsrc hnw.one (by rw [List.length_map]; have := fewM_len xs; show (rs'.length + (fewM xs).length) * 16 ≤ _; omega) (by unfold maxLen; rw [List.length_map]; have := fewM_len xs; omega) ?_)
      clear hs hsrc hrc hnw
      rintro a4 c4 g4 hs hqe; replace le0 := G.le.trans le0 hqe; replace rs1 := rs1.mono hqe; replace rs2 := rs2.mono hqe
      obtain ⟨gz4, hwz, hsz2, hqz, rwant⟩ := hs.fzRow (α := Str) (xs := (rs' ++ (fewM xs).map Str.s).map Str.mk) (i := 0) rfl (by
        have h := RcL.strs g4 (rs' ++ (fewM xs).map Str.s)
        rw [show strL (rs' ++ (fewM xs).map Str.s) = strL rs' ++ strL ((fewM xs).map Str.s) from by simp [strL]] at h
        exact h)
      have hqe := hqz; rw [← hwz]; replace hs := hsz2; clear hsz2 hqz h7; replace le0 := G.le.trans le0 hqe; replace rs1 := rs1.mono hqe; replace rs2 := rs2.mono hqe
      replace hs : St g gz4 (jnL ⟨B.b, ra, rc⟩ ⟨A.b, A.bd, A.bv, pa, pc⟩ false Y ++ (dkL ⟨A.b, A.bd, A.bv, pa, pc⟩ D ++ [])) := hs
      have rs3 := rwant
      clear rwant
      have hwrn : IntKind.i64.wrap ((groups.length : Int) - 1) = (groups.length : Int) - 1 := wr (by omega) (by omega)
      refine P1 T.ok rfl rfl rfl ?_; refine WL_nil ?_; (with_reducible refine T_then ?_); refine W_seq ?_; refine W_region ?_; (iterate 6 refine P1 T.ok rfl rfl rfl ?_)
      by_cases hla : k + 1 = groups.length
      · refine WL_know 63 (b := (k : Int) == IntKind.i64.wrap ((groups.length : Int) - 1)) (b' := true) (by rw [hwrn]; simp; omega) rfl ?_
        refine S1 allF rfl rfl ?_; refine S1 allF rfl rfl ?_; refine P1 T.ok rfl rfl rfl ?_; refine P1 T.ok rfl rfl rfl ?_; refine WL_nil ?_; (with_reducible refine T_then ?_); refine W_seq ?_; refine W_seq ?_; refine W_region ?_; refine P1 T.ok rfl rfl rfl ?_; refine WL_nil ?_; (with_reducible refine T_then ?_)
        refine W_yes rfl rfl ?_
        refine W_region ?_; refine P1 T.ok rfl rfl rfl ?_; refine P1 T.ok rfl rfl rfl ?_
        refine WL_o rfl rfl (OpR_ret cl14 allF rfl rfl rfl rfl rfl (pick_c cut 3 _ hcut (by decide)) ?_); rintro g1 _ hf1 rfl; replace hs := hs.call hf1; have hqe := hf1.le; replace le0 := G.le.trans le0 hqe; replace rs1 := rs1.mono hqe; replace rs2 := rs2.mono hqe; replace rs3 := rs3.mono hqe
        have hpk := pickM_range (c := cut) (n := 3) (by decide)
        obtain ⟨N, hN'⟩ : ∃ N : Nat, (1 : Int) + pickM cut 3 = (N : Int) := ⟨(1 + pickM cut 3).toNat, by omega⟩
        refine P1 T.ok rfl rfl rfl ?_
        refine WL_re (.int .i64 (N : Int)) (t := 71) rfl (congrArg (Value.int .i64) (by rw [wr (by omega) (by omega), hN'])) ?_
        have hcall := dcut_c hlive.off (N : Int) (by omega) hs.swap
        refine WL_o rfl rfl (OpR_st cl29 allF rfl rfl rfl rfl rfl hcall ?_)
        clear hs hcall
        rintro g5 _ hqe ⟨rfl, hs⟩; replace le0 := G.le.trans le0 hqe; replace rs1 := rs1.mono hqe; replace rs2 := rs2.mono hqe; replace rs3 := rs3.mono hqe
        replace hs := hs.swap
        replace hlive := hlive.cut (n := (N : Int)) (by omega) (by omega)
        have hDl : (D.cut (N : Int)).left ≠ 0 := by show (N : Int) ≠ 0; omega
        clear hl0
        generalize D.cut (N : Int) = D at *
        have hgo2 : ¬ (k + 1 < groups.length ∧ k + 1 < 8) := by omega
        refine WL_nil ?_; (with_reducible refine T_then ?_); refine W_seq ?_; refine W_region ?_; (iterate 3 refine P1 T.ok rfl rfl rfl ?_)
        refine WL_o rfl rfl (OpR_idx T.ok rfl rs1 (y := xs) hgi rfl rfl rfl rfl rfl rfl ?_)
        rintro b p ys hep ⟨vk, rfl, rsk'⟩
        have ep0 := hep
        refine WL_o rfl rfl (OpR_loadE T.ok 0 rfl ep0 rfl rfl ?_)
        have rs5 := rsk'
        refine WL_o rfl rfl (OpR_ret cl11 allF rfl rfl rfl rfl rfl (few_c _ xs _ rsk') ?_); rintro g1 vo hf1 hvo; obtain ⟨gz, hwz, hsz, hqz, rs6⟩ := hs.ownRs hf1 hvo; have hqe := hf1.le.trans hqz; rw [← hwz]; replace hs := hsz; clear hsz hvo; replace le0 := G.le.trans le0 hqe; replace ep0 := ep0.mono hqe; replace rs1 := rs1.mono hqe; replace rs2 := rs2.mono hqe; replace rs3 := rs3.mono hqe; replace rs5 := rs5.mono hqe
        skip
        have hcall := appendL_c hlive _ (fewM xs) (fewM_short xs) (Nat.le_trans (fewM_len xs) (by decide)) (hrk.mono le0) rs6 hs
        refine WL_o rfl rfl (OpR_st cl10 allF rfl rfl rfl rfl rfl hcall ?_)
        clear hs hcall
        rintro g9 _ hqe ⟨ra', rc', pa', pc', D', Y', br', e', rfl, hdl', hcase, hs⟩; replace le0 := G.le.trans le0 hqe; replace ep0 := ep0.mono hqe; replace rs1 := rs1.mono hqe; replace rs2 := rs2.mono hqe; replace rs3 := rs3.mono hqe; replace rs5 := rs5.mono hqe; replace rs6 := rs6.mono hqe
        dsimp only at hs
        rcases hcase with ⟨rfl, rfl, rfl, rfl⟩ | ⟨rfl, rfl, hYe, hlive', hl'⟩ | ⟨rfl, hlf, rfl, rfl, hdead⟩
        · refine P1 T.ok rfl rfl rfl ?_; refine WL_nil ?_; (with_reducible refine T_then ?_); refine W_seq ?_; refine W_region ?_; refine P1 T.ok rfl rfl rfl ?_; refine P1 T.ok rfl rfl rfl ?_; refine WL_nil ?_; (with_reducible refine T_then ?_)
          refine W_no rfl rfl ?_
          refine W_seq ?_; refine W_region ?_; refine P1 T.ok rfl rfl rfl ?_; refine P1 T.ok rfl rfl rfl ?_; refine WL_nil ?_; (with_reducible refine T_then ?_)
          refine W_yes rfl rfl ?_
          refine W_region ?_; refine P1 T.ok rfl rfl rfl ?_; refine P1 T.ok rfl rfl rfl ?_; refine WL_nil ?_; (with_reducible refine T_bn ?_); (with_reducible refine T_then ?_); refine W_region ?_; (iterate 3 refine P1 T.ok rfl rfl rfl ?_); refine WL_nil ?_
          exact fun a ha => ⟨8 - (k + 1), by omega, k + 1, g9, ra', pa', rc', pc', _, _, false, _, _, _, _, rfl, hs, le0, rs2, rs2, .inl ⟨rfl, rfl, hlive⟩, (by first | exact fun h => absurd h hgo2 | exact fun _ => ⟨rfl, hl0⟩), by omega, by omega, rfl, ha.keep ⟨rfl, rfl, rfl, rfl, rfl, rfl, rfl, rfl, rfl, kI rfl (by rw [wr (by omega) (by omega)]; omega), trivial⟩⟩
        · refine P1 T.ok rfl rfl rfl ?_; refine WL_nil ?_; (with_reducible refine T_then ?_); refine W_seq ?_; refine W_region ?_; refine P1 T.ok rfl rfl rfl ?_; refine P1 T.ok rfl rfl rfl ?_; refine WL_nil ?_; (with_reducible refine T_then ?_)
          refine W_yes rfl rfl ?_
          refine W_region ?_; refine P1 T.ok rfl rfl rfl ?_; refine P1 T.ok rfl rfl rfl ?_; refine WL_nil ?_; (with_reducible refine T_bn ?_); (with_reducible refine T_then ?_); refine W_region ?_; (iterate 3 refine P1 T.ok rfl rfl rfl ?_); refine WL_nil ?_
          exact fun a ha => ⟨8 - (k + 1), by omega, k + 1, g9, ra', pa', rc', pc', _, _, false, _, _, _, _, rfl, hs, le0, rs3, rs3, .inl ⟨rfl, rfl, hlive'⟩, (by first | exact fun h => absurd h hgo2 | exact fun _ => ⟨rfl, hl' hl0⟩), by omega, by omega, rfl, ha.keep ⟨rfl, rfl, rfl, rfl, rfl, rfl, rfl, rfl, rfl, kI rfl (by rw [wr (by omega) (by omega)]; omega), trivial⟩⟩
        · refine P1 T.ok rfl rfl rfl ?_; refine WL_nil ?_; (with_reducible refine T_then ?_); refine W_seq ?_; refine W_region ?_; refine P1 T.ok rfl rfl rfl ?_; refine P1 T.ok rfl rfl rfl ?_; refine WL_nil ?_; (with_reducible refine T_then ?_)
          refine W_no rfl rfl ?_
          refine W_seq ?_; refine W_region ?_; refine P1 T.ok rfl rfl rfl ?_; refine P1 T.ok rfl rfl rfl ?_; refine WL_nil ?_; (with_reducible refine T_then ?_)
          refine W_no rfl rfl ?_
          refine W_seq ?_; refine W_region ?_; refine P1 T.ok rfl rfl rfl ?_; refine P1 T.ok rfl rfl rfl ?_; refine WL_nil ?_; (with_reducible refine T_then ?_)
          refine W_no rfl rfl ?_
          refine W_skip ?_; (with_reducible refine T_bn ?_); (with_reducible refine T_then ?_); refine W_region ?_; (iterate 3 refine P1 T.ok rfl rfl rfl ?_); refine WL_nil ?_
          exact fun a ha => ⟨8 - (k + 1), by omega, k + 1, g9, ra', pa', rc', pc', _, _, true, _, _, _, _, rfl, hs, le0, rs2, rs3, .inr ⟨rfl, hdead⟩, (fun h => absurd h hgo2), by omega, by omega, rfl, ha.keep ⟨rfl, rfl, rfl, rfl, rfl, rfl, rfl, rfl, rfl, kI rfl (by rw [wr (by omega) (by omega)]; omega), trivial⟩⟩
      · refine WL_know 63 (b := (k : Int) == IntKind.i64.wrap ((groups.length : Int) - 1)) (b' := false) (by rw [hwrn]; simp; omega) rfl ?_
        (iterate 4 refine P1 T.ok rfl rfl rfl ?_); refine WL_nil ?_; (with_reducible refine T_then ?_); refine W_seq ?_; refine W_seq ?_; refine W_region ?_; refine P1 T.ok rfl rfl rfl ?_; refine WL_nil ?_; (with_reducible refine T_then ?_)
        by_cases h7 : k = 7
        · refine W_know 19 (b := (k : Int) == 7) (b' := true) (by simp; omega) rfl ?_
          refine W_yes (b := (k : Int) == 7) (by simp; omega) rfl ?_
          refine W_region ?_; refine P1 T.ok rfl rfl rfl ?_; refine P1 T.ok rfl rfl rfl ?_
          refine WL_o rfl rfl (OpR_ret cl14 allF rfl rfl rfl rfl rfl (pick_c cut 3 _ hcut (by decide)) ?_); rintro g1 _ hf1 rfl; replace hs := hs.call hf1; have hqe := hf1.le; replace le0 := G.le.trans le0 hqe; replace rs1 := rs1.mono hqe; replace rs2 := rs2.mono hqe; replace rs3 := rs3.mono hqe
          have hpk := pickM_range (c := cut) (n := 3) (by decide)
          obtain ⟨N, hN'⟩ : ∃ N : Nat, (1 : Int) + pickM cut 3 = (N : Int) := ⟨(1 + pickM cut 3).toNat, by omega⟩
          refine P1 T.ok rfl rfl rfl ?_
          refine WL_re (.int .i64 (N : Int)) (t := 71) rfl (congrArg (Value.int .i64) (by rw [wr (by omega) (by omega), hN'])) ?_
          have hcall := dcut_c hlive.off (N : Int) (by omega) hs.swap
          refine WL_o rfl rfl (OpR_st cl29 allF rfl rfl rfl rfl rfl hcall ?_)
          clear hs hcall
          rintro g5 _ hqe ⟨rfl, hs⟩; replace le0 := G.le.trans le0 hqe; replace rs1 := rs1.mono hqe; replace rs2 := rs2.mono hqe; replace rs3 := rs3.mono hqe
          replace hs := hs.swap
          replace hlive := hlive.cut (n := (N : Int)) (by omega) (by omega)
          have hDl : (D.cut (N : Int)).left ≠ 0 := by show (N : Int) ≠ 0; omega
          clear hl0
          generalize D.cut (N : Int) = D at *
          have hgo2 : ¬ (k + 1 < groups.length ∧ k + 1 < 8) := by omega
          refine WL_nil ?_; (with_reducible refine T_then ?_); refine W_seq ?_; refine W_region ?_; (iterate 3 refine P1 T.ok rfl rfl rfl ?_)
          refine WL_o rfl rfl (OpR_idx T.ok rfl rs1 (y := xs) hgi rfl rfl rfl rfl rfl rfl ?_)
          rintro b p ys hep ⟨vk, rfl, rsk'⟩
          have ep0 := hep
          refine WL_o rfl rfl (OpR_loadE T.ok 0 rfl ep0 rfl rfl ?_)
          have rs5 := rsk'
          refine WL_o rfl rfl (OpR_ret cl11 allF rfl rfl rfl rfl rfl (few_c _ xs _ rsk') ?_); rintro g1 vo hf1 hvo; obtain ⟨gz, hwz, hsz, hqz, rs6⟩ := hs.ownRs hf1 hvo; have hqe := hf1.le.trans hqz; rw [← hwz]; replace hs := hsz; clear hsz hvo; replace le0 := G.le.trans le0 hqe; replace ep0 := ep0.mono hqe; replace rs1 := rs1.mono hqe; replace rs2 := rs2.mono hqe; replace rs3 := rs3.mono hqe; replace rs5 := rs5.mono hqe
          skip
          have hcall := appendL_c hlive _ (fewM xs) (fewM_short xs) (Nat.le_trans (fewM_len xs) (by decide)) (hrk.mono le0) rs6 hs
          refine WL_o rfl rfl (OpR_st cl10 allF rfl rfl rfl rfl rfl hcall ?_)
          clear hs hcall
          rintro g9 _ hqe ⟨ra', rc', pa', pc', D', Y', br', e', rfl, hdl', hcase, hs⟩; replace le0 := G.le.trans le0 hqe; replace ep0 := ep0.mono hqe; replace rs1 := rs1.mono hqe; replace rs2 := rs2.mono hqe; replace rs3 := rs3.mono hqe; replace rs5 := rs5.mono hqe; replace rs6 := rs6.mono hqe
          dsimp only at hs
          rcases hcase with ⟨rfl, rfl, rfl, rfl⟩ | ⟨rfl, rfl, hYe, hlive', hl'⟩ | ⟨rfl, hlf, rfl, rfl, hdead⟩
          · refine P1 T.ok rfl rfl rfl ?_; refine WL_nil ?_; (with_reducible refine T_then ?_); refine W_seq ?_; refine W_region ?_; refine P1 T.ok rfl rfl rfl ?_; refine P1 T.ok rfl rfl rfl ?_; refine WL_nil ?_; (with_reducible refine T_then ?_)
            refine W_no rfl rfl ?_
            refine W_seq ?_; refine W_region ?_; refine P1 T.ok rfl rfl rfl ?_; refine P1 T.ok rfl rfl rfl ?_; refine WL_nil ?_; (with_reducible refine T_then ?_)
            refine W_yes rfl rfl ?_
            refine W_region ?_; refine P1 T.ok rfl rfl rfl ?_; refine P1 T.ok rfl rfl rfl ?_; refine WL_nil ?_; (with_reducible refine T_bn ?_); (with_reducible refine T_then ?_); refine W_region ?_; (iterate 3 refine P1 T.ok rfl rfl rfl ?_); refine WL_nil ?_
            exact fun a ha => ⟨8 - (k + 1), by omega, k + 1, g9, ra', pa', rc', pc', _, _, false, _, _, _, _, rfl, hs, le0, rs2, rs2, .inl ⟨rfl, rfl, hlive⟩, (by first | exact fun h => absurd h hgo2 | exact fun _ => ⟨rfl, hl0⟩), by omega, by omega, rfl, ha.keep ⟨rfl, rfl, rfl, rfl, rfl, rfl, rfl, rfl, rfl, kI rfl (by rw [wr (by omega) (by omega)]; omega), trivial⟩⟩
          · refine P1 T.ok rfl rfl rfl ?_; refine WL_nil ?_; (with_reducible refine T_then ?_); refine W_seq ?_; refine W_region ?_; refine P1 T.ok rfl rfl rfl ?_; refine P1 T.ok rfl rfl rfl ?_; refine WL_nil ?_; (with_reducible refine T_then ?_)
            refine W_yes rfl rfl ?_
            refine W_region ?_; refine P1 T.ok rfl rfl rfl ?_; refine P1 T.ok rfl rfl rfl ?_; refine WL_nil ?_; (with_reducible refine T_bn ?_); (with_reducible refine T_then ?_); refine W_region ?_; (iterate 3 refine P1 T.ok rfl rfl rfl ?_); refine WL_nil ?_
            exact fun a ha => ⟨8 - (k + 1), by omega, k + 1, g9, ra', pa', rc', pc', _, _, false, _, _, _, _, rfl, hs, le0, rs3, rs3, .inl ⟨rfl, rfl, hlive'⟩, (by first | exact fun h => absurd h hgo2 | exact fun _ => ⟨rfl, hl' hl0⟩), by omega, by omega, rfl, ha.keep ⟨rfl, rfl, rfl, rfl, rfl, rfl, rfl, rfl, rfl, kI rfl (by rw [wr (by omega) (by omega)]; omega), trivial⟩⟩
          · refine P1 T.ok rfl rfl rfl ?_; refine WL_nil ?_; (with_reducible refine T_then ?_); refine W_seq ?_; refine W_region ?_; refine P1 T.ok rfl rfl rfl ?_; refine P1 T.ok rfl rfl rfl ?_; refine WL_nil ?_; (with_reducible refine T_then ?_)
            refine W_no rfl rfl ?_
            refine W_seq ?_; refine W_region ?_; refine P1 T.ok rfl rfl rfl ?_; refine P1 T.ok rfl rfl rfl ?_; refine WL_nil ?_; (with_reducible refine T_then ?_)
            refine W_no rfl rfl ?_
            refine W_seq ?_; refine W_region ?_; refine P1 T.ok rfl rfl rfl ?_; refine P1 T.ok rfl rfl rfl ?_; refine WL_nil ?_; (with_reducible refine T_then ?_)
            refine W_no rfl rfl ?_
            refine W_skip ?_; (with_reducible refine T_bn ?_); (with_reducible refine T_then ?_); refine W_region ?_; (iterate 3 refine P1 T.ok rfl rfl rfl ?_); refine WL_nil ?_
            exact fun a ha => ⟨8 - (k + 1), by omega, k + 1, g9, ra', pa', rc', pc', _, _, true, _, _, _, _, rfl, hs, le0, rs2, rs3, .inr ⟨rfl, hdead⟩, (fun h => absurd h hgo2), by omega, by omega, rfl, ha.keep ⟨rfl, rfl, rfl, rfl, rfl, rfl, rfl, rfl, rfl, kI rfl (by rw [wr (by omega) (by omega)]; omega), trivial⟩⟩
        · refine W_know 19 (b := (k : Int) == 7) (b' := false) (by simp; omega) rfl ?_
          refine W_no (b := (k : Int) == 7) (by simp; omega) rfl ?_
          refine W_skip ?_; (with_reducible refine T_then ?_); refine W_seq ?_; refine W_region ?_; (iterate 3 refine P1 T.ok rfl rfl rfl ?_)
          refine WL_o rfl rfl (OpR_idx T.ok rfl rs1 (y := xs) hgi rfl rfl rfl rfl rfl rfl ?_)
          rintro b p ys hep ⟨vk, rfl, rsk'⟩
          have ep0 := hep
          refine WL_o rfl rfl (OpR_loadE T.ok 0 rfl ep0 rfl rfl ?_)
          have rs5 := rsk'
          refine WL_o rfl rfl (OpR_ret cl11 allF rfl rfl rfl rfl rfl (few_c _ xs _ rsk') ?_); rintro g1 vo hf1 hvo; obtain ⟨gz, hwz, hsz, hqz, rs6⟩ := hs.ownRs hf1 hvo; have hqe := hf1.le.trans hqz; rw [← hwz]; replace hs := hsz; clear hsz hvo; replace le0 := G.le.trans le0 hqe; replace ep0 := ep0.mono hqe; replace rs1 := rs1.mono hqe; replace rs2 := rs2.mono hqe; replace rs3 := rs3.mono hqe; replace rs5 := rs5.mono hqe
          skip
          have hcall := appendL_c hlive _ (fewM xs) (fewM_short xs) (Nat.le_trans (fewM_len xs) (by decide)) (hrk.mono le0) rs6 hs
          refine WL_o rfl rfl (OpR_st cl10 allF rfl rfl rfl rfl rfl hcall ?_)
          clear hs hcall
          rintro g9 _ hqe ⟨ra', rc', pa', pc', D', Y', br', e', rfl, hdl', hcase, hs⟩; replace le0 := G.le.trans le0 hqe; replace ep0 := ep0.mono hqe; replace rs1 := rs1.mono hqe; replace rs2 := rs2.mono hqe; replace rs3 := rs3.mono hqe; replace rs5 := rs5.mono hqe; replace rs6 := rs6.mono hqe
          dsimp only at hs
          rcases hcase with ⟨rfl, rfl, rfl, rfl⟩ | ⟨rfl, rfl, hYe, hlive', hl'⟩ | ⟨rfl, hlf, rfl, rfl, hdead⟩
          · refine P1 T.ok rfl rfl rfl ?_; refine WL_nil ?_; (with_reducible refine T_then ?_); refine W_seq ?_; refine W_region ?_; refine P1 T.ok rfl rfl rfl ?_; refine P1 T.ok rfl rfl rfl ?_; refine WL_nil ?_; (with_reducible refine T_then ?_)
            refine W_no rfl rfl ?_
            refine W_seq ?_; refine W_region ?_; refine P1 T.ok rfl rfl rfl ?_; refine P1 T.ok rfl rfl rfl ?_; refine WL_nil ?_; (with_reducible refine T_then ?_)
            refine W_yes rfl rfl ?_
            refine W_region ?_; refine P1 T.ok rfl rfl rfl ?_; refine P1 T.ok rfl rfl rfl ?_; refine WL_nil ?_; (with_reducible refine T_bn ?_); (with_reducible refine T_then ?_); refine W_region ?_; (iterate 3 refine P1 T.ok rfl rfl rfl ?_); refine WL_nil ?_
            exact fun a ha => ⟨8 - (k + 1), by omega, k + 1, g9, ra', pa', rc', pc', _, _, false, _, _, _, _, rfl, hs, le0, rs2, rs2, .inl ⟨rfl, rfl, hlive⟩, (by first | exact fun h => absurd h hgo2 | exact fun _ => ⟨rfl, hl0⟩), by omega, by omega, rfl, ha.keep ⟨rfl, rfl, rfl, rfl, rfl, rfl, rfl, rfl, rfl, kI rfl (by rw [wr (by omega) (by omega)]; omega), trivial⟩⟩
          · refine P1 T.ok rfl rfl rfl ?_; refine WL_nil ?_; (with_reducible refine T_then ?_); refine W_seq ?_; refine W_region ?_; refine P1 T.ok rfl rfl rfl ?_; refine P1 T.ok rfl rfl rfl ?_; refine WL_nil ?_; (with_reducible refine T_then ?_)
            refine W_yes rfl rfl ?_
            refine W_region ?_; refine P1 T.ok rfl rfl rfl ?_; refine P1 T.ok rfl rfl rfl ?_; refine WL_nil ?_; (with_reducible refine T_bn ?_); (with_reducible refine T_then ?_); refine W_region ?_; (iterate 3 refine P1 T.ok rfl rfl rfl ?_); refine WL_nil ?_
            exact fun a ha => ⟨8 - (k + 1), by omega, k + 1, g9, ra', pa', rc', pc', _, _, false, _, _, _, _, rfl, hs, le0, rs3, rs3, .inl ⟨rfl, rfl, hlive'⟩, (by first | exact fun h => absurd h hgo2 | exact fun _ => ⟨rfl, hl' hl0⟩), by omega, by omega, rfl, ha.keep ⟨rfl, rfl, rfl, rfl, rfl, rfl, rfl, rfl, rfl, kI rfl (by rw [wr (by omega) (by omega)]; omega), trivial⟩⟩
          · exact absurd hl0 hlf
    · refine W_no (b := decide ((k : Int) < 8)) (decide_eq_false (by omega)) rfl ?_
      have hmin : (if (20 : Int) < (keep.length : Int) then (20 : Int) else (keep.length : Int)) = ((min keep.length 20 : Nat) : Int) := by omega
      have hkc := rsk.cap_le
      have rs2 := rw1
      have rs3 := rw2
      have rs4 := (rsk.mono le0).cut (a := 0) (b := min keep.length 20) (Nat.zero_le _) (Nat.min_le_left _ _)
      refine W_exit ?_; (with_reducible refine T_tx ?_; with_reducible refine T_tx ?_); (with_reducible refine T_bx ?_); (with_reducible refine T_then ?_); refine W_seq ?_; refine W_region ?_; (iterate 5 refine P1 T.ok rfl rfl rfl ?_)
      refine WL_o rfl rfl (OpR_cut T.ok (a := 0) (b := min keep.length 20) rfl rfl rfl rfl rfl rfl ⟨_, congrArg some (congrArg (Value.int .i64) hmin)⟩ (Nat.zero_le _) (by omega) ?_)
      refine P1 T.ok rfl rfl rfl ?_
      generalize hkeep2 : (keep.take (min keep.length 20)).drop 0 = keep2 at *
      have hk2 : keep2.length ≤ 20 := by rw [← hkeep2]; simp; omega
      have hcall := crash_c hany.ok.1 hany.ok.2.1 _ keep2 torn (by omega) htorn rs4 hs.swap
      refine WL_o rfl rfl (OpR_st cl30 allF rfl rfl rfl rfl rfl hcall ?_)
      clear hs hcall
      rintro g5 _ hqe ⟨rfl, pa5, pc5, hs⟩; replace le0 := G.le.trans le0 hqe; replace rs1 := rs1.mono hqe; replace rs2 := rs2.mono hqe; replace rs3 := rs3.mono hqe; replace rs4 := rs4.mono hqe
      dsimp only at hs
      obtain ⟨hok2, hpe2, D2, r, hr, ho2, hlive2, _⟩ := hany.crash keep2 torn
      refine WL_nil ?_; (with_reducible refine T_then ?_); refine W_seq ?_; refine W_region ?_; refine P1 T.ok rfl rfl rfl ?_
      have hcall := jopenR_c hok2 hpe2 ho2 (hrk.mono le0) (hE.mono le0) hs
      refine WL_o rfl rfl (OpR_st cl25 allF rfl rfl rfl rfl rfl hcall ?_)
      clear hs hcall
      rintro g6 _ hqe ⟨pa6, pc6, B2, rfl, hs⟩; replace le0 := G.le.trans le0 hqe; replace rs1 := rs1.mono hqe; replace rs2 := rs2.mono hqe; replace rs3 := rs3.mono hqe; replace rs4 := rs4.mono hqe
      dsimp only at hs
      (iterate 5 refine P1 T.ok rfl rfl rfl ?_); refine WL_nil ?_; (with_reducible refine T_then ?_); refine W_seq ?_; refine W_region ?_; (iterate 7 refine P1 T.ok rfl rfl rfl ?_)
      refine WL_o rfl rfl (OpR_eqNilPtr T.ok (neg := true) rfl rfl rfl rfl rfl ?_)
      (iterate 3 refine P1 T.ok rfl rfl rfl ?_)
      have hrec := records_c hlive2.inv.tok hs
      rw [hlive2.inv.recs] at hrec
      refine WL_o rfl rfl (OpR_ret cl19 allF rfl rfl rfl rfl rfl (hrec) ?_); rintro g1 vo hf1 hvo; obtain ⟨gz, hwz, hsz, hqz, rs5⟩ := hs.ownRs hf1 hvo; have hqe := hf1.le.trans hqz; rw [← hwz]; replace hs := hsz; clear hsz hvo; replace le0 := G.le.trans le0 hqe; replace rs1 := rs1.mono hqe; replace rs2 := rs2.mono hqe; replace rs3 := rs3.mono hqe; replace rs4 := rs4.mono hqe
      clear hrec
      refine P1 T.ok rfl rfl rfl ?_
      refine WL_o rfl rfl (OpR_ret cl18 allF rfl rfl rfl rfl rfl (same_c _ _ _ _ _ rs5 rs2) ?_); rintro g1 _ hf1 ⟨bb, rfl, hbb⟩; replace hs := hs.call hf1; have hqe := hf1.le; replace le0 := G.le.trans le0 hqe; replace rs1 := rs1.mono hqe; replace rs2 := rs2.mono hqe; replace rs3 := rs3.mono hqe; replace rs4 := rs4.mono hqe; replace rs5 := rs5.mono hqe
      cases bb with
      | true =>
        refine P1 T.ok rfl rfl rfl ?_; (iterate 4 refine S1 allF rfl rfl ?_); (iterate 3 refine P1 T.ok rfl rfl rfl ?_); refine WL_nil ?_; (with_reducible refine T_then ?_)
        exact W_ret (ret1 rfl rfl (hs.ret rfl))
      | false =>
        rcases hr with rfl | rfl
        · exact absurd (hbb.2 rfl) (by decide)
        refine P1 T.ok rfl rfl rfl ?_; refine P1 T.ok rfl rfl rfl ?_
        have hrec := records_c hlive2.inv.tok hs
        rw [hlive2.inv.recs] at hrec
        refine WL_o rfl rfl (OpR_ret cl19 allF rfl rfl rfl rfl rfl (hrec) ?_); rintro g1 vo hf1 hvo; obtain ⟨gz, hwz, hsz, hqz, rs6⟩ := hs.ownRs hf1 hvo; have hqe := hf1.le.trans hqz; rw [← hwz]; replace hs := hsz; clear hsz hvo; replace le0 := G.le.trans le0 hqe; replace rs1 := rs1.mono hqe; replace rs2 := rs2.mono hqe; replace rs3 := rs3.mono hqe; replace rs4 := rs4.mono hqe; replace rs5 := rs5.mono hqe
        clear hrec
        refine P1 T.ok rfl rfl rfl ?_
        refine WL_o rfl rfl (OpR_ret cl18 allF rfl rfl rfl rfl rfl (same_c _ _ _ _ _ rs6 rs3) ?_); rintro g1 _ hf1 ⟨bc, rfl, hbc⟩; replace hs := hs.call hf1; have hqe := hf1.le; replace le0 := G.le.trans le0 hqe; replace rs1 := rs1.mono hqe; replace rs2 := rs2.mono hqe; replace rs3 := rs3.mono hqe; replace rs4 := rs4.mono hqe; replace rs5 := rs5.mono hqe; replace rs6 := rs6.mono hqe
        obtain rfl := hbc.2 rfl
        (iterate 3 refine P1 T.ok rfl rfl rfl ?_); refine WL_nil ?_; (with_reducible refine T_then ?_)
        exact W_ret (ret1 rfl rfl (hs.ret rfl))
  · refine WL_know 41 (b := decide ((k : Int) < (groups.length : Int))) (b' := false) (decide_eq_false (by omega)) rfl ?_
    refine S1 allF rfl rfl ?_; refine S1 allF rfl rfl ?_; refine P1 T.ok rfl rfl rfl ?_; refine WL_nil ?_; (with_reducible refine T_then ?_)
    refine W_no rfl rfl ?_
    have hmin : (if (20 : Int) < (keep.length : Int) then (20 : Int) else (keep.length : Int)) = ((min keep.length 20 : Nat) : Int) := by omega
    have hkc := rsk.cap_le
    have rs2 := rw1
    have rs3 := rw2
    have rs4 := (rsk.mono le0).cut (a := 0) (b := min keep.length 20) (Nat.zero_le _) (Nat.min_le_left _ _)
    refine W_exit ?_; (with_reducible refine T_tx ?_; with_reducible refine T_tx ?_); (with_reducible refine T_bx ?_); (with_reducible refine T_then ?_); refine W_seq ?_; refine W_region ?_; (iterate 5 refine P1 T.ok rfl rfl rfl ?_)
    refine WL_o rfl rfl (OpR_cut T.ok (a := 0) (b := min keep.length 20) rfl rfl rfl rfl rfl rfl ⟨_, congrArg some (congrArg (Value.int .i64) hmin)⟩ (Nat.zero_le _) (by omega) ?_)
    refine P1 T.ok rfl rfl rfl ?_
    generalize hkeep2 : (keep.take (min keep.length 20)).drop 0 = keep2 at *
    have hk2 : keep2.length ≤ 20 := by rw [← hkeep2]; simp; omega
    have hcall := crash_c hany.ok.1 hany.ok.2.1 _ keep2 torn (by omega) htorn rs4 hs.swap
    refine WL_o rfl rfl (OpR_st cl30 allF rfl rfl rfl rfl rfl hcall ?_)
    clear hs hcall
    rintro g5 _ hqe ⟨rfl, pa5, pc5, hs⟩; replace le0 := G.le.trans le0 hqe; replace rs1 := rs1.mono hqe; replace rs2 := rs2.mono hqe; replace rs3 := rs3.mono hqe; replace rs4 := rs4.mono hqe
    dsimp only at hs
    obtain ⟨hok2, hpe2, D2, r, hr, ho2, hlive2, _⟩ := hany.crash keep2 torn
    refine WL_nil ?_; (with_reducible refine T_then ?_); refine W_seq ?_; refine W_region ?_; refine P1 T.ok rfl rfl rfl ?_
    have hcall := jopenR_c hok2 hpe2 ho2 (hrk.mono le0) (hE.mono le0) hs
    refine WL_o rfl rfl (OpR_st cl25 allF rfl rfl rfl rfl rfl hcall ?_)
    clear hs hcall
    rintro g6 _ hqe ⟨pa6, pc6, B2, rfl, hs⟩; replace le0 := G.le.trans le0 hqe; replace rs1 := rs1.mono hqe; replace rs2 := rs2.mono hqe; replace rs3 := rs3.mono hqe; replace rs4 := rs4.mono hqe
    dsimp only at hs
    (iterate 5 refine P1 T.ok rfl rfl rfl ?_); refine WL_nil ?_; (with_reducible refine T_then ?_); refine W_seq ?_; refine W_region ?_; (iterate 7 refine P1 T.ok rfl rfl rfl ?_)
    refine WL_o rfl rfl (OpR_eqNilPtr T.ok (neg := true) rfl rfl rfl rfl rfl ?_)
    (iterate 3 refine P1 T.ok rfl rfl rfl ?_)
    have hrec := records_c hlive2.inv.tok hs
    rw [hlive2.inv.recs] at hrec
    refine WL_o rfl rfl (OpR_ret cl19 allF rfl rfl rfl rfl rfl (hrec) ?_); rintro g1 vo hf1 hvo; obtain ⟨gz, hwz, hsz, hqz, rs5⟩ := hs.ownRs hf1 hvo; have hqe := hf1.le.trans hqz; rw [← hwz]; replace hs := hsz; clear hsz hvo; replace le0 := G.le.trans le0 hqe; replace rs1 := rs1.mono hqe; replace rs2 := rs2.mono hqe; replace rs3 := rs3.mono hqe; replace rs4 := rs4.mono hqe
    clear hrec
    refine P1 T.ok rfl rfl rfl ?_
    refine WL_o rfl rfl (OpR_ret cl18 allF rfl rfl rfl rfl rfl (same_c _ _ _ _ _ rs5 rs2) ?_); rintro g1 _ hf1 ⟨bb, rfl, hbb⟩; replace hs := hs.call hf1; have hqe := hf1.le; replace le0 := G.le.trans le0 hqe; replace rs1 := rs1.mono hqe; replace rs2 := rs2.mono hqe; replace rs3 := rs3.mono hqe; replace rs4 := rs4.mono hqe; replace rs5 := rs5.mono hqe
    cases bb with
    | true =>
      refine P1 T.ok rfl rfl rfl ?_; (iterate 4 refine S1 allF rfl rfl ?_); (iterate 3 refine P1 T.ok rfl rfl rfl ?_); refine WL_nil ?_; (with_reducible refine T_then ?_)
      exact W_ret (ret1 rfl rfl (hs.ret rfl))
    | false =>
      rcases hr with rfl | rfl
      · exact absurd (hbb.2 rfl) (by decide)
      refine P1 T.ok rfl rfl rfl ?_; refine P1 T.ok rfl rfl rfl ?_
      have hrec := records_c hlive2.inv.tok hs
      rw [hlive2.inv.recs] at hrec
      refine WL_o rfl rfl (OpR_ret cl19 allF rfl rfl rfl rfl rfl (hrec) ?_); rintro g1 vo hf1 hvo; obtain ⟨gz, hwz, hsz, hqz, rs6⟩ := hs.ownRs hf1 hvo; have hqe := hf1.le.trans hqz; rw [← hwz]; replace hs := hsz; clear hsz hvo; replace le0 := G.le.trans le0 hqe; replace rs1 := rs1.mono hqe; replace rs2 := rs2.mono hqe; replace rs3 := rs3.mono hqe; replace rs4 := rs4.mono hqe; replace rs5 := rs5.mono hqe
      clear hrec
      refine P1 T.ok rfl rfl rfl ?_
      refine WL_o rfl rfl (OpR_ret cl18 allF rfl rfl rfl rfl rfl (same_c _ _ _ _ _ rs6 rs3) ?_); rintro g1 _ hf1 ⟨bc, rfl, hbc⟩; replace hs := hs.call hf1; have hqe := hf1.le; replace le0 := G.le.trans le0 hqe; replace rs1 := rs1.mono hqe; replace rs2 := rs2.mono hqe; replace rs3 := rs3.mono hqe; replace rs4 := rs4.mono hqe; replace rs5 := rs5.mono hqe; replace rs6 := rs6.mono hqe
      obtain rfl := hbc.2 rfl
      (iterate 3 refine P1 T.ok rfl rfl rfl ?_); refine WL_nil ?_; (with_reducible refine T_then ?_)
      exact W_ret (ret1 rfl rfl (hs.ret rfl))





end Go.Proofs.YteohjgndanlldaaGreatDoor
