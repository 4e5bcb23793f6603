/- The walk through JournalRoom. -/
import Derived.Test.YteohjgndanlldaaDoorWg

namespace Go.Proofs.YteohjgndanlldaaDoor
open Go Go.K
set_option maxRecDepth 10000
attribute [local irreducible] W WL OpR bitAnd bitOr bitXor bitClr bitNot shlI shrI
set_option maxHeartbeats 4000000

theorem append_nil (v : Value) (g : G) : CallsIn Wd 0 Tryd.prog 11 #[.pointer none, v] g.w (Ret g fun _ r => r = .int .i64 1) := by
  have le0 := G.le.refl g
  refine enter Tryd.func11 rfl Tryd.ntmps11 rfl ?_
  refine W_seq ?_; refine W_region ?_; refine P1 T.ok rfl rfl rfl ?_; refine WL_nil ?_; (with_reducible refine T_then ?_); refine W_seq ?_; refine W_seq ?_; refine W_region ?_; refine P1 T.ok rfl rfl rfl ?_
  refine WL_o rfl rfl (OpR_eqNilPtr T.ok (neg := false) rfl rfl rfl rfl rfl ?_)
  refine WL_nil ?_
  (with_reducible refine T_then ?_)
  refine W_yes rfl rfl ?_
  refine W_seq ?_; refine W_region ?_; refine P1 T.ok rfl rfl rfl ?_; refine WL_nil ?_; (with_reducible refine T_then ?_)
  exact W_ret (ret1 rfl rfl (Ret.same rfl))

theorem app_long {Y : TapeM} {D : DiskM} {l : List (List UInt8)} {r : List UInt8} (hr : r ∈ l) (hl : 65536 < r.length) : appM false Y D l = (false, Y, D, 250) := by
  unfold appM
  rw [if_pos (.inr (List.any_eq_true.2 ⟨r, hr, decide_eq_true hl⟩))]
theorem app_none {Y : TapeM} {D : DiskM} (h : Y.size ≤ D.dur.length) : appM false Y D [] = (false, Y, D, 0) := by
  unfold appM
  rw [if_neg (by simp), if_neg (by simp [wireM]; omega)]
  exact if_pos rfl
theorem app_broken (Y : TapeM) (D : DiskM) (l : List (List UInt8)) : appM true Y D l = (true, Y, D, 250) := by
  unfold appM
  rw [if_pos (.inl rfl)]
theorem wl1 (Y : TapeM) : (wireM Y [[120]]).length = 35 := by
  rw [wireM_length]
  show 33 + (putIntM ((1 : Nat) : Int)).length + 1 + 0 = 35
  rw [plen 1 1 (by decide) rfl]
theorem app_off {Y : TapeM} {D : DiskM} (ho : D.off = true) (h : ¬ ((D.dur.length : Int) - Y.size < 35)) : appM false Y D [[120]] = (true, Y, D, 241) := by
  have hw := wl1 Y
  have hs : storeM D Y.size (wireM Y [[120]]) = (D, 241) := by simp [storeM, storeFs, runM, DiskM.wr, ho]
  unfold appM
  rw [if_neg (by simp), hw, if_neg (by omega), if_neg (fun h0 => by rw [h0] at hw; simp at hw), hs]
  exact if_neg (by show ¬ (241 : Int) = 0; decide)
theorem app_off_full {Y : TapeM} {D : DiskM} (h : (D.dur.length : Int) - Y.size < 35) : appM false Y D [[120]] = (false, Y, D, 251) := by
  have hw := wl1 Y
  unfold appM
  rw [if_neg (by simp), hw, if_pos (by omega)]




theorem room_law_c {e : Addr} (n : Int) (v : Value) (xs0 : List Str) (more : Int) (g : G) (hrk : RoundAt g) (hE : ErrAt e g) (hn : I64 n) (rsv : Rs g v xs0) (hmore : I64 more) :
    CallsIn Wd 0 Tryd.prog 3 #[.int .i64 n, v, .int .i64 more] g.w (Ret g fun _ r => r = .bool true) := by
  have hs := St.start g
  have le0 := G.le.refl g
  refine enter Tryd.func3 rfl Tryd.ntmps3 rfl ?_
  refine W_seq ?_; refine W_region ?_; refine P1 T.ok rfl rfl rfl ?_; refine WL_nil ?_; (with_reducible refine T_then ?_); refine W_seq ?_; refine W_region ?_
  refine WL_o rfl rfl (OpR_ret cl5 allF rfl rfl rfl rfl rfl (sane_c _ hrk hE) ?_); rintro g1 _ hf1 rfl; replace hs := hs.call hf1; have hqe := hf1.le; replace le0 := G.le.trans le0 hqe
  refine P1 T.ok rfl rfl rfl ?_; refine WL_nil ?_; (with_reducible refine T_then ?_); refine W_seq ?_; refine W_region ?_; refine P1 T.ok rfl rfl rfl ?_
  refine WL_o rfl rfl (OpR_ret cl7 allF rfl rfl rfl rfl rfl (size_c n _ hn) ?_); rintro g1 _ hf1 rfl; replace hs := hs.call hf1; have hqe := hf1.le; replace le0 := G.le.trans le0 hqe
  have hsz := sizeM_range n
  generalize hZ : sizeM n = Z at *
  skip
  refine WL_o rfl rfl (OpR_st cl6 allF rfl rfl rfl rfl rfl (dnew_c (n := Z) hsz.1 (by omega) hs) ?_)
  clear hs
  rintro g1 _ hqe ⟨A, rfl, hs⟩; replace le0 := G.le.trans le0 hqe
  (iterate 5 refine P1 T.ok rfl rfl rfl ?_); refine WL_nil ?_; (with_reducible refine T_then ?_); refine W_seq ?_; refine W_region ?_; refine P1 T.ok rfl rfl rfl ?_
  have hJ := JInv.new (n := Z) hsz.1 (by omega)
  have hd := DOn.new Z
  have hN : (DiskM.new Z).dur.length = Z := by simp [DiskM.new]
  refine WL_o rfl rfl (OpR_st cl8 allF rfl rfl rfl rfl rfl (jopenJ_c hJ rfl (Nat.zero_le _) (hrk.mono le0) (hE.mono le0) hs) ?_)
  clear hs
  rintro g2 _ hqe ⟨pa, pc, B, rfl, hs⟩; replace le0 := G.le.trans le0 hqe
  (iterate 5 refine P1 T.ok rfl rfl rfl ?_); refine WL_nil ?_; (with_reducible refine T_then ?_); refine W_seq ?_; refine W_seq ?_; refine W_region ?_; refine P1 T.ok rfl rfl rfl ?_; refine P1 T.ok rfl rfl rfl ?_; refine WL_nil ?_; (with_reducible refine T_then ?_)
  refine W_no rfl rfl ?_
  refine W_skip ?_; (with_reducible refine T_then ?_); refine W_seq ?_; refine W_region ?_; refine P1 T.ok rfl rfl rfl ?_
  refine WL_o rfl rfl (OpR_ret cl9 allF rfl rfl rfl rfl rfl (few_c _ xs0 _ (rsv.mono le0)) ?_); rintro g1 vo hf1 hvo; obtain ⟨gz, hwz, hsz, hqz, rs0⟩ := hs.ownRs hf1 hvo; have hqe := hf1.le.trans hqz; rw [← hwz]; replace hs := hsz; clear hsz hvo; replace le0 := G.le.trans le0 hqe
  have hfs := fewM_short xs0
  have hfl := fewM_len xs0
  generalize fewM xs0 = xs at *
  obtain ⟨a, c, rfl⟩ := rs0.isSlice
  refine P1 T.ok rfl rfl rfl ?_; refine WL_nil ?_; (with_reducible refine T_then ?_); refine W_seq ?_; refine W_region ?_; refine P1 T.ok rfl rfl rfl ?_; refine WL_nil ?_; (with_reducible refine T_then ?_); refine W_seq ?_; refine W_seq ?_; refine W_region ?_; refine P1 T.ok rfl rfl rfl ?_; refine WL_nil ?_; (with_reducible refine T_then ?_); refine W_block ?_
  have rs00 := rs0
  refine W_loop (fun m a' w => ∃ (k : Nat) (g2 : G), w = g2.w ∧ St g g2 (jnL B ⟨A.b, A.bd, A.bv, pa, pc⟩ false tape0 ++ (dkL ⟨A.b, A.bd, A.bv, pa, pc⟩ (DiskM.new Z) ++ [])) ∧ G.le g g2 ∧ Rs g2 (.slice a xs.length c) xs ∧ k ≤ xs.length ∧ m = xs.length - k ∧
      Fr 185 [] [(0, .int .i64 n), (1, .slice a xs.length c), (2, .int .i64 more), (7, .bool true), (8, .pointer (some ⟨A.b, 0, none⟩)), (10, .pointer (some ⟨B.b, 0, none⟩)), (12, .int .i64 ((wireM tape0 ((xs.take k).map Str.s)).length : Int)), (13, .int .i64 k)] a') xs.length
    (fun a' ha => ⟨0, _, rfl, hs, le0, rs0, Nat.zero_le _, rfl, ha.keep (by (repeat (first | exact trivial | refine ⟨rfl, ?_⟩)))⟩) ?_
  clear hs le0 rs0 rs00
  rintro m a' _ ⟨k, g2, rfl, hs, le0, rs0, hk, rfl, ha'⟩
  have hwl := wireM_len (rs := (xs.take k).map Str.s) (fun r hr => hfs r (List.mem_of_mem_take (by rw [← List.map_take]; exact hr))) tape0
  rw [List.length_map, List.length_take] at hwl
  revert a'
  (with_reducible refine T_wp ?_); refine W_seq ?_; refine W_seq ?_; refine W_region ?_; (iterate 4 refine P1 T.ok rfl rfl rfl ?_); refine WL_nil ?_; (with_reducible refine T_then ?_)
  by_cases hlt : k < xs.length
  · refine W_yes (b := decide ((k : Int) < (xs.length : Int))) (decide_eq_true (by omega)) rfl ?_
    refine W_skip ?_; (with_reducible refine T_then ?_); refine W_seq ?_; refine W_block ?_; refine W_seq ?_; refine W_region ?_; refine P1 T.ok rfl rfl rfl ?_; refine P1 T.ok rfl rfl rfl ?_
    refine WL_o rfl rfl (OpR_idx T.ok rfl rs0 (y := xs[k]) (geti_of rfl hlt) rfl rfl rfl rfl rfl rfl ?_)
    intro b p ys hep hrc
    obtain rfl : ys = [.string (bs (xs[k]).s)] := hrc
    have hsx : (xs[k]).s.length ≤ 65536 := hfs _ (List.mem_map_of_mem (List.getElem_mem hlt))
    have htk : (xs.take (k + 1)).map Str.s = (xs.take k).map Str.s ++ [xs[k].s] := by
      rw [List.take_add_one, List.getElem?_eq_getElem hlt, List.map_append]; rfl
    generalize xs[k] = x at *
    have ep0 := hep
    refine WL_o rfl rfl (OpR_loadE T.ok 0 rfl ep0 rfl rfl ?_)
    refine WL_o rfl rfl (OpR_ret cl10 allF rfl rfl rfl rfl rfl (rputStr_c x.s hsx _) ?_); rintro g1 _ hf1 rfl; replace hs := hs.call hf1; have hqe := hf1.le; replace le0 := G.le.trans le0 hqe; replace ep0 := ep0.mono hqe; replace rs0 := rs0.mono hqe
    have hpl := putIntM_len (x.s.length : Int)
    have hnext : (wireM tape0 ((xs.take (k + 1)).map Str.s)).length = (wireM tape0 ((xs.take k).map Str.s)).length + 33 + (putIntM (x.s.length : Int) ++ x.s).length := by
      rw [htk, wireM_snoc, List.length_append, outM_length, List.length_append]; omega
    have hout : (putIntM (x.s.length : Int) ++ x.s).length ≤ 65546 := by rw [List.length_append]; omega
    generalize putIntM (x.s.length : Int) ++ x.s = out at *
    generalize hwn : (wireM tape0 ((xs.take k).map Str.s)).length = wn at *
    (iterate 5 refine P1 T.ok rfl rfl rfl ?_); refine WL_nil ?_; (with_reducible refine T_then ?_); refine W_region ?_; (iterate 6 refine P1 T.ok rfl rfl rfl ?_); refine WL_nil ?_; (with_reducible refine T_bn ?_); (with_reducible refine T_then ?_); refine W_region ?_; (iterate 3 refine P1 T.ok rfl rfl rfl ?_); refine WL_nil ?_
    exact fun a ha => ⟨xs.length - (k + 1), by omega, k + 1, g1, rfl, hs, le0, rs0, by omega, rfl, ha.keep ⟨rfl, rfl, rfl, rfl, rfl, rfl, kI rfl (by rw [hnext, bs_size, wr (n := (wn : Int) + 33) (by omega) (by omega), wr (by omega) (by omega)]; omega), kI rfl (by rw [wr (by omega) (by omega)]; omega), trivial⟩⟩
  · refine W_no (b := decide ((k : Int) < (xs.length : Int))) (decide_eq_false (by omega)) rfl ?_
    obtain rfl : k = xs.length := by omega
    rw [List.take_length]
    refine W_exit ?_; (with_reducible refine T_tx ?_; with_reducible refine T_tx ?_); (with_reducible refine T_bx ?_); (with_reducible refine T_then ?_); refine W_seq ?_; refine W_region ?_; refine P1 T.ok rfl rfl rfl ?_; refine P1 T.ok rfl rfl rfl ?_
    have hcall := appendJ_c hJ hd _ xs hfs (Nat.le_trans hfl (by decide)) (hrk.mono le0) rs0 hs
    refine WL_o rfl rfl (OpR_st cl11 allF rfl rfl rfl rfl rfl hcall ?_)
    clear hs hcall
    rintro g9 _ hqe ⟨ra, rc, pa1, pc1, D, Y, rs, e', rfl, hJ1, hd1, hs, hcase⟩; replace le0 := G.le.trans le0 hqe; replace rs0 := rs0.mono hqe
    have hwl := wireM_len hfs tape0
    rw [List.length_map] at hwl
    rw [hN, show tape0.size = 0 from rfl] at hcase
    have hN1 := hd1.len.trans hN
    replace hs : St g g9 (jnL ⟨B.b, ra, rc⟩ ⟨A.b, A.bd, A.bv, pa1, pc1⟩ false Y ++ (dkL ⟨A.b, A.bd, A.bv, pa1, pc1⟩ D ++ [])) := hs
    refine P1 T.ok rfl rfl rfl ?_; refine WL_nil ?_; (with_reducible refine T_then ?_); refine W_seq ?_; refine W_region ?_; refine P1 T.ok rfl rfl rfl ?_; refine P1 T.ok rfl rfl rfl ?_
    refine WL_o rfl rfl (OpR_ret cl7 allF rfl rfl rfl rfl rfl (size_c n _ hn) ?_); rintro g1 _ hf1 rfl; replace hs := hs.call hf1; have hqe := hf1.le; replace le0 := G.le.trans le0 hqe; replace rs0 := rs0.mono hqe
    rw [hZ]
    have hJ2 := hJ1
    have hd2 := hd1.self
    clear hJ hd hd1 hJ1
    have hYd := hJ2.le
    rw [hJ2.ok.len, hN1] at hYd
    rcases hcase with ⟨hfull, rfl, hY1, hr1, hD1⟩ | ⟨hfit, rfl, hY1, hr1⟩
    · have hYs : Y.size = 0 := by rw [hY1]; rfl
      generalize (wireM tape0 (xs.map Str.s)).length = need at *
      refine P1 T.ok rfl rfl rfl ?_; refine P1 T.ok rfl rfl rfl ?_; refine WL_nil ?_; (with_reducible refine T_then ?_); refine W_seq ?_; refine W_seq ?_; refine W_region ?_; (iterate 3 refine P1 T.ok rfl rfl rfl ?_)
      rw [show decide ((need : Int) ≤ (Z : Int)) = false from decide_eq_false (by omega)]
      refine WL_o rfl rfl (OpR_eqB T.ok (neg := true) rfl rfl rfl rfl rfl ?_)
      (iterate 11 refine P1 T.ok rfl rfl rfl ?_); (iterate 7 refine S1 allF rfl rfl ?_); (iterate 7 refine P1 T.ok rfl rfl rfl ?_)
      have hcall := room_c hJ2.ok hJ2.tok hs
      refine WL_o rfl rfl (OpR_ret cl12 allF rfl rfl rfl rfl rfl (hcall) ?_); rintro g1 _ hf1 rfl; replace hs := hs.call hf1; have hqe := hf1.le; replace le0 := G.le.trans le0 hqe; replace rs0 := rs0.mono hqe
      clear hcall
      rw [hN1, hYs, show ((Z : Int) - ((0 : Nat) : Int)) = (Z : Int) from by omega]
      refine P1 T.ok rfl rfl rfl ?_
      refine WL_o rfl rfl (OpR_ret cl7 allF rfl rfl rfl rfl rfl (size_c n _ hn) ?_); rintro g1 _ hf1 rfl; replace hs := hs.call hf1; have hqe := hf1.le; replace le0 := G.le.trans le0 hqe; replace rs0 := rs0.mono hqe
      rw [hZ]
      (iterate 3 refine P1 T.ok rfl rfl rfl ?_); refine WL_nil ?_; (with_reducible refine T_then ?_)
      refine W_no (b := (Z : Int) != (Z : Int)) (by simp) rfl ?_
      refine W_skip ?_; (with_reducible refine T_then ?_); refine W_seq ?_; refine W_region ?_; refine P1 T.ok rfl rfl rfl ?_
      have hrec := records_c hJ2.tok hs
      refine WL_o rfl rfl (OpR_ret cl13 allF rfl rfl rfl rfl rfl (hrec) ?_); rintro g1 vo hf1 hvo; obtain ⟨gz, hwz, hsz, hqz, rs1⟩ := hs.ownRs hf1 hvo; have hqe := hf1.le.trans hqz; rw [← hwz]; replace hs := hsz; clear hsz hvo; replace le0 := G.le.trans le0 hqe; replace rs0 := rs0.mono hqe
      clear hrec
      have hnr := hJ2.nrec
      have hrr := hJ2.recs
      rw [hN1] at hnr
      refine P1 T.ok rfl rfl rfl ?_; refine WL_nil ?_; (with_reducible refine T_then ?_); refine W_seq ?_; refine W_region ?_; refine P1 T.ok rfl rfl rfl ?_
      refine WL_o rfl rfl (OpR_lit T.ok rfl hs (vs := []) (cells := []) rfl rfl rfl rfl rfl rfl (by decide) (by decide) (by kernel_rfl) rfl ?_)
      clear hs
      rintro bl gl hs hqe; replace le0 := G.le.trans le0 hqe; replace rs0 := rs0.mono hqe; replace rs1 := rs1.mono hqe
      refine P1 T.ok rfl rfl rfl ?_
      obtain ⟨_, news, hnw, hsrc⟩ := Src.of_rs rs0
      refine WL_o rfl rfl (OpR_append T.ok 0 rfl hs rfl rfl rfl rfl rfl rfl rfl (by decide) rfl hsrc hnw.one (by show (0 + xs.length) * 16 ≤ _; omega) (by unfold maxLen; omega) ?_)
      clear hs hsrc
      rintro a3 c3 g3 hs hqe; replace le0 := G.le.trans le0 hqe; replace rs0 := rs0.mono hqe; replace rs1 := rs1.mono hqe
      obtain rfl := RcL.strs_inv (l := xs.map Str.s) (by rw [List.map_map, show (Str.mk ∘ Str.s) = id from rfl, List.map_id]; exact hnw)
      clear hnw
      refine P1 T.ok rfl rfl rfl ?_
      refine WL_o rfl rfl (OpR_ret cl14 allF rfl rfl rfl rfl rfl (pick_c more 100 _ hmore (by decide)) ?_); rintro g1 _ hf1 rfl; replace hs := hs.call hf1; have hqe := hf1.le; replace le0 := G.le.trans le0 hqe; replace rs0 := rs0.mono hqe; replace rs1 := rs1.mono hqe
      have hpk := pickM_range (c := more) (n := 100) (by decide)
      obtain ⟨N, hN'⟩ : ∃ N : Nat, (65537 : Int) + pickM more 100 = (N : Int) := ⟨(65537 + pickM more 100).toNat, by omega⟩
      refine P1 T.ok rfl rfl rfl ?_
      refine WL_re (.int .i64 (N : Int)) (t := 111) rfl (congrArg (Value.int .i64) (by rw [wr (by omega) (by omega), hN'])) ?_
      refine WL_o rfl rfl (OpR_makeX T.ok rfl hs rfl rfl rfl rfl rfl rfl (by decide) rfl (by show 1 * N ≤ _; omega) (by unfold maxLen; omega) (zeros_flat N) ?_)
      clear hs
      rintro bz g1 hs hqe; replace le0 := G.le.trans le0 hqe; replace rs0 := rs0.mono hqe; replace rs1 := rs1.mono hqe
      obtain ⟨gz, hwz, hsz2, hqz, hrl⟩ := hs.fzRow (α := UInt8) (xs := List.replicate N 0) (i := 0) rfl (RcL.bytes _ _)
      have hqe := hqz; rw [← hwz]; replace hs := hsz2; clear hsz2 hqz; replace le0 := G.le.trans le0 hqe; replace rs0 := rs0.mono hqe; replace rs1 := rs1.mono hqe
      skip
      obtain ⟨_, news, hnw, hsrc⟩ := Src.of_rs hrl
      obtain rfl := RcL.bytes_inv hnw
      refine WL_o rfl rfl (OpR_bytesStr T.ok (ns := List.replicate N 0) rfl rfl rfl rfl rfl rfl rfl rfl (by
        have h := hsrc
        rw [show byteV (List.replicate N 0) = (List.replicate N (0 : Int)).map (Value.int .u8) from by simp [byteV]] at h
        exact h) ?_)
      rw [show (List.replicate N (0 : Int)).map (fun m => UInt8.ofNat m.toNat) = List.replicate N 0 from by simp]
      clear hrl hnw hsrc
      generalize hzs : (List.replicate N 0 : List UInt8) = zs
      have hzl : zs.length = N := by rw [← hzs, List.length_replicate]
      skip
      refine WL_o rfl rfl (OpR_lit T.ok rfl hs (vs := [(0, .string (bs zs))]) (cells := [.string (bs zs)]) rfl rfl rfl rfl rfl rfl (by decide) (by decide) (by kernel_rfl) rfl ?_)
      clear hs
      rintro bl2 gl2 hs hqe; replace le0 := G.le.trans le0 hqe; replace rs0 := rs0.mono hqe; replace rs1 := rs1.mono hqe
      obtain ⟨gz, hwz, hsz2, hqz, hrl⟩ := hs.fzRow (α := Str) (xs := [⟨zs⟩]) (i := 0) rfl (RcL.strs _ [zs])
      have hqe := hqz; rw [← hwz]; replace hs := hsz2; clear hsz2 hqz; replace le0 := G.le.trans le0 hqe; replace rs0 := rs0.mono hqe; replace rs1 := rs1.mono hqe
      skip
      obtain ⟨_, news, hnw, hsrc⟩ := Src.of_rs hrl
      obtain rfl := RcL.strs_inv (l := [zs]) hnw
      refine WL_o rfl rfl (OpR_append T.ok 0 rfl hs rfl rfl rfl rfl rfl rfl rfl (by decide) rfl hsrc hnw.one (by show (0 + xs.length + 1) * 16 ≤ _; omega) (by unfold maxLen; show 0 + xs.length + 1 ≤ _; omega) ?_)
      clear hs hsrc hnw hrl
      rintro a4 c4 g4 hs hqe; replace le0 := G.le.trans le0 hqe; replace rs0 := rs0.mono hqe; replace rs1 := rs1.mono hqe
      obtain ⟨gz, hwz, hsz2, hqz, hrl⟩ := hs.fzRow (α := Str) (xs := xs ++ [⟨zs⟩]) (i := 0) rfl (by
        have h := RcL.strs g4 (xs.map Str.s ++ [zs])
        rw [List.map_append, List.map_map, show (Str.mk ∘ Str.s) = id from rfl, List.map_id] at h
        rw [show strL (xs.map Str.s ++ [zs]) = [] ++ strL (xs.map Str.s) ++ strL [zs] from by simp [strL]] at h
        exact h)
      have hqe := hqz; rw [← hwz]; replace hs := hsz2; clear hsz2 hqz; replace le0 := G.le.trans le0 hqe; replace rs0 := rs0.mono hqe; replace rs1 := rs1.mono hqe
      skip
      replace hs : St g gz (jnL ⟨B.b, ra, rc⟩ ⟨A.b, A.bd, A.bv, pa1, pc1⟩ false Y ++ (dkL ⟨A.b, A.bd, A.bv, pa1, pc1⟩ D ++ [])) := hs
      have hcall := append_c hJ2.ok (by rw [hd2.pend]; decide) hJ2.tok _ (xs ++ [⟨zs⟩]) (by rw [List.length_append]; show _ + (_ + 1) ≤ _; rw [hrr]; omega) (by rw [List.length_append]; show _ + 65600 * (_ + 1) ≤ _; omega) (hrk.mono le0) hrl hs
      refine WL_o rfl rfl (OpR_st cl11 allF rfl rfl rfl rfl rfl hcall ?_)
      clear hs hcall
      rintro g9 rr hqe hpost; replace le0 := G.le.trans le0 hqe; replace rs0 := rs0.mono hqe; replace rs1 := rs1.mono hqe
      unfold appPost at hpost
      try simp only [List.map_cons, List.map_nil] at hpost
      rw [(app_long (r := zs) (by simp) (by omega))] at hpost
      obtain ⟨rfl, _, _, _, ra, rc, pa1, pc1, hs⟩ := hpost
      dsimp only at hs
      refine P1 T.ok rfl rfl rfl ?_; refine WL_nil ?_; (with_reducible refine T_then ?_); refine W_seq ?_; refine W_region ?_; refine P1 T.ok rfl rfl rfl ?_
      clear hrl
      have hcall := append_c hJ2.ok (by rw [hd2.pend]; decide) hJ2.tok _ [] (by rw [hrr]; simp; omega) (by simp; omega) (hrk.mono le0) (Rs.nil _) hs
      refine WL_o rfl rfl (OpR_st cl11 allF rfl rfl rfl rfl rfl hcall ?_)
      clear hs hcall
      rintro g9 rr hqe hpost; replace le0 := G.le.trans le0 hqe; replace rs0 := rs0.mono hqe; replace rs1 := rs1.mono hqe
      unfold appPost at hpost
      try simp only [List.map_cons, List.map_nil] at hpost
      rw [(app_none (by rw [hN1]; exact hYd))] at hpost
      obtain ⟨rfl, _, _, _, ra, rc, pa1, pc1, hs⟩ := hpost
      dsimp only at hs
      refine P1 T.ok rfl rfl rfl ?_; refine WL_nil ?_; (with_reducible refine T_then ?_); refine W_seq ?_; refine W_region ?_; refine P1 T.ok rfl rfl rfl ?_
      have hcall := dcut_c hd2.off 0 (by decide) hs.swap
      refine WL_o rfl rfl (OpR_st cl15 allF rfl rfl rfl rfl rfl hcall ?_)
      clear hs hcall
      rintro g5 _ hqe ⟨rfl, hs⟩; replace le0 := G.le.trans le0 hqe; replace rs0 := rs0.mono hqe; replace rs1 := rs1.mono hqe
      replace hs := hs.swap
      have hok3 := (hJ2.cut 0).ok
      have hp3 : (D.cut 0).pend = [] := hd2.pend
      have ho3 : (D.cut 0).off = true := rfl
      have hN3 : (D.cut 0).dur.length = Z := hN1
      rw [← hrr] at hnr
      generalize D.cut 0 = D3 at *
      refine WL_nil ?_; (with_reducible refine T_then ?_); refine W_seq ?_; refine W_region ?_; refine P1 T.ok rfl rfl rfl ?_
      refine WL_o rfl rfl (OpR_lit T.ok rfl hs (vs := [(0, .string (bs [120]))]) (cells := [.string (bs [120])]) rfl rfl rfl rfl rfl rfl (by decide) (by decide) (by kernel_rfl) rfl ?_)
      clear hs
      rintro bl3 gl3 hs hqe; replace le0 := G.le.trans le0 hqe; replace rs0 := rs0.mono hqe; replace rs1 := rs1.mono hqe
      obtain ⟨gz, hwz, hsz2, hqz, hrl⟩ := hs.fzRow (α := Str) (xs := [⟨[120]⟩]) (i := 0) rfl (RcL.strs _ [[120]])
      have hqe := hqz; rw [← hwz]; replace hs := hsz2; clear hsz2 hqz; replace le0 := G.le.trans le0 hqe; replace rs0 := rs0.mono hqe; replace rs1 := rs1.mono hqe
      skip
      replace hs : St g gz (jnL ⟨B.b, ra, rc⟩ ⟨A.b, A.bd, A.bv, pa1, pc1⟩ false Y ++ (dkL ⟨A.b, A.bd, A.bv, pa1, pc1⟩ D3 ++ [])) := hs
      by_cases h35 : (Z : Int) - (Y.size : Int) < 35
      · have hcall := append_c hok3 (by rw [hp3]; decide) hJ2.tok _ [⟨[120]⟩] (by show _ + 1 ≤ _; omega) (by show _ + 65600 * 1 ≤ _; omega) (hrk.mono le0) hrl hs
        refine WL_o rfl rfl (OpR_st cl11 allF rfl rfl rfl rfl rfl hcall ?_)
        clear hs hcall
        rintro g9 rr hqe hpost; replace le0 := G.le.trans le0 hqe; replace rs0 := rs0.mono hqe; replace rs1 := rs1.mono hqe
        unfold appPost at hpost
        try simp only [List.map_cons, List.map_nil] at hpost
        rw [(app_off_full (by rw [hN3]; exact h35))] at hpost
        obtain ⟨rfl, _, _, _, ra, rc, pa1, pc1, hs⟩ := hpost
        dsimp only at hs
        refine P1 T.ok rfl rfl rfl ?_; refine WL_nil ?_; (with_reducible refine T_then ?_); refine W_seq ?_; refine W_region ?_; refine P1 T.ok rfl rfl rfl ?_
        clear hrl
        skip
        have hcall := room_c hok3 hJ2.tok hs
        refine WL_o rfl rfl (OpR_ret cl12 allF rfl rfl rfl rfl rfl (hcall) ?_); rintro g1 _ hf1 rfl; replace hs := hs.call hf1; have hqe := hf1.le; replace le0 := G.le.trans le0 hqe; replace rs0 := rs0.mono hqe; replace rs1 := rs1.mono hqe
        clear hcall
        rw [hN3]
        refine P1 T.ok rfl rfl rfl ?_; refine P1 T.ok rfl rfl rfl ?_; refine WL_nil ?_; (with_reducible refine T_then ?_); refine W_seq ?_; refine W_region ?_; refine P1 T.ok rfl rfl rfl ?_
        rw [show decide ((Z : Int) - (Y.size : Int) < 35) = true from (decide_eq_true h35)]
        skip
        have hcall := append_c hok3 (by rw [hp3]; decide) hJ2.tok _ [] (by simp; omega) (by simp; omega) (hrk.mono le0) (Rs.nil _) hs
        refine WL_o rfl rfl (OpR_st cl11 allF rfl rfl rfl rfl rfl hcall ?_)
        clear hs hcall
        rintro g9 rr hqe hpost; replace le0 := G.le.trans le0 hqe; replace rs0 := rs0.mono hqe; replace rs1 := rs1.mono hqe
        unfold appPost at hpost
        try simp only [List.map_cons, List.map_nil] at hpost
        rw [(app_none (by rw [hN3]; exact hYd))] at hpost
        obtain ⟨rfl, _, _, _, ra, rc, pa1, pc1, hs⟩ := hpost
        dsimp only at hs
        refine P1 T.ok rfl rfl rfl ?_; refine WL_nil ?_; (with_reducible refine T_then ?_); refine W_seq ?_; refine W_region ?_; refine P1 T.ok rfl rfl rfl ?_; refine WL_nil ?_; (with_reducible refine T_then ?_); refine W_seq ?_; refine W_region ?_; (iterate 10 refine P1 T.ok rfl rfl rfl ?_); (iterate 10 refine S1 allF rfl rfl ?_); refine P1 T.ok rfl rfl rfl ?_; refine P1 T.ok rfl rfl rfl ?_; refine WL_nil ?_; (with_reducible refine T_then ?_); refine W_seq ?_; refine W_region ?_; (iterate 14 refine P1 T.ok rfl rfl rfl ?_)
        have hcall := records_c hJ2.tok hs
        refine WL_o rfl rfl (OpR_ret cl13 allF rfl rfl rfl rfl rfl (hcall) ?_); rintro g1 vo hf1 hvo; obtain ⟨gz, hwz, hsz, hqz, rs2⟩ := hs.ownRs hf1 hvo; have hqe := hf1.le.trans hqz; rw [← hwz]; replace hs := hsz; clear hsz hvo; replace le0 := G.le.trans le0 hqe; replace rs0 := rs0.mono hqe; replace rs1 := rs1.mono hqe
        clear hcall
        refine P1 T.ok rfl rfl rfl ?_
        refine WL_o rfl rfl (OpR_ret cl16 allF rfl rfl rfl rfl rfl (same_c _ _ _ _ _ rs2 rs1) ?_); rintro g1 _ hf1 ⟨bb, rfl, hbb⟩; replace hs := hs.call hf1; have hqe := hf1.le; replace le0 := G.le.trans le0 hqe; replace rs0 := rs0.mono hqe; replace rs1 := rs1.mono hqe; replace rs2 := rs2.mono hqe
        obtain rfl := hbb.2 rfl
        (iterate 4 refine P1 T.ok rfl rfl rfl ?_)
        refine WL_o rfl rfl (OpR_ret cl11 allF rfl rfl rfl rfl rfl (append_nil _ _) ?_); rintro g1 _ hf1 rfl; replace hs := hs.call hf1; have hqe := hf1.le; replace le0 := G.le.trans le0 hqe; replace rs0 := rs0.mono hqe; replace rs1 := rs1.mono hqe; replace rs2 := rs2.mono hqe
        (iterate 4 refine P1 T.ok rfl rfl rfl ?_)
        refine WL_o rfl rfl (OpR_ret cl13 allF rfl rfl rfl rfl rfl (records_nil _) ?_); rintro g1 _ hf1 rfl; replace hs := hs.call hf1; have hqe := hf1.le; replace le0 := G.le.trans le0 hqe; replace rs0 := rs0.mono hqe; replace rs1 := rs1.mono hqe; replace rs2 := rs2.mono hqe
        (iterate 5 refine P1 T.ok rfl rfl rfl ?_)
        refine WL_o rfl rfl (OpR_ret cl12 allF rfl rfl rfl rfl rfl (room_nil _) ?_); rintro g1 _ hf1 rfl; replace hs := hs.call hf1; have hqe := hf1.le; replace le0 := G.le.trans le0 hqe; replace rs0 := rs0.mono hqe; replace rs1 := rs1.mono hqe; replace rs2 := rs2.mono hqe
        (iterate 3 refine P1 T.ok rfl rfl rfl ?_); refine WL_nil ?_; (with_reducible refine T_then ?_)
        exact W_ret (ret1 rfl rfl (hs.ret rfl))
      · have hcall := append_c hok3 (by rw [hp3]; decide) hJ2.tok _ [⟨[120]⟩] (by show _ + 1 ≤ _; omega) (by show _ + 65600 * 1 ≤ _; omega) (hrk.mono le0) hrl hs
        refine WL_o rfl rfl (OpR_st cl11 allF rfl rfl rfl rfl rfl hcall ?_)
        clear hs hcall
        rintro g9 rr hqe hpost; replace le0 := G.le.trans le0 hqe; replace rs0 := rs0.mono hqe; replace rs1 := rs1.mono hqe
        unfold appPost at hpost
        try simp only [List.map_cons, List.map_nil] at hpost
        rw [(app_off ho3 (by rw [hN3]; exact h35))] at hpost
        obtain ⟨rfl, _, _, _, ra, rc, pa1, pc1, hs⟩ := hpost
        dsimp only at hs
        refine P1 T.ok rfl rfl rfl ?_; refine WL_nil ?_; (with_reducible refine T_then ?_); refine W_seq ?_; refine W_region ?_; refine P1 T.ok rfl rfl rfl ?_
        clear hrl
        skip
        have hcall := room_c hok3 hJ2.tok hs
        refine WL_o rfl rfl (OpR_ret cl12 allF rfl rfl rfl rfl rfl (hcall) ?_); rintro g1 _ hf1 rfl; replace hs := hs.call hf1; have hqe := hf1.le; replace le0 := G.le.trans le0 hqe; replace rs0 := rs0.mono hqe; replace rs1 := rs1.mono hqe
        clear hcall
        rw [hN3]
        refine P1 T.ok rfl rfl rfl ?_; refine P1 T.ok rfl rfl rfl ?_; refine WL_nil ?_; (with_reducible refine T_then ?_); refine W_seq ?_; refine W_region ?_; refine P1 T.ok rfl rfl rfl ?_
        rw [show decide ((Z : Int) - (Y.size : Int) < 35) = false from (decide_eq_false h35)]
        skip
        have hcall := append_c hok3 (by rw [hp3]; decide) hJ2.tok _ [] (by simp; omega) (by simp; omega) (hrk.mono le0) (Rs.nil _) hs
        refine WL_o rfl rfl (OpR_st cl11 allF rfl rfl rfl rfl rfl hcall ?_)
        clear hs hcall
        rintro g9 rr hqe hpost; replace le0 := G.le.trans le0 hqe; replace rs0 := rs0.mono hqe; replace rs1 := rs1.mono hqe
        unfold appPost at hpost
        try simp only [List.map_cons, List.map_nil] at hpost
        rw [(app_broken Y D3 _)] at hpost
        obtain ⟨rfl, _, _, _, ra, rc, pa1, pc1, hs⟩ := hpost
        dsimp only at hs
        refine P1 T.ok rfl rfl rfl ?_; refine WL_nil ?_; (with_reducible refine T_then ?_); refine W_seq ?_; refine W_region ?_; refine P1 T.ok rfl rfl rfl ?_; refine WL_nil ?_; (with_reducible refine T_then ?_); refine W_seq ?_; refine W_region ?_; refine P1 T.ok rfl rfl rfl ?_; refine P1 T.ok rfl rfl rfl ?_; refine S1 allF rfl rfl ?_; refine S1 allF rfl rfl ?_; refine P1 T.ok rfl rfl rfl ?_; refine P1 T.ok rfl rfl rfl ?_; refine S1 allF rfl rfl ?_; refine S1 allF rfl rfl ?_; (iterate 14 refine P1 T.ok rfl rfl rfl ?_); refine WL_nil ?_; (with_reducible refine T_then ?_); refine W_seq ?_; refine W_region ?_; (iterate 14 refine P1 T.ok rfl rfl rfl ?_)
        have hcall := records_c hJ2.tok hs
        refine WL_o rfl rfl (OpR_ret cl13 allF rfl rfl rfl rfl rfl (hcall) ?_); rintro g1 vo hf1 hvo; obtain ⟨gz, hwz, hsz, hqz, rs2⟩ := hs.ownRs hf1 hvo; have hqe := hf1.le.trans hqz; rw [← hwz]; replace hs := hsz; clear hsz hvo; replace le0 := G.le.trans le0 hqe; replace rs0 := rs0.mono hqe; replace rs1 := rs1.mono hqe
        clear hcall
        refine P1 T.ok rfl rfl rfl ?_
        refine WL_o rfl rfl (OpR_ret cl16 allF rfl rfl rfl rfl rfl (same_c _ _ _ _ _ rs2 rs1) ?_); rintro g1 _ hf1 ⟨bb, rfl, hbb⟩; replace hs := hs.call hf1; have hqe := hf1.le; replace le0 := G.le.trans le0 hqe; replace rs0 := rs0.mono hqe; replace rs1 := rs1.mono hqe; replace rs2 := rs2.mono hqe
        obtain rfl := hbb.2 rfl
        (iterate 4 refine P1 T.ok rfl rfl rfl ?_)
        refine WL_o rfl rfl (OpR_ret cl11 allF rfl rfl rfl rfl rfl (append_nil _ _) ?_); rintro g1 _ hf1 rfl; replace hs := hs.call hf1; have hqe := hf1.le; replace le0 := G.le.trans le0 hqe; replace rs0 := rs0.mono hqe; replace rs1 := rs1.mono hqe; replace rs2 := rs2.mono hqe
        (iterate 4 refine P1 T.ok rfl rfl rfl ?_)
        refine WL_o rfl rfl (OpR_ret cl13 allF rfl rfl rfl rfl rfl (records_nil _) ?_); rintro g1 _ hf1 rfl; replace hs := hs.call hf1; have hqe := hf1.le; replace le0 := G.le.trans le0 hqe; replace rs0 := rs0.mono hqe; replace rs1 := rs1.mono hqe; replace rs2 := rs2.mono hqe
        (iterate 5 refine P1 T.ok rfl rfl rfl ?_)
        refine WL_o rfl rfl (OpR_ret cl12 allF rfl rfl rfl rfl rfl (room_nil _) ?_); rintro g1 _ hf1 rfl; replace hs := hs.call hf1; have hqe := hf1.le; replace le0 := G.le.trans le0 hqe; replace rs0 := rs0.mono hqe; replace rs1 := rs1.mono hqe; replace rs2 := rs2.mono hqe
        (iterate 3 refine P1 T.ok rfl rfl rfl ?_); refine WL_nil ?_; (with_reducible refine T_then ?_)
        exact W_ret (ret1 rfl rfl (hs.ret rfl))
    · have hYs : Y.size = (wireM tape0 (xs.map Str.s)).length := by rw [hY1, size_adds]; exact Nat.zero_add _
      generalize (wireM tape0 (xs.map Str.s)).length = need at *
      refine P1 T.ok rfl rfl rfl ?_; refine P1 T.ok rfl rfl rfl ?_; refine WL_nil ?_; (with_reducible refine T_then ?_); refine W_seq ?_; refine W_seq ?_; refine W_region ?_; (iterate 3 refine P1 T.ok rfl rfl rfl ?_)
      rw [show decide ((need : Int) ≤ (Z : Int)) = true from decide_eq_true (by omega)]
      refine WL_o rfl rfl (OpR_eqB T.ok (neg := true) rfl rfl rfl rfl rfl ?_)
      (iterate 4 refine P1 T.ok rfl rfl rfl ?_); refine S1 allF rfl rfl ?_; refine S1 allF rfl rfl ?_; (iterate 6 refine P1 T.ok rfl rfl rfl ?_)
      have hcall := room_c hJ2.ok hJ2.tok hs
      refine WL_o rfl rfl (OpR_ret cl12 allF rfl rfl rfl rfl rfl (hcall) ?_); rintro g1 _ hf1 rfl; replace hs := hs.call hf1; have hqe := hf1.le; replace le0 := G.le.trans le0 hqe; replace rs0 := rs0.mono hqe
      clear hcall
      rw [hN1, hYs]
      refine P1 T.ok rfl rfl rfl ?_
      refine WL_o rfl rfl (OpR_ret cl7 allF rfl rfl rfl rfl rfl (size_c n _ hn) ?_); rintro g1 _ hf1 rfl; replace hs := hs.call hf1; have hqe := hf1.le; replace le0 := G.le.trans le0 hqe; replace rs0 := rs0.mono hqe
      rw [hZ]
      (iterate 6 refine P1 T.ok rfl rfl rfl ?_)
      refine WL_know 92 (b := ((Z : Int) - (need : Int)) != IntKind.i64.wrap ((Z : Int) - (need : Int))) (b' := false) (by rw [wr (by omega) (by omega)]; simp) rfl ?_
      (iterate 3 refine P1 T.ok rfl rfl rfl ?_); (iterate 5 refine S1 allF rfl rfl ?_); refine P1 T.ok rfl rfl rfl ?_; refine P1 T.ok rfl rfl rfl ?_; refine WL_nil ?_; (with_reducible refine T_then ?_)
      refine W_no rfl rfl ?_
      refine W_skip ?_; (with_reducible refine T_then ?_); refine W_seq ?_; refine W_region ?_; refine P1 T.ok rfl rfl rfl ?_
      have hrec := records_c hJ2.tok hs
      refine WL_o rfl rfl (OpR_ret cl13 allF rfl rfl rfl rfl rfl (hrec) ?_); rintro g1 vo hf1 hvo; obtain ⟨gz, hwz, hsz, hqz, rs1⟩ := hs.ownRs hf1 hvo; have hqe := hf1.le.trans hqz; rw [← hwz]; replace hs := hsz; clear hsz hvo; replace le0 := G.le.trans le0 hqe; replace rs0 := rs0.mono hqe
      clear hrec
      have hnr := hJ2.nrec
      have hrr := hJ2.recs
      rw [hN1] at hnr
      refine P1 T.ok rfl rfl rfl ?_; refine WL_nil ?_; (with_reducible refine T_then ?_); refine W_seq ?_; refine W_region ?_; refine P1 T.ok rfl rfl rfl ?_
      refine WL_o rfl rfl (OpR_lit T.ok rfl hs (vs := []) (cells := []) rfl rfl rfl rfl rfl rfl (by decide) (by decide) (by kernel_rfl) rfl ?_)
      clear hs
      rintro bl gl hs hqe; replace le0 := G.le.trans le0 hqe; replace rs0 := rs0.mono hqe; replace rs1 := rs1.mono hqe
      refine P1 T.ok rfl rfl rfl ?_
      obtain ⟨_, news, hnw, hsrc⟩ := Src.of_rs rs0
      refine WL_o rfl rfl (OpR_append T.ok 0 rfl hs rfl rfl rfl rfl rfl rfl rfl (by decide) rfl hsrc hnw.one (by show (0 + xs.length) * 16 ≤ _; omega) (by unfold maxLen; omega) ?_)
      clear hs hsrc
      rintro a3 c3 g3 hs hqe; replace le0 := G.le.trans le0 hqe; replace rs0 := rs0.mono hqe; replace rs1 := rs1.mono hqe
      obtain rfl := RcL.strs_inv (l := xs.map Str.s) (by rw [List.map_map, show (Str.mk ∘ Str.s) = id from rfl, List.map_id]; exact hnw)
      clear hnw
      refine P1 T.ok rfl rfl rfl ?_
      refine WL_o rfl rfl (OpR_ret cl14 allF rfl rfl rfl rfl rfl (pick_c more 100 _ hmore (by decide)) ?_); rintro g1 _ hf1 rfl; replace hs := hs.call hf1; have hqe := hf1.le; replace le0 := G.le.trans le0 hqe; replace rs0 := rs0.mono hqe; replace rs1 := rs1.mono hqe
      have hpk := pickM_range (c := more) (n := 100) (by decide)
      obtain ⟨N, hN'⟩ : ∃ N : Nat, (65537 : Int) + pickM more 100 = (N : Int) := ⟨(65537 + pickM more 100).toNat, by omega⟩
      refine P1 T.ok rfl rfl rfl ?_
      refine WL_re (.int .i64 (N : Int)) (t := 111) rfl (congrArg (Value.int .i64) (by rw [wr (by omega) (by omega), hN'])) ?_
      refine WL_o rfl rfl (OpR_makeX T.ok rfl hs rfl rfl rfl rfl rfl rfl (by decide) rfl (by show 1 * N ≤ _; omega) (by unfold maxLen; omega) (zeros_flat N) ?_)
      clear hs
      rintro bz g1 hs hqe; replace le0 := G.le.trans le0 hqe; replace rs0 := rs0.mono hqe; replace rs1 := rs1.mono hqe
      obtain ⟨gz, hwz, hsz2, hqz, hrl⟩ := hs.fzRow (α := UInt8) (xs := List.replicate N 0) (i := 0) rfl (RcL.bytes _ _)
      have hqe := hqz; rw [← hwz]; replace hs := hsz2; clear hsz2 hqz; replace le0 := G.le.trans le0 hqe; replace rs0 := rs0.mono hqe; replace rs1 := rs1.mono hqe
      skip
      obtain ⟨_, news, hnw, hsrc⟩ := Src.of_rs hrl
      obtain rfl := RcL.bytes_inv hnw
      refine WL_o rfl rfl (OpR_bytesStr T.ok (ns := List.replicate N 0) rfl rfl rfl rfl rfl rfl rfl rfl (by
        have h := hsrc
        rw [show byteV (List.replicate N 0) = (List.replicate N (0 : Int)).map (Value.int .u8) from by simp [byteV]] at h
        exact h) ?_)
      rw [show (List.replicate N (0 : Int)).map (fun m => UInt8.ofNat m.toNat) = List.replicate N 0 from by simp]
      clear hrl hnw hsrc
      generalize hzs : (List.replicate N 0 : List UInt8) = zs
      have hzl : zs.length = N := by rw [← hzs, List.length_replicate]
      skip
      refine WL_o rfl rfl (OpR_lit T.ok rfl hs (vs := [(0, .string (bs zs))]) (cells := [.string (bs zs)]) rfl rfl rfl rfl rfl rfl (by decide) (by decide) (by kernel_rfl) rfl ?_)
      clear hs
      rintro bl2 gl2 hs hqe; replace le0 := G.le.trans le0 hqe; replace rs0 := rs0.mono hqe; replace rs1 := rs1.mono hqe
      obtain ⟨gz, hwz, hsz2, hqz, hrl⟩ := hs.fzRow (α := Str) (xs := [⟨zs⟩]) (i := 0) rfl (RcL.strs _ [zs])
      have hqe := hqz; rw [← hwz]; replace hs := hsz2; clear hsz2 hqz; replace le0 := G.le.trans le0 hqe; replace rs0 := rs0.mono hqe; replace rs1 := rs1.mono hqe
      skip
      obtain ⟨_, news, hnw, hsrc⟩ := Src.of_rs hrl
      obtain rfl := RcL.strs_inv (l := [zs]) hnw
      refine WL_o rfl rfl (OpR_append T.ok 0 rfl hs rfl rfl rfl rfl rfl rfl rfl (by decide) rfl hsrc hnw.one (by show (0 + xs.length + 1) * 16 ≤ _; omega) (by unfold maxLen; show 0 + xs.length + 1 ≤ _; omega) ?_)
      clear hs hsrc hnw hrl
      rintro a4 c4 g4 hs hqe; replace le0 := G.le.trans le0 hqe; replace rs0 := rs0.mono hqe; replace rs1 := rs1.mono hqe
      obtain ⟨gz, hwz, hsz2, hqz, hrl⟩ := hs.fzRow (α := Str) (xs := xs ++ [⟨zs⟩]) (i := 0) rfl (by
        have h := RcL.strs g4 (xs.map Str.s ++ [zs])
        rw [List.map_append, List.map_map, show (Str.mk ∘ Str.s) = id from rfl, List.map_id] at h
        rw [show strL (xs.map Str.s ++ [zs]) = [] ++ strL (xs.map Str.s) ++ strL [zs] from by simp [strL]] at h
        exact h)
      have hqe := hqz; rw [← hwz]; replace hs := hsz2; clear hsz2 hqz; replace le0 := G.le.trans le0 hqe; replace rs0 := rs0.mono hqe; replace rs1 := rs1.mono hqe
      skip
      replace hs : St g gz (jnL ⟨B.b, ra, rc⟩ ⟨A.b, A.bd, A.bv, pa1, pc1⟩ false Y ++ (dkL ⟨A.b, A.bd, A.bv, pa1, pc1⟩ D ++ [])) := hs
      have hcall := append_c hJ2.ok (by rw [hd2.pend]; decide) hJ2.tok _ (xs ++ [⟨zs⟩]) (by rw [List.length_append]; show _ + (_ + 1) ≤ _; rw [hrr]; omega) (by rw [List.length_append]; show _ + 65600 * (_ + 1) ≤ _; omega) (hrk.mono le0) hrl hs
      refine WL_o rfl rfl (OpR_st cl11 allF rfl rfl rfl rfl rfl hcall ?_)
      clear hs hcall
      rintro g9 rr hqe hpost; replace le0 := G.le.trans le0 hqe; replace rs0 := rs0.mono hqe; replace rs1 := rs1.mono hqe
      unfold appPost at hpost
      try simp only [List.map_cons, List.map_nil] at hpost
      rw [(app_long (r := zs) (by simp) (by omega))] at hpost
      obtain ⟨rfl, _, _, _, ra, rc, pa1, pc1, hs⟩ := hpost
      dsimp only at hs
      refine P1 T.ok rfl rfl rfl ?_; refine WL_nil ?_; (with_reducible refine T_then ?_); refine W_seq ?_; refine W_region ?_; refine P1 T.ok rfl rfl rfl ?_
      clear hrl
      have hcall := append_c hJ2.ok (by rw [hd2.pend]; decide) hJ2.tok _ [] (by rw [hrr]; simp; omega) (by simp; omega) (hrk.mono le0) (Rs.nil _) hs
      refine WL_o rfl rfl (OpR_st cl11 allF rfl rfl rfl rfl rfl hcall ?_)
      clear hs hcall
      rintro g9 rr hqe hpost; replace le0 := G.le.trans le0 hqe; replace rs0 := rs0.mono hqe; replace rs1 := rs1.mono hqe
      unfold appPost at hpost
      try simp only [List.map_cons, List.map_nil] at hpost
      rw [(app_none (by rw [hN1]; exact hYd))] at hpost
      obtain ⟨rfl, _, _, _, ra, rc, pa1, pc1, hs⟩ := hpost
      dsimp only at hs
      refine P1 T.ok rfl rfl rfl ?_; refine WL_nil ?_; (with_reducible refine T_then ?_); refine W_seq ?_; refine W_region ?_; refine P1 T.ok rfl rfl rfl ?_
      have hcall := dcut_c hd2.off 0 (by decide) hs.swap
      refine WL_o rfl rfl (OpR_st cl15 allF rfl rfl rfl rfl rfl hcall ?_)
      clear hs hcall
      rintro g5 _ hqe ⟨rfl, hs⟩; replace le0 := G.le.trans le0 hqe; replace rs0 := rs0.mono hqe; replace rs1 := rs1.mono hqe
      replace hs := hs.swap
      have hok3 := (hJ2.cut 0).ok
      have hp3 : (D.cut 0).pend = [] := hd2.pend
      have ho3 : (D.cut 0).off = true := rfl
      have hN3 : (D.cut 0).dur.length = Z := hN1
      rw [← hrr] at hnr
      generalize D.cut 0 = D3 at *
      refine WL_nil ?_; (with_reducible refine T_then ?_); refine W_seq ?_; refine W_region ?_; refine P1 T.ok rfl rfl rfl ?_
      refine WL_o rfl rfl (OpR_lit T.ok rfl hs (vs := [(0, .string (bs [120]))]) (cells := [.string (bs [120])]) rfl rfl rfl rfl rfl rfl (by decide) (by decide) (by kernel_rfl) rfl ?_)
      clear hs
      rintro bl3 gl3 hs hqe; replace le0 := G.le.trans le0 hqe; replace rs0 := rs0.mono hqe; replace rs1 := rs1.mono hqe
      obtain ⟨gz, hwz, hsz2, hqz, hrl⟩ := hs.fzRow (α := Str) (xs := [⟨[120]⟩]) (i := 0) rfl (RcL.strs _ [[120]])
      have hqe := hqz; rw [← hwz]; replace hs := hsz2; clear hsz2 hqz; replace le0 := G.le.trans le0 hqe; replace rs0 := rs0.mono hqe; replace rs1 := rs1.mono hqe
      skip
      replace hs : St g gz (jnL ⟨B.b, ra, rc⟩ ⟨A.b, A.bd, A.bv, pa1, pc1⟩ false Y ++ (dkL ⟨A.b, A.bd, A.bv, pa1, pc1⟩ D3 ++ [])) := hs
      by_cases h35 : (Z : Int) - (Y.size : Int) < 35
      · have hcall := append_c hok3 (by rw [hp3]; decide) hJ2.tok _ [⟨[120]⟩] (by show _ + 1 ≤ _; omega) (by show _ + 65600 * 1 ≤ _; omega) (hrk.mono le0) hrl hs
        refine WL_o rfl rfl (OpR_st cl11 allF rfl rfl rfl rfl rfl hcall ?_)
        clear hs hcall
        rintro g9 rr hqe hpost; replace le0 := G.le.trans le0 hqe; replace rs0 := rs0.mono hqe; replace rs1 := rs1.mono hqe
        unfold appPost at hpost
        try simp only [List.map_cons, List.map_nil] at hpost
        rw [(app_off_full (by rw [hN3]; exact h35))] at hpost
        obtain ⟨rfl, _, _, _, ra, rc, pa1, pc1, hs⟩ := hpost
        dsimp only at hs
        refine P1 T.ok rfl rfl rfl ?_; refine WL_nil ?_; (with_reducible refine T_then ?_); refine W_seq ?_; refine W_region ?_; refine P1 T.ok rfl rfl rfl ?_
        clear hrl
        skip
        have hcall := room_c hok3 hJ2.tok hs
        refine WL_o rfl rfl (OpR_ret cl12 allF rfl rfl rfl rfl rfl (hcall) ?_); rintro g1 _ hf1 rfl; replace hs := hs.call hf1; have hqe := hf1.le; replace le0 := G.le.trans le0 hqe; replace rs0 := rs0.mono hqe; replace rs1 := rs1.mono hqe
        clear hcall
        rw [hN3]
        refine P1 T.ok rfl rfl rfl ?_; refine P1 T.ok rfl rfl rfl ?_; refine WL_nil ?_; (with_reducible refine T_then ?_); refine W_seq ?_; refine W_region ?_; refine P1 T.ok rfl rfl rfl ?_
        rw [show decide ((Z : Int) - (Y.size : Int) < 35) = true from (decide_eq_true h35)]
        skip
        have hcall := append_c hok3 (by rw [hp3]; decide) hJ2.tok _ [] (by simp; omega) (by simp; omega) (hrk.mono le0) (Rs.nil _) hs
        refine WL_o rfl rfl (OpR_st cl11 allF rfl rfl rfl rfl rfl hcall ?_)
        clear hs hcall
        rintro g9 rr hqe hpost; replace le0 := G.le.trans le0 hqe; replace rs0 := rs0.mono hqe; replace rs1 := rs1.mono hqe
        unfold appPost at hpost
        try simp only [List.map_cons, List.map_nil] at hpost
        rw [(app_none (by rw [hN3]; exact hYd))] at hpost
        obtain ⟨rfl, _, _, _, ra, rc, pa1, pc1, hs⟩ := hpost
        dsimp only at hs
        refine P1 T.ok rfl rfl rfl ?_; refine WL_nil ?_; (with_reducible refine T_then ?_); refine W_seq ?_; refine W_region ?_; refine P1 T.ok rfl rfl rfl ?_; refine WL_nil ?_; (with_reducible refine T_then ?_); refine W_seq ?_; refine W_region ?_; (iterate 10 refine P1 T.ok rfl rfl rfl ?_); (iterate 10 refine S1 allF rfl rfl ?_); refine P1 T.ok rfl rfl rfl ?_; refine P1 T.ok rfl rfl rfl ?_; refine WL_nil ?_; (with_reducible refine T_then ?_); refine W_seq ?_; refine W_region ?_; (iterate 14 refine P1 T.ok rfl rfl rfl ?_)
        have hcall := records_c hJ2.tok hs
        refine WL_o rfl rfl (OpR_ret cl13 allF rfl rfl rfl rfl rfl (hcall) ?_); rintro g1 vo hf1 hvo; obtain ⟨gz, hwz, hsz, hqz, rs2⟩ := hs.ownRs hf1 hvo; have hqe := hf1.le.trans hqz; rw [← hwz]; replace hs := hsz; clear hsz hvo; replace le0 := G.le.trans le0 hqe; replace rs0 := rs0.mono hqe; replace rs1 := rs1.mono hqe
        clear hcall
        refine P1 T.ok rfl rfl rfl ?_
        refine WL_o rfl rfl (OpR_ret cl16 allF rfl rfl rfl rfl rfl (same_c _ _ _ _ _ rs2 rs1) ?_); rintro g1 _ hf1 ⟨bb, rfl, hbb⟩; replace hs := hs.call hf1; have hqe := hf1.le; replace le0 := G.le.trans le0 hqe; replace rs0 := rs0.mono hqe; replace rs1 := rs1.mono hqe; replace rs2 := rs2.mono hqe
        obtain rfl := hbb.2 rfl
        (iterate 4 refine P1 T.ok rfl rfl rfl ?_)
        refine WL_o rfl rfl (OpR_ret cl11 allF rfl rfl rfl rfl rfl (append_nil _ _) ?_); rintro g1 _ hf1 rfl; replace hs := hs.call hf1; have hqe := hf1.le; replace le0 := G.le.trans le0 hqe; replace rs0 := rs0.mono hqe; replace rs1 := rs1.mono hqe; replace rs2 := rs2.mono hqe
        (iterate 4 refine P1 T.ok rfl rfl rfl ?_)
        refine WL_o rfl rfl (OpR_ret cl13 allF rfl rfl rfl rfl rfl (records_nil _) ?_); rintro g1 _ hf1 rfl; replace hs := hs.call hf1; have hqe := hf1.le; replace le0 := G.le.trans le0 hqe; replace rs0 := rs0.mono hqe; replace rs1 := rs1.mono hqe; replace rs2 := rs2.mono hqe
        (iterate 5 refine P1 T.ok rfl rfl rfl ?_)
        refine WL_o rfl rfl (OpR_ret cl12 allF rfl rfl rfl rfl rfl (room_nil _) ?_); rintro g1 _ hf1 rfl; replace hs := hs.call hf1; have hqe := hf1.le; replace le0 := G.le.trans le0 hqe; replace rs0 := rs0.mono hqe; replace rs1 := rs1.mono hqe; replace rs2 := rs2.mono hqe
        (iterate 3 refine P1 T.ok rfl rfl rfl ?_); refine WL_nil ?_; (with_reducible refine T_then ?_)
        exact W_ret (ret1 rfl rfl (hs.ret rfl))
      · have hcall := append_c hok3 (by rw [hp3]; decide) hJ2.tok _ [⟨[120]⟩] (by show _ + 1 ≤ _; omega) (by show _ + 65600 * 1 ≤ _; omega) (hrk.mono le0) hrl hs
        refine WL_o rfl rfl (OpR_st cl11 allF rfl rfl rfl rfl rfl hcall ?_)
        clear hs hcall
        rintro g9 rr hqe hpost; replace le0 := G.le.trans le0 hqe; replace rs0 := rs0.mono hqe; replace rs1 := rs1.mono hqe
        unfold appPost at hpost
        try simp only [List.map_cons, List.map_nil] at hpost
        rw [(app_off ho3 (by rw [hN3]; exact h35))] at hpost
        obtain ⟨rfl, _, _, _, ra, rc, pa1, pc1, hs⟩ := hpost
        dsimp only at hs
        refine P1 T.ok rfl rfl rfl ?_; refine WL_nil ?_; (with_reducible refine T_then ?_); refine W_seq ?_; refine W_region ?_; refine P1 T.ok rfl rfl rfl ?_
        clear hrl
        skip
        have hcall := room_c hok3 hJ2.tok hs
        refine WL_o rfl rfl (OpR_ret cl12 allF rfl rfl rfl rfl rfl (hcall) ?_); rintro g1 _ hf1 rfl; replace hs := hs.call hf1; have hqe := hf1.le; replace le0 := G.le.trans le0 hqe; replace rs0 := rs0.mono hqe; replace rs1 := rs1.mono hqe
        clear hcall
        rw [hN3]
        refine P1 T.ok rfl rfl rfl ?_; refine P1 T.ok rfl rfl rfl ?_; refine WL_nil ?_; (with_reducible refine T_then ?_); refine W_seq ?_; refine W_region ?_; refine P1 T.ok rfl rfl rfl ?_
        rw [show decide ((Z : Int) - (Y.size : Int) < 35) = false from (decide_eq_false h35)]
        skip
        have hcall := append_c hok3 (by rw [hp3]; decide) hJ2.tok _ [] (by simp; omega) (by simp; omega) (hrk.mono le0) (Rs.nil _) hs
        refine WL_o rfl rfl (OpR_st cl11 allF rfl rfl rfl rfl rfl hcall ?_)
        clear hs hcall
        rintro g9 rr hqe hpost; replace le0 := G.le.trans le0 hqe; replace rs0 := rs0.mono hqe; replace rs1 := rs1.mono hqe
        unfold appPost at hpost
        try simp only [List.map_cons, List.map_nil] at hpost
        rw [(app_broken Y D3 _)] at hpost
        obtain ⟨rfl, _, _, _, ra, rc, pa1, pc1, hs⟩ := hpost
        dsimp only at hs
        refine P1 T.ok rfl rfl rfl ?_; refine WL_nil ?_; (with_reducible refine T_then ?_); refine W_seq ?_; refine W_region ?_; refine P1 T.ok rfl rfl rfl ?_; refine WL_nil ?_; (with_reducible refine T_then ?_); refine W_seq ?_; refine W_region ?_; refine P1 T.ok rfl rfl rfl ?_; refine P1 T.ok rfl rfl rfl ?_; refine S1 allF rfl rfl ?_; refine S1 allF rfl rfl ?_; refine P1 T.ok rfl rfl rfl ?_; refine P1 T.ok rfl rfl rfl ?_; refine S1 allF rfl rfl ?_; refine S1 allF rfl rfl ?_; (iterate 14 refine P1 T.ok rfl rfl rfl ?_); refine WL_nil ?_; (with_reducible refine T_then ?_); refine W_seq ?_; refine W_region ?_; (iterate 14 refine P1 T.ok rfl rfl rfl ?_)
        have hcall := records_c hJ2.tok hs
        refine WL_o rfl rfl (OpR_ret cl13 allF rfl rfl rfl rfl rfl (hcall) ?_); rintro g1 vo hf1 hvo; obtain ⟨gz, hwz, hsz, hqz, rs2⟩ := hs.ownRs hf1 hvo; have hqe := hf1.le.trans hqz; rw [← hwz]; replace hs := hsz; clear hsz hvo; replace le0 := G.le.trans le0 hqe; replace rs0 := rs0.mono hqe; replace rs1 := rs1.mono hqe
        clear hcall
        refine P1 T.ok rfl rfl rfl ?_
        refine WL_o rfl rfl (OpR_ret cl16 allF rfl rfl rfl rfl rfl (same_c _ _ _ _ _ rs2 rs1) ?_); rintro g1 _ hf1 ⟨bb, rfl, hbb⟩; replace hs := hs.call hf1; have hqe := hf1.le; replace le0 := G.le.trans le0 hqe; replace rs0 := rs0.mono hqe; replace rs1 := rs1.mono hqe; replace rs2 := rs2.mono hqe
        obtain rfl := hbb.2 rfl
        (iterate 4 refine P1 T.ok rfl rfl rfl ?_)
        refine WL_o rfl rfl (OpR_ret cl11 allF rfl rfl rfl rfl rfl (append_nil _ _) ?_); rintro g1 _ hf1 rfl; replace hs := hs.call hf1; have hqe := hf1.le; replace le0 := G.le.trans le0 hqe; replace rs0 := rs0.mono hqe; replace rs1 := rs1.mono hqe; replace rs2 := rs2.mono hqe
        (iterate 4 refine P1 T.ok rfl rfl rfl ?_)
        refine WL_o rfl rfl (OpR_ret cl13 allF rfl rfl rfl rfl rfl (records_nil _) ?_); rintro g1 _ hf1 rfl; replace hs := hs.call hf1; have hqe := hf1.le; replace le0 := G.le.trans le0 hqe; replace rs0 := rs0.mono hqe; replace rs1 := rs1.mono hqe; replace rs2 := rs2.mono hqe
        (iterate 5 refine P1 T.ok rfl rfl rfl ?_)
        refine WL_o rfl rfl (OpR_ret cl12 allF rfl rfl rfl rfl rfl (room_nil _) ?_); rintro g1 _ hf1 rfl; replace hs := hs.call hf1; have hqe := hf1.le; replace le0 := G.le.trans le0 hqe; replace rs0 := rs0.mono hqe; replace rs1 := rs1.mono hqe; replace rs2 := rs2.mono hqe
        (iterate 3 refine P1 T.ok rfl rfl rfl ?_); refine WL_nil ?_; (with_reducible refine T_then ?_)
        exact W_ret (ret1 rfl rfl (hs.ret rfl))
end Go.Proofs.YteohjgndanlldaaDoor
