/- The walk through JournalDamaged. -/
import Derived.Test.YteohjgndanlldaaGreatDoorWn

namespace Go.Proofs.YteohjgndanlldaaGreatDoor
open Go Go.K
set_option maxRecDepth 10000
attribute [local irreducible] W WL OpR bitAnd bitOr bitXor bitClr bitNot shlI shrI
set_option maxHeartbeats 1000000

theorem mks (rs : List (List UInt8)) : (rs.map Str.mk).map Str.s = rs := by rw [List.map_map, show (Str.s ∘ Str.mk) = id from rfl, List.map_id]
theorem fewM_short (xs : List Str) : ∀ r ∈ (fewM xs).map Str.s, r.length ≤ 65536 := by
  intro r hr
  obtain ⟨x, hx, rfl⟩ := List.mem_map.1 hr
  unfold fewM at hx
  obtain ⟨y, _, rfl⟩ := List.mem_map.1 hx
  show (y.s.take 100).length ≤ _
  rw [List.length_take]; omega
theorem fewM_len (xs : List Str) : (fewM xs).length ≤ 6 := by unfold fewM; rw [List.length_map, List.length_take]; omega
theorem fewM_100 (xs : List Str) : ∀ r ∈ (fewM xs).map Str.s, r.length ≤ 100 := by
  intro r hr
  obtain ⟨x, hx, rfl⟩ := List.mem_map.1 hr
  unfold fewM at hx
  obtain ⟨y, _, rfl⟩ := List.mem_map.1 hx
  show (y.s.take 100).length ≤ _
  rw [List.length_take]; omega
theorem wireM_100 {rs : List (List UInt8)} (h : ∀ r ∈ rs, r.length ≤ 100) : ∀ Y : TapeM, (wireM Y rs).length ≤ 143 * rs.length := by
  induction rs with
  | nil => intro Y; simp [wireM]
  | cons r rs ih =>
    intro Y
    have h1 := h r (List.mem_cons_self ..)
    have h2 := putIntM_len (r.length : Int)
    have h3 := ih (fun x hx => h x (List.mem_cons_of_mem _ hx)) (Y.add r)
    rw [wireM, List.length_append, outM_length, List.length_cons]
    omega
theorem headsM_get {rs : List (List UInt8)} (i : Nat) (x : List UInt8) (h : rs[i]? = some x) : (headsM rs)[i]? = some ([2] ++ (headM (rs.take i) ++ x)) := by
  have hlt := (List.getElem?_eq_some_iff.1 h).1
  unfold headsM headsTo
  rw [List.getElem?_map, List.getElem?_range hlt]
  show some ([2] ++ (headM (rs.take i) ++ rs.getD i [])) = _
  rw [List.getD_eq_getElem?_getD, h]; rfl
theorem headsM_len (rs : List (List UInt8)) : (headsM rs).length = rs.length := by unfold headsM headsTo; rw [List.length_map, List.length_range]
theorem geti_mk {hdsA : List (List UInt8)} {i : Nat} {p : List UInt8} (h : hdsA[i]? = some p) : geti (hdsA.map Str.mk) (i : Int) = some ⟨p⟩ := by
  obtain ⟨hlt, he⟩ := List.getElem?_eq_some_iff.1 h
  rw [geti_of (j := i) rfl (by rw [List.length_map]; exact hlt), List.getElem_map, he]
def strP1 (s : List UInt8) : Fact := ⟨fun v g => ∃ b p, v = .pointer (some ⟨b, p, none⟩) ∧ EP g b p [.string (bs s)], fun _ _ _ hf ⟨b, p, e, h1⟩ => ⟨b, p, e, h1.mono hf.le⟩⟩




theorem damaged_c {e : Addr} (v : Value) (groups : List (List Str)) (at' : Int) (cb : UInt8) (g : G) (hrk : RoundAt g) (hE : ErrAt e g) (rsg : Rs g v groups) (hat : I64 at') :
    CallsIn Wd 0 Tryz.prog 4 #[v, .int .i64 at', .int .u8 (cb.toNat : Int)] g.w (Ret g fun _ r => r = .bool true) := by
  obtain ⟨a, c, rfl⟩ := rsg.isSlice
  have hlen := rsg.len_le
  unfold maxLen at hlen
  have hs := St.start g
  have le0 := G.le.refl g
  refine enter Tryz.func4 rfl Tryz.ntmps4 rfl ?_
  refine W_seq ?_; refine W_region ?_; refine P1 T.ok rfl rfl rfl ?_; refine WL_nil ?_; (with_reducible refine T_then ?_); refine W_seq ?_; refine W_region ?_
  refine WL_o rfl rfl (OpR_ret cl8 allF rfl rfl rfl rfl rfl (sane_c _ hrk hE) ?_); rintro g1 _ hf1 rfl; replace hs := hs.call hf1; have hqe := hf1.le; replace le0 := G.le.trans le0 hqe
  refine P1 T.ok rfl rfl rfl ?_; refine WL_nil ?_; (with_reducible refine T_then ?_); refine W_seq ?_; refine W_region ?_
  refine WL_o rfl rfl (OpR_st cl24 allF rfl rfl rfl rfl rfl (dnew_c (n := 6000) (by decide) (by decide) hs) ?_)
  clear hs
  rintro g1 _ hqe ⟨A, rfl, hs⟩; replace le0 := G.le.trans le0 hqe
  (iterate 5 refine P1 T.ok rfl rfl rfl ?_); refine WL_nil ?_; (with_reducible refine T_then ?_); refine W_seq ?_; refine W_region ?_; refine P1 T.ok rfl rfl rfl ?_
  have hJ := JInv.new (n := 6000) (by decide) (by decide)
  have hd := DOn.new 6000
  have hN : (DiskM.new 6000).dur.length = 6000 := by unfold DiskM.new; exact List.length_replicate
  refine WL_o rfl rfl (OpR_st cl25 allF rfl rfl rfl rfl rfl (jopenJ_c hJ rfl (Nat.zero_le _) (hrk.mono le0) (hE.mono le0) hs) ?_)
  clear hs
  rintro g2 _ hqe ⟨pa, pc, B, rfl, hs⟩; replace le0 := G.le.trans le0 hqe
  (iterate 5 refine P1 T.ok rfl rfl rfl ?_); refine WL_nil ?_; (with_reducible refine T_then ?_); refine W_seq ?_; refine W_seq ?_; refine W_region ?_; refine P1 T.ok rfl rfl rfl ?_; refine P1 T.ok rfl rfl rfl ?_; refine WL_nil ?_; (with_reducible refine T_then ?_)
  refine W_no rfl rfl ?_
  refine W_skip ?_; (with_reducible refine T_then ?_); refine W_seq ?_; refine W_seq ?_; refine W_region ?_; refine P1 T.ok rfl rfl rfl ?_; refine WL_nil ?_; (with_reducible refine T_then ?_); refine W_block ?_
  have hY0 : tape0.size ≤ 858 * 0 := Nat.zero_le _
  generalize DiskM.new 6000 = D0 at *
  refine W_loop (fun m a' w => ∃ (k : Nat) (g2 : G) (ra pa : Option Addr) (rc pc : Nat) (D : DiskM) (Y : TapeM) (rs : List (List UInt8)), w = g2.w ∧ St g g2 (jnL ⟨B.b, ra, rc⟩ ⟨A.b, A.bd, A.bv, pa, pc⟩ false Y ++ (dkL ⟨A.b, A.bd, A.bv, pa, pc⟩ D ++ [])) ∧ G.le g g2 ∧ JInv D Y rs ∧ DOn D D ∧ D.dur.length = 6000 ∧ Y.size ≤ 858 * k ∧ k ≤ groups.length ∧ k ≤ 6 ∧ m = 6 - k ∧
      Fr 180 [] [(0, .slice a groups.length c), (1, .int .i64 at'), (2, .int .u8 (cb.toNat : Int)), (7, .bool true), (8, .pointer (some ⟨A.b, 0, none⟩)), (10, .pointer (some ⟨B.b, 0, none⟩)), (12, .int .i64 k)] a') 6
    (fun a' ha => ⟨0, _, B.ra, pa, B.rc, pc, _, _, _, rfl, hs, le0, hJ, hd, hN, hY0, Nat.zero_le _, by omega, rfl, ha.keep (by (repeat (first | exact trivial | refine ⟨rfl, ?_⟩)))⟩) ?_
  clear hs le0 hJ hd hN hY0
  rintro m a' _ ⟨k, g2, ra, pa, rc, pc, D, Y, rs, rfl, hs, le0, hJ, hd, hN, hYs, hk, hk6, rfl, ha'⟩
  have rs1 := rsg.mono le0
  revert a'
  (with_reducible refine T_wp ?_); refine W_seq ?_; refine W_seq ?_; refine W_region ?_; (iterate 5 refine P1 T.ok rfl rfl rfl ?_)
  by_cases hlt : k < groups.length
  · refine WL_know 40 (b := decide ((k : Int) < (groups.length : Int))) (b' := true) (decide_eq_true (by omega)) rfl ?_
    (iterate 3 refine P1 T.ok rfl rfl rfl ?_); refine WL_nil ?_; (with_reducible refine T_then ?_)
    by_cases h6 : k < 6
    · refine W_yes (b := decide ((k : Int) < 6)) (decide_eq_true (by omega)) rfl ?_
      refine W_skip ?_; (with_reducible refine T_then ?_); refine W_seq ?_; refine W_block ?_; refine W_seq ?_; refine W_region ?_; (iterate 3 refine P1 T.ok rfl rfl rfl ?_)
      refine WL_o rfl rfl (OpR_idx T.ok rfl rs1 (y := groups[k]) (geti_of rfl hlt) rfl rfl rfl rfl rfl rfl ?_)
      rintro b p ys hep ⟨vk, rfl, rsk⟩
      generalize groups[k] = xs at *
      have ep0 := hep
      refine WL_o rfl rfl (OpR_loadE T.ok 0 rfl ep0 rfl rfl ?_)
      have rs2 := rsk
      refine WL_o rfl rfl (OpR_ret cl11 allF rfl rfl rfl rfl rfl (few_c _ xs _ rsk) ?_); rintro g1 vo hf1 hvo; obtain ⟨gz, hwz, hsz, hqz, hrl⟩ := hs.ownRs hf1 hvo; have hqe := hf1.le.trans hqz; rw [← hwz]; replace hs := hsz; clear hsz hvo; replace le0 := G.le.trans le0 hqe; replace ep0 := ep0.mono hqe; replace rs1 := rs1.mono hqe; replace rs2 := rs2.mono hqe
      skip
      have hcall := appendJ_c hJ hd _ (fewM xs) (fewM_short xs) (Nat.le_trans (fewM_len xs) (by decide)) (hrk.mono le0) hrl hs
      refine WL_o rfl rfl (OpR_st cl10 allF rfl rfl rfl rfl rfl hcall ?_)
      clear hs hrl hcall
      rintro g9 _ hqe ⟨ra', rc', pa', pc', D', Y', rs', e', rfl, hJ', hd', hs, hcase⟩; replace le0 := G.le.trans le0 hqe; replace ep0 := ep0.mono hqe; replace rs1 := rs1.mono hqe; replace rs2 := rs2.mono hqe
      dsimp only at hs
      have hwl := wireM_100 (fewM_100 xs) Y
      have hfl := fewM_len xs
      rw [List.length_map] at hwl
      rcases hcase with ⟨hf, _⟩ | ⟨_, rfl, hYe, hre⟩
      · rw [hN] at hf; exfalso; omega
      have hYs' : Y'.size ≤ 858 * (k + 1) := by rw [hYe, adds_size]; omega
      refine P1 T.ok rfl rfl rfl ?_; refine WL_nil ?_; (with_reducible refine T_then ?_)
      refine W_no rfl rfl ?_
      refine W_skip ?_; (with_reducible refine T_bn ?_); (with_reducible refine T_then ?_); refine W_region ?_; (iterate 3 refine P1 T.ok rfl rfl rfl ?_); refine WL_nil ?_
      exact fun a ha => ⟨6 - (k + 1), by omega, k + 1, g9, ra', pa', rc', pc', D', Y', rs', rfl, hs, le0, hJ', hd'.self, hd'.len.trans hN, hYs', by omega, by omega, rfl, ha.keep ⟨rfl, rfl, rfl, rfl, rfl, rfl, kI rfl (by rw [wr (by omega) (by omega)]; omega), trivial⟩⟩
    · refine W_no (b := decide ((k : Int) < 6)) (decide_eq_false (by omega)) rfl ?_
      clear rs1
      refine W_exit ?_; (with_reducible refine T_tx ?_; with_reducible refine T_tx ?_); (with_reducible refine T_bx ?_); (with_reducible refine T_then ?_); refine W_seq ?_; refine W_region ?_; refine P1 T.ok rfl rfl rfl ?_
      have hrec := records_c hJ.tok hs
      rw [hJ.recs] at hrec
      refine WL_o rfl rfl (OpR_ret cl19 allF rfl rfl rfl rfl rfl (hrec) ?_); rintro g1 vo hf1 hvo; obtain ⟨gz, hwz, hsz, hqz, rs1⟩ := hs.ownRs hf1 hvo; have hqe := hf1.le.trans hqz; rw [← hwz]; replace hs := hsz; clear hsz hvo; replace le0 := G.le.trans le0 hqe
      clear hrec
      obtain ⟨aw, cw, rfl⟩ := rs1.isSlice
      refine P1 T.ok rfl rfl rfl ?_; refine WL_nil ?_; (with_reducible refine T_then ?_); refine W_seq ?_; refine W_region ?_; refine P1 T.ok rfl rfl rfl ?_
      have hcall := room_c hJ.ok hJ.tok hs
      refine WL_o rfl rfl (OpR_ret cl20 allF rfl rfl rfl rfl rfl (hcall) ?_); rintro g1 _ hf1 rfl; replace hs := hs.call hf1; have hqe := hf1.le; replace le0 := G.le.trans le0 hqe; replace rs1 := rs1.mono hqe
      clear hcall
      rw [hN]
      have hnr := hJ.nrec
      have hsize := hJ.size
      have hwp := wireM_pos rs tape0
      obtain ⟨U, hU⟩ : ∃ U, U = Y.size := ⟨_, rfl⟩
      rw [← hU]
      refine P1 T.ok rfl rfl rfl ?_
      refine WL_re (.int .i64 (U : Int)) (t := 58) rfl (congrArg (Value.int .i64) (by rw [wr (by omega) (by omega)]; omega)) ?_
      refine P1 T.ok rfl rfl rfl ?_; refine WL_nil ?_; (with_reducible refine T_then ?_); refine W_seq ?_; refine W_seq ?_; refine W_region ?_; (iterate 3 refine P1 T.ok rfl rfl rfl ?_)
      by_cases hU0 : U = 0
      · obtain rfl : rs = [] := List.eq_nil_of_length_eq_zero (by omega)
        subst hU0
        refine S1 allF rfl rfl ?_; refine S1 allF rfl rfl ?_; refine P1 T.ok rfl rfl rfl ?_; refine WL_nil ?_; (with_reducible refine T_then ?_)
        refine W_yes rfl rfl ?_
        refine W_seq ?_; refine W_region ?_; (iterate 11 refine P1 T.ok rfl rfl rfl ?_); refine WL_nil ?_; (with_reducible refine T_then ?_)
        exact W_ret (ret1 rfl rfl (hs.ret rfl))
      · refine WL_know 61 (b := decide ((U : Int) ≤ 0)) (b' := false) (decide_eq_false (by omega)) rfl ?_
        (iterate 3 refine P1 T.ok rfl rfl rfl ?_); refine WL_nil ?_; (with_reducible refine T_then ?_)
        refine W_no (b := decide ((6000 : Int) < (U : Int))) (decide_eq_false (by omega)) rfl ?_
        refine W_skip ?_; (with_reducible refine T_then ?_); refine W_seq ?_; refine W_region ?_; refine P1 T.ok rfl rfl rfl ?_; refine P1 T.ok rfl rfl rfl ?_
        refine WL_o rfl rfl (OpR_ret cl14 allF rfl rfl rfl rfl rfl (pick_c at' (U : Int) _ hat (by omega)) ?_); rintro g1 _ hf1 rfl; replace hs := hs.call hf1; have hqe := hf1.le; replace le0 := G.le.trans le0 hqe; replace rs1 := rs1.mono hqe
        have hpk := pickM_range (c := at') (n := (U : Int)) (by omega)
        generalize pickM at' (U : Int) = P at *
        obtain ⟨K, rfl⟩ : ∃ K : Nat, P = (K : Int) := ⟨P.toNat, by omega⟩
        refine P1 T.ok rfl rfl rfl ?_; refine WL_nil ?_; (with_reducible refine T_then ?_); refine W_seq ?_; refine W_seq ?_; refine W_region ?_; refine P1 T.ok rfl rfl rfl ?_; refine P1 T.ok rfl rfl rfl ?_
        have hcall := sized_c _ (rs.map Str.mk) (K : Int) _ rs1 (fun x hx => by obtain ⟨r, hr, rfl⟩ := List.mem_map.1 hx; exact hJ.short r hr) (by rw [List.length_map]; omega) (by omega)
        rw [mks] at hcall
        refine WL_o rfl rfl (OpR_ret cl26 allF rfl rfl rfl rfl rfl (hcall) ?_); rintro g1 _ hf1 rfl; replace hs := hs.call hf1; have hqe := hf1.le; replace le0 := G.le.trans le0 hqe; replace rs1 := rs1.mono hqe
        clear hcall
        generalize hsd : sizedM rs (K : Int) = sd at *
        cases sd with
        | true =>
          refine WL_nil ?_; (with_reducible refine T_then ?_)
          refine W_yes rfl rfl ?_
          refine W_seq ?_; refine W_region ?_; refine P1 T.ok rfl rfl rfl ?_; refine P1 T.ok rfl rfl rfl ?_; refine WL_nil ?_; (with_reducible refine T_then ?_)
          exact W_ret (ret1 rfl rfl (hs.ret rfl))
        | false =>
          refine WL_nil ?_; (with_reducible refine T_then ?_)
          refine W_no rfl rfl ?_
          have hcall := content_c hJ.ok hs.swap
          rw [hd.off, if_neg (by decide)] at hcall
          refine W_skip ?_; (with_reducible refine T_then ?_); refine W_seq ?_; refine W_region ?_; refine P1 T.ok rfl rfl rfl ?_
          refine WL_o rfl rfl (OpR_ret cl22 allF rfl rfl rfl rfl rfl (hcall) ?_); rintro g1 _ hf1 rfl; replace hs := hs.call hf1; have hqe := hf1.le; replace le0 := G.le.trans le0 hqe; replace rs1 := rs1.mono hqe
          clear hcall
          have hvl : D.vis.length = 6000 := by rw [hJ.ok.len, hN]
          have hKl : K < D.vis.length := by omega
          refine P1 T.ok rfl rfl rfl ?_; refine WL_nil ?_; (with_reducible refine T_then ?_); refine W_seq ?_; refine W_seq ?_; refine W_region ?_; (iterate 4 refine P1 T.ok rfl rfl rfl ?_)
          refine WL_know 87 (b' := false) (by rw [bs_size, hvl]; rfl) rfl ?_
          refine P1 T.ok rfl rfl rfl ?_; refine P1 T.ok rfl rfl rfl ?_
          refine WL_o rfl rfl (OpR_idxS T.ok rfl rfl rfl rfl rfl (by omega) (by omega) ?_)
          refine WL_re (.int .u8 ((D.vis[K]'hKl).toNat : Int)) (t := 90) rfl rfl ?_
          have hgx : D.vis[K]? = some (D.vis[K]'hKl) := List.getElem?_eq_getElem hKl
          generalize D.vis[K]'hKl = x at *
          (iterate 3 refine P1 T.ok rfl rfl rfl ?_); refine WL_nil ?_; (with_reducible refine T_then ?_)
          by_cases hxc : x = cb
          · subst hxc
            refine W_yes (b := ((x.toNat : Int) == (x.toNat : Int))) (by simp) rfl ?_
            refine W_seq ?_; refine W_region ?_; (iterate 7 refine P1 T.ok rfl rfl rfl ?_); refine WL_nil ?_; (with_reducible refine T_then ?_)
            exact W_ret (ret1 rfl rfl (hs.ret (congrArg Value.bool (by rw [bs_size, hvl]; rfl))))
          · refine W_no (b := ((x.toNat : Int) == (cb.toNat : Int))) (by simp; intro h; exact hxc (UInt8.toNat_inj.1 (by omega))) rfl ?_
            refine W_skip ?_; (with_reducible refine T_then ?_); refine W_seq ?_; refine W_region ?_; (iterate 3 refine P1 T.ok rfl rfl rfl ?_)
            refine WL_o rfl rfl (OpR_lit T.ok rfl hs (vs := [(0, .int .u8 (cb.toNat : Int))]) (cells := [.int .u8 (cb.toNat : Int)]) rfl rfl rfl rfl rfl rfl (by decide) (by decide) (by kernel_rfl) rfl ?_)
            clear hs
            rintro bl gl hs hqe; replace le0 := G.le.trans le0 hqe; replace rs1 := rs1.mono hqe
            have hsrc := (Src.of_row (hs.own 0 _ rfl).1).2
            refine WL_o rfl rfl (OpR_bytesStr T.ok (ns := [(cb.toNat : Int)]) rfl rfl rfl rfl rfl rfl rfl rfl hsrc ?_)
            refine WL_re (.string (bs [cb])) (t := 104) rfl (by simp) ?_
            clear hsrc
            replace hs := hs.drop 0
            replace hs : St g gl (jnL ⟨B.b, ra, rc⟩ ⟨A.b, A.bd, A.bv, pa, pc⟩ false Y ++ (dkL ⟨A.b, A.bd, A.bv, pa, pc⟩ D ++ [])) := hs
            have hcall := dwrite_c hJ.ok hd.off K [cb] (by rw [hN]; simp; omega) hs.swap
            refine WL_o rfl rfl (OpR_st cl13 allF rfl rfl rfl rfl rfl hcall ?_)
            clear hs hcall
            rintro g3 _ hqe ⟨rfl, pa3, pc3, hs⟩; replace le0 := G.le.trans le0 hqe; replace rs1 := rs1.mono hqe
            dsimp only at hs
            refine WL_nil ?_; (with_reducible refine T_then ?_); refine W_seq ?_; refine W_region ?_; refine P1 T.ok rfl rfl rfl ?_
            have hok2 : (D.put K [cb]).ok := hJ.ok.put (by rw [hN]; simp; omega) (by rw [hd.pend]; decide)
            have hcall := jopen_c hok2 (by show (D.pend ++ [_]).length ≤ _; rw [hd.pend]; simp) (hrk.mono le0) (hE.mono le0) hs
            refine WL_o rfl rfl (OpR_st cl25 allF rfl rfl rfl rfl rfl hcall ?_)
            clear hs hcall
            rintro g4 r4 hqe hres; replace le0 := G.le.trans le0 hqe; replace rs1 := rs1.mono hqe
            have hdo := damaged_open hJ hd (k := K) (by omega) (c := cb) (by rw [hgx]; intro h; exact hxc (Option.some.inj h)) hsd
            unfold openRes at hres
            rcases hdo with ⟨D2, ho⟩ | ⟨D2, rs', ho, hsh', hok', hn', hlaw⟩
            · rw [ho] at hres
              obtain ⟨_, _, _, pa4, pc4, rfl, hs⟩ := hres
              dsimp only at hs
              (iterate 5 refine P1 T.ok rfl rfl rfl ?_); refine WL_nil ?_; (with_reducible refine T_then ?_); refine W_seq ?_; refine W_seq ?_; refine W_region ?_; refine P1 T.ok rfl rfl rfl ?_; refine P1 T.ok rfl rfl rfl ?_; refine WL_nil ?_; (with_reducible refine T_then ?_)
              refine W_yes rfl rfl ?_
              refine W_seq ?_; refine W_region ?_; refine P1 T.ok rfl rfl rfl ?_; refine P1 T.ok rfl rfl rfl ?_; refine WL_nil ?_; (with_reducible refine T_then ?_)
              exact W_ret (ret1 rfl rfl (hs.ret rfl))
            · rw [ho] at hres
              obtain ⟨_, _, _, pa4, pc4, B2, rfl, hs⟩ := hres
              dsimp only at hs
              (iterate 5 refine P1 T.ok rfl rfl rfl ?_); refine WL_nil ?_; (with_reducible refine T_then ?_); refine W_seq ?_; refine W_seq ?_; refine W_region ?_; refine P1 T.ok rfl rfl rfl ?_; refine P1 T.ok rfl rfl rfl ?_; refine WL_nil ?_; (with_reducible refine T_then ?_)
              refine W_no rfl rfl ?_
              refine W_skip ?_; (with_reducible refine T_then ?_); refine W_seq ?_; refine W_seq ?_; refine W_region ?_; (iterate 4 refine P1 T.ok rfl rfl rfl ?_)
              refine WL_o rfl rfl (OpR_eqNilPtr T.ok (neg := false) rfl rfl rfl rfl rfl ?_)
              refine P1 T.ok rfl rfl rfl ?_; refine WL_nil ?_; (with_reducible refine T_then ?_)
              refine W_no rfl rfl ?_
              refine W_skip ?_; (with_reducible refine T_then ?_); refine W_seq ?_; refine W_region ?_; refine P1 T.ok rfl rfl rfl ?_
              have hrec := records_c hok' hs
              rw [show (tape0.adds rs').recs = rs' from by rw [adds_recs]; rfl] at hrec
              refine WL_o rfl rfl (OpR_ret cl19 allF rfl rfl rfl rfl rfl (hrec) ?_); rintro g1 vo hf1 hvo; obtain ⟨gz, hwz, hsz, hqz, rs2⟩ := hs.ownRs hf1 hvo; have hqe := hf1.le.trans hqz; rw [← hwz]; replace hs := hsz; clear hsz hvo; replace le0 := G.le.trans le0 hqe; replace rs1 := rs1.mono hqe
              clear hrec
              obtain ⟨ai, ci, rfl⟩ := rs2.isSlice
              obtain ⟨LL, hs⟩ : ∃ LL, St g gz LL := ⟨_, hs⟩
              have hs1 := hs
              clear hs
              have hs := hs1
              clear hs1
              refine P1 T.ok rfl rfl rfl ?_; refine WL_nil ?_; (with_reducible refine T_then ?_); refine W_seq ?_; refine W_region ?_; (iterate 3 refine P1 T.ok rfl rfl rfl ?_)
              by_cases hc0 : cb = 0
              · refine WL_know 124 (b := ((cb.toNat : Int) == 0)) (b' := true) (by rw [hc0]; rfl) rfl ?_
                (iterate 7 refine P1 T.ok rfl rfl rfl ?_)
                by_cases hlt2 : rs'.length < rs.length
                · refine WL_know 131 (b := decide (((rs'.map Str.mk).length : Int) < ((rs.map Str.mk).length : Int))) (b' := true) (decide_eq_true (by rw [List.length_map, List.length_map]; omega)) rfl ?_
                  have hcp := rs1.cap_le
                  (iterate 4 refine P1 T.ok rfl rfl rfl ?_)
                  refine WL_o rfl rfl (OpR_cut T.ok (a := 0) (b := (rs'.map Str.mk).length) rfl rfl rfl rfl rfl rfl ⟨_, rfl⟩ (Nat.zero_le _) (by rw [List.length_map] at *; omega) ?_)
                  have rs4 := rs1.cut (a := 0) (b := (rs'.map Str.mk).length) (Nat.zero_le _) (by rw [List.length_map, List.length_map]; omega)
                  skip
                  refine WL_o rfl rfl (OpR_ret cl18 allF rfl rfl rfl rfl rfl (same_c _ _ _ _ _ rs2 rs4) ?_); rintro g1 _ hf1 ⟨bb, rfl, hbb⟩; replace hs := hs.call hf1; have hqe := hf1.le; replace le0 := G.le.trans le0 hqe; replace rs1 := rs1.mono hqe; replace rs2 := rs2.mono hqe; replace rs4 := rs4.mono hqe
                  rw [List.drop_zero] at hbb
                  clear rs4
                  cases bb with
                  | true =>
                    refine P1 T.ok rfl rfl rfl ?_; refine P1 T.ok rfl rfl rfl ?_; refine WL_nil ?_; (with_reducible refine T_then ?_); refine W_seq ?_; refine W_seq ?_; refine W_region ?_; refine P1 T.ok rfl rfl rfl ?_; refine WL_nil ?_; (with_reducible refine T_then ?_)
                    refine W_yes rfl rfl ?_
                    refine W_seq ?_; refine W_region ?_; refine P1 T.ok rfl rfl rfl ?_; refine P1 T.ok rfl rfl rfl ?_; refine WL_nil ?_; (with_reducible refine T_then ?_)
                    exact W_ret (ret1 rfl rfl (hs.ret rfl))
                  | false =>
                    have hcl : Clash [] rs rs' := by
                      rcases hlaw with h | ⟨_, m, hm, he⟩
                      · exact h
                      · exact absurd (hbb.2 (by rw [he, List.length_map, List.length_take, Nat.min_eq_left (by omega), List.map_take])) (by decide)
                    refine P1 T.ok rfl rfl rfl ?_; refine P1 T.ok rfl rfl rfl ?_; refine WL_nil ?_; (with_reducible refine T_then ?_); refine W_seq ?_; refine W_seq ?_; refine W_region ?_; refine P1 T.ok rfl rfl rfl ?_; refine WL_nil ?_; (with_reducible refine T_then ?_)
                    refine W_no rfl rfl ?_
                    have hcall := heads_c _ (rs.map Str.mk) _ rs1 (fun x hx => by obtain ⟨r, hr, rfl⟩ := List.mem_map.1 hx; have := hJ.short r hr; show r.length ≤ _; omega) (by rw [List.length_map]; omega)
                    rw [mks] at hcall
                    refine W_skip ?_; (with_reducible refine T_then ?_); refine W_seq ?_; refine W_region ?_; refine P1 T.ok rfl rfl rfl ?_
                    refine WL_o rfl rfl (OpR_ret cl27 allF rfl rfl rfl rfl rfl hcall ?_); rintro g1 vo hf1 rs3; replace hs := hs.call hf1; have hqe := hf1.le; replace le0 := G.le.trans le0 hqe; replace rs1 := rs1.mono hqe; replace rs2 := rs2.mono hqe
                    clear hcall
                    obtain ⟨a3, c3, rfl⟩ := rs3.isSlice
                    have hcall := heads_c _ (rs'.map Str.mk) _ rs2 (fun x hx => by obtain ⟨r, hr, rfl⟩ := List.mem_map.1 hx; have := hsh' r hr; show r.length ≤ _; omega) (by rw [List.length_map]; omega)
                    rw [mks] at hcall
                    refine P1 T.ok rfl rfl rfl ?_; refine WL_nil ?_; (with_reducible refine T_then ?_); refine W_seq ?_; refine W_region ?_; refine P1 T.ok rfl rfl rfl ?_
                    refine WL_o rfl rfl (OpR_ret cl27 allF rfl rfl rfl rfl rfl hcall ?_); rintro g6 vo hf1 rs4; replace hs := hs.call hf1; have hqe := hf1.le; replace le0 := G.le.trans le0 hqe; replace rs1 := rs1.mono hqe; replace rs2 := rs2.mono hqe; replace rs3 := rs3.mono hqe
                    clear hcall
                    obtain ⟨a4, c4, rfl⟩ := rs4.isSlice
                    obtain ⟨i0, x0, y0, e1, e2, e3, e4, e5⟩ := hcl
                    rw [List.nil_append] at e5
                    have hi1 : i0 < rs.length := (List.getElem?_eq_some_iff.1 e1).1
                    have hi2 : i0 < rs'.length := (List.getElem?_eq_some_iff.1 e2).1
                    have hAll := fun i x h => headsM_get (rs := rs) i x h
                    have hBll := fun i x h => headsM_get (rs := rs') i x h
                    have hla := headsM_len rs
                    have hlb := headsM_len rs'
                    generalize headsM rs = hdsA at *
                    generalize headsM rs' = hdsB at *
                    refine P1 T.ok rfl rfl rfl ?_; refine WL_nil ?_; (with_reducible refine T_then ?_); refine W_seq ?_; refine W_seq ?_; refine W_region ?_; refine P1 T.ok rfl rfl rfl ?_; refine WL_nil ?_; (with_reducible refine T_then ?_); refine W_block ?_
                    have le8 := G.le.refl g6
                    have rs3c := rs3; have rs4c := rs4
                    refine W_loop (fun m a' w => ∃ (i : Nat) (g5 : G), w = g5.w ∧ St g g5 LL ∧ G.le g g5 ∧ G.le g6 g5 ∧ i ≤ i0 ∧ m = i0 - i ∧ Fr 180 [] [(7, .bool true), (21, .slice a3 (hdsA.map Str.mk).length c3), (22, .slice a4 (hdsB.map Str.mk).length c4), (23, .int .i64 i)] a') i0
                      (fun a' ha => ⟨0, g6, rfl, hs, le0, le8, Nat.zero_le _, rfl, ha.keep (by (repeat (first | exact trivial | refine ⟨rfl, ?_⟩)))⟩) ?_
                    clear hs le0 le8 rs3 rs4
                    rintro m a' _ ⟨i, g5, rfl, hs, le0, le8, hi, rfl, ha'⟩
                    have rs3 := rs3c.mono le8
                    have rs4 := rs4c.mono le8
                    revert a'
                    (with_reducible refine T_wp ?_); refine W_seq ?_; refine W_seq ?_; refine W_region ?_; (iterate 5 refine P1 T.ok rfl rfl rfl ?_)
                    refine WL_know 149 (b := decide ((i : Int) < ((hdsA.map Str.mk).length : Int))) (b' := true) (decide_eq_true (by rw [List.length_map]; omega)) rfl ?_
                    (iterate 5 refine P1 T.ok rfl rfl rfl ?_); refine WL_nil ?_; (with_reducible refine T_then ?_)
                    refine W_yes (b := decide ((i : Int) < ((hdsB.map Str.mk).length : Int))) (decide_eq_true (by rw [List.length_map]; omega)) rfl ?_
                    obtain ⟨x, hx⟩ : ∃ x, rs[i]? = some x := ⟨_, List.getElem?_eq_getElem (by omega)⟩
                    obtain ⟨y, hy⟩ : ∃ y, rs'[i]? = some y := ⟨_, List.getElem?_eq_getElem (by omega)⟩
                    have hxl := hJ.short x (List.mem_of_getElem? hx)
                    have hyl := hsh' y (List.mem_of_getElem? hy)
                    have hga := geti_mk (hAll i x hx)
                    have hgb := geti_mk (hBll i y hy)
                    have hhl := headM_len (rs.take i)
                    have hhl' := headM_len (rs'.take i)
                    have hcls : i = i0 → [2] ++ (headM (rs.take i) ++ x) ≠ [2] ++ (headM (rs'.take i) ++ y) ∧ sumM ([2] ++ (headM (rs.take i) ++ x)) = sumM ([2] ++ (headM (rs'.take i) ++ y)) := by
                      intro h
                      subst h
                      rw [e1] at hx; rw [e2] at hy
                      cases hx; cases hy
                      rw [← e3]
                      refine ⟨fun h => e4 (List.append_cancel_left (List.append_cancel_left h)), ?_⟩
                      have h5 := e5
                      unfold chainM at h5
                      exact h5
                    have hpl : ([2] ++ (headM (rs.take i) ++ x)).length ≤ 1099511627776 := by simp only [List.length_append, List.length_cons, List.length_nil]; omega
                    have hql : ([2] ++ (headM (rs'.take i) ++ y)).length ≤ 1099511627776 := by simp only [List.length_append, List.length_cons, List.length_nil]; omega
                    generalize [2] ++ (headM (rs.take i) ++ x) = p at *
                    generalize [2] ++ (headM (rs'.take i) ++ y) = q at *
                    refine W_skip ?_; (with_reducible refine T_then ?_); refine W_seq ?_; refine W_block ?_; refine W_seq ?_
                    by_cases hpq : p = q
                    · have hine : i ≠ i0 := fun h => (hcls h).1 hpq
                      apply W_draw allF rfl (Fact.eq _ :: Fact.eq _ :: (strP1 p) :: Fact.eq _ :: Fact.eq _ :: Fact.eq _ :: (strP1 q) :: Fact.eq _ :: Fact.eq _ :: Fact.eq _ :: Fact.eq _ :: Fact.eq _ :: Fact.eq _ :: Fact.eq _ :: Fact.eq _ :: Fact.eq _ :: Fact.eq _ :: Fact.eq _ :: Fact.eq _ :: Fact.eq _ :: Fact.eq _ :: Fact.eq _ :: []) 22 [(21, 178)] rfl rfl
                      · refine D_cons (D_step2 (js := []) (by kernel_rfl) fun gd hf => ?_) ?_
                        · have hsd := hs.dr.call hf; have hfe := (G.le_dr _).trans hf.le
                          refine QA_nil ?_
                          (refine D_yes rfl ?_; refine OpR_pure _ T.ok rfl ?_; refine ⟨_, rfl, Fr0.refl _, ?_⟩; exact rfl)
                        refine D_cons (D_step2 (js := []) (by kernel_rfl) fun gd hf => ?_) ?_
                        · have hsd := hs.dr.call hf; have hfe := (G.le_dr _).trans hf.le
                          refine QA_nil ?_
                          (refine D_yes rfl ?_; refine OpR_pure _ T.ok rfl ?_; refine ⟨_, rfl, Fr0.refl _, ?_⟩; exact rfl)
                        refine D_cons (D_step2 (js := [(0, 157), (1, 158)]) (by kernel_rfl) fun gd hf => ?_) ?_
                        · have hsd := hs.dr.call hf; have hfe := (G.le_dr _).trans hf.le
                          refine QA_eq rfl ?_; refine QA_eq rfl ?_
                          refine QA_nil ?_
                          refine D_yes rfl ?_
                          refine OpR_idx T.ok rfl (rs3.mono hfe) (y := ⟨p⟩) hga rfl rfl rfl rfl rfl rfl ?_
                          intro bb pp ys hep hrc
                          exact ⟨_, rfl, Fr0.refl _, bb, pp, rfl, by rw [← show ys = [Value.string (bs p)] from hrc]; exact hep⟩
                        refine D_cons (D_step2 (js := [(2, 159)]) (by kernel_rfl) fun gd hf => ?_) ?_
                        · have hsd := hs.dr.call hf; have hfe := (G.le_dr _).trans hf.le
                          refine QA_any fun v2 h2 => ?_
                          refine QA_nil ?_
                          obtain ⟨bb, pp, rfl, hep⟩ := h2
                          refine D_yes rfl ?_
                          refine OpR_loadE T.ok 0 rfl hep rfl rfl ?_
                          exact ⟨_, rfl, Fr0.refl _, rfl⟩
                        refine D_cons (D_step2 (js := []) (by kernel_rfl) fun gd hf => ?_) ?_
                        · have hsd := hs.dr.call hf; have hfe := (G.le_dr _).trans hf.le
                          refine QA_nil ?_
                          (refine D_yes rfl ?_; refine OpR_pure _ T.ok rfl ?_; refine ⟨_, rfl, Fr0.refl _, ?_⟩; exact rfl)
                        refine D_cons (D_step2 (js := []) (by kernel_rfl) fun gd hf => ?_) ?_
                        · have hsd := hs.dr.call hf; have hfe := (G.le_dr _).trans hf.le
                          refine QA_nil ?_
                          (refine D_yes rfl ?_; refine OpR_pure _ T.ok rfl ?_; refine ⟨_, rfl, Fr0.refl _, ?_⟩; exact rfl)
                        refine D_cons (D_step2 (js := [(4, 161), (5, 162)]) (by kernel_rfl) fun gd hf => ?_) ?_
                        · have hsd := hs.dr.call hf; have hfe := (G.le_dr _).trans hf.le
                          refine QA_eq rfl ?_; refine QA_eq rfl ?_
                          refine QA_nil ?_
                          refine D_yes rfl ?_
                          refine OpR_idx T.ok rfl (rs4.mono hfe) (y := ⟨q⟩) hgb rfl rfl rfl rfl rfl rfl ?_
                          intro bb pp ys hep hrc
                          exact ⟨_, rfl, Fr0.refl _, bb, pp, rfl, by rw [← show ys = [Value.string (bs q)] from hrc]; exact hep⟩
                        refine D_cons (D_step2 (js := [(6, 163)]) (by kernel_rfl) fun gd hf => ?_) ?_
                        · have hsd := hs.dr.call hf; have hfe := (G.le_dr _).trans hf.le
                          refine QA_any fun v6 h6 => ?_
                          refine QA_nil ?_
                          obtain ⟨bb, pp, rfl, hep⟩ := h6
                          refine D_yes rfl ?_
                          refine OpR_loadE T.ok 0 rfl hep rfl rfl ?_
                          exact ⟨_, rfl, Fr0.refl _, rfl⟩
                        refine D_cons (D_step2 (js := [(3, 160), (7, 164)]) (by kernel_rfl) fun gd hf => ?_) ?_
                        · have hsd := hs.dr.call hf; have hfe := (G.le_dr _).trans hf.le
                          refine QA_eq rfl ?_; refine QA_eq rfl ?_
                          refine QA_nil ?_
                          refine D_yes rfl ?_
                          refine OpR_eqS (neg := true) rfl rfl rfl ?_
                          exact ⟨_, rfl, Fr0.refl _, show _ = Value.bool false from congrArg Value.bool (by rw [hpq, beq_self_eq_true]; rfl)⟩
                        refine D_cons (D_step2 (js := [(8, 165)]) (by kernel_rfl) fun gd hf => ?_) ?_
                        · have hsd := hs.dr.call hf; have hfe := (G.le_dr _).trans hf.le
                          refine QA_eq rfl ?_
                          refine QA_nil ?_
                          (refine D_yes rfl ?_; refine OpR_pure _ T.ok rfl ?_; refine ⟨_, rfl, Fr0.refl _, ?_⟩; exact rfl)
                        refine D_cons (D_step2 (js := [(9, 166)]) (by kernel_rfl) fun gd hf => ?_) ?_
                        · have hsd := hs.dr.call hf; have hfe := (G.le_dr _).trans hf.le
                          refine QA_eq rfl ?_
                          refine QA_nil ?_
                          (refine D_no rfl ?_; exact rfl)
                        refine D_cons (D_step2 (js := [(9, 166)]) (by kernel_rfl) fun gd hf => ?_) ?_
                        · have hsd := hs.dr.call hf; have hfe := (G.le_dr _).trans hf.le
                          refine QA_eq rfl ?_
                          refine QA_nil ?_
                          (refine D_no rfl ?_; exact rfl)
                        refine D_cons (D_step2 (js := [(10, 167), (11, 168), (9, 166)]) (by kernel_rfl) fun gd hf => ?_) ?_
                        · have hsd := hs.dr.call hf; have hfe := (G.le_dr _).trans hf.le
                          refine QA_eq rfl ?_; refine QA_eq rfl ?_; refine QA_eq rfl ?_
                          refine QA_nil ?_
                          (refine D_no rfl ?_; exact rfl)
                        refine D_cons (D_step2 (js := [(12, 169), (9, 166)]) (by kernel_rfl) fun gd hf => ?_) ?_
                        · have hsd := hs.dr.call hf; have hfe := (G.le_dr _).trans hf.le
                          refine QA_eq rfl ?_; refine QA_eq rfl ?_
                          refine QA_nil ?_
                          (refine D_no rfl ?_; exact rfl)
                        refine D_cons (D_step2 (js := [(13, 170), (9, 166), (9, 166)]) (by kernel_rfl) fun gd hf => ?_) ?_
                        · have hsd := hs.dr.call hf; have hfe := (G.le_dr _).trans hf.le
                          refine QA_eq rfl ?_; refine QA_eq rfl ?_; refine QA_eq rfl ?_
                          refine QA_nil ?_
                          (refine D_no rfl ?_; exact rfl)
                        refine D_cons (D_step2 (js := [(9, 166)]) (by kernel_rfl) fun gd hf => ?_) ?_
                        · have hsd := hs.dr.call hf; have hfe := (G.le_dr _).trans hf.le
                          refine QA_eq rfl ?_
                          refine QA_nil ?_
                          (refine D_no rfl ?_; exact rfl)
                        refine D_cons (D_step2 (js := [(9, 166)]) (by kernel_rfl) fun gd hf => ?_) ?_
                        · have hsd := hs.dr.call hf; have hfe := (G.le_dr _).trans hf.le
                          refine QA_eq rfl ?_
                          refine QA_nil ?_
                          (refine D_no rfl ?_; exact rfl)
                        refine D_cons (D_step2 (js := [(15, 172), (16, 173), (9, 166)]) (by kernel_rfl) fun gd hf => ?_) ?_
                        · have hsd := hs.dr.call hf; have hfe := (G.le_dr _).trans hf.le
                          refine QA_eq rfl ?_; refine QA_eq rfl ?_; refine QA_eq rfl ?_
                          refine QA_nil ?_
                          (refine D_no rfl ?_; exact rfl)
                        refine D_cons (D_step2 (js := [(17, 174), (9, 166)]) (by kernel_rfl) fun gd hf => ?_) ?_
                        · have hsd := hs.dr.call hf; have hfe := (G.le_dr _).trans hf.le
                          refine QA_eq rfl ?_; refine QA_eq rfl ?_
                          refine QA_nil ?_
                          (refine D_no rfl ?_; exact rfl)
                        refine D_cons (D_step2 (js := [(18, 175), (9, 166)]) (by kernel_rfl) fun gd hf => ?_) ?_
                        · have hsd := hs.dr.call hf; have hfe := (G.le_dr _).trans hf.le
                          refine QA_eq rfl ?_; refine QA_eq rfl ?_
                          refine QA_nil ?_
                          (refine D_no rfl ?_; exact rfl)
                        refine D_cons (D_step2 (js := [(14, 171), (19, 176), (9, 166)]) (by kernel_rfl) fun gd hf => ?_) ?_
                        · have hsd := hs.dr.call hf; have hfe := (G.le_dr _).trans hf.le
                          refine QA_eq rfl ?_; refine QA_eq rfl ?_; refine QA_eq rfl ?_
                          refine QA_nil ?_
                          (refine D_no rfl ?_; exact rfl)
                        refine D_cons (D_step2 (js := [(9, 166), (20, 177)]) (by kernel_rfl) fun gd hf => ?_) ?_
                        · have hsd := hs.dr.call hf; have hfe := (G.le_dr _).trans hf.le
                          refine QA_eq rfl ?_; refine QA_eq rfl ?_
                          refine QA_nil ?_
                          (refine D_yes rfl ?_; refine OpR_pure _ T.ok rfl ?_; refine ⟨_, rfl, Fr0.refl _, ?_⟩; exact rfl)
                        exact D_nil
                      intro g1 hf1; refine QA_eq rfl ?_; refine QA_nil ?_
                      replace hs := hs.dr.call hf1; have hqe := (G.le_dr _).trans hf1.le; replace le0 := G.le.trans le0 hqe; replace le8 := G.le.trans le8 hqe; replace rs3 := rs3.mono hqe; replace rs4 := rs4.mono hqe
                      refine WL_nil ?_; (with_reducible refine T_then ?_)
                      refine W_no rfl rfl ?_
                      refine W_skip ?_; (with_reducible refine T_bn ?_); (with_reducible refine T_then ?_); refine W_region ?_; (iterate 3 refine P1 T.ok rfl rfl rfl ?_); refine WL_nil ?_
                      exact fun a ha => ⟨i0 - (i + 1), by omega, i + 1, _, rfl, hs, le0, le8, by omega, rfl, ha.keep ⟨rfl, rfl, rfl, kI rfl (by rw [wr (by omega) (by omega)]; omega), trivial⟩⟩
                    · by_cases hsum : sumM p = sumM q
                      · apply W_draw allF rfl (Fact.eq _ :: Fact.eq _ :: (strP1 p) :: Fact.eq _ :: Fact.eq _ :: Fact.eq _ :: (strP1 q) :: Fact.eq _ :: Fact.eq _ :: Fact.eq _ :: Fact.eq _ :: Fact.eq _ :: (strP1 p) :: Fact.eq _ :: Fact.eq _ :: Fact.eq _ :: Fact.eq _ :: (strP1 q) :: Fact.eq _ :: Fact.eq _ :: Fact.eq _ :: Fact.eq _ :: []) 22 [(21, 178)] rfl rfl
                        · refine D_cons (D_step2 (js := []) (by kernel_rfl) fun gd hf => ?_) ?_
                          · have hsd := hs.dr.call hf; have hfe := (G.le_dr _).trans hf.le
                            refine QA_nil ?_
                            (refine D_yes rfl ?_; refine OpR_pure _ T.ok rfl ?_; refine ⟨_, rfl, Fr0.refl _, ?_⟩; exact rfl)
                          refine D_cons (D_step2 (js := []) (by kernel_rfl) fun gd hf => ?_) ?_
                          · have hsd := hs.dr.call hf; have hfe := (G.le_dr _).trans hf.le
                            refine QA_nil ?_
                            (refine D_yes rfl ?_; refine OpR_pure _ T.ok rfl ?_; refine ⟨_, rfl, Fr0.refl _, ?_⟩; exact rfl)
                          refine D_cons (D_step2 (js := [(0, 157), (1, 158)]) (by kernel_rfl) fun gd hf => ?_) ?_
                          · have hsd := hs.dr.call hf; have hfe := (G.le_dr _).trans hf.le
                            refine QA_eq rfl ?_; refine QA_eq rfl ?_
                            refine QA_nil ?_
                            refine D_yes rfl ?_
                            refine OpR_idx T.ok rfl (rs3.mono hfe) (y := ⟨p⟩) hga rfl rfl rfl rfl rfl rfl ?_
                            intro bb pp ys hep hrc
                            exact ⟨_, rfl, Fr0.refl _, bb, pp, rfl, by rw [← show ys = [Value.string (bs p)] from hrc]; exact hep⟩
                          refine D_cons (D_step2 (js := [(2, 159)]) (by kernel_rfl) fun gd hf => ?_) ?_
                          · have hsd := hs.dr.call hf; have hfe := (G.le_dr _).trans hf.le
                            refine QA_any fun v2 h2 => ?_
                            refine QA_nil ?_
                            obtain ⟨bb, pp, rfl, hep⟩ := h2
                            refine D_yes rfl ?_
                            refine OpR_loadE T.ok 0 rfl hep rfl rfl ?_
                            exact ⟨_, rfl, Fr0.refl _, rfl⟩
                          refine D_cons (D_step2 (js := []) (by kernel_rfl) fun gd hf => ?_) ?_
                          · have hsd := hs.dr.call hf; have hfe := (G.le_dr _).trans hf.le
                            refine QA_nil ?_
                            (refine D_yes rfl ?_; refine OpR_pure _ T.ok rfl ?_; refine ⟨_, rfl, Fr0.refl _, ?_⟩; exact rfl)
                          refine D_cons (D_step2 (js := []) (by kernel_rfl) fun gd hf => ?_) ?_
                          · have hsd := hs.dr.call hf; have hfe := (G.le_dr _).trans hf.le
                            refine QA_nil ?_
                            (refine D_yes rfl ?_; refine OpR_pure _ T.ok rfl ?_; refine ⟨_, rfl, Fr0.refl _, ?_⟩; exact rfl)
                          refine D_cons (D_step2 (js := [(4, 161), (5, 162)]) (by kernel_rfl) fun gd hf => ?_) ?_
                          · have hsd := hs.dr.call hf; have hfe := (G.le_dr _).trans hf.le
                            refine QA_eq rfl ?_; refine QA_eq rfl ?_
                            refine QA_nil ?_
                            refine D_yes rfl ?_
                            refine OpR_idx T.ok rfl (rs4.mono hfe) (y := ⟨q⟩) hgb rfl rfl rfl rfl rfl rfl ?_
                            intro bb pp ys hep hrc
                            exact ⟨_, rfl, Fr0.refl _, bb, pp, rfl, by rw [← show ys = [Value.string (bs q)] from hrc]; exact hep⟩
                          refine D_cons (D_step2 (js := [(6, 163)]) (by kernel_rfl) fun gd hf => ?_) ?_
                          · have hsd := hs.dr.call hf; have hfe := (G.le_dr _).trans hf.le
                            refine QA_any fun v6 h6 => ?_
                            refine QA_nil ?_
                            obtain ⟨bb, pp, rfl, hep⟩ := h6
                            refine D_yes rfl ?_
                            refine OpR_loadE T.ok 0 rfl hep rfl rfl ?_
                            exact ⟨_, rfl, Fr0.refl _, rfl⟩
                          refine D_cons (D_step2 (js := [(3, 160), (7, 164)]) (by kernel_rfl) fun gd hf => ?_) ?_
                          · have hsd := hs.dr.call hf; have hfe := (G.le_dr _).trans hf.le
                            refine QA_eq rfl ?_; refine QA_eq rfl ?_
                            refine QA_nil ?_
                            refine D_yes rfl ?_
                            refine OpR_eqS (neg := true) rfl rfl rfl ?_
                            exact ⟨_, rfl, Fr0.refl _, show _ = Value.bool true from congrArg Value.bool (by rw [beq_eq_false_iff_ne.2 hpq]; rfl)⟩
                          refine D_cons (D_step2 (js := [(8, 165)]) (by kernel_rfl) fun gd hf => ?_) ?_
                          · have hsd := hs.dr.call hf; have hfe := (G.le_dr _).trans hf.le
                            refine QA_eq rfl ?_
                            refine QA_nil ?_
                            (refine D_yes rfl ?_; refine OpR_pure _ T.ok rfl ?_; refine ⟨_, rfl, Fr0.refl _, ?_⟩; exact rfl)
                          refine D_cons (D_step2 (js := [(9, 166)]) (by kernel_rfl) fun gd hf => ?_) ?_
                          · have hsd := hs.dr.call hf; have hfe := (G.le_dr _).trans hf.le
                            refine QA_eq rfl ?_
                            refine QA_nil ?_
                            (refine D_yes rfl ?_; refine OpR_pure _ T.ok rfl ?_; refine ⟨_, rfl, Fr0.refl _, ?_⟩; exact rfl)
                          refine D_cons (D_step2 (js := [(9, 166)]) (by kernel_rfl) fun gd hf => ?_) ?_
                          · have hsd := hs.dr.call hf; have hfe := (G.le_dr _).trans hf.le
                            refine QA_eq rfl ?_
                            refine QA_nil ?_
                            (refine D_yes rfl ?_; refine OpR_pure _ T.ok rfl ?_; refine ⟨_, rfl, Fr0.refl _, ?_⟩; exact rfl)
                          refine D_cons (D_step2 (js := [(10, 167), (11, 168), (9, 166)]) (by kernel_rfl) fun gd hf => ?_) ?_
                          · have hsd := hs.dr.call hf; have hfe := (G.le_dr _).trans hf.le
                            refine QA_eq rfl ?_; refine QA_eq rfl ?_; refine QA_eq rfl ?_
                            refine QA_nil ?_
                            refine D_yes rfl ?_
                            refine OpR_idx T.ok rfl (rs3.mono hfe) (y := ⟨p⟩) hga rfl rfl rfl rfl rfl rfl ?_
                            intro bb pp ys hep hrc
                            exact ⟨_, rfl, Fr0.refl _, bb, pp, rfl, by rw [← show ys = [Value.string (bs p)] from hrc]; exact hep⟩
                          refine D_cons (D_step2 (js := [(12, 169), (9, 166)]) (by kernel_rfl) fun gd hf => ?_) ?_
                          · have hsd := hs.dr.call hf; have hfe := (G.le_dr _).trans hf.le
                            refine QA_any fun v12 h12 => ?_; refine QA_eq rfl ?_
                            refine QA_nil ?_
                            obtain ⟨bb, pp, rfl, hep⟩ := h12
                            refine D_yes rfl ?_
                            refine OpR_loadE T.ok 0 rfl hep rfl rfl ?_
                            exact ⟨_, rfl, Fr0.refl _, rfl⟩
                          refine D_cons (D_step2 (js := [(13, 170), (9, 166), (9, 166)]) (by kernel_rfl) fun gd hf => ?_) ?_
                          · have hsd := hs.dr.call hf; have hfe := (G.le_dr _).trans hf.le
                            refine QA_eq rfl ?_; refine QA_eq rfl ?_; refine QA_eq rfl ?_
                            refine QA_nil ?_
                            refine D_yes rfl ?_
                            refine OpR_ret cl28 allF rfl rfl rfl rfl rfl (rsum_c p _ hpl) fun g' v h1 h2 => ⟨g', rfl, h1, ?_⟩
                            exact h2
                          refine D_cons (D_step2 (js := [(9, 166)]) (by kernel_rfl) fun gd hf => ?_) ?_
                          · have hsd := hs.dr.call hf; have hfe := (G.le_dr _).trans hf.le
                            refine QA_eq rfl ?_
                            refine QA_nil ?_
                            (refine D_yes rfl ?_; refine OpR_pure _ T.ok rfl ?_; refine ⟨_, rfl, Fr0.refl _, ?_⟩; exact rfl)
                          refine D_cons (D_step2 (js := [(9, 166)]) (by kernel_rfl) fun gd hf => ?_) ?_
                          · have hsd := hs.dr.call hf; have hfe := (G.le_dr _).trans hf.le
                            refine QA_eq rfl ?_
                            refine QA_nil ?_
                            (refine D_yes rfl ?_; refine OpR_pure _ T.ok rfl ?_; refine ⟨_, rfl, Fr0.refl _, ?_⟩; exact rfl)
                          refine D_cons (D_step2 (js := [(15, 172), (16, 173), (9, 166)]) (by kernel_rfl) fun gd hf => ?_) ?_
                          · have hsd := hs.dr.call hf; have hfe := (G.le_dr _).trans hf.le
                            refine QA_eq rfl ?_; refine QA_eq rfl ?_; refine QA_eq rfl ?_
                            refine QA_nil ?_
                            refine D_yes rfl ?_
                            refine OpR_idx T.ok rfl (rs4.mono hfe) (y := ⟨q⟩) hgb rfl rfl rfl rfl rfl rfl ?_
                            intro bb pp ys hep hrc
                            exact ⟨_, rfl, Fr0.refl _, bb, pp, rfl, by rw [← show ys = [Value.string (bs q)] from hrc]; exact hep⟩
                          refine D_cons (D_step2 (js := [(17, 174), (9, 166)]) (by kernel_rfl) fun gd hf => ?_) ?_
                          · have hsd := hs.dr.call hf; have hfe := (G.le_dr _).trans hf.le
                            refine QA_any fun v17 h17 => ?_; refine QA_eq rfl ?_
                            refine QA_nil ?_
                            obtain ⟨bb, pp, rfl, hep⟩ := h17
                            refine D_yes rfl ?_
                            refine OpR_loadE T.ok 0 rfl hep rfl rfl ?_
                            exact ⟨_, rfl, Fr0.refl _, rfl⟩
                          refine D_cons (D_step2 (js := [(18, 175), (9, 166)]) (by kernel_rfl) fun gd hf => ?_) ?_
                          · have hsd := hs.dr.call hf; have hfe := (G.le_dr _).trans hf.le
                            refine QA_eq rfl ?_; refine QA_eq rfl ?_
                            refine QA_nil ?_
                            refine D_yes rfl ?_
                            refine OpR_ret cl28 allF rfl rfl rfl rfl rfl (rsum_c q _ hql) fun g' v h1 h2 => ⟨g', rfl, h1, ?_⟩
                            exact h2
                          refine D_cons (D_step2 (js := [(14, 171), (19, 176), (9, 166)]) (by kernel_rfl) fun gd hf => ?_) ?_
                          · have hsd := hs.dr.call hf; have hfe := (G.le_dr _).trans hf.le
                            refine QA_eq rfl ?_; refine QA_eq rfl ?_; refine QA_eq rfl ?_
                            refine QA_nil ?_
                            refine D_yes rfl ?_
                            refine OpR_eqS (neg := false) rfl rfl rfl ?_
                            exact ⟨_, rfl, Fr0.refl _, show _ = Value.bool true from congrArg Value.bool (by rw [hsum, beq_self_eq_true]; rfl)⟩
                          refine D_cons (D_step2 (js := [(9, 166), (20, 177)]) (by kernel_rfl) fun gd hf => ?_) ?_
                          · have hsd := hs.dr.call hf; have hfe := (G.le_dr _).trans hf.le
                            refine QA_eq rfl ?_; refine QA_eq rfl ?_
                            refine QA_nil ?_
                            (refine D_yes rfl ?_; refine OpR_pure _ T.ok rfl ?_; refine ⟨_, rfl, Fr0.refl _, ?_⟩; exact rfl)
                          exact D_nil
                        intro g1 hf1; refine QA_eq rfl ?_; refine QA_nil ?_
                        replace hs := hs.dr.call hf1; have hqe := (G.le_dr _).trans hf1.le; replace le0 := G.le.trans le0 hqe; replace le8 := G.le.trans le8 hqe; replace rs3 := rs3.mono hqe; replace rs4 := rs4.mono hqe
                        refine WL_nil ?_; (with_reducible refine T_then ?_)
                        refine W_yes rfl rfl ?_
                        refine W_seq ?_; refine W_region ?_; refine P1 T.ok rfl rfl rfl ?_; refine P1 T.ok rfl rfl rfl ?_; refine WL_nil ?_; (with_reducible refine T_then ?_)
                        exact W_ret (ret1 rfl rfl (hs.ret rfl))
                      · have hine : i ≠ i0 := fun h => hsum (hcls h).2
                        apply W_draw allF rfl (Fact.eq _ :: Fact.eq _ :: (strP1 p) :: Fact.eq _ :: Fact.eq _ :: Fact.eq _ :: (strP1 q) :: Fact.eq _ :: Fact.eq _ :: Fact.eq _ :: Fact.eq _ :: Fact.eq _ :: (strP1 p) :: Fact.eq _ :: Fact.eq _ :: Fact.eq _ :: Fact.eq _ :: (strP1 q) :: Fact.eq _ :: Fact.eq _ :: Fact.eq _ :: Fact.eq _ :: []) 22 [(21, 178)] rfl rfl
                        · refine D_cons (D_step2 (js := []) (by kernel_rfl) fun gd hf => ?_) ?_
                          · have hsd := hs.dr.call hf; have hfe := (G.le_dr _).trans hf.le
                            refine QA_nil ?_
                            (refine D_yes rfl ?_; refine OpR_pure _ T.ok rfl ?_; refine ⟨_, rfl, Fr0.refl _, ?_⟩; exact rfl)
                          refine D_cons (D_step2 (js := []) (by kernel_rfl) fun gd hf => ?_) ?_
                          · have hsd := hs.dr.call hf; have hfe := (G.le_dr _).trans hf.le
                            refine QA_nil ?_
                            (refine D_yes rfl ?_; refine OpR_pure _ T.ok rfl ?_; refine ⟨_, rfl, Fr0.refl _, ?_⟩; exact rfl)
                          refine D_cons (D_step2 (js := [(0, 157), (1, 158)]) (by kernel_rfl) fun gd hf => ?_) ?_
                          · have hsd := hs.dr.call hf; have hfe := (G.le_dr _).trans hf.le
                            refine QA_eq rfl ?_; refine QA_eq rfl ?_
                            refine QA_nil ?_
                            refine D_yes rfl ?_
                            refine OpR_idx T.ok rfl (rs3.mono hfe) (y := ⟨p⟩) hga rfl rfl rfl rfl rfl rfl ?_
                            intro bb pp ys hep hrc
                            exact ⟨_, rfl, Fr0.refl _, bb, pp, rfl, by rw [← show ys = [Value.string (bs p)] from hrc]; exact hep⟩
                          refine D_cons (D_step2 (js := [(2, 159)]) (by kernel_rfl) fun gd hf => ?_) ?_
                          · have hsd := hs.dr.call hf; have hfe := (G.le_dr _).trans hf.le
                            refine QA_any fun v2 h2 => ?_
                            refine QA_nil ?_
                            obtain ⟨bb, pp, rfl, hep⟩ := h2
                            refine D_yes rfl ?_
                            refine OpR_loadE T.ok 0 rfl hep rfl rfl ?_
                            exact ⟨_, rfl, Fr0.refl _, rfl⟩
                          refine D_cons (D_step2 (js := []) (by kernel_rfl) fun gd hf => ?_) ?_
                          · have hsd := hs.dr.call hf; have hfe := (G.le_dr _).trans hf.le
                            refine QA_nil ?_
                            (refine D_yes rfl ?_; refine OpR_pure _ T.ok rfl ?_; refine ⟨_, rfl, Fr0.refl _, ?_⟩; exact rfl)
                          refine D_cons (D_step2 (js := []) (by kernel_rfl) fun gd hf => ?_) ?_
                          · have hsd := hs.dr.call hf; have hfe := (G.le_dr _).trans hf.le
                            refine QA_nil ?_
                            (refine D_yes rfl ?_; refine OpR_pure _ T.ok rfl ?_; refine ⟨_, rfl, Fr0.refl _, ?_⟩; exact rfl)
                          refine D_cons (D_step2 (js := [(4, 161), (5, 162)]) (by kernel_rfl) fun gd hf => ?_) ?_
                          · have hsd := hs.dr.call hf; have hfe := (G.le_dr _).trans hf.le
                            refine QA_eq rfl ?_; refine QA_eq rfl ?_
                            refine QA_nil ?_
                            refine D_yes rfl ?_
                            refine OpR_idx T.ok rfl (rs4.mono hfe) (y := ⟨q⟩) hgb rfl rfl rfl rfl rfl rfl ?_
                            intro bb pp ys hep hrc
                            exact ⟨_, rfl, Fr0.refl _, bb, pp, rfl, by rw [← show ys = [Value.string (bs q)] from hrc]; exact hep⟩
                          refine D_cons (D_step2 (js := [(6, 163)]) (by kernel_rfl) fun gd hf => ?_) ?_
                          · have hsd := hs.dr.call hf; have hfe := (G.le_dr _).trans hf.le
                            refine QA_any fun v6 h6 => ?_
                            refine QA_nil ?_
                            obtain ⟨bb, pp, rfl, hep⟩ := h6
                            refine D_yes rfl ?_
                            refine OpR_loadE T.ok 0 rfl hep rfl rfl ?_
                            exact ⟨_, rfl, Fr0.refl _, rfl⟩
                          refine D_cons (D_step2 (js := [(3, 160), (7, 164)]) (by kernel_rfl) fun gd hf => ?_) ?_
                          · have hsd := hs.dr.call hf; have hfe := (G.le_dr _).trans hf.le
                            refine QA_eq rfl ?_; refine QA_eq rfl ?_
                            refine QA_nil ?_
                            refine D_yes rfl ?_
                            refine OpR_eqS (neg := true) rfl rfl rfl ?_
                            exact ⟨_, rfl, Fr0.refl _, show _ = Value.bool true from congrArg Value.bool (by rw [beq_eq_false_iff_ne.2 hpq]; rfl)⟩
                          refine D_cons (D_step2 (js := [(8, 165)]) (by kernel_rfl) fun gd hf => ?_) ?_
                          · have hsd := hs.dr.call hf; have hfe := (G.le_dr _).trans hf.le
                            refine QA_eq rfl ?_
                            refine QA_nil ?_
                            (refine D_yes rfl ?_; refine OpR_pure _ T.ok rfl ?_; refine ⟨_, rfl, Fr0.refl _, ?_⟩; exact rfl)
                          refine D_cons (D_step2 (js := [(9, 166)]) (by kernel_rfl) fun gd hf => ?_) ?_
                          · have hsd := hs.dr.call hf; have hfe := (G.le_dr _).trans hf.le
                            refine QA_eq rfl ?_
                            refine QA_nil ?_
                            (refine D_yes rfl ?_; refine OpR_pure _ T.ok rfl ?_; refine ⟨_, rfl, Fr0.refl _, ?_⟩; exact rfl)
                          refine D_cons (D_step2 (js := [(9, 166)]) (by kernel_rfl) fun gd hf => ?_) ?_
                          · have hsd := hs.dr.call hf; have hfe := (G.le_dr _).trans hf.le
                            refine QA_eq rfl ?_
                            refine QA_nil ?_
                            (refine D_yes rfl ?_; refine OpR_pure _ T.ok rfl ?_; refine ⟨_, rfl, Fr0.refl _, ?_⟩; exact rfl)
                          refine D_cons (D_step2 (js := [(10, 167), (11, 168), (9, 166)]) (by kernel_rfl) fun gd hf => ?_) ?_
                          · have hsd := hs.dr.call hf; have hfe := (G.le_dr _).trans hf.le
                            refine QA_eq rfl ?_; refine QA_eq rfl ?_; refine QA_eq rfl ?_
                            refine QA_nil ?_
                            refine D_yes rfl ?_
                            refine OpR_idx T.ok rfl (rs3.mono hfe) (y := ⟨p⟩) hga rfl rfl rfl rfl rfl rfl ?_
                            intro bb pp ys hep hrc
                            exact ⟨_, rfl, Fr0.refl _, bb, pp, rfl, by rw [← show ys = [Value.string (bs p)] from hrc]; exact hep⟩
                          refine D_cons (D_step2 (js := [(12, 169), (9, 166)]) (by kernel_rfl) fun gd hf => ?_) ?_
                          · have hsd := hs.dr.call hf; have hfe := (G.le_dr _).trans hf.le
                            refine QA_any fun v12 h12 => ?_; refine QA_eq rfl ?_
                            refine QA_nil ?_
                            obtain ⟨bb, pp, rfl, hep⟩ := h12
                            refine D_yes rfl ?_
                            refine OpR_loadE T.ok 0 rfl hep rfl rfl ?_
                            exact ⟨_, rfl, Fr0.refl _, rfl⟩
                          refine D_cons (D_step2 (js := [(13, 170), (9, 166), (9, 166)]) (by kernel_rfl) fun gd hf => ?_) ?_
                          · have hsd := hs.dr.call hf; have hfe := (G.le_dr _).trans hf.le
                            refine QA_eq rfl ?_; refine QA_eq rfl ?_; refine QA_eq rfl ?_
                            refine QA_nil ?_
                            refine D_yes rfl ?_
                            refine OpR_ret cl28 allF rfl rfl rfl rfl rfl (rsum_c p _ hpl) fun g' v h1 h2 => ⟨g', rfl, h1, ?_⟩
                            exact h2
                          refine D_cons (D_step2 (js := [(9, 166)]) (by kernel_rfl) fun gd hf => ?_) ?_
                          · have hsd := hs.dr.call hf; have hfe := (G.le_dr _).trans hf.le
                            refine QA_eq rfl ?_
                            refine QA_nil ?_
                            (refine D_yes rfl ?_; refine OpR_pure _ T.ok rfl ?_; refine ⟨_, rfl, Fr0.refl _, ?_⟩; exact rfl)
                          refine D_cons (D_step2 (js := [(9, 166)]) (by kernel_rfl) fun gd hf => ?_) ?_
                          · have hsd := hs.dr.call hf; have hfe := (G.le_dr _).trans hf.le
                            refine QA_eq rfl ?_
                            refine QA_nil ?_
                            (refine D_yes rfl ?_; refine OpR_pure _ T.ok rfl ?_; refine ⟨_, rfl, Fr0.refl _, ?_⟩; exact rfl)
                          refine D_cons (D_step2 (js := [(15, 172), (16, 173), (9, 166)]) (by kernel_rfl) fun gd hf => ?_) ?_
                          · have hsd := hs.dr.call hf; have hfe := (G.le_dr _).trans hf.le
                            refine QA_eq rfl ?_; refine QA_eq rfl ?_; refine QA_eq rfl ?_
                            refine QA_nil ?_
                            refine D_yes rfl ?_
                            refine OpR_idx T.ok rfl (rs4.mono hfe) (y := ⟨q⟩) hgb rfl rfl rfl rfl rfl rfl ?_
                            intro bb pp ys hep hrc
                            exact ⟨_, rfl, Fr0.refl _, bb, pp, rfl, by rw [← show ys = [Value.string (bs q)] from hrc]; exact hep⟩
                          refine D_cons (D_step2 (js := [(17, 174), (9, 166)]) (by kernel_rfl) fun gd hf => ?_) ?_
                          · have hsd := hs.dr.call hf; have hfe := (G.le_dr _).trans hf.le
                            refine QA_any fun v17 h17 => ?_; refine QA_eq rfl ?_
                            refine QA_nil ?_
                            obtain ⟨bb, pp, rfl, hep⟩ := h17
                            refine D_yes rfl ?_
                            refine OpR_loadE T.ok 0 rfl hep rfl rfl ?_
                            exact ⟨_, rfl, Fr0.refl _, rfl⟩
                          refine D_cons (D_step2 (js := [(18, 175), (9, 166)]) (by kernel_rfl) fun gd hf => ?_) ?_
                          · have hsd := hs.dr.call hf; have hfe := (G.le_dr _).trans hf.le
                            refine QA_eq rfl ?_; refine QA_eq rfl ?_
                            refine QA_nil ?_
                            refine D_yes rfl ?_
                            refine OpR_ret cl28 allF rfl rfl rfl rfl rfl (rsum_c q _ hql) fun g' v h1 h2 => ⟨g', rfl, h1, ?_⟩
                            exact h2
                          refine D_cons (D_step2 (js := [(14, 171), (19, 176), (9, 166)]) (by kernel_rfl) fun gd hf => ?_) ?_
                          · have hsd := hs.dr.call hf; have hfe := (G.le_dr _).trans hf.le
                            refine QA_eq rfl ?_; refine QA_eq rfl ?_; refine QA_eq rfl ?_
                            refine QA_nil ?_
                            refine D_yes rfl ?_
                            refine OpR_eqS (neg := false) rfl rfl rfl ?_
                            exact ⟨_, rfl, Fr0.refl _, show _ = Value.bool false from congrArg Value.bool (by rw [beq_eq_false_iff_ne.2 hsum]; rfl)⟩
                          refine D_cons (D_step2 (js := [(9, 166), (20, 177)]) (by kernel_rfl) fun gd hf => ?_) ?_
                          · have hsd := hs.dr.call hf; have hfe := (G.le_dr _).trans hf.le
                            refine QA_eq rfl ?_; refine QA_eq rfl ?_
                            refine QA_nil ?_
                            (refine D_yes rfl ?_; refine OpR_pure _ T.ok rfl ?_; refine ⟨_, rfl, Fr0.refl _, ?_⟩; exact rfl)
                          exact D_nil
                        intro g1 hf1; refine QA_eq rfl ?_; refine QA_nil ?_
                        replace hs := hs.dr.call hf1; have hqe := (G.le_dr _).trans hf1.le; replace le0 := G.le.trans le0 hqe; replace le8 := G.le.trans le8 hqe; replace rs3 := rs3.mono hqe; replace rs4 := rs4.mono hqe
                        refine WL_nil ?_; (with_reducible refine T_then ?_)
                        refine W_no rfl rfl ?_
                        refine W_skip ?_; (with_reducible refine T_bn ?_); (with_reducible refine T_then ?_); refine W_region ?_; (iterate 3 refine P1 T.ok rfl rfl rfl ?_); refine WL_nil ?_
                        exact fun a ha => ⟨i0 - (i + 1), by omega, i + 1, _, rfl, hs, le0, le8, by omega, rfl, ha.keep ⟨rfl, rfl, rfl, kI rfl (by rw [wr (by omega) (by omega)]; omega), trivial⟩⟩
                · refine WL_know 131 (b := decide (((rs'.map Str.mk).length : Int) < ((rs.map Str.mk).length : Int))) (b' := false) (decide_eq_false (by rw [List.length_map, List.length_map]; omega)) rfl ?_
                  have hcl : Clash [] rs rs' := by
                    rcases hlaw with h | ⟨_, m, hm, he⟩
                    · exact h
                    · rw [he, List.length_take] at hlt2; exfalso; omega
                  (iterate 6 refine S1 allF rfl rfl ?_); refine P1 T.ok rfl rfl rfl ?_; refine P1 T.ok rfl rfl rfl ?_; refine WL_nil ?_; (with_reducible refine T_then ?_); refine W_seq ?_; refine W_seq ?_; refine W_region ?_; refine P1 T.ok rfl rfl rfl ?_; refine WL_nil ?_; (with_reducible refine T_then ?_)
                  refine W_no rfl rfl ?_
                  have hcall := heads_c _ (rs.map Str.mk) _ rs1 (fun x hx => by obtain ⟨r, hr, rfl⟩ := List.mem_map.1 hx; have := hJ.short r hr; show r.length ≤ _; omega) (by rw [List.length_map]; omega)
                  rw [mks] at hcall
                  refine W_skip ?_; (with_reducible refine T_then ?_); refine W_seq ?_; refine W_region ?_; refine P1 T.ok rfl rfl rfl ?_
                  refine WL_o rfl rfl (OpR_ret cl27 allF rfl rfl rfl rfl rfl hcall ?_); rintro g1 vo hf1 rs3; replace hs := hs.call hf1; have hqe := hf1.le; replace le0 := G.le.trans le0 hqe; replace rs1 := rs1.mono hqe; replace rs2 := rs2.mono hqe
                  clear hcall
                  obtain ⟨a3, c3, rfl⟩ := rs3.isSlice
                  have hcall := heads_c _ (rs'.map Str.mk) _ rs2 (fun x hx => by obtain ⟨r, hr, rfl⟩ := List.mem_map.1 hx; have := hsh' r hr; show r.length ≤ _; omega) (by rw [List.length_map]; omega)
                  rw [mks] at hcall
                  refine P1 T.ok rfl rfl rfl ?_; refine WL_nil ?_; (with_reducible refine T_then ?_); refine W_seq ?_; refine W_region ?_; refine P1 T.ok rfl rfl rfl ?_
                  refine WL_o rfl rfl (OpR_ret cl27 allF rfl rfl rfl rfl rfl hcall ?_); rintro g6 vo hf1 rs4; replace hs := hs.call hf1; have hqe := hf1.le; replace le0 := G.le.trans le0 hqe; replace rs1 := rs1.mono hqe; replace rs2 := rs2.mono hqe; replace rs3 := rs3.mono hqe
                  clear hcall
                  obtain ⟨a4, c4, rfl⟩ := rs4.isSlice
                  obtain ⟨i0, x0, y0, e1, e2, e3, e4, e5⟩ := hcl
                  rw [List.nil_append] at e5
                  have hi1 : i0 < rs.length := (List.getElem?_eq_some_iff.1 e1).1
                  have hi2 : i0 < rs'.length := (List.getElem?_eq_some_iff.1 e2).1
                  have hAll := fun i x h => headsM_get (rs := rs) i x h
                  have hBll := fun i x h => headsM_get (rs := rs') i x h
                  have hla := headsM_len rs
                  have hlb := headsM_len rs'
                  generalize headsM rs = hdsA at *
                  generalize headsM rs' = hdsB at *
                  refine P1 T.ok rfl rfl rfl ?_; refine WL_nil ?_; (with_reducible refine T_then ?_); refine W_seq ?_; refine W_seq ?_; refine W_region ?_; refine P1 T.ok rfl rfl rfl ?_; refine WL_nil ?_; (with_reducible refine T_then ?_); refine W_block ?_
                  have le8 := G.le.refl g6
                  have rs3c := rs3; have rs4c := rs4
                  refine W_loop (fun m a' w => ∃ (i : Nat) (g5 : G), w = g5.w ∧ St g g5 LL ∧ G.le g g5 ∧ G.le g6 g5 ∧ i ≤ i0 ∧ m = i0 - i ∧ Fr 180 [] [(7, .bool true), (21, .slice a3 (hdsA.map Str.mk).length c3), (22, .slice a4 (hdsB.map Str.mk).length c4), (23, .int .i64 i)] a') i0
                    (fun a' ha => ⟨0, g6, rfl, hs, le0, le8, Nat.zero_le _, rfl, ha.keep (by (repeat (first | exact trivial | refine ⟨rfl, ?_⟩)))⟩) ?_
                  clear hs le0 le8 rs3 rs4
                  rintro m a' _ ⟨i, g5, rfl, hs, le0, le8, hi, rfl, ha'⟩
                  have rs3 := rs3c.mono le8
                  have rs4 := rs4c.mono le8
                  revert a'
                  (with_reducible refine T_wp ?_); refine W_seq ?_; refine W_seq ?_; refine W_region ?_; (iterate 5 refine P1 T.ok rfl rfl rfl ?_)
                  refine WL_know 149 (b := decide ((i : Int) < ((hdsA.map Str.mk).length : Int))) (b' := true) (decide_eq_true (by rw [List.length_map]; omega)) rfl ?_
                  (iterate 5 refine P1 T.ok rfl rfl rfl ?_); refine WL_nil ?_; (with_reducible refine T_then ?_)
                  refine W_yes (b := decide ((i : Int) < ((hdsB.map Str.mk).length : Int))) (decide_eq_true (by rw [List.length_map]; omega)) rfl ?_
                  obtain ⟨x, hx⟩ : ∃ x, rs[i]? = some x := ⟨_, List.getElem?_eq_getElem (by omega)⟩
                  obtain ⟨y, hy⟩ : ∃ y, rs'[i]? = some y := ⟨_, List.getElem?_eq_getElem (by omega)⟩
                  have hxl := hJ.short x (List.mem_of_getElem? hx)
                  have hyl := hsh' y (List.mem_of_getElem? hy)
                  have hga := geti_mk (hAll i x hx)
                  have hgb := geti_mk (hBll i y hy)
                  have hhl := headM_len (rs.take i)
                  have hhl' := headM_len (rs'.take i)
                  have hcls : i = i0 → [2] ++ (headM (rs.take i) ++ x) ≠ [2] ++ (headM (rs'.take i) ++ y) ∧ sumM ([2] ++ (headM (rs.take i) ++ x)) = sumM ([2] ++ (headM (rs'.take i) ++ y)) := by
                    intro h
                    subst h
                    rw [e1] at hx; rw [e2] at hy
                    cases hx; cases hy
                    rw [← e3]
                    refine ⟨fun h => e4 (List.append_cancel_left (List.append_cancel_left h)), ?_⟩
                    have h5 := e5
                    unfold chainM at h5
                    exact h5
                  have hpl : ([2] ++ (headM (rs.take i) ++ x)).length ≤ 1099511627776 := by simp only [List.length_append, List.length_cons, List.length_nil]; omega
                  have hql : ([2] ++ (headM (rs'.take i) ++ y)).length ≤ 1099511627776 := by simp only [List.length_append, List.length_cons, List.length_nil]; omega
                  generalize [2] ++ (headM (rs.take i) ++ x) = p at *
                  generalize [2] ++ (headM (rs'.take i) ++ y) = q at *
                  refine W_skip ?_; (with_reducible refine T_then ?_); refine W_seq ?_; refine W_block ?_; refine W_seq ?_
                  by_cases hpq : p = q
                  · have hine : i ≠ i0 := fun h => (hcls h).1 hpq
                    apply W_draw allF rfl (Fact.eq _ :: Fact.eq _ :: (strP1 p) :: Fact.eq _ :: Fact.eq _ :: Fact.eq _ :: (strP1 q) :: Fact.eq _ :: Fact.eq _ :: Fact.eq _ :: Fact.eq _ :: Fact.eq _ :: Fact.eq _ :: Fact.eq _ :: Fact.eq _ :: Fact.eq _ :: Fact.eq _ :: Fact.eq _ :: Fact.eq _ :: Fact.eq _ :: Fact.eq _ :: Fact.eq _ :: []) 22 [(21, 178)] rfl rfl
                    · refine D_cons (D_step2 (js := []) (by kernel_rfl) fun gd hf => ?_) ?_
                      · have hsd := hs.dr.call hf; have hfe := (G.le_dr _).trans hf.le
                        refine QA_nil ?_
                        (refine D_yes rfl ?_; refine OpR_pure _ T.ok rfl ?_; refine ⟨_, rfl, Fr0.refl _, ?_⟩; exact rfl)
                      refine D_cons (D_step2 (js := []) (by kernel_rfl) fun gd hf => ?_) ?_
                      · have hsd := hs.dr.call hf; have hfe := (G.le_dr _).trans hf.le
                        refine QA_nil ?_
                        (refine D_yes rfl ?_; refine OpR_pure _ T.ok rfl ?_; refine ⟨_, rfl, Fr0.refl _, ?_⟩; exact rfl)
                      refine D_cons (D_step2 (js := [(0, 157), (1, 158)]) (by kernel_rfl) fun gd hf => ?_) ?_
                      · have hsd := hs.dr.call hf; have hfe := (G.le_dr _).trans hf.le
                        refine QA_eq rfl ?_; refine QA_eq rfl ?_
                        refine QA_nil ?_
                        refine D_yes rfl ?_
                        refine OpR_idx T.ok rfl (rs3.mono hfe) (y := ⟨p⟩) hga rfl rfl rfl rfl rfl rfl ?_
                        intro bb pp ys hep hrc
                        exact ⟨_, rfl, Fr0.refl _, bb, pp, rfl, by rw [← show ys = [Value.string (bs p)] from hrc]; exact hep⟩
                      refine D_cons (D_step2 (js := [(2, 159)]) (by kernel_rfl) fun gd hf => ?_) ?_
                      · have hsd := hs.dr.call hf; have hfe := (G.le_dr _).trans hf.le
                        refine QA_any fun v2 h2 => ?_
                        refine QA_nil ?_
                        obtain ⟨bb, pp, rfl, hep⟩ := h2
                        refine D_yes rfl ?_
                        refine OpR_loadE T.ok 0 rfl hep rfl rfl ?_
                        exact ⟨_, rfl, Fr0.refl _, rfl⟩
                      refine D_cons (D_step2 (js := []) (by kernel_rfl) fun gd hf => ?_) ?_
                      · have hsd := hs.dr.call hf; have hfe := (G.le_dr _).trans hf.le
                        refine QA_nil ?_
                        (refine D_yes rfl ?_; refine OpR_pure _ T.ok rfl ?_; refine ⟨_, rfl, Fr0.refl _, ?_⟩; exact rfl)
                      refine D_cons (D_step2 (js := []) (by kernel_rfl) fun gd hf => ?_) ?_
                      · have hsd := hs.dr.call hf; have hfe := (G.le_dr _).trans hf.le
                        refine QA_nil ?_
                        (refine D_yes rfl ?_; refine OpR_pure _ T.ok rfl ?_; refine ⟨_, rfl, Fr0.refl _, ?_⟩; exact rfl)
                      refine D_cons (D_step2 (js := [(4, 161), (5, 162)]) (by kernel_rfl) fun gd hf => ?_) ?_
                      · have hsd := hs.dr.call hf; have hfe := (G.le_dr _).trans hf.le
                        refine QA_eq rfl ?_; refine QA_eq rfl ?_
                        refine QA_nil ?_
                        refine D_yes rfl ?_
                        refine OpR_idx T.ok rfl (rs4.mono hfe) (y := ⟨q⟩) hgb rfl rfl rfl rfl rfl rfl ?_
                        intro bb pp ys hep hrc
                        exact ⟨_, rfl, Fr0.refl _, bb, pp, rfl, by rw [← show ys = [Value.string (bs q)] from hrc]; exact hep⟩
                      refine D_cons (D_step2 (js := [(6, 163)]) (by kernel_rfl) fun gd hf => ?_) ?_
                      · have hsd := hs.dr.call hf; have hfe := (G.le_dr _).trans hf.le
                        refine QA_any fun v6 h6 => ?_
                        refine QA_nil ?_
                        obtain ⟨bb, pp, rfl, hep⟩ := h6
                        refine D_yes rfl ?_
                        refine OpR_loadE T.ok 0 rfl hep rfl rfl ?_
                        exact ⟨_, rfl, Fr0.refl _, rfl⟩
                      refine D_cons (D_step2 (js := [(3, 160), (7, 164)]) (by kernel_rfl) fun gd hf => ?_) ?_
                      · have hsd := hs.dr.call hf; have hfe := (G.le_dr _).trans hf.le
                        refine QA_eq rfl ?_; refine QA_eq rfl ?_
                        refine QA_nil ?_
                        refine D_yes rfl ?_
                        refine OpR_eqS (neg := true) rfl rfl rfl ?_
                        exact ⟨_, rfl, Fr0.refl _, show _ = Value.bool false from congrArg Value.bool (by rw [hpq, beq_self_eq_true]; rfl)⟩
                      refine D_cons (D_step2 (js := [(8, 165)]) (by kernel_rfl) fun gd hf => ?_) ?_
                      · have hsd := hs.dr.call hf; have hfe := (G.le_dr _).trans hf.le
                        refine QA_eq rfl ?_
                        refine QA_nil ?_
                        (refine D_yes rfl ?_; refine OpR_pure _ T.ok rfl ?_; refine ⟨_, rfl, Fr0.refl _, ?_⟩; exact rfl)
                      refine D_cons (D_step2 (js := [(9, 166)]) (by kernel_rfl) fun gd hf => ?_) ?_
                      · have hsd := hs.dr.call hf; have hfe := (G.le_dr _).trans hf.le
                        refine QA_eq rfl ?_
                        refine QA_nil ?_
                        (refine D_no rfl ?_; exact rfl)
                      refine D_cons (D_step2 (js := [(9, 166)]) (by kernel_rfl) fun gd hf => ?_) ?_
                      · have hsd := hs.dr.call hf; have hfe := (G.le_dr _).trans hf.le
                        refine QA_eq rfl ?_
                        refine QA_nil ?_
                        (refine D_no rfl ?_; exact rfl)
                      refine D_cons (D_step2 (js := [(10, 167), (11, 168), (9, 166)]) (by kernel_rfl) fun gd hf => ?_) ?_
                      · have hsd := hs.dr.call hf; have hfe := (G.le_dr _).trans hf.le
                        refine QA_eq rfl ?_; refine QA_eq rfl ?_; refine QA_eq rfl ?_
                        refine QA_nil ?_
                        (refine D_no rfl ?_; exact rfl)
                      refine D_cons (D_step2 (js := [(12, 169), (9, 166)]) (by kernel_rfl) fun gd hf => ?_) ?_
                      · have hsd := hs.dr.call hf; have hfe := (G.le_dr _).trans hf.le
                        refine QA_eq rfl ?_; refine QA_eq rfl ?_
                        refine QA_nil ?_
                        (refine D_no rfl ?_; exact rfl)
                      refine D_cons (D_step2 (js := [(13, 170), (9, 166), (9, 166)]) (by kernel_rfl) fun gd hf => ?_) ?_
                      · have hsd := hs.dr.call hf; have hfe := (G.le_dr _).trans hf.le
                        refine QA_eq rfl ?_; refine QA_eq rfl ?_; refine QA_eq rfl ?_
                        refine QA_nil ?_
                        (refine D_no rfl ?_; exact rfl)
                      refine D_cons (D_step2 (js := [(9, 166)]) (by kernel_rfl) fun gd hf => ?_) ?_
                      · have hsd := hs.dr.call hf; have hfe := (G.le_dr _).trans hf.le
                        refine QA_eq rfl ?_
                        refine QA_nil ?_
                        (refine D_no rfl ?_; exact rfl)
                      refine D_cons (D_step2 (js := [(9, 166)]) (by kernel_rfl) fun gd hf => ?_) ?_
                      · have hsd := hs.dr.call hf; have hfe := (G.le_dr _).trans hf.le
                        refine QA_eq rfl ?_
                        refine QA_nil ?_
                        (refine D_no rfl ?_; exact rfl)
                      refine D_cons (D_step2 (js := [(15, 172), (16, 173), (9, 166)]) (by kernel_rfl) fun gd hf => ?_) ?_
                      · have hsd := hs.dr.call hf; have hfe := (G.le_dr _).trans hf.le
                        refine QA_eq rfl ?_; refine QA_eq rfl ?_; refine QA_eq rfl ?_
                        refine QA_nil ?_
                        (refine D_no rfl ?_; exact rfl)
                      refine D_cons (D_step2 (js := [(17, 174), (9, 166)]) (by kernel_rfl) fun gd hf => ?_) ?_
                      · have hsd := hs.dr.call hf; have hfe := (G.le_dr _).trans hf.le
                        refine QA_eq rfl ?_; refine QA_eq rfl ?_
                        refine QA_nil ?_
                        (refine D_no rfl ?_; exact rfl)
                      refine D_cons (D_step2 (js := [(18, 175), (9, 166)]) (by kernel_rfl) fun gd hf => ?_) ?_
                      · have hsd := hs.dr.call hf; have hfe := (G.le_dr _).trans hf.le
                        refine QA_eq rfl ?_; refine QA_eq rfl ?_
                        refine QA_nil ?_
                        (refine D_no rfl ?_; exact rfl)
                      refine D_cons (D_step2 (js := [(14, 171), (19, 176), (9, 166)]) (by kernel_rfl) fun gd hf => ?_) ?_
                      · have hsd := hs.dr.call hf; have hfe := (G.le_dr _).trans hf.le
                        refine QA_eq rfl ?_; refine QA_eq rfl ?_; refine QA_eq rfl ?_
                        refine QA_nil ?_
                        (refine D_no rfl ?_; exact rfl)
                      refine D_cons (D_step2 (js := [(9, 166), (20, 177)]) (by kernel_rfl) fun gd hf => ?_) ?_
                      · have hsd := hs.dr.call hf; have hfe := (G.le_dr _).trans hf.le
                        refine QA_eq rfl ?_; refine QA_eq rfl ?_
                        refine QA_nil ?_
                        (refine D_yes rfl ?_; refine OpR_pure _ T.ok rfl ?_; refine ⟨_, rfl, Fr0.refl _, ?_⟩; exact rfl)
                      exact D_nil
                    intro g1 hf1; refine QA_eq rfl ?_; refine QA_nil ?_
                    replace hs := hs.dr.call hf1; have hqe := (G.le_dr _).trans hf1.le; replace le0 := G.le.trans le0 hqe; replace le8 := G.le.trans le8 hqe; replace rs3 := rs3.mono hqe; replace rs4 := rs4.mono hqe
                    refine WL_nil ?_; (with_reducible refine T_then ?_)
                    refine W_no rfl rfl ?_
                    refine W_skip ?_; (with_reducible refine T_bn ?_); (with_reducible refine T_then ?_); refine W_region ?_; (iterate 3 refine P1 T.ok rfl rfl rfl ?_); refine WL_nil ?_
                    exact fun a ha => ⟨i0 - (i + 1), by omega, i + 1, _, rfl, hs, le0, le8, by omega, rfl, ha.keep ⟨rfl, rfl, rfl, kI rfl (by rw [wr (by omega) (by omega)]; omega), trivial⟩⟩
                  · by_cases hsum : sumM p = sumM q
                    · apply W_draw allF rfl (Fact.eq _ :: Fact.eq _ :: (strP1 p) :: Fact.eq _ :: Fact.eq _ :: Fact.eq _ :: (strP1 q) :: Fact.eq _ :: Fact.eq _ :: Fact.eq _ :: Fact.eq _ :: Fact.eq _ :: (strP1 p) :: Fact.eq _ :: Fact.eq _ :: Fact.eq _ :: Fact.eq _ :: (strP1 q) :: Fact.eq _ :: Fact.eq _ :: Fact.eq _ :: Fact.eq _ :: []) 22 [(21, 178)] rfl rfl
                      · refine D_cons (D_step2 (js := []) (by kernel_rfl) fun gd hf => ?_) ?_
                        · have hsd := hs.dr.call hf; have hfe := (G.le_dr _).trans hf.le
                          refine QA_nil ?_
                          (refine D_yes rfl ?_; refine OpR_pure _ T.ok rfl ?_; refine ⟨_, rfl, Fr0.refl _, ?_⟩; exact rfl)
                        refine D_cons (D_step2 (js := []) (by kernel_rfl) fun gd hf => ?_) ?_
                        · have hsd := hs.dr.call hf; have hfe := (G.le_dr _).trans hf.le
                          refine QA_nil ?_
                          (refine D_yes rfl ?_; refine OpR_pure _ T.ok rfl ?_; refine ⟨_, rfl, Fr0.refl _, ?_⟩; exact rfl)
                        refine D_cons (D_step2 (js := [(0, 157), (1, 158)]) (by kernel_rfl) fun gd hf => ?_) ?_
                        · have hsd := hs.dr.call hf; have hfe := (G.le_dr _).trans hf.le
                          refine QA_eq rfl ?_; refine QA_eq rfl ?_
                          refine QA_nil ?_
                          refine D_yes rfl ?_
                          refine OpR_idx T.ok rfl (rs3.mono hfe) (y := ⟨p⟩) hga rfl rfl rfl rfl rfl rfl ?_
                          intro bb pp ys hep hrc
                          exact ⟨_, rfl, Fr0.refl _, bb, pp, rfl, by rw [← show ys = [Value.string (bs p)] from hrc]; exact hep⟩
                        refine D_cons (D_step2 (js := [(2, 159)]) (by kernel_rfl) fun gd hf => ?_) ?_
                        · have hsd := hs.dr.call hf; have hfe := (G.le_dr _).trans hf.le
                          refine QA_any fun v2 h2 => ?_
                          refine QA_nil ?_
                          obtain ⟨bb, pp, rfl, hep⟩ := h2
                          refine D_yes rfl ?_
                          refine OpR_loadE T.ok 0 rfl hep rfl rfl ?_
                          exact ⟨_, rfl, Fr0.refl _, rfl⟩
                        refine D_cons (D_step2 (js := []) (by kernel_rfl) fun gd hf => ?_) ?_
                        · have hsd := hs.dr.call hf; have hfe := (G.le_dr _).trans hf.le
                          refine QA_nil ?_
                          (refine D_yes rfl ?_; refine OpR_pure _ T.ok rfl ?_; refine ⟨_, rfl, Fr0.refl _, ?_⟩; exact rfl)
                        refine D_cons (D_step2 (js := []) (by kernel_rfl) fun gd hf => ?_) ?_
                        · have hsd := hs.dr.call hf; have hfe := (G.le_dr _).trans hf.le
                          refine QA_nil ?_
                          (refine D_yes rfl ?_; refine OpR_pure _ T.ok rfl ?_; refine ⟨_, rfl, Fr0.refl _, ?_⟩; exact rfl)
                        refine D_cons (D_step2 (js := [(4, 161), (5, 162)]) (by kernel_rfl) fun gd hf => ?_) ?_
                        · have hsd := hs.dr.call hf; have hfe := (G.le_dr _).trans hf.le
                          refine QA_eq rfl ?_; refine QA_eq rfl ?_
                          refine QA_nil ?_
                          refine D_yes rfl ?_
                          refine OpR_idx T.ok rfl (rs4.mono hfe) (y := ⟨q⟩) hgb rfl rfl rfl rfl rfl rfl ?_
                          intro bb pp ys hep hrc
                          exact ⟨_, rfl, Fr0.refl _, bb, pp, rfl, by rw [← show ys = [Value.string (bs q)] from hrc]; exact hep⟩
                        refine D_cons (D_step2 (js := [(6, 163)]) (by kernel_rfl) fun gd hf => ?_) ?_
                        · have hsd := hs.dr.call hf; have hfe := (G.le_dr _).trans hf.le
                          refine QA_any fun v6 h6 => ?_
                          refine QA_nil ?_
                          obtain ⟨bb, pp, rfl, hep⟩ := h6
                          refine D_yes rfl ?_
                          refine OpR_loadE T.ok 0 rfl hep rfl rfl ?_
                          exact ⟨_, rfl, Fr0.refl _, rfl⟩
                        refine D_cons (D_step2 (js := [(3, 160), (7, 164)]) (by kernel_rfl) fun gd hf => ?_) ?_
                        · have hsd := hs.dr.call hf; have hfe := (G.le_dr _).trans hf.le
                          refine QA_eq rfl ?_; refine QA_eq rfl ?_
                          refine QA_nil ?_
                          refine D_yes rfl ?_
                          refine OpR_eqS (neg := true) rfl rfl rfl ?_
                          exact ⟨_, rfl, Fr0.refl _, show _ = Value.bool true from congrArg Value.bool (by rw [beq_eq_false_iff_ne.2 hpq]; rfl)⟩
                        refine D_cons (D_step2 (js := [(8, 165)]) (by kernel_rfl) fun gd hf => ?_) ?_
                        · have hsd := hs.dr.call hf; have hfe := (G.le_dr _).trans hf.le
                          refine QA_eq rfl ?_
                          refine QA_nil ?_
                          (refine D_yes rfl ?_; refine OpR_pure _ T.ok rfl ?_; refine ⟨_, rfl, Fr0.refl _, ?_⟩; exact rfl)
                        refine D_cons (D_step2 (js := [(9, 166)]) (by kernel_rfl) fun gd hf => ?_) ?_
                        · have hsd := hs.dr.call hf; have hfe := (G.le_dr _).trans hf.le
                          refine QA_eq rfl ?_
                          refine QA_nil ?_
                          (refine D_yes rfl ?_; refine OpR_pure _ T.ok rfl ?_; refine ⟨_, rfl, Fr0.refl _, ?_⟩; exact rfl)
                        refine D_cons (D_step2 (js := [(9, 166)]) (by kernel_rfl) fun gd hf => ?_) ?_
                        · have hsd := hs.dr.call hf; have hfe := (G.le_dr _).trans hf.le
                          refine QA_eq rfl ?_
                          refine QA_nil ?_
                          (refine D_yes rfl ?_; refine OpR_pure _ T.ok rfl ?_; refine ⟨_, rfl, Fr0.refl _, ?_⟩; exact rfl)
                        refine D_cons (D_step2 (js := [(10, 167), (11, 168), (9, 166)]) (by kernel_rfl) fun gd hf => ?_) ?_
                        · have hsd := hs.dr.call hf; have hfe := (G.le_dr _).trans hf.le
                          refine QA_eq rfl ?_; refine QA_eq rfl ?_; refine QA_eq rfl ?_
                          refine QA_nil ?_
                          refine D_yes rfl ?_
                          refine OpR_idx T.ok rfl (rs3.mono hfe) (y := ⟨p⟩) hga rfl rfl rfl rfl rfl rfl ?_
                          intro bb pp ys hep hrc
                          exact ⟨_, rfl, Fr0.refl _, bb, pp, rfl, by rw [← show ys = [Value.string (bs p)] from hrc]; exact hep⟩
                        refine D_cons (D_step2 (js := [(12, 169), (9, 166)]) (by kernel_rfl) fun gd hf => ?_) ?_
                        · have hsd := hs.dr.call hf; have hfe := (G.le_dr _).trans hf.le
                          refine QA_any fun v12 h12 => ?_; refine QA_eq rfl ?_
                          refine QA_nil ?_
                          obtain ⟨bb, pp, rfl, hep⟩ := h12
                          refine D_yes rfl ?_
                          refine OpR_loadE T.ok 0 rfl hep rfl rfl ?_
                          exact ⟨_, rfl, Fr0.refl _, rfl⟩
                        refine D_cons (D_step2 (js := [(13, 170), (9, 166), (9, 166)]) (by kernel_rfl) fun gd hf => ?_) ?_
                        · have hsd := hs.dr.call hf; have hfe := (G.le_dr _).trans hf.le
                          refine QA_eq rfl ?_; refine QA_eq rfl ?_; refine QA_eq rfl ?_
                          refine QA_nil ?_
                          refine D_yes rfl ?_
                          refine OpR_ret cl28 allF rfl rfl rfl rfl rfl (rsum_c p _ hpl) fun g' v h1 h2 => ⟨g', rfl, h1, ?_⟩
                          exact h2
                        refine D_cons (D_step2 (js := [(9, 166)]) (by kernel_rfl) fun gd hf => ?_) ?_
                        · have hsd := hs.dr.call hf; have hfe := (G.le_dr _).trans hf.le
                          refine QA_eq rfl ?_
                          refine QA_nil ?_
                          (refine D_yes rfl ?_; refine OpR_pure _ T.ok rfl ?_; refine ⟨_, rfl, Fr0.refl _, ?_⟩; exact rfl)
                        refine D_cons (D_step2 (js := [(9, 166)]) (by kernel_rfl) fun gd hf => ?_) ?_
                        · have hsd := hs.dr.call hf; have hfe := (G.le_dr _).trans hf.le
                          refine QA_eq rfl ?_
                          refine QA_nil ?_
                          (refine D_yes rfl ?_; refine OpR_pure _ T.ok rfl ?_; refine ⟨_, rfl, Fr0.refl _, ?_⟩; exact rfl)
                        refine D_cons (D_step2 (js := [(15, 172), (16, 173), (9, 166)]) (by kernel_rfl) fun gd hf => ?_) ?_
                        · have hsd := hs.dr.call hf; have hfe := (G.le_dr _).trans hf.le
                          refine QA_eq rfl ?_; refine QA_eq rfl ?_; refine QA_eq rfl ?_
                          refine QA_nil ?_
                          refine D_yes rfl ?_
                          refine OpR_idx T.ok rfl (rs4.mono hfe) (y := ⟨q⟩) hgb rfl rfl rfl rfl rfl rfl ?_
                          intro bb pp ys hep hrc
                          exact ⟨_, rfl, Fr0.refl _, bb, pp, rfl, by rw [← show ys = [Value.string (bs q)] from hrc]; exact hep⟩
                        refine D_cons (D_step2 (js := [(17, 174), (9, 166)]) (by kernel_rfl) fun gd hf => ?_) ?_
                        · have hsd := hs.dr.call hf; have hfe := (G.le_dr _).trans hf.le
                          refine QA_any fun v17 h17 => ?_; refine QA_eq rfl ?_
                          refine QA_nil ?_
                          obtain ⟨bb, pp, rfl, hep⟩ := h17
                          refine D_yes rfl ?_
                          refine OpR_loadE T.ok 0 rfl hep rfl rfl ?_
                          exact ⟨_, rfl, Fr0.refl _, rfl⟩
                        refine D_cons (D_step2 (js := [(18, 175), (9, 166)]) (by kernel_rfl) fun gd hf => ?_) ?_
                        · have hsd := hs.dr.call hf; have hfe := (G.le_dr _).trans hf.le
                          refine QA_eq rfl ?_; refine QA_eq rfl ?_
                          refine QA_nil ?_
                          refine D_yes rfl ?_
                          refine OpR_ret cl28 allF rfl rfl rfl rfl rfl (rsum_c q _ hql) fun g' v h1 h2 => ⟨g', rfl, h1, ?_⟩
                          exact h2
                        refine D_cons (D_step2 (js := [(14, 171), (19, 176), (9, 166)]) (by kernel_rfl) fun gd hf => ?_) ?_
                        · have hsd := hs.dr.call hf; have hfe := (G.le_dr _).trans hf.le
                          refine QA_eq rfl ?_; refine QA_eq rfl ?_; refine QA_eq rfl ?_
                          refine QA_nil ?_
                          refine D_yes rfl ?_
                          refine OpR_eqS (neg := false) rfl rfl rfl ?_
                          exact ⟨_, rfl, Fr0.refl _, show _ = Value.bool true from congrArg Value.bool (by rw [hsum, beq_self_eq_true]; rfl)⟩
                        refine D_cons (D_step2 (js := [(9, 166), (20, 177)]) (by kernel_rfl) fun gd hf => ?_) ?_
                        · have hsd := hs.dr.call hf; have hfe := (G.le_dr _).trans hf.le
                          refine QA_eq rfl ?_; refine QA_eq rfl ?_
                          refine QA_nil ?_
                          (refine D_yes rfl ?_; refine OpR_pure _ T.ok rfl ?_; refine ⟨_, rfl, Fr0.refl _, ?_⟩; exact rfl)
                        exact D_nil
                      intro g1 hf1; refine QA_eq rfl ?_; refine QA_nil ?_
                      replace hs := hs.dr.call hf1; have hqe := (G.le_dr _).trans hf1.le; replace le0 := G.le.trans le0 hqe; replace le8 := G.le.trans le8 hqe; replace rs3 := rs3.mono hqe; replace rs4 := rs4.mono hqe
                      refine WL_nil ?_; (with_reducible refine T_then ?_)
                      refine W_yes rfl rfl ?_
                      refine W_seq ?_; refine W_region ?_; refine P1 T.ok rfl rfl rfl ?_; refine P1 T.ok rfl rfl rfl ?_; refine WL_nil ?_; (with_reducible refine T_then ?_)
                      exact W_ret (ret1 rfl rfl (hs.ret rfl))
                    · have hine : i ≠ i0 := fun h => hsum (hcls h).2
                      apply W_draw allF rfl (Fact.eq _ :: Fact.eq _ :: (strP1 p) :: Fact.eq _ :: Fact.eq _ :: Fact.eq _ :: (strP1 q) :: Fact.eq _ :: Fact.eq _ :: Fact.eq _ :: Fact.eq _ :: Fact.eq _ :: (strP1 p) :: Fact.eq _ :: Fact.eq _ :: Fact.eq _ :: Fact.eq _ :: (strP1 q) :: Fact.eq _ :: Fact.eq _ :: Fact.eq _ :: Fact.eq _ :: []) 22 [(21, 178)] rfl rfl
                      · refine D_cons (D_step2 (js := []) (by kernel_rfl) fun gd hf => ?_) ?_
                        · have hsd := hs.dr.call hf; have hfe := (G.le_dr _).trans hf.le
                          refine QA_nil ?_
                          (refine D_yes rfl ?_; refine OpR_pure _ T.ok rfl ?_; refine ⟨_, rfl, Fr0.refl _, ?_⟩; exact rfl)
                        refine D_cons (D_step2 (js := []) (by kernel_rfl) fun gd hf => ?_) ?_
                        · have hsd := hs.dr.call hf; have hfe := (G.le_dr _).trans hf.le
                          refine QA_nil ?_
                          (refine D_yes rfl ?_; refine OpR_pure _ T.ok rfl ?_; refine ⟨_, rfl, Fr0.refl _, ?_⟩; exact rfl)
                        refine D_cons (D_step2 (js := [(0, 157), (1, 158)]) (by kernel_rfl) fun gd hf => ?_) ?_
                        · have hsd := hs.dr.call hf; have hfe := (G.le_dr _).trans hf.le
                          refine QA_eq rfl ?_; refine QA_eq rfl ?_
                          refine QA_nil ?_
                          refine D_yes rfl ?_
                          refine OpR_idx T.ok rfl (rs3.mono hfe) (y := ⟨p⟩) hga rfl rfl rfl rfl rfl rfl ?_
                          intro bb pp ys hep hrc
                          exact ⟨_, rfl, Fr0.refl _, bb, pp, rfl, by rw [← show ys = [Value.string (bs p)] from hrc]; exact hep⟩
                        refine D_cons (D_step2 (js := [(2, 159)]) (by kernel_rfl) fun gd hf => ?_) ?_
                        · have hsd := hs.dr.call hf; have hfe := (G.le_dr _).trans hf.le
                          refine QA_any fun v2 h2 => ?_
                          refine QA_nil ?_
                          obtain ⟨bb, pp, rfl, hep⟩ := h2
                          refine D_yes rfl ?_
                          refine OpR_loadE T.ok 0 rfl hep rfl rfl ?_
                          exact ⟨_, rfl, Fr0.refl _, rfl⟩
                        refine D_cons (D_step2 (js := []) (by kernel_rfl) fun gd hf => ?_) ?_
                        · have hsd := hs.dr.call hf; have hfe := (G.le_dr _).trans hf.le
                          refine QA_nil ?_
                          (refine D_yes rfl ?_; refine OpR_pure _ T.ok rfl ?_; refine ⟨_, rfl, Fr0.refl _, ?_⟩; exact rfl)
                        refine D_cons (D_step2 (js := []) (by kernel_rfl) fun gd hf => ?_) ?_
                        · have hsd := hs.dr.call hf; have hfe := (G.le_dr _).trans hf.le
                          refine QA_nil ?_
                          (refine D_yes rfl ?_; refine OpR_pure _ T.ok rfl ?_; refine ⟨_, rfl, Fr0.refl _, ?_⟩; exact rfl)
                        refine D_cons (D_step2 (js := [(4, 161), (5, 162)]) (by kernel_rfl) fun gd hf => ?_) ?_
                        · have hsd := hs.dr.call hf; have hfe := (G.le_dr _).trans hf.le
                          refine QA_eq rfl ?_; refine QA_eq rfl ?_
                          refine QA_nil ?_
                          refine D_yes rfl ?_
                          refine OpR_idx T.ok rfl (rs4.mono hfe) (y := ⟨q⟩) hgb rfl rfl rfl rfl rfl rfl ?_
                          intro bb pp ys hep hrc
                          exact ⟨_, rfl, Fr0.refl _, bb, pp, rfl, by rw [← show ys = [Value.string (bs q)] from hrc]; exact hep⟩
                        refine D_cons (D_step2 (js := [(6, 163)]) (by kernel_rfl) fun gd hf => ?_) ?_
                        · have hsd := hs.dr.call hf; have hfe := (G.le_dr _).trans hf.le
                          refine QA_any fun v6 h6 => ?_
                          refine QA_nil ?_
                          obtain ⟨bb, pp, rfl, hep⟩ := h6
                          refine D_yes rfl ?_
                          refine OpR_loadE T.ok 0 rfl hep rfl rfl ?_
                          exact ⟨_, rfl, Fr0.refl _, rfl⟩
                        refine D_cons (D_step2 (js := [(3, 160), (7, 164)]) (by kernel_rfl) fun gd hf => ?_) ?_
                        · have hsd := hs.dr.call hf; have hfe := (G.le_dr _).trans hf.le
                          refine QA_eq rfl ?_; refine QA_eq rfl ?_
                          refine QA_nil ?_
                          refine D_yes rfl ?_
                          refine OpR_eqS (neg := true) rfl rfl rfl ?_
                          exact ⟨_, rfl, Fr0.refl _, show _ = Value.bool true from congrArg Value.bool (by rw [beq_eq_false_iff_ne.2 hpq]; rfl)⟩
                        refine D_cons (D_step2 (js := [(8, 165)]) (by kernel_rfl) fun gd hf => ?_) ?_
                        · have hsd := hs.dr.call hf; have hfe := (G.le_dr _).trans hf.le
                          refine QA_eq rfl ?_
                          refine QA_nil ?_
                          (refine D_yes rfl ?_; refine OpR_pure _ T.ok rfl ?_; refine ⟨_, rfl, Fr0.refl _, ?_⟩; exact rfl)
                        refine D_cons (D_step2 (js := [(9, 166)]) (by kernel_rfl) fun gd hf => ?_) ?_
                        · have hsd := hs.dr.call hf; have hfe := (G.le_dr _).trans hf.le
                          refine QA_eq rfl ?_
                          refine QA_nil ?_
                          (refine D_yes rfl ?_; refine OpR_pure _ T.ok rfl ?_; refine ⟨_, rfl, Fr0.refl _, ?_⟩; exact rfl)
                        refine D_cons (D_step2 (js := [(9, 166)]) (by kernel_rfl) fun gd hf => ?_) ?_
                        · have hsd := hs.dr.call hf; have hfe := (G.le_dr _).trans hf.le
                          refine QA_eq rfl ?_
                          refine QA_nil ?_
                          (refine D_yes rfl ?_; refine OpR_pure _ T.ok rfl ?_; refine ⟨_, rfl, Fr0.refl _, ?_⟩; exact rfl)
                        refine D_cons (D_step2 (js := [(10, 167), (11, 168), (9, 166)]) (by kernel_rfl) fun gd hf => ?_) ?_
                        · have hsd := hs.dr.call hf; have hfe := (G.le_dr _).trans hf.le
                          refine QA_eq rfl ?_; refine QA_eq rfl ?_; refine QA_eq rfl ?_
                          refine QA_nil ?_
                          refine D_yes rfl ?_
                          refine OpR_idx T.ok rfl (rs3.mono hfe) (y := ⟨p⟩) hga rfl rfl rfl rfl rfl rfl ?_
                          intro bb pp ys hep hrc
                          exact ⟨_, rfl, Fr0.refl _, bb, pp, rfl, by rw [← show ys = [Value.string (bs p)] from hrc]; exact hep⟩
                        refine D_cons (D_step2 (js := [(12, 169), (9, 166)]) (by kernel_rfl) fun gd hf => ?_) ?_
                        · have hsd := hs.dr.call hf; have hfe := (G.le_dr _).trans hf.le
                          refine QA_any fun v12 h12 => ?_; refine QA_eq rfl ?_
                          refine QA_nil ?_
                          obtain ⟨bb, pp, rfl, hep⟩ := h12
                          refine D_yes rfl ?_
                          refine OpR_loadE T.ok 0 rfl hep rfl rfl ?_
                          exact ⟨_, rfl, Fr0.refl _, rfl⟩
                        refine D_cons (D_step2 (js := [(13, 170), (9, 166), (9, 166)]) (by kernel_rfl) fun gd hf => ?_) ?_
                        · have hsd := hs.dr.call hf; have hfe := (G.le_dr _).trans hf.le
                          refine QA_eq rfl ?_; refine QA_eq rfl ?_; refine QA_eq rfl ?_
                          refine QA_nil ?_
                          refine D_yes rfl ?_
                          refine OpR_ret cl28 allF rfl rfl rfl rfl rfl (rsum_c p _ hpl) fun g' v h1 h2 => ⟨g', rfl, h1, ?_⟩
                          exact h2
                        refine D_cons (D_step2 (js := [(9, 166)]) (by kernel_rfl) fun gd hf => ?_) ?_
                        · have hsd := hs.dr.call hf; have hfe := (G.le_dr _).trans hf.le
                          refine QA_eq rfl ?_
                          refine QA_nil ?_
                          (refine D_yes rfl ?_; refine OpR_pure _ T.ok rfl ?_; refine ⟨_, rfl, Fr0.refl _, ?_⟩; exact rfl)
                        refine D_cons (D_step2 (js := [(9, 166)]) (by kernel_rfl) fun gd hf => ?_) ?_
                        · have hsd := hs.dr.call hf; have hfe := (G.le_dr _).trans hf.le
                          refine QA_eq rfl ?_
                          refine QA_nil ?_
                          (refine D_yes rfl ?_; refine OpR_pure _ T.ok rfl ?_; refine ⟨_, rfl, Fr0.refl _, ?_⟩; exact rfl)
                        refine D_cons (D_step2 (js := [(15, 172), (16, 173), (9, 166)]) (by kernel_rfl) fun gd hf => ?_) ?_
                        · have hsd := hs.dr.call hf; have hfe := (G.le_dr _).trans hf.le
                          refine QA_eq rfl ?_; refine QA_eq rfl ?_; refine QA_eq rfl ?_
                          refine QA_nil ?_
                          refine D_yes rfl ?_
                          refine OpR_idx T.ok rfl (rs4.mono hfe) (y := ⟨q⟩) hgb rfl rfl rfl rfl rfl rfl ?_
                          intro bb pp ys hep hrc
                          exact ⟨_, rfl, Fr0.refl _, bb, pp, rfl, by rw [← show ys = [Value.string (bs q)] from hrc]; exact hep⟩
                        refine D_cons (D_step2 (js := [(17, 174), (9, 166)]) (by kernel_rfl) fun gd hf => ?_) ?_
                        · have hsd := hs.dr.call hf; have hfe := (G.le_dr _).trans hf.le
                          refine QA_any fun v17 h17 => ?_; refine QA_eq rfl ?_
                          refine QA_nil ?_
                          obtain ⟨bb, pp, rfl, hep⟩ := h17
                          refine D_yes rfl ?_
                          refine OpR_loadE T.ok 0 rfl hep rfl rfl ?_
                          exact ⟨_, rfl, Fr0.refl _, rfl⟩
                        refine D_cons (D_step2 (js := [(18, 175), (9, 166)]) (by kernel_rfl) fun gd hf => ?_) ?_
                        · have hsd := hs.dr.call hf; have hfe := (G.le_dr _).trans hf.le
                          refine QA_eq rfl ?_; refine QA_eq rfl ?_
                          refine QA_nil ?_
                          refine D_yes rfl ?_
                          refine OpR_ret cl28 allF rfl rfl rfl rfl rfl (rsum_c q _ hql) fun g' v h1 h2 => ⟨g', rfl, h1, ?_⟩
                          exact h2
                        refine D_cons (D_step2 (js := [(14, 171), (19, 176), (9, 166)]) (by kernel_rfl) fun gd hf => ?_) ?_
                        · have hsd := hs.dr.call hf; have hfe := (G.le_dr _).trans hf.le
                          refine QA_eq rfl ?_; refine QA_eq rfl ?_; refine QA_eq rfl ?_
                          refine QA_nil ?_
                          refine D_yes rfl ?_
                          refine OpR_eqS (neg := false) rfl rfl rfl ?_
                          exact ⟨_, rfl, Fr0.refl _, show _ = Value.bool false from congrArg Value.bool (by rw [beq_eq_false_iff_ne.2 hsum]; rfl)⟩
                        refine D_cons (D_step2 (js := [(9, 166), (20, 177)]) (by kernel_rfl) fun gd hf => ?_) ?_
                        · have hsd := hs.dr.call hf; have hfe := (G.le_dr _).trans hf.le
                          refine QA_eq rfl ?_; refine QA_eq rfl ?_
                          refine QA_nil ?_
                          (refine D_yes rfl ?_; refine OpR_pure _ T.ok rfl ?_; refine ⟨_, rfl, Fr0.refl _, ?_⟩; exact rfl)
                        exact D_nil
                      intro g1 hf1; refine QA_eq rfl ?_; refine QA_nil ?_
                      replace hs := hs.dr.call hf1; have hqe := (G.le_dr _).trans hf1.le; replace le0 := G.le.trans le0 hqe; replace le8 := G.le.trans le8 hqe; replace rs3 := rs3.mono hqe; replace rs4 := rs4.mono hqe
                      refine WL_nil ?_; (with_reducible refine T_then ?_)
                      refine W_no rfl rfl ?_
                      refine W_skip ?_; (with_reducible refine T_bn ?_); (with_reducible refine T_then ?_); refine W_region ?_; (iterate 3 refine P1 T.ok rfl rfl rfl ?_); refine WL_nil ?_
                      exact fun a ha => ⟨i0 - (i + 1), by omega, i + 1, _, rfl, hs, le0, le8, by omega, rfl, ha.keep ⟨rfl, rfl, rfl, kI rfl (by rw [wr (by omega) (by omega)]; omega), trivial⟩⟩
              · refine WL_know 124 (b := ((cb.toNat : Int) == 0)) (b' := false) (by simp; intro h; exact hc0 (UInt8.toNat_inj.1 (by rw [h]; rfl))) rfl ?_
                have hcl : Clash [] rs rs' := by
                  rcases hlaw with h | ⟨h, _⟩
                  · exact h
                  · exact absurd h hc0
                (iterate 5 refine S1 allF rfl rfl ?_); refine P1 T.ok rfl rfl rfl ?_; refine P1 T.ok rfl rfl rfl ?_; (iterate 6 refine S1 allF rfl rfl ?_); refine P1 T.ok rfl rfl rfl ?_; refine P1 T.ok rfl rfl rfl ?_; refine WL_nil ?_; (with_reducible refine T_then ?_); refine W_seq ?_; refine W_seq ?_; refine W_region ?_; refine P1 T.ok rfl rfl rfl ?_; refine WL_nil ?_; (with_reducible refine T_then ?_)
                refine W_no rfl rfl ?_
                have hcall := heads_c _ (rs.map Str.mk) _ rs1 (fun x hx => by obtain ⟨r, hr, rfl⟩ := List.mem_map.1 hx; have := hJ.short r hr; show r.length ≤ _; omega) (by rw [List.length_map]; omega)
                rw [mks] at hcall
                refine W_skip ?_; (with_reducible refine T_then ?_); refine W_seq ?_; refine W_region ?_; refine P1 T.ok rfl rfl rfl ?_
                refine WL_o rfl rfl (OpR_ret cl27 allF rfl rfl rfl rfl rfl hcall ?_); rintro g1 vo hf1 rs3; replace hs := hs.call hf1; have hqe := hf1.le; replace le0 := G.le.trans le0 hqe; replace rs1 := rs1.mono hqe; replace rs2 := rs2.mono hqe
                clear hcall
                obtain ⟨a3, c3, rfl⟩ := rs3.isSlice
                have hcall := heads_c _ (rs'.map Str.mk) _ rs2 (fun x hx => by obtain ⟨r, hr, rfl⟩ := List.mem_map.1 hx; have := hsh' r hr; show r.length ≤ _; omega) (by rw [List.length_map]; omega)
                rw [mks] at hcall
                refine P1 T.ok rfl rfl rfl ?_; refine WL_nil ?_; (with_reducible refine T_then ?_); refine W_seq ?_; refine W_region ?_; refine P1 T.ok rfl rfl rfl ?_
                refine WL_o rfl rfl (OpR_ret cl27 allF rfl rfl rfl rfl rfl hcall ?_); rintro g6 vo hf1 rs4; replace hs := hs.call hf1; have hqe := hf1.le; replace le0 := G.le.trans le0 hqe; replace rs1 := rs1.mono hqe; replace rs2 := rs2.mono hqe; replace rs3 := rs3.mono hqe
                clear hcall
                obtain ⟨a4, c4, rfl⟩ := rs4.isSlice
                obtain ⟨i0, x0, y0, e1, e2, e3, e4, e5⟩ := hcl
                rw [List.nil_append] at e5
                have hi1 : i0 < rs.length := (List.getElem?_eq_some_iff.1 e1).1
                have hi2 : i0 < rs'.length := (List.getElem?_eq_some_iff.1 e2).1
                have hAll := fun i x h => headsM_get (rs := rs) i x h
                have hBll := fun i x h => headsM_get (rs := rs') i x h
                have hla := headsM_len rs
                have hlb := headsM_len rs'
                generalize headsM rs = hdsA at *
                generalize headsM rs' = hdsB at *
                refine P1 T.ok rfl rfl rfl ?_; refine WL_nil ?_; (with_reducible refine T_then ?_); refine W_seq ?_; refine W_seq ?_; refine W_region ?_; refine P1 T.ok rfl rfl rfl ?_; refine WL_nil ?_; (with_reducible refine T_then ?_); refine W_block ?_
                have le8 := G.le.refl g6
                have rs3c := rs3; have rs4c := rs4
                refine W_loop (fun m a' w => ∃ (i : Nat) (g5 : G), w = g5.w ∧ St g g5 LL ∧ G.le g g5 ∧ G.le g6 g5 ∧ i ≤ i0 ∧ m = i0 - i ∧ Fr 180 [] [(7, .bool true), (21, .slice a3 (hdsA.map Str.mk).length c3), (22, .slice a4 (hdsB.map Str.mk).length c4), (23, .int .i64 i)] a') i0
                  (fun a' ha => ⟨0, g6, rfl, hs, le0, le8, Nat.zero_le _, rfl, ha.keep (by (repeat (first | exact trivial | refine ⟨rfl, ?_⟩)))⟩) ?_
                clear hs le0 le8 rs3 rs4
                rintro m a' _ ⟨i, g5, rfl, hs, le0, le8, hi, rfl, ha'⟩
                have rs3 := rs3c.mono le8
                have rs4 := rs4c.mono le8
                revert a'
                (with_reducible refine T_wp ?_); refine W_seq ?_; refine W_seq ?_; refine W_region ?_; (iterate 5 refine P1 T.ok rfl rfl rfl ?_)
                refine WL_know 149 (b := decide ((i : Int) < ((hdsA.map Str.mk).length : Int))) (b' := true) (decide_eq_true (by rw [List.length_map]; omega)) rfl ?_
                (iterate 5 refine P1 T.ok rfl rfl rfl ?_); refine WL_nil ?_; (with_reducible refine T_then ?_)
                refine W_yes (b := decide ((i : Int) < ((hdsB.map Str.mk).length : Int))) (decide_eq_true (by rw [List.length_map]; omega)) rfl ?_
                obtain ⟨x, hx⟩ : ∃ x, rs[i]? = some x := ⟨_, List.getElem?_eq_getElem (by omega)⟩
                obtain ⟨y, hy⟩ : ∃ y, rs'[i]? = some y := ⟨_, List.getElem?_eq_getElem (by omega)⟩
                have hxl := hJ.short x (List.mem_of_getElem? hx)
                have hyl := hsh' y (List.mem_of_getElem? hy)
                have hga := geti_mk (hAll i x hx)
                have hgb := geti_mk (hBll i y hy)
                have hhl := headM_len (rs.take i)
                have hhl' := headM_len (rs'.take i)
                have hcls : i = i0 → [2] ++ (headM (rs.take i) ++ x) ≠ [2] ++ (headM (rs'.take i) ++ y) ∧ sumM ([2] ++ (headM (rs.take i) ++ x)) = sumM ([2] ++ (headM (rs'.take i) ++ y)) := by
                  intro h
                  subst h
                  rw [e1] at hx; rw [e2] at hy
                  cases hx; cases hy
                  rw [← e3]
                  refine ⟨fun h => e4 (List.append_cancel_left (List.append_cancel_left h)), ?_⟩
                  have h5 := e5
                  unfold chainM at h5
                  exact h5
                have hpl : ([2] ++ (headM (rs.take i) ++ x)).length ≤ 1099511627776 := by simp only [List.length_append, List.length_cons, List.length_nil]; omega
                have hql : ([2] ++ (headM (rs'.take i) ++ y)).length ≤ 1099511627776 := by simp only [List.length_append, List.length_cons, List.length_nil]; omega
                generalize [2] ++ (headM (rs.take i) ++ x) = p at *
                generalize [2] ++ (headM (rs'.take i) ++ y) = q at *
                refine W_skip ?_; (with_reducible refine T_then ?_); refine W_seq ?_; refine W_block ?_; refine W_seq ?_
                by_cases hpq : p = q
                · have hine : i ≠ i0 := fun h => (hcls h).1 hpq
                  apply W_draw allF rfl (Fact.eq _ :: Fact.eq _ :: (strP1 p) :: Fact.eq _ :: Fact.eq _ :: Fact.eq _ :: (strP1 q) :: Fact.eq _ :: Fact.eq _ :: Fact.eq _ :: Fact.eq _ :: Fact.eq _ :: Fact.eq _ :: Fact.eq _ :: Fact.eq _ :: Fact.eq _ :: Fact.eq _ :: Fact.eq _ :: Fact.eq _ :: Fact.eq _ :: Fact.eq _ :: Fact.eq _ :: []) 22 [(21, 178)] rfl rfl
                  · refine D_cons (D_step2 (js := []) (by kernel_rfl) fun gd hf => ?_) ?_
                    · have hsd := hs.dr.call hf; have hfe := (G.le_dr _).trans hf.le
                      refine QA_nil ?_
                      (refine D_yes rfl ?_; refine OpR_pure _ T.ok rfl ?_; refine ⟨_, rfl, Fr0.refl _, ?_⟩; exact rfl)
                    refine D_cons (D_step2 (js := []) (by kernel_rfl) fun gd hf => ?_) ?_
                    · have hsd := hs.dr.call hf; have hfe := (G.le_dr _).trans hf.le
                      refine QA_nil ?_
                      (refine D_yes rfl ?_; refine OpR_pure _ T.ok rfl ?_; refine ⟨_, rfl, Fr0.refl _, ?_⟩; exact rfl)
                    refine D_cons (D_step2 (js := [(0, 157), (1, 158)]) (by kernel_rfl) fun gd hf => ?_) ?_
                    · have hsd := hs.dr.call hf; have hfe := (G.le_dr _).trans hf.le
                      refine QA_eq rfl ?_; refine QA_eq rfl ?_
                      refine QA_nil ?_
                      refine D_yes rfl ?_
                      refine OpR_idx T.ok rfl (rs3.mono hfe) (y := ⟨p⟩) hga rfl rfl rfl rfl rfl rfl ?_
                      intro bb pp ys hep hrc
                      exact ⟨_, rfl, Fr0.refl _, bb, pp, rfl, by rw [← show ys = [Value.string (bs p)] from hrc]; exact hep⟩
                    refine D_cons (D_step2 (js := [(2, 159)]) (by kernel_rfl) fun gd hf => ?_) ?_
                    · have hsd := hs.dr.call hf; have hfe := (G.le_dr _).trans hf.le
                      refine QA_any fun v2 h2 => ?_
                      refine QA_nil ?_
                      obtain ⟨bb, pp, rfl, hep⟩ := h2
                      refine D_yes rfl ?_
                      refine OpR_loadE T.ok 0 rfl hep rfl rfl ?_
                      exact ⟨_, rfl, Fr0.refl _, rfl⟩
                    refine D_cons (D_step2 (js := []) (by kernel_rfl) fun gd hf => ?_) ?_
                    · have hsd := hs.dr.call hf; have hfe := (G.le_dr _).trans hf.le
                      refine QA_nil ?_
                      (refine D_yes rfl ?_; refine OpR_pure _ T.ok rfl ?_; refine ⟨_, rfl, Fr0.refl _, ?_⟩; exact rfl)
                    refine D_cons (D_step2 (js := []) (by kernel_rfl) fun gd hf => ?_) ?_
                    · have hsd := hs.dr.call hf; have hfe := (G.le_dr _).trans hf.le
                      refine QA_nil ?_
                      (refine D_yes rfl ?_; refine OpR_pure _ T.ok rfl ?_; refine ⟨_, rfl, Fr0.refl _, ?_⟩; exact rfl)
                    refine D_cons (D_step2 (js := [(4, 161), (5, 162)]) (by kernel_rfl) fun gd hf => ?_) ?_
                    · have hsd := hs.dr.call hf; have hfe := (G.le_dr _).trans hf.le
                      refine QA_eq rfl ?_; refine QA_eq rfl ?_
                      refine QA_nil ?_
                      refine D_yes rfl ?_
                      refine OpR_idx T.ok rfl (rs4.mono hfe) (y := ⟨q⟩) hgb rfl rfl rfl rfl rfl rfl ?_
                      intro bb pp ys hep hrc
                      exact ⟨_, rfl, Fr0.refl _, bb, pp, rfl, by rw [← show ys = [Value.string (bs q)] from hrc]; exact hep⟩
                    refine D_cons (D_step2 (js := [(6, 163)]) (by kernel_rfl) fun gd hf => ?_) ?_
                    · have hsd := hs.dr.call hf; have hfe := (G.le_dr _).trans hf.le
                      refine QA_any fun v6 h6 => ?_
                      refine QA_nil ?_
                      obtain ⟨bb, pp, rfl, hep⟩ := h6
                      refine D_yes rfl ?_
                      refine OpR_loadE T.ok 0 rfl hep rfl rfl ?_
                      exact ⟨_, rfl, Fr0.refl _, rfl⟩
                    refine D_cons (D_step2 (js := [(3, 160), (7, 164)]) (by kernel_rfl) fun gd hf => ?_) ?_
                    · have hsd := hs.dr.call hf; have hfe := (G.le_dr _).trans hf.le
                      refine QA_eq rfl ?_; refine QA_eq rfl ?_
                      refine QA_nil ?_
                      refine D_yes rfl ?_
                      refine OpR_eqS (neg := true) rfl rfl rfl ?_
                      exact ⟨_, rfl, Fr0.refl _, show _ = Value.bool false from congrArg Value.bool (by rw [hpq, beq_self_eq_true]; rfl)⟩
                    refine D_cons (D_step2 (js := [(8, 165)]) (by kernel_rfl) fun gd hf => ?_) ?_
                    · have hsd := hs.dr.call hf; have hfe := (G.le_dr _).trans hf.le
                      refine QA_eq rfl ?_
                      refine QA_nil ?_
                      (refine D_yes rfl ?_; refine OpR_pure _ T.ok rfl ?_; refine ⟨_, rfl, Fr0.refl _, ?_⟩; exact rfl)
                    refine D_cons (D_step2 (js := [(9, 166)]) (by kernel_rfl) fun gd hf => ?_) ?_
                    · have hsd := hs.dr.call hf; have hfe := (G.le_dr _).trans hf.le
                      refine QA_eq rfl ?_
                      refine QA_nil ?_
                      (refine D_no rfl ?_; exact rfl)
                    refine D_cons (D_step2 (js := [(9, 166)]) (by kernel_rfl) fun gd hf => ?_) ?_
                    · have hsd := hs.dr.call hf; have hfe := (G.le_dr _).trans hf.le
                      refine QA_eq rfl ?_
                      refine QA_nil ?_
                      (refine D_no rfl ?_; exact rfl)
                    refine D_cons (D_step2 (js := [(10, 167), (11, 168), (9, 166)]) (by kernel_rfl) fun gd hf => ?_) ?_
                    · have hsd := hs.dr.call hf; have hfe := (G.le_dr _).trans hf.le
                      refine QA_eq rfl ?_; refine QA_eq rfl ?_; refine QA_eq rfl ?_
                      refine QA_nil ?_
                      (refine D_no rfl ?_; exact rfl)
                    refine D_cons (D_step2 (js := [(12, 169), (9, 166)]) (by kernel_rfl) fun gd hf => ?_) ?_
                    · have hsd := hs.dr.call hf; have hfe := (G.le_dr _).trans hf.le
                      refine QA_eq rfl ?_; refine QA_eq rfl ?_
                      refine QA_nil ?_
                      (refine D_no rfl ?_; exact rfl)
                    refine D_cons (D_step2 (js := [(13, 170), (9, 166), (9, 166)]) (by kernel_rfl) fun gd hf => ?_) ?_
                    · have hsd := hs.dr.call hf; have hfe := (G.le_dr _).trans hf.le
                      refine QA_eq rfl ?_; refine QA_eq rfl ?_; refine QA_eq rfl ?_
                      refine QA_nil ?_
                      (refine D_no rfl ?_; exact rfl)
                    refine D_cons (D_step2 (js := [(9, 166)]) (by kernel_rfl) fun gd hf => ?_) ?_
                    · have hsd := hs.dr.call hf; have hfe := (G.le_dr _).trans hf.le
                      refine QA_eq rfl ?_
                      refine QA_nil ?_
                      (refine D_no rfl ?_; exact rfl)
                    refine D_cons (D_step2 (js := [(9, 166)]) (by kernel_rfl) fun gd hf => ?_) ?_
                    · have hsd := hs.dr.call hf; have hfe := (G.le_dr _).trans hf.le
                      refine QA_eq rfl ?_
                      refine QA_nil ?_
                      (refine D_no rfl ?_; exact rfl)
                    refine D_cons (D_step2 (js := [(15, 172), (16, 173), (9, 166)]) (by kernel_rfl) fun gd hf => ?_) ?_
                    · have hsd := hs.dr.call hf; have hfe := (G.le_dr _).trans hf.le
                      refine QA_eq rfl ?_; refine QA_eq rfl ?_; refine QA_eq rfl ?_
                      refine QA_nil ?_
                      (refine D_no rfl ?_; exact rfl)
                    refine D_cons (D_step2 (js := [(17, 174), (9, 166)]) (by kernel_rfl) fun gd hf => ?_) ?_
                    · have hsd := hs.dr.call hf; have hfe := (G.le_dr _).trans hf.le
                      refine QA_eq rfl ?_; refine QA_eq rfl ?_
                      refine QA_nil ?_
                      (refine D_no rfl ?_; exact rfl)
                    refine D_cons (D_step2 (js := [(18, 175), (9, 166)]) (by kernel_rfl) fun gd hf => ?_) ?_
                    · have hsd := hs.dr.call hf; have hfe := (G.le_dr _).trans hf.le
                      refine QA_eq rfl ?_; refine QA_eq rfl ?_
                      refine QA_nil ?_
                      (refine D_no rfl ?_; exact rfl)
                    refine D_cons (D_step2 (js := [(14, 171), (19, 176), (9, 166)]) (by kernel_rfl) fun gd hf => ?_) ?_
                    · have hsd := hs.dr.call hf; have hfe := (G.le_dr _).trans hf.le
                      refine QA_eq rfl ?_; refine QA_eq rfl ?_; refine QA_eq rfl ?_
                      refine QA_nil ?_
                      (refine D_no rfl ?_; exact rfl)
                    refine D_cons (D_step2 (js := [(9, 166), (20, 177)]) (by kernel_rfl) fun gd hf => ?_) ?_
                    · have hsd := hs.dr.call hf; have hfe := (G.le_dr _).trans hf.le
                      refine QA_eq rfl ?_; refine QA_eq rfl ?_
                      refine QA_nil ?_
                      (refine D_yes rfl ?_; refine OpR_pure _ T.ok rfl ?_; refine ⟨_, rfl, Fr0.refl _, ?_⟩; exact rfl)
                    exact D_nil
                  intro g1 hf1; refine QA_eq rfl ?_; refine QA_nil ?_
                  replace hs := hs.dr.call hf1; have hqe := (G.le_dr _).trans hf1.le; replace le0 := G.le.trans le0 hqe; replace le8 := G.le.trans le8 hqe; replace rs3 := rs3.mono hqe; replace rs4 := rs4.mono hqe
                  refine WL_nil ?_; (with_reducible refine T_then ?_)
                  refine W_no rfl rfl ?_
                  refine W_skip ?_; (with_reducible refine T_bn ?_); (with_reducible refine T_then ?_); refine W_region ?_; (iterate 3 refine P1 T.ok rfl rfl rfl ?_); refine WL_nil ?_
                  exact fun a ha => ⟨i0 - (i + 1), by omega, i + 1, _, rfl, hs, le0, le8, by omega, rfl, ha.keep ⟨rfl, rfl, rfl, kI rfl (by rw [wr (by omega) (by omega)]; omega), trivial⟩⟩
                · by_cases hsum : sumM p = sumM q
                  · apply W_draw allF rfl (Fact.eq _ :: Fact.eq _ :: (strP1 p) :: Fact.eq _ :: Fact.eq _ :: Fact.eq _ :: (strP1 q) :: Fact.eq _ :: Fact.eq _ :: Fact.eq _ :: Fact.eq _ :: Fact.eq _ :: (strP1 p) :: Fact.eq _ :: Fact.eq _ :: Fact.eq _ :: Fact.eq _ :: (strP1 q) :: Fact.eq _ :: Fact.eq _ :: Fact.eq _ :: Fact.eq _ :: []) 22 [(21, 178)] rfl rfl
                    · refine D_cons (D_step2 (js := []) (by kernel_rfl) fun gd hf => ?_) ?_
                      · have hsd := hs.dr.call hf; have hfe := (G.le_dr _).trans hf.le
                        refine QA_nil ?_
                        (refine D_yes rfl ?_; refine OpR_pure _ T.ok rfl ?_; refine ⟨_, rfl, Fr0.refl _, ?_⟩; exact rfl)
                      refine D_cons (D_step2 (js := []) (by kernel_rfl) fun gd hf => ?_) ?_
                      · have hsd := hs.dr.call hf; have hfe := (G.le_dr _).trans hf.le
                        refine QA_nil ?_
                        (refine D_yes rfl ?_; refine OpR_pure _ T.ok rfl ?_; refine ⟨_, rfl, Fr0.refl _, ?_⟩; exact rfl)
                      refine D_cons (D_step2 (js := [(0, 157), (1, 158)]) (by kernel_rfl) fun gd hf => ?_) ?_
                      · have hsd := hs.dr.call hf; have hfe := (G.le_dr _).trans hf.le
                        refine QA_eq rfl ?_; refine QA_eq rfl ?_
                        refine QA_nil ?_
                        refine D_yes rfl ?_
                        refine OpR_idx T.ok rfl (rs3.mono hfe) (y := ⟨p⟩) hga rfl rfl rfl rfl rfl rfl ?_
                        intro bb pp ys hep hrc
                        exact ⟨_, rfl, Fr0.refl _, bb, pp, rfl, by rw [← show ys = [Value.string (bs p)] from hrc]; exact hep⟩
                      refine D_cons (D_step2 (js := [(2, 159)]) (by kernel_rfl) fun gd hf => ?_) ?_
                      · have hsd := hs.dr.call hf; have hfe := (G.le_dr _).trans hf.le
                        refine QA_any fun v2 h2 => ?_
                        refine QA_nil ?_
                        obtain ⟨bb, pp, rfl, hep⟩ := h2
                        refine D_yes rfl ?_
                        refine OpR_loadE T.ok 0 rfl hep rfl rfl ?_
                        exact ⟨_, rfl, Fr0.refl _, rfl⟩
                      refine D_cons (D_step2 (js := []) (by kernel_rfl) fun gd hf => ?_) ?_
                      · have hsd := hs.dr.call hf; have hfe := (G.le_dr _).trans hf.le
                        refine QA_nil ?_
                        (refine D_yes rfl ?_; refine OpR_pure _ T.ok rfl ?_; refine ⟨_, rfl, Fr0.refl _, ?_⟩; exact rfl)
                      refine D_cons (D_step2 (js := []) (by kernel_rfl) fun gd hf => ?_) ?_
                      · have hsd := hs.dr.call hf; have hfe := (G.le_dr _).trans hf.le
                        refine QA_nil ?_
                        (refine D_yes rfl ?_; refine OpR_pure _ T.ok rfl ?_; refine ⟨_, rfl, Fr0.refl _, ?_⟩; exact rfl)
                      refine D_cons (D_step2 (js := [(4, 161), (5, 162)]) (by kernel_rfl) fun gd hf => ?_) ?_
                      · have hsd := hs.dr.call hf; have hfe := (G.le_dr _).trans hf.le
                        refine QA_eq rfl ?_; refine QA_eq rfl ?_
                        refine QA_nil ?_
                        refine D_yes rfl ?_
                        refine OpR_idx T.ok rfl (rs4.mono hfe) (y := ⟨q⟩) hgb rfl rfl rfl rfl rfl rfl ?_
                        intro bb pp ys hep hrc
                        exact ⟨_, rfl, Fr0.refl _, bb, pp, rfl, by rw [← show ys = [Value.string (bs q)] from hrc]; exact hep⟩
                      refine D_cons (D_step2 (js := [(6, 163)]) (by kernel_rfl) fun gd hf => ?_) ?_
                      · have hsd := hs.dr.call hf; have hfe := (G.le_dr _).trans hf.le
                        refine QA_any fun v6 h6 => ?_
                        refine QA_nil ?_
                        obtain ⟨bb, pp, rfl, hep⟩ := h6
                        refine D_yes rfl ?_
                        refine OpR_loadE T.ok 0 rfl hep rfl rfl ?_
                        exact ⟨_, rfl, Fr0.refl _, rfl⟩
                      refine D_cons (D_step2 (js := [(3, 160), (7, 164)]) (by kernel_rfl) fun gd hf => ?_) ?_
                      · have hsd := hs.dr.call hf; have hfe := (G.le_dr _).trans hf.le
                        refine QA_eq rfl ?_; refine QA_eq rfl ?_
                        refine QA_nil ?_
                        refine D_yes rfl ?_
                        refine OpR_eqS (neg := true) rfl rfl rfl ?_
                        exact ⟨_, rfl, Fr0.refl _, show _ = Value.bool true from congrArg Value.bool (by rw [beq_eq_false_iff_ne.2 hpq]; rfl)⟩
                      refine D_cons (D_step2 (js := [(8, 165)]) (by kernel_rfl) fun gd hf => ?_) ?_
                      · have hsd := hs.dr.call hf; have hfe := (G.le_dr _).trans hf.le
                        refine QA_eq rfl ?_
                        refine QA_nil ?_
                        (refine D_yes rfl ?_; refine OpR_pure _ T.ok rfl ?_; refine ⟨_, rfl, Fr0.refl _, ?_⟩; exact rfl)
                      refine D_cons (D_step2 (js := [(9, 166)]) (by kernel_rfl) fun gd hf => ?_) ?_
                      · have hsd := hs.dr.call hf; have hfe := (G.le_dr _).trans hf.le
                        refine QA_eq rfl ?_
                        refine QA_nil ?_
                        (refine D_yes rfl ?_; refine OpR_pure _ T.ok rfl ?_; refine ⟨_, rfl, Fr0.refl _, ?_⟩; exact rfl)
                      refine D_cons (D_step2 (js := [(9, 166)]) (by kernel_rfl) fun gd hf => ?_) ?_
                      · have hsd := hs.dr.call hf; have hfe := (G.le_dr _).trans hf.le
                        refine QA_eq rfl ?_
                        refine QA_nil ?_
                        (refine D_yes rfl ?_; refine OpR_pure _ T.ok rfl ?_; refine ⟨_, rfl, Fr0.refl _, ?_⟩; exact rfl)
                      refine D_cons (D_step2 (js := [(10, 167), (11, 168), (9, 166)]) (by kernel_rfl) fun gd hf => ?_) ?_
                      · have hsd := hs.dr.call hf; have hfe := (G.le_dr _).trans hf.le
                        refine QA_eq rfl ?_; refine QA_eq rfl ?_; refine QA_eq rfl ?_
                        refine QA_nil ?_
                        refine D_yes rfl ?_
                        refine OpR_idx T.ok rfl (rs3.mono hfe) (y := ⟨p⟩) hga rfl rfl rfl rfl rfl rfl ?_
                        intro bb pp ys hep hrc
                        exact ⟨_, rfl, Fr0.refl _, bb, pp, rfl, by rw [← show ys = [Value.string (bs p)] from hrc]; exact hep⟩
                      refine D_cons (D_step2 (js := [(12, 169), (9, 166)]) (by kernel_rfl) fun gd hf => ?_) ?_
                      · have hsd := hs.dr.call hf; have hfe := (G.le_dr _).trans hf.le
                        refine QA_any fun v12 h12 => ?_; refine QA_eq rfl ?_
                        refine QA_nil ?_
                        obtain ⟨bb, pp, rfl, hep⟩ := h12
                        refine D_yes rfl ?_
                        refine OpR_loadE T.ok 0 rfl hep rfl rfl ?_
                        exact ⟨_, rfl, Fr0.refl _, rfl⟩
                      refine D_cons (D_step2 (js := [(13, 170), (9, 166), (9, 166)]) (by kernel_rfl) fun gd hf => ?_) ?_
                      · have hsd := hs.dr.call hf; have hfe := (G.le_dr _).trans hf.le
                        refine QA_eq rfl ?_; refine QA_eq rfl ?_; refine QA_eq rfl ?_
                        refine QA_nil ?_
                        refine D_yes rfl ?_
                        refine OpR_ret cl28 allF rfl rfl rfl rfl rfl (rsum_c p _ hpl) fun g' v h1 h2 => ⟨g', rfl, h1, ?_⟩
                        exact h2
                      refine D_cons (D_step2 (js := [(9, 166)]) (by kernel_rfl) fun gd hf => ?_) ?_
                      · have hsd := hs.dr.call hf; have hfe := (G.le_dr _).trans hf.le
                        refine QA_eq rfl ?_
                        refine QA_nil ?_
                        (refine D_yes rfl ?_; refine OpR_pure _ T.ok rfl ?_; refine ⟨_, rfl, Fr0.refl _, ?_⟩; exact rfl)
                      refine D_cons (D_step2 (js := [(9, 166)]) (by kernel_rfl) fun gd hf => ?_) ?_
                      · have hsd := hs.dr.call hf; have hfe := (G.le_dr _).trans hf.le
                        refine QA_eq rfl ?_
                        refine QA_nil ?_
                        (refine D_yes rfl ?_; refine OpR_pure _ T.ok rfl ?_; refine ⟨_, rfl, Fr0.refl _, ?_⟩; exact rfl)
                      refine D_cons (D_step2 (js := [(15, 172), (16, 173), (9, 166)]) (by kernel_rfl) fun gd hf => ?_) ?_
                      · have hsd := hs.dr.call hf; have hfe := (G.le_dr _).trans hf.le
                        refine QA_eq rfl ?_; refine QA_eq rfl ?_; refine QA_eq rfl ?_
                        refine QA_nil ?_
                        refine D_yes rfl ?_
                        refine OpR_idx T.ok rfl (rs4.mono hfe) (y := ⟨q⟩) hgb rfl rfl rfl rfl rfl rfl ?_
                        intro bb pp ys hep hrc
                        exact ⟨_, rfl, Fr0.refl _, bb, pp, rfl, by rw [← show ys = [Value.string (bs q)] from hrc]; exact hep⟩
                      refine D_cons (D_step2 (js := [(17, 174), (9, 166)]) (by kernel_rfl) fun gd hf => ?_) ?_
                      · have hsd := hs.dr.call hf; have hfe := (G.le_dr _).trans hf.le
                        refine QA_any fun v17 h17 => ?_; refine QA_eq rfl ?_
                        refine QA_nil ?_
                        obtain ⟨bb, pp, rfl, hep⟩ := h17
                        refine D_yes rfl ?_
                        refine OpR_loadE T.ok 0 rfl hep rfl rfl ?_
                        exact ⟨_, rfl, Fr0.refl _, rfl⟩
                      refine D_cons (D_step2 (js := [(18, 175), (9, 166)]) (by kernel_rfl) fun gd hf => ?_) ?_
                      · have hsd := hs.dr.call hf; have hfe := (G.le_dr _).trans hf.le
                        refine QA_eq rfl ?_; refine QA_eq rfl ?_
                        refine QA_nil ?_
                        refine D_yes rfl ?_
                        refine OpR_ret cl28 allF rfl rfl rfl rfl rfl (rsum_c q _ hql) fun g' v h1 h2 => ⟨g', rfl, h1, ?_⟩
                        exact h2
                      refine D_cons (D_step2 (js := [(14, 171), (19, 176), (9, 166)]) (by kernel_rfl) fun gd hf => ?_) ?_
                      · have hsd := hs.dr.call hf; have hfe := (G.le_dr _).trans hf.le
                        refine QA_eq rfl ?_; refine QA_eq rfl ?_; refine QA_eq rfl ?_
                        refine QA_nil ?_
                        refine D_yes rfl ?_
                        refine OpR_eqS (neg := false) rfl rfl rfl ?_
                        exact ⟨_, rfl, Fr0.refl _, show _ = Value.bool true from congrArg Value.bool (by rw [hsum, beq_self_eq_true]; rfl)⟩
                      refine D_cons (D_step2 (js := [(9, 166), (20, 177)]) (by kernel_rfl) fun gd hf => ?_) ?_
                      · have hsd := hs.dr.call hf; have hfe := (G.le_dr _).trans hf.le
                        refine QA_eq rfl ?_; refine QA_eq rfl ?_
                        refine QA_nil ?_
                        (refine D_yes rfl ?_; refine OpR_pure _ T.ok rfl ?_; refine ⟨_, rfl, Fr0.refl _, ?_⟩; exact rfl)
                      exact D_nil
                    intro g1 hf1; refine QA_eq rfl ?_; refine QA_nil ?_
                    replace hs := hs.dr.call hf1; have hqe := (G.le_dr _).trans hf1.le; replace le0 := G.le.trans le0 hqe; replace le8 := G.le.trans le8 hqe; replace rs3 := rs3.mono hqe; replace rs4 := rs4.mono hqe
                    refine WL_nil ?_; (with_reducible refine T_then ?_)
                    refine W_yes rfl rfl ?_
                    refine W_seq ?_; refine W_region ?_; refine P1 T.ok rfl rfl rfl ?_; refine P1 T.ok rfl rfl rfl ?_; refine WL_nil ?_; (with_reducible refine T_then ?_)
                    exact W_ret (ret1 rfl rfl (hs.ret rfl))
                  · have hine : i ≠ i0 := fun h => hsum (hcls h).2
                    apply W_draw allF rfl (Fact.eq _ :: Fact.eq _ :: (strP1 p) :: Fact.eq _ :: Fact.eq _ :: Fact.eq _ :: (strP1 q) :: Fact.eq _ :: Fact.eq _ :: Fact.eq _ :: Fact.eq _ :: Fact.eq _ :: (strP1 p) :: Fact.eq _ :: Fact.eq _ :: Fact.eq _ :: Fact.eq _ :: (strP1 q) :: Fact.eq _ :: Fact.eq _ :: Fact.eq _ :: Fact.eq _ :: []) 22 [(21, 178)] rfl rfl
                    · refine D_cons (D_step2 (js := []) (by kernel_rfl) fun gd hf => ?_) ?_
                      · have hsd := hs.dr.call hf; have hfe := (G.le_dr _).trans hf.le
                        refine QA_nil ?_
                        (refine D_yes rfl ?_; refine OpR_pure _ T.ok rfl ?_; refine ⟨_, rfl, Fr0.refl _, ?_⟩; exact rfl)
                      refine D_cons (D_step2 (js := []) (by kernel_rfl) fun gd hf => ?_) ?_
                      · have hsd := hs.dr.call hf; have hfe := (G.le_dr _).trans hf.le
                        refine QA_nil ?_
                        (refine D_yes rfl ?_; refine OpR_pure _ T.ok rfl ?_; refine ⟨_, rfl, Fr0.refl _, ?_⟩; exact rfl)
                      refine D_cons (D_step2 (js := [(0, 157), (1, 158)]) (by kernel_rfl) fun gd hf => ?_) ?_
                      · have hsd := hs.dr.call hf; have hfe := (G.le_dr _).trans hf.le
                        refine QA_eq rfl ?_; refine QA_eq rfl ?_
                        refine QA_nil ?_
                        refine D_yes rfl ?_
                        refine OpR_idx T.ok rfl (rs3.mono hfe) (y := ⟨p⟩) hga rfl rfl rfl rfl rfl rfl ?_
                        intro bb pp ys hep hrc
                        exact ⟨_, rfl, Fr0.refl _, bb, pp, rfl, by rw [← show ys = [Value.string (bs p)] from hrc]; exact hep⟩
                      refine D_cons (D_step2 (js := [(2, 159)]) (by kernel_rfl) fun gd hf => ?_) ?_
                      · have hsd := hs.dr.call hf; have hfe := (G.le_dr _).trans hf.le
                        refine QA_any fun v2 h2 => ?_
                        refine QA_nil ?_
                        obtain ⟨bb, pp, rfl, hep⟩ := h2
                        refine D_yes rfl ?_
                        refine OpR_loadE T.ok 0 rfl hep rfl rfl ?_
                        exact ⟨_, rfl, Fr0.refl _, rfl⟩
                      refine D_cons (D_step2 (js := []) (by kernel_rfl) fun gd hf => ?_) ?_
                      · have hsd := hs.dr.call hf; have hfe := (G.le_dr _).trans hf.le
                        refine QA_nil ?_
                        (refine D_yes rfl ?_; refine OpR_pure _ T.ok rfl ?_; refine ⟨_, rfl, Fr0.refl _, ?_⟩; exact rfl)
                      refine D_cons (D_step2 (js := []) (by kernel_rfl) fun gd hf => ?_) ?_
                      · have hsd := hs.dr.call hf; have hfe := (G.le_dr _).trans hf.le
                        refine QA_nil ?_
                        (refine D_yes rfl ?_; refine OpR_pure _ T.ok rfl ?_; refine ⟨_, rfl, Fr0.refl _, ?_⟩; exact rfl)
                      refine D_cons (D_step2 (js := [(4, 161), (5, 162)]) (by kernel_rfl) fun gd hf => ?_) ?_
                      · have hsd := hs.dr.call hf; have hfe := (G.le_dr _).trans hf.le
                        refine QA_eq rfl ?_; refine QA_eq rfl ?_
                        refine QA_nil ?_
                        refine D_yes rfl ?_
                        refine OpR_idx T.ok rfl (rs4.mono hfe) (y := ⟨q⟩) hgb rfl rfl rfl rfl rfl rfl ?_
                        intro bb pp ys hep hrc
                        exact ⟨_, rfl, Fr0.refl _, bb, pp, rfl, by rw [← show ys = [Value.string (bs q)] from hrc]; exact hep⟩
                      refine D_cons (D_step2 (js := [(6, 163)]) (by kernel_rfl) fun gd hf => ?_) ?_
                      · have hsd := hs.dr.call hf; have hfe := (G.le_dr _).trans hf.le
                        refine QA_any fun v6 h6 => ?_
                        refine QA_nil ?_
                        obtain ⟨bb, pp, rfl, hep⟩ := h6
                        refine D_yes rfl ?_
                        refine OpR_loadE T.ok 0 rfl hep rfl rfl ?_
                        exact ⟨_, rfl, Fr0.refl _, rfl⟩
                      refine D_cons (D_step2 (js := [(3, 160), (7, 164)]) (by kernel_rfl) fun gd hf => ?_) ?_
                      · have hsd := hs.dr.call hf; have hfe := (G.le_dr _).trans hf.le
                        refine QA_eq rfl ?_; refine QA_eq rfl ?_
                        refine QA_nil ?_
                        refine D_yes rfl ?_
                        refine OpR_eqS (neg := true) rfl rfl rfl ?_
                        exact ⟨_, rfl, Fr0.refl _, show _ = Value.bool true from congrArg Value.bool (by rw [beq_eq_false_iff_ne.2 hpq]; rfl)⟩
                      refine D_cons (D_step2 (js := [(8, 165)]) (by kernel_rfl) fun gd hf => ?_) ?_
                      · have hsd := hs.dr.call hf; have hfe := (G.le_dr _).trans hf.le
                        refine QA_eq rfl ?_
                        refine QA_nil ?_
                        (refine D_yes rfl ?_; refine OpR_pure _ T.ok rfl ?_; refine ⟨_, rfl, Fr0.refl _, ?_⟩; exact rfl)
                      refine D_cons (D_step2 (js := [(9, 166)]) (by kernel_rfl) fun gd hf => ?_) ?_
                      · have hsd := hs.dr.call hf; have hfe := (G.le_dr _).trans hf.le
                        refine QA_eq rfl ?_
                        refine QA_nil ?_
                        (refine D_yes rfl ?_; refine OpR_pure _ T.ok rfl ?_; refine ⟨_, rfl, Fr0.refl _, ?_⟩; exact rfl)
                      refine D_cons (D_step2 (js := [(9, 166)]) (by kernel_rfl) fun gd hf => ?_) ?_
                      · have hsd := hs.dr.call hf; have hfe := (G.le_dr _).trans hf.le
                        refine QA_eq rfl ?_
                        refine QA_nil ?_
                        (refine D_yes rfl ?_; refine OpR_pure _ T.ok rfl ?_; refine ⟨_, rfl, Fr0.refl _, ?_⟩; exact rfl)
                      refine D_cons (D_step2 (js := [(10, 167), (11, 168), (9, 166)]) (by kernel_rfl) fun gd hf => ?_) ?_
                      · have hsd := hs.dr.call hf; have hfe := (G.le_dr _).trans hf.le
                        refine QA_eq rfl ?_; refine QA_eq rfl ?_; refine QA_eq rfl ?_
                        refine QA_nil ?_
                        refine D_yes rfl ?_
                        refine OpR_idx T.ok rfl (rs3.mono hfe) (y := ⟨p⟩) hga rfl rfl rfl rfl rfl rfl ?_
                        intro bb pp ys hep hrc
                        exact ⟨_, rfl, Fr0.refl _, bb, pp, rfl, by rw [← show ys = [Value.string (bs p)] from hrc]; exact hep⟩
                      refine D_cons (D_step2 (js := [(12, 169), (9, 166)]) (by kernel_rfl) fun gd hf => ?_) ?_
                      · have hsd := hs.dr.call hf; have hfe := (G.le_dr _).trans hf.le
                        refine QA_any fun v12 h12 => ?_; refine QA_eq rfl ?_
                        refine QA_nil ?_
                        obtain ⟨bb, pp, rfl, hep⟩ := h12
                        refine D_yes rfl ?_
                        refine OpR_loadE T.ok 0 rfl hep rfl rfl ?_
                        exact ⟨_, rfl, Fr0.refl _, rfl⟩
                      refine D_cons (D_step2 (js := [(13, 170), (9, 166), (9, 166)]) (by kernel_rfl) fun gd hf => ?_) ?_
                      · have hsd := hs.dr.call hf; have hfe := (G.le_dr _).trans hf.le
                        refine QA_eq rfl ?_; refine QA_eq rfl ?_; refine QA_eq rfl ?_
                        refine QA_nil ?_
                        refine D_yes rfl ?_
                        refine OpR_ret cl28 allF rfl rfl rfl rfl rfl (rsum_c p _ hpl) fun g' v h1 h2 => ⟨g', rfl, h1, ?_⟩
                        exact h2
                      refine D_cons (D_step2 (js := [(9, 166)]) (by kernel_rfl) fun gd hf => ?_) ?_
                      · have hsd := hs.dr.call hf; have hfe := (G.le_dr _).trans hf.le
                        refine QA_eq rfl ?_
                        refine QA_nil ?_
                        (refine D_yes rfl ?_; refine OpR_pure _ T.ok rfl ?_; refine ⟨_, rfl, Fr0.refl _, ?_⟩; exact rfl)
                      refine D_cons (D_step2 (js := [(9, 166)]) (by kernel_rfl) fun gd hf => ?_) ?_
                      · have hsd := hs.dr.call hf; have hfe := (G.le_dr _).trans hf.le
                        refine QA_eq rfl ?_
                        refine QA_nil ?_
                        (refine D_yes rfl ?_; refine OpR_pure _ T.ok rfl ?_; refine ⟨_, rfl, Fr0.refl _, ?_⟩; exact rfl)
                      refine D_cons (D_step2 (js := [(15, 172), (16, 173), (9, 166)]) (by kernel_rfl) fun gd hf => ?_) ?_
                      · have hsd := hs.dr.call hf; have hfe := (G.le_dr _).trans hf.le
                        refine QA_eq rfl ?_; refine QA_eq rfl ?_; refine QA_eq rfl ?_
                        refine QA_nil ?_
                        refine D_yes rfl ?_
                        refine OpR_idx T.ok rfl (rs4.mono hfe) (y := ⟨q⟩) hgb rfl rfl rfl rfl rfl rfl ?_
                        intro bb pp ys hep hrc
                        exact ⟨_, rfl, Fr0.refl _, bb, pp, rfl, by rw [← show ys = [Value.string (bs q)] from hrc]; exact hep⟩
                      refine D_cons (D_step2 (js := [(17, 174), (9, 166)]) (by kernel_rfl) fun gd hf => ?_) ?_
                      · have hsd := hs.dr.call hf; have hfe := (G.le_dr _).trans hf.le
                        refine QA_any fun v17 h17 => ?_; refine QA_eq rfl ?_
                        refine QA_nil ?_
                        obtain ⟨bb, pp, rfl, hep⟩ := h17
                        refine D_yes rfl ?_
                        refine OpR_loadE T.ok 0 rfl hep rfl rfl ?_
                        exact ⟨_, rfl, Fr0.refl _, rfl⟩
                      refine D_cons (D_step2 (js := [(18, 175), (9, 166)]) (by kernel_rfl) fun gd hf => ?_) ?_
                      · have hsd := hs.dr.call hf; have hfe := (G.le_dr _).trans hf.le
                        refine QA_eq rfl ?_; refine QA_eq rfl ?_
                        refine QA_nil ?_
                        refine D_yes rfl ?_
                        refine OpR_ret cl28 allF rfl rfl rfl rfl rfl (rsum_c q _ hql) fun g' v h1 h2 => ⟨g', rfl, h1, ?_⟩
                        exact h2
                      refine D_cons (D_step2 (js := [(14, 171), (19, 176), (9, 166)]) (by kernel_rfl) fun gd hf => ?_) ?_
                      · have hsd := hs.dr.call hf; have hfe := (G.le_dr _).trans hf.le
                        refine QA_eq rfl ?_; refine QA_eq rfl ?_; refine QA_eq rfl ?_
                        refine QA_nil ?_
                        refine D_yes rfl ?_
                        refine OpR_eqS (neg := false) rfl rfl rfl ?_
                        exact ⟨_, rfl, Fr0.refl _, show _ = Value.bool false from congrArg Value.bool (by rw [beq_eq_false_iff_ne.2 hsum]; rfl)⟩
                      refine D_cons (D_step2 (js := [(9, 166), (20, 177)]) (by kernel_rfl) fun gd hf => ?_) ?_
                      · have hsd := hs.dr.call hf; have hfe := (G.le_dr _).trans hf.le
                        refine QA_eq rfl ?_; refine QA_eq rfl ?_
                        refine QA_nil ?_
                        (refine D_yes rfl ?_; refine OpR_pure _ T.ok rfl ?_; refine ⟨_, rfl, Fr0.refl _, ?_⟩; exact rfl)
                      exact D_nil
                    intro g1 hf1; refine QA_eq rfl ?_; refine QA_nil ?_
                    replace hs := hs.dr.call hf1; have hqe := (G.le_dr _).trans hf1.le; replace le0 := G.le.trans le0 hqe; replace le8 := G.le.trans le8 hqe; replace rs3 := rs3.mono hqe; replace rs4 := rs4.mono hqe
                    refine WL_nil ?_; (with_reducible refine T_then ?_)
                    refine W_no rfl rfl ?_
                    refine W_skip ?_; (with_reducible refine T_bn ?_); (with_reducible refine T_then ?_); refine W_region ?_; (iterate 3 refine P1 T.ok rfl rfl rfl ?_); refine WL_nil ?_
                    exact fun a ha => ⟨i0 - (i + 1), by omega, i + 1, _, rfl, hs, le0, le8, by omega, rfl, ha.keep ⟨rfl, rfl, rfl, kI rfl (by rw [wr (by omega) (by omega)]; omega), trivial⟩⟩
  · refine WL_know 40 (b := decide ((k : Int) < (groups.length : Int))) (b' := false) (decide_eq_false (by omega)) rfl ?_
    refine S1 allF rfl rfl ?_; refine S1 allF rfl rfl ?_; refine P1 T.ok rfl rfl rfl ?_; refine WL_nil ?_; (with_reducible refine T_then ?_)
    refine W_no rfl rfl ?_
    clear rs1
    refine W_exit ?_; (with_reducible refine T_tx ?_; with_reducible refine T_tx ?_); (with_reducible refine T_bx ?_); (with_reducible refine T_then ?_); refine W_seq ?_; refine W_region ?_; refine P1 T.ok rfl rfl rfl ?_
    have hrec := records_c hJ.tok hs
    rw [hJ.recs] at hrec
    refine WL_o rfl rfl (OpR_ret cl19 allF rfl rfl rfl rfl rfl (hrec) ?_); rintro g1 vo hf1 hvo; obtain ⟨gz, hwz, hsz, hqz, rs1⟩ := hs.ownRs hf1 hvo; have hqe := hf1.le.trans hqz; rw [← hwz]; replace hs := hsz; clear hsz hvo; replace le0 := G.le.trans le0 hqe
    clear hrec
    obtain ⟨aw, cw, rfl⟩ := rs1.isSlice
    refine P1 T.ok rfl rfl rfl ?_; refine WL_nil ?_; (with_reducible refine T_then ?_); refine W_seq ?_; refine W_region ?_; refine P1 T.ok rfl rfl rfl ?_
    have hcall := room_c hJ.ok hJ.tok hs
    refine WL_o rfl rfl (OpR_ret cl20 allF rfl rfl rfl rfl rfl (hcall) ?_); rintro g1 _ hf1 rfl; replace hs := hs.call hf1; have hqe := hf1.le; replace le0 := G.le.trans le0 hqe; replace rs1 := rs1.mono hqe
    clear hcall
    rw [hN]
    have hnr := hJ.nrec
    have hsize := hJ.size
    have hwp := wireM_pos rs tape0
    obtain ⟨U, hU⟩ : ∃ U, U = Y.size := ⟨_, rfl⟩
    rw [← hU]
    refine P1 T.ok rfl rfl rfl ?_
    refine WL_re (.int .i64 (U : Int)) (t := 58) rfl (congrArg (Value.int .i64) (by rw [wr (by omega) (by omega)]; omega)) ?_
    refine P1 T.ok rfl rfl rfl ?_; refine WL_nil ?_; (with_reducible refine T_then ?_); refine W_seq ?_; refine W_seq ?_; refine W_region ?_; (iterate 3 refine P1 T.ok rfl rfl rfl ?_)
    by_cases hU0 : U = 0
    · obtain rfl : rs = [] := List.eq_nil_of_length_eq_zero (by omega)
      subst hU0
      refine S1 allF rfl rfl ?_; refine S1 allF rfl rfl ?_; refine P1 T.ok rfl rfl rfl ?_; refine WL_nil ?_; (with_reducible refine T_then ?_)
      refine W_yes rfl rfl ?_
      refine W_seq ?_; refine W_region ?_; (iterate 11 refine P1 T.ok rfl rfl rfl ?_); refine WL_nil ?_; (with_reducible refine T_then ?_)
      exact W_ret (ret1 rfl rfl (hs.ret rfl))
    · refine WL_know 61 (b := decide ((U : Int) ≤ 0)) (b' := false) (decide_eq_false (by omega)) rfl ?_
      (iterate 3 refine P1 T.ok rfl rfl rfl ?_); refine WL_nil ?_; (with_reducible refine T_then ?_)
      refine W_no (b := decide ((6000 : Int) < (U : Int))) (decide_eq_false (by omega)) rfl ?_
      refine W_skip ?_; (with_reducible refine T_then ?_); refine W_seq ?_; refine W_region ?_; refine P1 T.ok rfl rfl rfl ?_; refine P1 T.ok rfl rfl rfl ?_
      refine WL_o rfl rfl (OpR_ret cl14 allF rfl rfl rfl rfl rfl (pick_c at' (U : Int) _ hat (by omega)) ?_); rintro g1 _ hf1 rfl; replace hs := hs.call hf1; have hqe := hf1.le; replace le0 := G.le.trans le0 hqe; replace rs1 := rs1.mono hqe
      have hpk := pickM_range (c := at') (n := (U : Int)) (by omega)
      generalize pickM at' (U : Int) = P at *
      obtain ⟨K, rfl⟩ : ∃ K : Nat, P = (K : Int) := ⟨P.toNat, by omega⟩
      refine P1 T.ok rfl rfl rfl ?_; refine WL_nil ?_; (with_reducible refine T_then ?_); refine W_seq ?_; refine W_seq ?_; refine W_region ?_; refine P1 T.ok rfl rfl rfl ?_; refine P1 T.ok rfl rfl rfl ?_
      have hcall := sized_c _ (rs.map Str.mk) (K : Int) _ rs1 (fun x hx => by obtain ⟨r, hr, rfl⟩ := List.mem_map.1 hx; exact hJ.short r hr) (by rw [List.length_map]; omega) (by omega)
      rw [mks] at hcall
      refine WL_o rfl rfl (OpR_ret cl26 allF rfl rfl rfl rfl rfl (hcall) ?_); rintro g1 _ hf1 rfl; replace hs := hs.call hf1; have hqe := hf1.le; replace le0 := G.le.trans le0 hqe; replace rs1 := rs1.mono hqe
      clear hcall
      generalize hsd : sizedM rs (K : Int) = sd at *
      cases sd with
      | true =>
        refine WL_nil ?_; (with_reducible refine T_then ?_)
        refine W_yes rfl rfl ?_
        refine W_seq ?_; refine W_region ?_; refine P1 T.ok rfl rfl rfl ?_; refine P1 T.ok rfl rfl rfl ?_; refine WL_nil ?_; (with_reducible refine T_then ?_)
        exact W_ret (ret1 rfl rfl (hs.ret rfl))
      | false =>
        refine WL_nil ?_; (with_reducible refine T_then ?_)
        refine W_no rfl rfl ?_
        have hcall := content_c hJ.ok hs.swap
        rw [hd.off, if_neg (by decide)] at hcall
        refine W_skip ?_; (with_reducible refine T_then ?_); refine W_seq ?_; refine W_region ?_; refine P1 T.ok rfl rfl rfl ?_
        refine WL_o rfl rfl (OpR_ret cl22 allF rfl rfl rfl rfl rfl (hcall) ?_); rintro g1 _ hf1 rfl; replace hs := hs.call hf1; have hqe := hf1.le; replace le0 := G.le.trans le0 hqe; replace rs1 := rs1.mono hqe
        clear hcall
        have hvl : D.vis.length = 6000 := by rw [hJ.ok.len, hN]
        have hKl : K < D.vis.length := by omega
        refine P1 T.ok rfl rfl rfl ?_; refine WL_nil ?_; (with_reducible refine T_then ?_); refine W_seq ?_; refine W_seq ?_; refine W_region ?_; (iterate 4 refine P1 T.ok rfl rfl rfl ?_)
        refine WL_know 87 (b' := false) (by rw [bs_size, hvl]; rfl) rfl ?_
        refine P1 T.ok rfl rfl rfl ?_; refine P1 T.ok rfl rfl rfl ?_
        refine WL_o rfl rfl (OpR_idxS T.ok rfl rfl rfl rfl rfl (by omega) (by omega) ?_)
        refine WL_re (.int .u8 ((D.vis[K]'hKl).toNat : Int)) (t := 90) rfl rfl ?_
        have hgx : D.vis[K]? = some (D.vis[K]'hKl) := List.getElem?_eq_getElem hKl
        generalize D.vis[K]'hKl = x at *
        (iterate 3 refine P1 T.ok rfl rfl rfl ?_); refine WL_nil ?_; (with_reducible refine T_then ?_)
        by_cases hxc : x = cb
        · subst hxc
          refine W_yes (b := ((x.toNat : Int) == (x.toNat : Int))) (by simp) rfl ?_
          refine W_seq ?_; refine W_region ?_; (iterate 7 refine P1 T.ok rfl rfl rfl ?_); refine WL_nil ?_; (with_reducible refine T_then ?_)
          exact W_ret (ret1 rfl rfl (hs.ret (congrArg Value.bool (by rw [bs_size, hvl]; rfl))))
        · refine W_no (b := ((x.toNat : Int) == (cb.toNat : Int))) (by simp; intro h; exact hxc (UInt8.toNat_inj.1 (by omega))) rfl ?_
          refine W_skip ?_; (with_reducible refine T_then ?_); refine W_seq ?_; refine W_region ?_; (iterate 3 refine P1 T.ok rfl rfl rfl ?_)
          refine WL_o rfl rfl (OpR_lit T.ok rfl hs (vs := [(0, .int .u8 (cb.toNat : Int))]) (cells := [.int .u8 (cb.toNat : Int)]) rfl rfl rfl rfl rfl rfl (by decide) (by decide) (by kernel_rfl) rfl ?_)
          clear hs
          rintro bl gl hs hqe; replace le0 := G.le.trans le0 hqe; replace rs1 := rs1.mono hqe
          have hsrc := (Src.of_row (hs.own 0 _ rfl).1).2
          refine WL_o rfl rfl (OpR_bytesStr T.ok (ns := [(cb.toNat : Int)]) rfl rfl rfl rfl rfl rfl rfl rfl hsrc ?_)
          refine WL_re (.string (bs [cb])) (t := 104) rfl (by simp) ?_
          clear hsrc
          replace hs := hs.drop 0
          replace hs : St g gl (jnL ⟨B.b, ra, rc⟩ ⟨A.b, A.bd, A.bv, pa, pc⟩ false Y ++ (dkL ⟨A.b, A.bd, A.bv, pa, pc⟩ D ++ [])) := hs
          have hcall := dwrite_c hJ.ok hd.off K [cb] (by rw [hN]; simp; omega) hs.swap
          refine WL_o rfl rfl (OpR_st cl13 allF rfl rfl rfl rfl rfl hcall ?_)
          clear hs hcall
          rintro g3 _ hqe ⟨rfl, pa3, pc3, hs⟩; replace le0 := G.le.trans le0 hqe; replace rs1 := rs1.mono hqe
          dsimp only at hs
          refine WL_nil ?_; (with_reducible refine T_then ?_); refine W_seq ?_; refine W_region ?_; refine P1 T.ok rfl rfl rfl ?_
          have hok2 : (D.put K [cb]).ok := hJ.ok.put (by rw [hN]; simp; omega) (by rw [hd.pend]; decide)
          have hcall := jopen_c hok2 (by show (D.pend ++ [_]).length ≤ _; rw [hd.pend]; simp) (hrk.mono le0) (hE.mono le0) hs
          refine WL_o rfl rfl (OpR_st cl25 allF rfl rfl rfl rfl rfl hcall ?_)
          clear hs hcall
          rintro g4 r4 hqe hres; replace le0 := G.le.trans le0 hqe; replace rs1 := rs1.mono hqe
          have hdo := damaged_open hJ hd (k := K) (by omega) (c := cb) (by rw [hgx]; intro h; exact hxc (Option.some.inj h)) hsd
          unfold openRes at hres
          rcases hdo with ⟨D2, ho⟩ | ⟨D2, rs', ho, hsh', hok', hn', hlaw⟩
          · rw [ho] at hres
            obtain ⟨_, _, _, pa4, pc4, rfl, hs⟩ := hres
            dsimp only at hs
            (iterate 5 refine P1 T.ok rfl rfl rfl ?_); refine WL_nil ?_; (with_reducible refine T_then ?_); refine W_seq ?_; refine W_seq ?_; refine W_region ?_; refine P1 T.ok rfl rfl rfl ?_; refine P1 T.ok rfl rfl rfl ?_; refine WL_nil ?_; (with_reducible refine T_then ?_)
            refine W_yes rfl rfl ?_
            refine W_seq ?_; refine W_region ?_; refine P1 T.ok rfl rfl rfl ?_; refine P1 T.ok rfl rfl rfl ?_; refine WL_nil ?_; (with_reducible refine T_then ?_)
            exact W_ret (ret1 rfl rfl (hs.ret rfl))
          · rw [ho] at hres
            obtain ⟨_, _, _, pa4, pc4, B2, rfl, hs⟩ := hres
            dsimp only at hs
            (iterate 5 refine P1 T.ok rfl rfl rfl ?_); refine WL_nil ?_; (with_reducible refine T_then ?_); refine W_seq ?_; refine W_seq ?_; refine W_region ?_; refine P1 T.ok rfl rfl rfl ?_; refine P1 T.ok rfl rfl rfl ?_; refine WL_nil ?_; (with_reducible refine T_then ?_)
            refine W_no rfl rfl ?_
            refine W_skip ?_; (with_reducible refine T_then ?_); refine W_seq ?_; refine W_seq ?_; refine W_region ?_; (iterate 4 refine P1 T.ok rfl rfl rfl ?_)
            refine WL_o rfl rfl (OpR_eqNilPtr T.ok (neg := false) rfl rfl rfl rfl rfl ?_)
            refine P1 T.ok rfl rfl rfl ?_; refine WL_nil ?_; (with_reducible refine T_then ?_)
            refine W_no rfl rfl ?_
            refine W_skip ?_; (with_reducible refine T_then ?_); refine W_seq ?_; refine W_region ?_; refine P1 T.ok rfl rfl rfl ?_
            have hrec := records_c hok' hs
            rw [show (tape0.adds rs').recs = rs' from by rw [adds_recs]; rfl] at hrec
            refine WL_o rfl rfl (OpR_ret cl19 allF rfl rfl rfl rfl rfl (hrec) ?_); rintro g1 vo hf1 hvo; obtain ⟨gz, hwz, hsz, hqz, rs2⟩ := hs.ownRs hf1 hvo; have hqe := hf1.le.trans hqz; rw [← hwz]; replace hs := hsz; clear hsz hvo; replace le0 := G.le.trans le0 hqe; replace rs1 := rs1.mono hqe
            clear hrec
            obtain ⟨ai, ci, rfl⟩ := rs2.isSlice
            obtain ⟨LL, hs⟩ : ∃ LL, St g gz LL := ⟨_, hs⟩
            have hs1 := hs
            clear hs
            have hs := hs1
            clear hs1
            refine P1 T.ok rfl rfl rfl ?_; refine WL_nil ?_; (with_reducible refine T_then ?_); refine W_seq ?_; refine W_region ?_; (iterate 3 refine P1 T.ok rfl rfl rfl ?_)
            by_cases hc0 : cb = 0
            · refine WL_know 124 (b := ((cb.toNat : Int) == 0)) (b' := true) (by rw [hc0]; rfl) rfl ?_
              (iterate 7 refine P1 T.ok rfl rfl rfl ?_)
              by_cases hlt2 : rs'.length < rs.length
              · refine WL_know 131 (b := decide (((rs'.map Str.mk).length : Int) < ((rs.map Str.mk).length : Int))) (b' := true) (decide_eq_true (by rw [List.length_map, List.length_map]; omega)) rfl ?_
                have hcp := rs1.cap_le
                (iterate 4 refine P1 T.ok rfl rfl rfl ?_)
                refine WL_o rfl rfl (OpR_cut T.ok (a := 0) (b := (rs'.map Str.mk).length) rfl rfl rfl rfl rfl rfl ⟨_, rfl⟩ (Nat.zero_le _) (by rw [List.length_map] at *; omega) ?_)
                have rs4 := rs1.cut (a := 0) (b := (rs'.map Str.mk).length) (Nat.zero_le _) (by rw [List.length_map, List.length_map]; omega)
                skip
                refine WL_o rfl rfl (OpR_ret cl18 allF rfl rfl rfl rfl rfl (same_c _ _ _ _ _ rs2 rs4) ?_); rintro g1 _ hf1 ⟨bb, rfl, hbb⟩; replace hs := hs.call hf1; have hqe := hf1.le; replace le0 := G.le.trans le0 hqe; replace rs1 := rs1.mono hqe; replace rs2 := rs2.mono hqe; replace rs4 := rs4.mono hqe
                rw [List.drop_zero] at hbb
                clear rs4
                cases bb with
                | true =>
                  refine P1 T.ok rfl rfl rfl ?_; refine P1 T.ok rfl rfl rfl ?_; refine WL_nil ?_; (with_reducible refine T_then ?_); refine W_seq ?_; refine W_seq ?_; refine W_region ?_; refine P1 T.ok rfl rfl rfl ?_; refine WL_nil ?_; (with_reducible refine T_then ?_)
                  refine W_yes rfl rfl ?_
                  refine W_seq ?_; refine W_region ?_; refine P1 T.ok rfl rfl rfl ?_; refine P1 T.ok rfl rfl rfl ?_; refine WL_nil ?_; (with_reducible refine T_then ?_)
                  exact W_ret (ret1 rfl rfl (hs.ret rfl))
                | false =>
                  have hcl : Clash [] rs rs' := by
                    rcases hlaw with h | ⟨_, m, hm, he⟩
                    · exact h
                    · exact absurd (hbb.2 (by rw [he, List.length_map, List.length_take, Nat.min_eq_left (by omega), List.map_take])) (by decide)
                  refine P1 T.ok rfl rfl rfl ?_; refine P1 T.ok rfl rfl rfl ?_; refine WL_nil ?_; (with_reducible refine T_then ?_); refine W_seq ?_; refine W_seq ?_; refine W_region ?_; refine P1 T.ok rfl rfl rfl ?_; refine WL_nil ?_; (with_reducible refine T_then ?_)
                  refine W_no rfl rfl ?_
                  have hcall := heads_c _ (rs.map Str.mk) _ rs1 (fun x hx => by obtain ⟨r, hr, rfl⟩ := List.mem_map.1 hx; have := hJ.short r hr; show r.length ≤ _; omega) (by rw [List.length_map]; omega)
                  rw [mks] at hcall
                  refine W_skip ?_; (with_reducible refine T_then ?_); refine W_seq ?_; refine W_region ?_; refine P1 T.ok rfl rfl rfl ?_
                  refine WL_o rfl rfl (OpR_ret cl27 allF rfl rfl rfl rfl rfl hcall ?_); rintro g1 vo hf1 rs3; replace hs := hs.call hf1; have hqe := hf1.le; replace le0 := G.le.trans le0 hqe; replace rs1 := rs1.mono hqe; replace rs2 := rs2.mono hqe
                  clear hcall
                  obtain ⟨a3, c3, rfl⟩ := rs3.isSlice
                  have hcall := heads_c _ (rs'.map Str.mk) _ rs2 (fun x hx => by obtain ⟨r, hr, rfl⟩ := List.mem_map.1 hx; have := hsh' r hr; show r.length ≤ _; omega) (by rw [List.length_map]; omega)
                  rw [mks] at hcall
                  refine P1 T.ok rfl rfl rfl ?_; refine WL_nil ?_; (with_reducible refine T_then ?_); refine W_seq ?_; refine W_region ?_; refine P1 T.ok rfl rfl rfl ?_
                  refine WL_o rfl rfl (OpR_ret cl27 allF rfl rfl rfl rfl rfl hcall ?_); rintro g6 vo hf1 rs4; replace hs := hs.call hf1; have hqe := hf1.le; replace le0 := G.le.trans le0 hqe; replace rs1 := rs1.mono hqe; replace rs2 := rs2.mono hqe; replace rs3 := rs3.mono hqe
                  clear hcall
                  obtain ⟨a4, c4, rfl⟩ := rs4.isSlice
                  obtain ⟨i0, x0, y0, e1, e2, e3, e4, e5⟩ := hcl
                  rw [List.nil_append] at e5
                  have hi1 : i0 < rs.length := (List.getElem?_eq_some_iff.1 e1).1
                  have hi2 : i0 < rs'.length := (List.getElem?_eq_some_iff.1 e2).1
                  have hAll := fun i x h => headsM_get (rs := rs) i x h
                  have hBll := fun i x h => headsM_get (rs := rs') i x h
                  have hla := headsM_len rs
                  have hlb := headsM_len rs'
                  generalize headsM rs = hdsA at *
                  generalize headsM rs' = hdsB at *
                  refine P1 T.ok rfl rfl rfl ?_; refine WL_nil ?_; (with_reducible refine T_then ?_); refine W_seq ?_; refine W_seq ?_; refine W_region ?_; refine P1 T.ok rfl rfl rfl ?_; refine WL_nil ?_; (with_reducible refine T_then ?_); refine W_block ?_
                  have le8 := G.le.refl g6
                  have rs3c := rs3; have rs4c := rs4
                  refine W_loop (fun m a' w => ∃ (i : Nat) (g5 : G), w = g5.w ∧ St g g5 LL ∧ G.le g g5 ∧ G.le g6 g5 ∧ i ≤ i0 ∧ m = i0 - i ∧ Fr 180 [] [(7, .bool true), (21, .slice a3 (hdsA.map Str.mk).length c3), (22, .slice a4 (hdsB.map Str.mk).length c4), (23, .int .i64 i)] a') i0
                    (fun a' ha => ⟨0, g6, rfl, hs, le0, le8, Nat.zero_le _, rfl, ha.keep (by (repeat (first | exact trivial | refine ⟨rfl, ?_⟩)))⟩) ?_
                  clear hs le0 le8 rs3 rs4
                  rintro m a' _ ⟨i, g5, rfl, hs, le0, le8, hi, rfl, ha'⟩
                  have rs3 := rs3c.mono le8
                  have rs4 := rs4c.mono le8
                  revert a'
                  (with_reducible refine T_wp ?_); refine W_seq ?_; refine W_seq ?_; refine W_region ?_; (iterate 5 refine P1 T.ok rfl rfl rfl ?_)
                  refine WL_know 149 (b := decide ((i : Int) < ((hdsA.map Str.mk).length : Int))) (b' := true) (decide_eq_true (by rw [List.length_map]; omega)) rfl ?_
                  (iterate 5 refine P1 T.ok rfl rfl rfl ?_); refine WL_nil ?_; (with_reducible refine T_then ?_)
                  refine W_yes (b := decide ((i : Int) < ((hdsB.map Str.mk).length : Int))) (decide_eq_true (by rw [List.length_map]; omega)) rfl ?_
                  obtain ⟨x, hx⟩ : ∃ x, rs[i]? = some x := ⟨_, List.getElem?_eq_getElem (by omega)⟩
                  obtain ⟨y, hy⟩ : ∃ y, rs'[i]? = some y := ⟨_, List.getElem?_eq_getElem (by omega)⟩
                  have hxl := hJ.short x (List.mem_of_getElem? hx)
                  have hyl := hsh' y (List.mem_of_getElem? hy)
                  have hga := geti_mk (hAll i x hx)
                  have hgb := geti_mk (hBll i y hy)
                  have hhl := headM_len (rs.take i)
                  have hhl' := headM_len (rs'.take i)
                  have hcls : i = i0 → [2] ++ (headM (rs.take i) ++ x) ≠ [2] ++ (headM (rs'.take i) ++ y) ∧ sumM ([2] ++ (headM (rs.take i) ++ x)) = sumM ([2] ++ (headM (rs'.take i) ++ y)) := by
                    intro h
                    subst h
                    rw [e1] at hx; rw [e2] at hy
                    cases hx; cases hy
                    rw [← e3]
                    refine ⟨fun h => e4 (List.append_cancel_left (List.append_cancel_left h)), ?_⟩
                    have h5 := e5
                    unfold chainM at h5
                    exact h5
                  have hpl : ([2] ++ (headM (rs.take i) ++ x)).length ≤ 1099511627776 := by simp only [List.length_append, List.length_cons, List.length_nil]; omega
                  have hql : ([2] ++ (headM (rs'.take i) ++ y)).length ≤ 1099511627776 := by simp only [List.length_append, List.length_cons, List.length_nil]; omega
                  generalize [2] ++ (headM (rs.take i) ++ x) = p at *
                  generalize [2] ++ (headM (rs'.take i) ++ y) = q at *
                  refine W_skip ?_; (with_reducible refine T_then ?_); refine W_seq ?_; refine W_block ?_; refine W_seq ?_
                  by_cases hpq : p = q
                  · have hine : i ≠ i0 := fun h => (hcls h).1 hpq
                    apply W_draw allF rfl (Fact.eq _ :: Fact.eq _ :: (strP1 p) :: Fact.eq _ :: Fact.eq _ :: Fact.eq _ :: (strP1 q) :: Fact.eq _ :: Fact.eq _ :: Fact.eq _ :: Fact.eq _ :: Fact.eq _ :: Fact.eq _ :: Fact.eq _ :: Fact.eq _ :: Fact.eq _ :: Fact.eq _ :: Fact.eq _ :: Fact.eq _ :: Fact.eq _ :: Fact.eq _ :: Fact.eq _ :: []) 22 [(21, 178)] rfl rfl
                    · refine D_cons (D_step2 (js := []) (by kernel_rfl) fun gd hf => ?_) ?_
                      · have hsd := hs.dr.call hf; have hfe := (G.le_dr _).trans hf.le
                        refine QA_nil ?_
                        (refine D_yes rfl ?_; refine OpR_pure _ T.ok rfl ?_; refine ⟨_, rfl, Fr0.refl _, ?_⟩; exact rfl)
                      refine D_cons (D_step2 (js := []) (by kernel_rfl) fun gd hf => ?_) ?_
                      · have hsd := hs.dr.call hf; have hfe := (G.le_dr _).trans hf.le
                        refine QA_nil ?_
                        (refine D_yes rfl ?_; refine OpR_pure _ T.ok rfl ?_; refine ⟨_, rfl, Fr0.refl _, ?_⟩; exact rfl)
                      refine D_cons (D_step2 (js := [(0, 157), (1, 158)]) (by kernel_rfl) fun gd hf => ?_) ?_
                      · have hsd := hs.dr.call hf; have hfe := (G.le_dr _).trans hf.le
                        refine QA_eq rfl ?_; refine QA_eq rfl ?_
                        refine QA_nil ?_
                        refine D_yes rfl ?_
                        refine OpR_idx T.ok rfl (rs3.mono hfe) (y := ⟨p⟩) hga rfl rfl rfl rfl rfl rfl ?_
                        intro bb pp ys hep hrc
                        exact ⟨_, rfl, Fr0.refl _, bb, pp, rfl, by rw [← show ys = [Value.string (bs p)] from hrc]; exact hep⟩
                      refine D_cons (D_step2 (js := [(2, 159)]) (by kernel_rfl) fun gd hf => ?_) ?_
                      · have hsd := hs.dr.call hf; have hfe := (G.le_dr _).trans hf.le
                        refine QA_any fun v2 h2 => ?_
                        refine QA_nil ?_
                        obtain ⟨bb, pp, rfl, hep⟩ := h2
                        refine D_yes rfl ?_
                        refine OpR_loadE T.ok 0 rfl hep rfl rfl ?_
                        exact ⟨_, rfl, Fr0.refl _, rfl⟩
                      refine D_cons (D_step2 (js := []) (by kernel_rfl) fun gd hf => ?_) ?_
                      · have hsd := hs.dr.call hf; have hfe := (G.le_dr _).trans hf.le
                        refine QA_nil ?_
                        (refine D_yes rfl ?_; refine OpR_pure _ T.ok rfl ?_; refine ⟨_, rfl, Fr0.refl _, ?_⟩; exact rfl)
                      refine D_cons (D_step2 (js := []) (by kernel_rfl) fun gd hf => ?_) ?_
                      · have hsd := hs.dr.call hf; have hfe := (G.le_dr _).trans hf.le
                        refine QA_nil ?_
                        (refine D_yes rfl ?_; refine OpR_pure _ T.ok rfl ?_; refine ⟨_, rfl, Fr0.refl _, ?_⟩; exact rfl)
                      refine D_cons (D_step2 (js := [(4, 161), (5, 162)]) (by kernel_rfl) fun gd hf => ?_) ?_
                      · have hsd := hs.dr.call hf; have hfe := (G.le_dr _).trans hf.le
                        refine QA_eq rfl ?_; refine QA_eq rfl ?_
                        refine QA_nil ?_
                        refine D_yes rfl ?_
                        refine OpR_idx T.ok rfl (rs4.mono hfe) (y := ⟨q⟩) hgb rfl rfl rfl rfl rfl rfl ?_
                        intro bb pp ys hep hrc
                        exact ⟨_, rfl, Fr0.refl _, bb, pp, rfl, by rw [← show ys = [Value.string (bs q)] from hrc]; exact hep⟩
                      refine D_cons (D_step2 (js := [(6, 163)]) (by kernel_rfl) fun gd hf => ?_) ?_
                      · have hsd := hs.dr.call hf; have hfe := (G.le_dr _).trans hf.le
                        refine QA_any fun v6 h6 => ?_
                        refine QA_nil ?_
                        obtain ⟨bb, pp, rfl, hep⟩ := h6
                        refine D_yes rfl ?_
                        refine OpR_loadE T.ok 0 rfl hep rfl rfl ?_
                        exact ⟨_, rfl, Fr0.refl _, rfl⟩
                      refine D_cons (D_step2 (js := [(3, 160), (7, 164)]) (by kernel_rfl) fun gd hf => ?_) ?_
                      · have hsd := hs.dr.call hf; have hfe := (G.le_dr _).trans hf.le
                        refine QA_eq rfl ?_; refine QA_eq rfl ?_
                        refine QA_nil ?_
                        refine D_yes rfl ?_
                        refine OpR_eqS (neg := true) rfl rfl rfl ?_
                        exact ⟨_, rfl, Fr0.refl _, show _ = Value.bool false from congrArg Value.bool (by rw [hpq, beq_self_eq_true]; rfl)⟩
                      refine D_cons (D_step2 (js := [(8, 165)]) (by kernel_rfl) fun gd hf => ?_) ?_
                      · have hsd := hs.dr.call hf; have hfe := (G.le_dr _).trans hf.le
                        refine QA_eq rfl ?_
                        refine QA_nil ?_
                        (refine D_yes rfl ?_; refine OpR_pure _ T.ok rfl ?_; refine ⟨_, rfl, Fr0.refl _, ?_⟩; exact rfl)
                      refine D_cons (D_step2 (js := [(9, 166)]) (by kernel_rfl) fun gd hf => ?_) ?_
                      · have hsd := hs.dr.call hf; have hfe := (G.le_dr _).trans hf.le
                        refine QA_eq rfl ?_
                        refine QA_nil ?_
                        (refine D_no rfl ?_; exact rfl)
                      refine D_cons (D_step2 (js := [(9, 166)]) (by kernel_rfl) fun gd hf => ?_) ?_
                      · have hsd := hs.dr.call hf; have hfe := (G.le_dr _).trans hf.le
                        refine QA_eq rfl ?_
                        refine QA_nil ?_
                        (refine D_no rfl ?_; exact rfl)
                      refine D_cons (D_step2 (js := [(10, 167), (11, 168), (9, 166)]) (by kernel_rfl) fun gd hf => ?_) ?_
                      · have hsd := hs.dr.call hf; have hfe := (G.le_dr _).trans hf.le
                        refine QA_eq rfl ?_; refine QA_eq rfl ?_; refine QA_eq rfl ?_
                        refine QA_nil ?_
                        (refine D_no rfl ?_; exact rfl)
                      refine D_cons (D_step2 (js := [(12, 169), (9, 166)]) (by kernel_rfl) fun gd hf => ?_) ?_
                      · have hsd := hs.dr.call hf; have hfe := (G.le_dr _).trans hf.le
                        refine QA_eq rfl ?_; refine QA_eq rfl ?_
                        refine QA_nil ?_
                        (refine D_no rfl ?_; exact rfl)
                      refine D_cons (D_step2 (js := [(13, 170), (9, 166), (9, 166)]) (by kernel_rfl) fun gd hf => ?_) ?_
                      · have hsd := hs.dr.call hf; have hfe := (G.le_dr _).trans hf.le
                        refine QA_eq rfl ?_; refine QA_eq rfl ?_; refine QA_eq rfl ?_
                        refine QA_nil ?_
                        (refine D_no rfl ?_; exact rfl)
                      refine D_cons (D_step2 (js := [(9, 166)]) (by kernel_rfl) fun gd hf => ?_) ?_
                      · have hsd := hs.dr.call hf; have hfe := (G.le_dr _).trans hf.le
                        refine QA_eq rfl ?_
                        refine QA_nil ?_
                        (refine D_no rfl ?_; exact rfl)
                      refine D_cons (D_step2 (js := [(9, 166)]) (by kernel_rfl) fun gd hf => ?_) ?_
                      · have hsd := hs.dr.call hf; have hfe := (G.le_dr _).trans hf.le
                        refine QA_eq rfl ?_
                        refine QA_nil ?_
                        (refine D_no rfl ?_; exact rfl)
                      refine D_cons (D_step2 (js := [(15, 172), (16, 173), (9, 166)]) (by kernel_rfl) fun gd hf => ?_) ?_
                      · have hsd := hs.dr.call hf; have hfe := (G.le_dr _).trans hf.le
                        refine QA_eq rfl ?_; refine QA_eq rfl ?_; refine QA_eq rfl ?_
                        refine QA_nil ?_
                        (refine D_no rfl ?_; exact rfl)
                      refine D_cons (D_step2 (js := [(17, 174), (9, 166)]) (by kernel_rfl) fun gd hf => ?_) ?_
                      · have hsd := hs.dr.call hf; have hfe := (G.le_dr _).trans hf.le
                        refine QA_eq rfl ?_; refine QA_eq rfl ?_
                        refine QA_nil ?_
                        (refine D_no rfl ?_; exact rfl)
                      refine D_cons (D_step2 (js := [(18, 175), (9, 166)]) (by kernel_rfl) fun gd hf => ?_) ?_
                      · have hsd := hs.dr.call hf; have hfe := (G.le_dr _).trans hf.le
                        refine QA_eq rfl ?_; refine QA_eq rfl ?_
                        refine QA_nil ?_
                        (refine D_no rfl ?_; exact rfl)
                      refine D_cons (D_step2 (js := [(14, 171), (19, 176), (9, 166)]) (by kernel_rfl) fun gd hf => ?_) ?_
                      · have hsd := hs.dr.call hf; have hfe := (G.le_dr _).trans hf.le
                        refine QA_eq rfl ?_; refine QA_eq rfl ?_; refine QA_eq rfl ?_
                        refine QA_nil ?_
                        (refine D_no rfl ?_; exact rfl)
                      refine D_cons (D_step2 (js := [(9, 166), (20, 177)]) (by kernel_rfl) fun gd hf => ?_) ?_
                      · have hsd := hs.dr.call hf; have hfe := (G.le_dr _).trans hf.le
                        refine QA_eq rfl ?_; refine QA_eq rfl ?_
                        refine QA_nil ?_
                        (refine D_yes rfl ?_; refine OpR_pure _ T.ok rfl ?_; refine ⟨_, rfl, Fr0.refl _, ?_⟩; exact rfl)
                      exact D_nil
                    intro g1 hf1; refine QA_eq rfl ?_; refine QA_nil ?_
                    replace hs := hs.dr.call hf1; have hqe := (G.le_dr _).trans hf1.le; replace le0 := G.le.trans le0 hqe; replace le8 := G.le.trans le8 hqe; replace rs3 := rs3.mono hqe; replace rs4 := rs4.mono hqe
                    refine WL_nil ?_; (with_reducible refine T_then ?_)
                    refine W_no rfl rfl ?_
                    refine W_skip ?_; (with_reducible refine T_bn ?_); (with_reducible refine T_then ?_); refine W_region ?_; (iterate 3 refine P1 T.ok rfl rfl rfl ?_); refine WL_nil ?_
                    exact fun a ha => ⟨i0 - (i + 1), by omega, i + 1, _, rfl, hs, le0, le8, by omega, rfl, ha.keep ⟨rfl, rfl, rfl, kI rfl (by rw [wr (by omega) (by omega)]; omega), trivial⟩⟩
                  · by_cases hsum : sumM p = sumM q
                    · apply W_draw allF rfl (Fact.eq _ :: Fact.eq _ :: (strP1 p) :: Fact.eq _ :: Fact.eq _ :: Fact.eq _ :: (strP1 q) :: Fact.eq _ :: Fact.eq _ :: Fact.eq _ :: Fact.eq _ :: Fact.eq _ :: (strP1 p) :: Fact.eq _ :: Fact.eq _ :: Fact.eq _ :: Fact.eq _ :: (strP1 q) :: Fact.eq _ :: Fact.eq _ :: Fact.eq _ :: Fact.eq _ :: []) 22 [(21, 178)] rfl rfl
                      · refine D_cons (D_step2 (js := []) (by kernel_rfl) fun gd hf => ?_) ?_
                        · have hsd := hs.dr.call hf; have hfe := (G.le_dr _).trans hf.le
                          refine QA_nil ?_
                          (refine D_yes rfl ?_; refine OpR_pure _ T.ok rfl ?_; refine ⟨_, rfl, Fr0.refl _, ?_⟩; exact rfl)
                        refine D_cons (D_step2 (js := []) (by kernel_rfl) fun gd hf => ?_) ?_
                        · have hsd := hs.dr.call hf; have hfe := (G.le_dr _).trans hf.le
                          refine QA_nil ?_
                          (refine D_yes rfl ?_; refine OpR_pure _ T.ok rfl ?_; refine ⟨_, rfl, Fr0.refl _, ?_⟩; exact rfl)
                        refine D_cons (D_step2 (js := [(0, 157), (1, 158)]) (by kernel_rfl) fun gd hf => ?_) ?_
                        · have hsd := hs.dr.call hf; have hfe := (G.le_dr _).trans hf.le
                          refine QA_eq rfl ?_; refine QA_eq rfl ?_
                          refine QA_nil ?_
                          refine D_yes rfl ?_
                          refine OpR_idx T.ok rfl (rs3.mono hfe) (y := ⟨p⟩) hga rfl rfl rfl rfl rfl rfl ?_
                          intro bb pp ys hep hrc
                          exact ⟨_, rfl, Fr0.refl _, bb, pp, rfl, by rw [← show ys = [Value.string (bs p)] from hrc]; exact hep⟩
                        refine D_cons (D_step2 (js := [(2, 159)]) (by kernel_rfl) fun gd hf => ?_) ?_
                        · have hsd := hs.dr.call hf; have hfe := (G.le_dr _).trans hf.le
                          refine QA_any fun v2 h2 => ?_
                          refine QA_nil ?_
                          obtain ⟨bb, pp, rfl, hep⟩ := h2
                          refine D_yes rfl ?_
                          refine OpR_loadE T.ok 0 rfl hep rfl rfl ?_
                          exact ⟨_, rfl, Fr0.refl _, rfl⟩
                        refine D_cons (D_step2 (js := []) (by kernel_rfl) fun gd hf => ?_) ?_
                        · have hsd := hs.dr.call hf; have hfe := (G.le_dr _).trans hf.le
                          refine QA_nil ?_
                          (refine D_yes rfl ?_; refine OpR_pure _ T.ok rfl ?_; refine ⟨_, rfl, Fr0.refl _, ?_⟩; exact rfl)
                        refine D_cons (D_step2 (js := []) (by kernel_rfl) fun gd hf => ?_) ?_
                        · have hsd := hs.dr.call hf; have hfe := (G.le_dr _).trans hf.le
                          refine QA_nil ?_
                          (refine D_yes rfl ?_; refine OpR_pure _ T.ok rfl ?_; refine ⟨_, rfl, Fr0.refl _, ?_⟩; exact rfl)
                        refine D_cons (D_step2 (js := [(4, 161), (5, 162)]) (by kernel_rfl) fun gd hf => ?_) ?_
                        · have hsd := hs.dr.call hf; have hfe := (G.le_dr _).trans hf.le
                          refine QA_eq rfl ?_; refine QA_eq rfl ?_
                          refine QA_nil ?_
                          refine D_yes rfl ?_
                          refine OpR_idx T.ok rfl (rs4.mono hfe) (y := ⟨q⟩) hgb rfl rfl rfl rfl rfl rfl ?_
                          intro bb pp ys hep hrc
                          exact ⟨_, rfl, Fr0.refl _, bb, pp, rfl, by rw [← show ys = [Value.string (bs q)] from hrc]; exact hep⟩
                        refine D_cons (D_step2 (js := [(6, 163)]) (by kernel_rfl) fun gd hf => ?_) ?_
                        · have hsd := hs.dr.call hf; have hfe := (G.le_dr _).trans hf.le
                          refine QA_any fun v6 h6 => ?_
                          refine QA_nil ?_
                          obtain ⟨bb, pp, rfl, hep⟩ := h6
                          refine D_yes rfl ?_
                          refine OpR_loadE T.ok 0 rfl hep rfl rfl ?_
                          exact ⟨_, rfl, Fr0.refl _, rfl⟩
                        refine D_cons (D_step2 (js := [(3, 160), (7, 164)]) (by kernel_rfl) fun gd hf => ?_) ?_
                        · have hsd := hs.dr.call hf; have hfe := (G.le_dr _).trans hf.le
                          refine QA_eq rfl ?_; refine QA_eq rfl ?_
                          refine QA_nil ?_
                          refine D_yes rfl ?_
                          refine OpR_eqS (neg := true) rfl rfl rfl ?_
                          exact ⟨_, rfl, Fr0.refl _, show _ = Value.bool true from congrArg Value.bool (by rw [beq_eq_false_iff_ne.2 hpq]; rfl)⟩
                        refine D_cons (D_step2 (js := [(8, 165)]) (by kernel_rfl) fun gd hf => ?_) ?_
                        · have hsd := hs.dr.call hf; have hfe := (G.le_dr _).trans hf.le
                          refine QA_eq rfl ?_
                          refine QA_nil ?_
                          (refine D_yes rfl ?_; refine OpR_pure _ T.ok rfl ?_; refine ⟨_, rfl, Fr0.refl _, ?_⟩; exact rfl)
                        refine D_cons (D_step2 (js := [(9, 166)]) (by kernel_rfl) fun gd hf => ?_) ?_
                        · have hsd := hs.dr.call hf; have hfe := (G.le_dr _).trans hf.le
                          refine QA_eq rfl ?_
                          refine QA_nil ?_
                          (refine D_yes rfl ?_; refine OpR_pure _ T.ok rfl ?_; refine ⟨_, rfl, Fr0.refl _, ?_⟩; exact rfl)
                        refine D_cons (D_step2 (js := [(9, 166)]) (by kernel_rfl) fun gd hf => ?_) ?_
                        · have hsd := hs.dr.call hf; have hfe := (G.le_dr _).trans hf.le
                          refine QA_eq rfl ?_
                          refine QA_nil ?_
                          (refine D_yes rfl ?_; refine OpR_pure _ T.ok rfl ?_; refine ⟨_, rfl, Fr0.refl _, ?_⟩; exact rfl)
                        refine D_cons (D_step2 (js := [(10, 167), (11, 168), (9, 166)]) (by kernel_rfl) fun gd hf => ?_) ?_
                        · have hsd := hs.dr.call hf; have hfe := (G.le_dr _).trans hf.le
                          refine QA_eq rfl ?_; refine QA_eq rfl ?_; refine QA_eq rfl ?_
                          refine QA_nil ?_
                          refine D_yes rfl ?_
                          refine OpR_idx T.ok rfl (rs3.mono hfe) (y := ⟨p⟩) hga rfl rfl rfl rfl rfl rfl ?_
                          intro bb pp ys hep hrc
                          exact ⟨_, rfl, Fr0.refl _, bb, pp, rfl, by rw [← show ys = [Value.string (bs p)] from hrc]; exact hep⟩
                        refine D_cons (D_step2 (js := [(12, 169), (9, 166)]) (by kernel_rfl) fun gd hf => ?_) ?_
                        · have hsd := hs.dr.call hf; have hfe := (G.le_dr _).trans hf.le
                          refine QA_any fun v12 h12 => ?_; refine QA_eq rfl ?_
                          refine QA_nil ?_
                          obtain ⟨bb, pp, rfl, hep⟩ := h12
                          refine D_yes rfl ?_
                          refine OpR_loadE T.ok 0 rfl hep rfl rfl ?_
                          exact ⟨_, rfl, Fr0.refl _, rfl⟩
                        refine D_cons (D_step2 (js := [(13, 170), (9, 166), (9, 166)]) (by kernel_rfl) fun gd hf => ?_) ?_
                        · have hsd := hs.dr.call hf; have hfe := (G.le_dr _).trans hf.le
                          refine QA_eq rfl ?_; refine QA_eq rfl ?_; refine QA_eq rfl ?_
                          refine QA_nil ?_
                          refine D_yes rfl ?_
                          refine OpR_ret cl28 allF rfl rfl rfl rfl rfl (rsum_c p _ hpl) fun g' v h1 h2 => ⟨g', rfl, h1, ?_⟩
                          exact h2
                        refine D_cons (D_step2 (js := [(9, 166)]) (by kernel_rfl) fun gd hf => ?_) ?_
                        · have hsd := hs.dr.call hf; have hfe := (G.le_dr _).trans hf.le
                          refine QA_eq rfl ?_
                          refine QA_nil ?_
                          (refine D_yes rfl ?_; refine OpR_pure _ T.ok rfl ?_; refine ⟨_, rfl, Fr0.refl _, ?_⟩; exact rfl)
                        refine D_cons (D_step2 (js := [(9, 166)]) (by kernel_rfl) fun gd hf => ?_) ?_
                        · have hsd := hs.dr.call hf; have hfe := (G.le_dr _).trans hf.le
                          refine QA_eq rfl ?_
                          refine QA_nil ?_
                          (refine D_yes rfl ?_; refine OpR_pure _ T.ok rfl ?_; refine ⟨_, rfl, Fr0.refl _, ?_⟩; exact rfl)
                        refine D_cons (D_step2 (js := [(15, 172), (16, 173), (9, 166)]) (by kernel_rfl) fun gd hf => ?_) ?_
                        · have hsd := hs.dr.call hf; have hfe := (G.le_dr _).trans hf.le
                          refine QA_eq rfl ?_; refine QA_eq rfl ?_; refine QA_eq rfl ?_
                          refine QA_nil ?_
                          refine D_yes rfl ?_
                          refine OpR_idx T.ok rfl (rs4.mono hfe) (y := ⟨q⟩) hgb rfl rfl rfl rfl rfl rfl ?_
                          intro bb pp ys hep hrc
                          exact ⟨_, rfl, Fr0.refl _, bb, pp, rfl, by rw [← show ys = [Value.string (bs q)] from hrc]; exact hep⟩
                        refine D_cons (D_step2 (js := [(17, 174), (9, 166)]) (by kernel_rfl) fun gd hf => ?_) ?_
                        · have hsd := hs.dr.call hf; have hfe := (G.le_dr _).trans hf.le
                          refine QA_any fun v17 h17 => ?_; refine QA_eq rfl ?_
                          refine QA_nil ?_
                          obtain ⟨bb, pp, rfl, hep⟩ := h17
                          refine D_yes rfl ?_
                          refine OpR_loadE T.ok 0 rfl hep rfl rfl ?_
                          exact ⟨_, rfl, Fr0.refl _, rfl⟩
                        refine D_cons (D_step2 (js := [(18, 175), (9, 166)]) (by kernel_rfl) fun gd hf => ?_) ?_
                        · have hsd := hs.dr.call hf; have hfe := (G.le_dr _).trans hf.le
                          refine QA_eq rfl ?_; refine QA_eq rfl ?_
                          refine QA_nil ?_
                          refine D_yes rfl ?_
                          refine OpR_ret cl28 allF rfl rfl rfl rfl rfl (rsum_c q _ hql) fun g' v h1 h2 => ⟨g', rfl, h1, ?_⟩
                          exact h2
                        refine D_cons (D_step2 (js := [(14, 171), (19, 176), (9, 166)]) (by kernel_rfl) fun gd hf => ?_) ?_
                        · have hsd := hs.dr.call hf; have hfe := (G.le_dr _).trans hf.le
                          refine QA_eq rfl ?_; refine QA_eq rfl ?_; refine QA_eq rfl ?_
                          refine QA_nil ?_
                          refine D_yes rfl ?_
                          refine OpR_eqS (neg := false) rfl rfl rfl ?_
                          exact ⟨_, rfl, Fr0.refl _, show _ = Value.bool true from congrArg Value.bool (by rw [hsum, beq_self_eq_true]; rfl)⟩
                        refine D_cons (D_step2 (js := [(9, 166), (20, 177)]) (by kernel_rfl) fun gd hf => ?_) ?_
                        · have hsd := hs.dr.call hf; have hfe := (G.le_dr _).trans hf.le
                          refine QA_eq rfl ?_; refine QA_eq rfl ?_
                          refine QA_nil ?_
                          (refine D_yes rfl ?_; refine OpR_pure _ T.ok rfl ?_; refine ⟨_, rfl, Fr0.refl _, ?_⟩; exact rfl)
                        exact D_nil
                      intro g1 hf1; refine QA_eq rfl ?_; refine QA_nil ?_
                      replace hs := hs.dr.call hf1; have hqe := (G.le_dr _).trans hf1.le; replace le0 := G.le.trans le0 hqe; replace le8 := G.le.trans le8 hqe; replace rs3 := rs3.mono hqe; replace rs4 := rs4.mono hqe
                      refine WL_nil ?_; (with_reducible refine T_then ?_)
                      refine W_yes rfl rfl ?_
                      refine W_seq ?_; refine W_region ?_; refine P1 T.ok rfl rfl rfl ?_; refine P1 T.ok rfl rfl rfl ?_; refine WL_nil ?_; (with_reducible refine T_then ?_)
                      exact W_ret (ret1 rfl rfl (hs.ret rfl))
                    · have hine : i ≠ i0 := fun h => hsum (hcls h).2
                      apply W_draw allF rfl (Fact.eq _ :: Fact.eq _ :: (strP1 p) :: Fact.eq _ :: Fact.eq _ :: Fact.eq _ :: (strP1 q) :: Fact.eq _ :: Fact.eq _ :: Fact.eq _ :: Fact.eq _ :: Fact.eq _ :: (strP1 p) :: Fact.eq _ :: Fact.eq _ :: Fact.eq _ :: Fact.eq _ :: (strP1 q) :: Fact.eq _ :: Fact.eq _ :: Fact.eq _ :: Fact.eq _ :: []) 22 [(21, 178)] rfl rfl
                      · refine D_cons (D_step2 (js := []) (by kernel_rfl) fun gd hf => ?_) ?_
                        · have hsd := hs.dr.call hf; have hfe := (G.le_dr _).trans hf.le
                          refine QA_nil ?_
                          (refine D_yes rfl ?_; refine OpR_pure _ T.ok rfl ?_; refine ⟨_, rfl, Fr0.refl _, ?_⟩; exact rfl)
                        refine D_cons (D_step2 (js := []) (by kernel_rfl) fun gd hf => ?_) ?_
                        · have hsd := hs.dr.call hf; have hfe := (G.le_dr _).trans hf.le
                          refine QA_nil ?_
                          (refine D_yes rfl ?_; refine OpR_pure _ T.ok rfl ?_; refine ⟨_, rfl, Fr0.refl _, ?_⟩; exact rfl)
                        refine D_cons (D_step2 (js := [(0, 157), (1, 158)]) (by kernel_rfl) fun gd hf => ?_) ?_
                        · have hsd := hs.dr.call hf; have hfe := (G.le_dr _).trans hf.le
                          refine QA_eq rfl ?_; refine QA_eq rfl ?_
                          refine QA_nil ?_
                          refine D_yes rfl ?_
                          refine OpR_idx T.ok rfl (rs3.mono hfe) (y := ⟨p⟩) hga rfl rfl rfl rfl rfl rfl ?_
                          intro bb pp ys hep hrc
                          exact ⟨_, rfl, Fr0.refl _, bb, pp, rfl, by rw [← show ys = [Value.string (bs p)] from hrc]; exact hep⟩
                        refine D_cons (D_step2 (js := [(2, 159)]) (by kernel_rfl) fun gd hf => ?_) ?_
                        · have hsd := hs.dr.call hf; have hfe := (G.le_dr _).trans hf.le
                          refine QA_any fun v2 h2 => ?_
                          refine QA_nil ?_
                          obtain ⟨bb, pp, rfl, hep⟩ := h2
                          refine D_yes rfl ?_
                          refine OpR_loadE T.ok 0 rfl hep rfl rfl ?_
                          exact ⟨_, rfl, Fr0.refl _, rfl⟩
                        refine D_cons (D_step2 (js := []) (by kernel_rfl) fun gd hf => ?_) ?_
                        · have hsd := hs.dr.call hf; have hfe := (G.le_dr _).trans hf.le
                          refine QA_nil ?_
                          (refine D_yes rfl ?_; refine OpR_pure _ T.ok rfl ?_; refine ⟨_, rfl, Fr0.refl _, ?_⟩; exact rfl)
                        refine D_cons (D_step2 (js := []) (by kernel_rfl) fun gd hf => ?_) ?_
                        · have hsd := hs.dr.call hf; have hfe := (G.le_dr _).trans hf.le
                          refine QA_nil ?_
                          (refine D_yes rfl ?_; refine OpR_pure _ T.ok rfl ?_; refine ⟨_, rfl, Fr0.refl _, ?_⟩; exact rfl)
                        refine D_cons (D_step2 (js := [(4, 161), (5, 162)]) (by kernel_rfl) fun gd hf => ?_) ?_
                        · have hsd := hs.dr.call hf; have hfe := (G.le_dr _).trans hf.le
                          refine QA_eq rfl ?_; refine QA_eq rfl ?_
                          refine QA_nil ?_
                          refine D_yes rfl ?_
                          refine OpR_idx T.ok rfl (rs4.mono hfe) (y := ⟨q⟩) hgb rfl rfl rfl rfl rfl rfl ?_
                          intro bb pp ys hep hrc
                          exact ⟨_, rfl, Fr0.refl _, bb, pp, rfl, by rw [← show ys = [Value.string (bs q)] from hrc]; exact hep⟩
                        refine D_cons (D_step2 (js := [(6, 163)]) (by kernel_rfl) fun gd hf => ?_) ?_
                        · have hsd := hs.dr.call hf; have hfe := (G.le_dr _).trans hf.le
                          refine QA_any fun v6 h6 => ?_
                          refine QA_nil ?_
                          obtain ⟨bb, pp, rfl, hep⟩ := h6
                          refine D_yes rfl ?_
                          refine OpR_loadE T.ok 0 rfl hep rfl rfl ?_
                          exact ⟨_, rfl, Fr0.refl _, rfl⟩
                        refine D_cons (D_step2 (js := [(3, 160), (7, 164)]) (by kernel_rfl) fun gd hf => ?_) ?_
                        · have hsd := hs.dr.call hf; have hfe := (G.le_dr _).trans hf.le
                          refine QA_eq rfl ?_; refine QA_eq rfl ?_
                          refine QA_nil ?_
                          refine D_yes rfl ?_
                          refine OpR_eqS (neg := true) rfl rfl rfl ?_
                          exact ⟨_, rfl, Fr0.refl _, show _ = Value.bool true from congrArg Value.bool (by rw [beq_eq_false_iff_ne.2 hpq]; rfl)⟩
                        refine D_cons (D_step2 (js := [(8, 165)]) (by kernel_rfl) fun gd hf => ?_) ?_
                        · have hsd := hs.dr.call hf; have hfe := (G.le_dr _).trans hf.le
                          refine QA_eq rfl ?_
                          refine QA_nil ?_
                          (refine D_yes rfl ?_; refine OpR_pure _ T.ok rfl ?_; refine ⟨_, rfl, Fr0.refl _, ?_⟩; exact rfl)
                        refine D_cons (D_step2 (js := [(9, 166)]) (by kernel_rfl) fun gd hf => ?_) ?_
                        · have hsd := hs.dr.call hf; have hfe := (G.le_dr _).trans hf.le
                          refine QA_eq rfl ?_
                          refine QA_nil ?_
                          (refine D_yes rfl ?_; refine OpR_pure _ T.ok rfl ?_; refine ⟨_, rfl, Fr0.refl _, ?_⟩; exact rfl)
                        refine D_cons (D_step2 (js := [(9, 166)]) (by kernel_rfl) fun gd hf => ?_) ?_
                        · have hsd := hs.dr.call hf; have hfe := (G.le_dr _).trans hf.le
                          refine QA_eq rfl ?_
                          refine QA_nil ?_
                          (refine D_yes rfl ?_; refine OpR_pure _ T.ok rfl ?_; refine ⟨_, rfl, Fr0.refl _, ?_⟩; exact rfl)
                        refine D_cons (D_step2 (js := [(10, 167), (11, 168), (9, 166)]) (by kernel_rfl) fun gd hf => ?_) ?_
                        · have hsd := hs.dr.call hf; have hfe := (G.le_dr _).trans hf.le
                          refine QA_eq rfl ?_; refine QA_eq rfl ?_; refine QA_eq rfl ?_
                          refine QA_nil ?_
                          refine D_yes rfl ?_
                          refine OpR_idx T.ok rfl (rs3.mono hfe) (y := ⟨p⟩) hga rfl rfl rfl rfl rfl rfl ?_
                          intro bb pp ys hep hrc
                          exact ⟨_, rfl, Fr0.refl _, bb, pp, rfl, by rw [← show ys = [Value.string (bs p)] from hrc]; exact hep⟩
                        refine D_cons (D_step2 (js := [(12, 169), (9, 166)]) (by kernel_rfl) fun gd hf => ?_) ?_
                        · have hsd := hs.dr.call hf; have hfe := (G.le_dr _).trans hf.le
                          refine QA_any fun v12 h12 => ?_; refine QA_eq rfl ?_
                          refine QA_nil ?_
                          obtain ⟨bb, pp, rfl, hep⟩ := h12
                          refine D_yes rfl ?_
                          refine OpR_loadE T.ok 0 rfl hep rfl rfl ?_
                          exact ⟨_, rfl, Fr0.refl _, rfl⟩
                        refine D_cons (D_step2 (js := [(13, 170), (9, 166), (9, 166)]) (by kernel_rfl) fun gd hf => ?_) ?_
                        · have hsd := hs.dr.call hf; have hfe := (G.le_dr _).trans hf.le
                          refine QA_eq rfl ?_; refine QA_eq rfl ?_; refine QA_eq rfl ?_
                          refine QA_nil ?_
                          refine D_yes rfl ?_
                          refine OpR_ret cl28 allF rfl rfl rfl rfl rfl (rsum_c p _ hpl) fun g' v h1 h2 => ⟨g', rfl, h1, ?_⟩
                          exact h2
                        refine D_cons (D_step2 (js := [(9, 166)]) (by kernel_rfl) fun gd hf => ?_) ?_
                        · have hsd := hs.dr.call hf; have hfe := (G.le_dr _).trans hf.le
                          refine QA_eq rfl ?_
                          refine QA_nil ?_
                          (refine D_yes rfl ?_; refine OpR_pure _ T.ok rfl ?_; refine ⟨_, rfl, Fr0.refl _, ?_⟩; exact rfl)
                        refine D_cons (D_step2 (js := [(9, 166)]) (by kernel_rfl) fun gd hf => ?_) ?_
                        · have hsd := hs.dr.call hf; have hfe := (G.le_dr _).trans hf.le
                          refine QA_eq rfl ?_
                          refine QA_nil ?_
                          (refine D_yes rfl ?_; refine OpR_pure _ T.ok rfl ?_; refine ⟨_, rfl, Fr0.refl _, ?_⟩; exact rfl)
                        refine D_cons (D_step2 (js := [(15, 172), (16, 173), (9, 166)]) (by kernel_rfl) fun gd hf => ?_) ?_
                        · have hsd := hs.dr.call hf; have hfe := (G.le_dr _).trans hf.le
                          refine QA_eq rfl ?_; refine QA_eq rfl ?_; refine QA_eq rfl ?_
                          refine QA_nil ?_
                          refine D_yes rfl ?_
                          refine OpR_idx T.ok rfl (rs4.mono hfe) (y := ⟨q⟩) hgb rfl rfl rfl rfl rfl rfl ?_
                          intro bb pp ys hep hrc
                          exact ⟨_, rfl, Fr0.refl _, bb, pp, rfl, by rw [← show ys = [Value.string (bs q)] from hrc]; exact hep⟩
                        refine D_cons (D_step2 (js := [(17, 174), (9, 166)]) (by kernel_rfl) fun gd hf => ?_) ?_
                        · have hsd := hs.dr.call hf; have hfe := (G.le_dr _).trans hf.le
                          refine QA_any fun v17 h17 => ?_; refine QA_eq rfl ?_
                          refine QA_nil ?_
                          obtain ⟨bb, pp, rfl, hep⟩ := h17
                          refine D_yes rfl ?_
                          refine OpR_loadE T.ok 0 rfl hep rfl rfl ?_
                          exact ⟨_, rfl, Fr0.refl _, rfl⟩
                        refine D_cons (D_step2 (js := [(18, 175), (9, 166)]) (by kernel_rfl) fun gd hf => ?_) ?_
                        · have hsd := hs.dr.call hf; have hfe := (G.le_dr _).trans hf.le
                          refine QA_eq rfl ?_; refine QA_eq rfl ?_
                          refine QA_nil ?_
                          refine D_yes rfl ?_
                          refine OpR_ret cl28 allF rfl rfl rfl rfl rfl (rsum_c q _ hql) fun g' v h1 h2 => ⟨g', rfl, h1, ?_⟩
                          exact h2
                        refine D_cons (D_step2 (js := [(14, 171), (19, 176), (9, 166)]) (by kernel_rfl) fun gd hf => ?_) ?_
                        · have hsd := hs.dr.call hf; have hfe := (G.le_dr _).trans hf.le
                          refine QA_eq rfl ?_; refine QA_eq rfl ?_; refine QA_eq rfl ?_
                          refine QA_nil ?_
                          refine D_yes rfl ?_
                          refine OpR_eqS (neg := false) rfl rfl rfl ?_
                          exact ⟨_, rfl, Fr0.refl _, show _ = Value.bool false from congrArg Value.bool (by rw [beq_eq_false_iff_ne.2 hsum]; rfl)⟩
                        refine D_cons (D_step2 (js := [(9, 166), (20, 177)]) (by kernel_rfl) fun gd hf => ?_) ?_
                        · have hsd := hs.dr.call hf; have hfe := (G.le_dr _).trans hf.le
                          refine QA_eq rfl ?_; refine QA_eq rfl ?_
                          refine QA_nil ?_
                          (refine D_yes rfl ?_; refine OpR_pure _ T.ok rfl ?_; refine ⟨_, rfl, Fr0.refl _, ?_⟩; exact rfl)
                        exact D_nil
                      intro g1 hf1; refine QA_eq rfl ?_; refine QA_nil ?_
                      replace hs := hs.dr.call hf1; have hqe := (G.le_dr _).trans hf1.le; replace le0 := G.le.trans le0 hqe; replace le8 := G.le.trans le8 hqe; replace rs3 := rs3.mono hqe; replace rs4 := rs4.mono hqe
                      refine WL_nil ?_; (with_reducible refine T_then ?_)
                      refine W_no rfl rfl ?_
                      refine W_skip ?_; (with_reducible refine T_bn ?_); (with_reducible refine T_then ?_); refine W_region ?_; (iterate 3 refine P1 T.ok rfl rfl rfl ?_); refine WL_nil ?_
                      exact fun a ha => ⟨i0 - (i + 1), by omega, i + 1, _, rfl, hs, le0, le8, by omega, rfl, ha.keep ⟨rfl, rfl, rfl, kI rfl (by rw [wr (by omega) (by omega)]; omega), trivial⟩⟩
              · refine WL_know 131 (b := decide (((rs'.map Str.mk).length : Int) < ((rs.map Str.mk).length : Int))) (b' := false) (decide_eq_false (by rw [List.length_map, List.length_map]; omega)) rfl ?_
                have hcl : Clash [] rs rs' := by
                  rcases hlaw with h | ⟨_, m, hm, he⟩
                  · exact h
                  · rw [he, List.length_take] at hlt2; exfalso; omega
                (iterate 6 refine S1 allF rfl rfl ?_); refine P1 T.ok rfl rfl rfl ?_; refine P1 T.ok rfl rfl rfl ?_; refine WL_nil ?_; (with_reducible refine T_then ?_); refine W_seq ?_; refine W_seq ?_; refine W_region ?_; refine P1 T.ok rfl rfl rfl ?_; refine WL_nil ?_; (with_reducible refine T_then ?_)
                refine W_no rfl rfl ?_
                have hcall := heads_c _ (rs.map Str.mk) _ rs1 (fun x hx => by obtain ⟨r, hr, rfl⟩ := List.mem_map.1 hx; have := hJ.short r hr; show r.length ≤ _; omega) (by rw [List.length_map]; omega)
                rw [mks] at hcall
                refine W_skip ?_; (with_reducible refine T_then ?_); refine W_seq ?_; refine W_region ?_; refine P1 T.ok rfl rfl rfl ?_
                refine WL_o rfl rfl (OpR_ret cl27 allF rfl rfl rfl rfl rfl hcall ?_); rintro g1 vo hf1 rs3; replace hs := hs.call hf1; have hqe := hf1.le; replace le0 := G.le.trans le0 hqe; replace rs1 := rs1.mono hqe; replace rs2 := rs2.mono hqe
                clear hcall
                obtain ⟨a3, c3, rfl⟩ := rs3.isSlice
                have hcall := heads_c _ (rs'.map Str.mk) _ rs2 (fun x hx => by obtain ⟨r, hr, rfl⟩ := List.mem_map.1 hx; have := hsh' r hr; show r.length ≤ _; omega) (by rw [List.length_map]; omega)
                rw [mks] at hcall
                refine P1 T.ok rfl rfl rfl ?_; refine WL_nil ?_; (with_reducible refine T_then ?_); refine W_seq ?_; refine W_region ?_; refine P1 T.ok rfl rfl rfl ?_
                refine WL_o rfl rfl (OpR_ret cl27 allF rfl rfl rfl rfl rfl hcall ?_); rintro g6 vo hf1 rs4; replace hs := hs.call hf1; have hqe := hf1.le; replace le0 := G.le.trans le0 hqe; replace rs1 := rs1.mono hqe; replace rs2 := rs2.mono hqe; replace rs3 := rs3.mono hqe
                clear hcall
                obtain ⟨a4, c4, rfl⟩ := rs4.isSlice
                obtain ⟨i0, x0, y0, e1, e2, e3, e4, e5⟩ := hcl
                rw [List.nil_append] at e5
                have hi1 : i0 < rs.length := (List.getElem?_eq_some_iff.1 e1).1
                have hi2 : i0 < rs'.length := (List.getElem?_eq_some_iff.1 e2).1
                have hAll := fun i x h => headsM_get (rs := rs) i x h
                have hBll := fun i x h => headsM_get (rs := rs') i x h
                have hla := headsM_len rs
                have hlb := headsM_len rs'
                generalize headsM rs = hdsA at *
                generalize headsM rs' = hdsB at *
                refine P1 T.ok rfl rfl rfl ?_; refine WL_nil ?_; (with_reducible refine T_then ?_); refine W_seq ?_; refine W_seq ?_; refine W_region ?_; refine P1 T.ok rfl rfl rfl ?_; refine WL_nil ?_; (with_reducible refine T_then ?_); refine W_block ?_
                have le8 := G.le.refl g6
                have rs3c := rs3; have rs4c := rs4
                refine W_loop (fun m a' w => ∃ (i : Nat) (g5 : G), w = g5.w ∧ St g g5 LL ∧ G.le g g5 ∧ G.le g6 g5 ∧ i ≤ i0 ∧ m = i0 - i ∧ Fr 180 [] [(7, .bool true), (21, .slice a3 (hdsA.map Str.mk).length c3), (22, .slice a4 (hdsB.map Str.mk).length c4), (23, .int .i64 i)] a') i0
                  (fun a' ha => ⟨0, g6, rfl, hs, le0, le8, Nat.zero_le _, rfl, ha.keep (by (repeat (first | exact trivial | refine ⟨rfl, ?_⟩)))⟩) ?_
                clear hs le0 le8 rs3 rs4
                rintro m a' _ ⟨i, g5, rfl, hs, le0, le8, hi, rfl, ha'⟩
                have rs3 := rs3c.mono le8
                have rs4 := rs4c.mono le8
                revert a'
                (with_reducible refine T_wp ?_); refine W_seq ?_; refine W_seq ?_; refine W_region ?_; (iterate 5 refine P1 T.ok rfl rfl rfl ?_)
                refine WL_know 149 (b := decide ((i : Int) < ((hdsA.map Str.mk).length : Int))) (b' := true) (decide_eq_true (by rw [List.length_map]; omega)) rfl ?_
                (iterate 5 refine P1 T.ok rfl rfl rfl ?_); refine WL_nil ?_; (with_reducible refine T_then ?_)
                refine W_yes (b := decide ((i : Int) < ((hdsB.map Str.mk).length : Int))) (decide_eq_true (by rw [List.length_map]; omega)) rfl ?_
                obtain ⟨x, hx⟩ : ∃ x, rs[i]? = some x := ⟨_, List.getElem?_eq_getElem (by omega)⟩
                obtain ⟨y, hy⟩ : ∃ y, rs'[i]? = some y := ⟨_, List.getElem?_eq_getElem (by omega)⟩
                have hxl := hJ.short x (List.mem_of_getElem? hx)
                have hyl := hsh' y (List.mem_of_getElem? hy)
                have hga := geti_mk (hAll i x hx)
                have hgb := geti_mk (hBll i y hy)
                have hhl := headM_len (rs.take i)
                have hhl' := headM_len (rs'.take i)
                have hcls : i = i0 → [2] ++ (headM (rs.take i) ++ x) ≠ [2] ++ (headM (rs'.take i) ++ y) ∧ sumM ([2] ++ (headM (rs.take i) ++ x)) = sumM ([2] ++ (headM (rs'.take i) ++ y)) := by
                  intro h
                  subst h
                  rw [e1] at hx; rw [e2] at hy
                  cases hx; cases hy
                  rw [← e3]
                  refine ⟨fun h => e4 (List.append_cancel_left (List.append_cancel_left h)), ?_⟩
                  have h5 := e5
                  unfold chainM at h5
                  exact h5
                have hpl : ([2] ++ (headM (rs.take i) ++ x)).length ≤ 1099511627776 := by simp only [List.length_append, List.length_cons, List.length_nil]; omega
                have hql : ([2] ++ (headM (rs'.take i) ++ y)).length ≤ 1099511627776 := by simp only [List.length_append, List.length_cons, List.length_nil]; omega
                generalize [2] ++ (headM (rs.take i) ++ x) = p at *
                generalize [2] ++ (headM (rs'.take i) ++ y) = q at *
                refine W_skip ?_; (with_reducible refine T_then ?_); refine W_seq ?_; refine W_block ?_; refine W_seq ?_
                by_cases hpq : p = q
                · have hine : i ≠ i0 := fun h => (hcls h).1 hpq
                  apply W_draw allF rfl (Fact.eq _ :: Fact.eq _ :: (strP1 p) :: Fact.eq _ :: Fact.eq _ :: Fact.eq _ :: (strP1 q) :: Fact.eq _ :: Fact.eq _ :: Fact.eq _ :: Fact.eq _ :: Fact.eq _ :: Fact.eq _ :: Fact.eq _ :: Fact.eq _ :: Fact.eq _ :: Fact.eq _ :: Fact.eq _ :: Fact.eq _ :: Fact.eq _ :: Fact.eq _ :: Fact.eq _ :: []) 22 [(21, 178)] rfl rfl
                  · refine D_cons (D_step2 (js := []) (by kernel_rfl) fun gd hf => ?_) ?_
                    · have hsd := hs.dr.call hf; have hfe := (G.le_dr _).trans hf.le
                      refine QA_nil ?_
                      (refine D_yes rfl ?_; refine OpR_pure _ T.ok rfl ?_; refine ⟨_, rfl, Fr0.refl _, ?_⟩; exact rfl)
                    refine D_cons (D_step2 (js := []) (by kernel_rfl) fun gd hf => ?_) ?_
                    · have hsd := hs.dr.call hf; have hfe := (G.le_dr _).trans hf.le
                      refine QA_nil ?_
                      (refine D_yes rfl ?_; refine OpR_pure _ T.ok rfl ?_; refine ⟨_, rfl, Fr0.refl _, ?_⟩; exact rfl)
                    refine D_cons (D_step2 (js := [(0, 157), (1, 158)]) (by kernel_rfl) fun gd hf => ?_) ?_
                    · have hsd := hs.dr.call hf; have hfe := (G.le_dr _).trans hf.le
                      refine QA_eq rfl ?_; refine QA_eq rfl ?_
                      refine QA_nil ?_
                      refine D_yes rfl ?_
                      refine OpR_idx T.ok rfl (rs3.mono hfe) (y := ⟨p⟩) hga rfl rfl rfl rfl rfl rfl ?_
                      intro bb pp ys hep hrc
                      exact ⟨_, rfl, Fr0.refl _, bb, pp, rfl, by rw [← show ys = [Value.string (bs p)] from hrc]; exact hep⟩
                    refine D_cons (D_step2 (js := [(2, 159)]) (by kernel_rfl) fun gd hf => ?_) ?_
                    · have hsd := hs.dr.call hf; have hfe := (G.le_dr _).trans hf.le
                      refine QA_any fun v2 h2 => ?_
                      refine QA_nil ?_
                      obtain ⟨bb, pp, rfl, hep⟩ := h2
                      refine D_yes rfl ?_
                      refine OpR_loadE T.ok 0 rfl hep rfl rfl ?_
                      exact ⟨_, rfl, Fr0.refl _, rfl⟩
                    refine D_cons (D_step2 (js := []) (by kernel_rfl) fun gd hf => ?_) ?_
                    · have hsd := hs.dr.call hf; have hfe := (G.le_dr _).trans hf.le
                      refine QA_nil ?_
                      (refine D_yes rfl ?_; refine OpR_pure _ T.ok rfl ?_; refine ⟨_, rfl, Fr0.refl _, ?_⟩; exact rfl)
                    refine D_cons (D_step2 (js := []) (by kernel_rfl) fun gd hf => ?_) ?_
                    · have hsd := hs.dr.call hf; have hfe := (G.le_dr _).trans hf.le
                      refine QA_nil ?_
                      (refine D_yes rfl ?_; refine OpR_pure _ T.ok rfl ?_; refine ⟨_, rfl, Fr0.refl _, ?_⟩; exact rfl)
                    refine D_cons (D_step2 (js := [(4, 161), (5, 162)]) (by kernel_rfl) fun gd hf => ?_) ?_
                    · have hsd := hs.dr.call hf; have hfe := (G.le_dr _).trans hf.le
                      refine QA_eq rfl ?_; refine QA_eq rfl ?_
                      refine QA_nil ?_
                      refine D_yes rfl ?_
                      refine OpR_idx T.ok rfl (rs4.mono hfe) (y := ⟨q⟩) hgb rfl rfl rfl rfl rfl rfl ?_
                      intro bb pp ys hep hrc
                      exact ⟨_, rfl, Fr0.refl _, bb, pp, rfl, by rw [← show ys = [Value.string (bs q)] from hrc]; exact hep⟩
                    refine D_cons (D_step2 (js := [(6, 163)]) (by kernel_rfl) fun gd hf => ?_) ?_
                    · have hsd := hs.dr.call hf; have hfe := (G.le_dr _).trans hf.le
                      refine QA_any fun v6 h6 => ?_
                      refine QA_nil ?_
                      obtain ⟨bb, pp, rfl, hep⟩ := h6
                      refine D_yes rfl ?_
                      refine OpR_loadE T.ok 0 rfl hep rfl rfl ?_
                      exact ⟨_, rfl, Fr0.refl _, rfl⟩
                    refine D_cons (D_step2 (js := [(3, 160), (7, 164)]) (by kernel_rfl) fun gd hf => ?_) ?_
                    · have hsd := hs.dr.call hf; have hfe := (G.le_dr _).trans hf.le
                      refine QA_eq rfl ?_; refine QA_eq rfl ?_
                      refine QA_nil ?_
                      refine D_yes rfl ?_
                      refine OpR_eqS (neg := true) rfl rfl rfl ?_
                      exact ⟨_, rfl, Fr0.refl _, show _ = Value.bool false from congrArg Value.bool (by rw [hpq, beq_self_eq_true]; rfl)⟩
                    refine D_cons (D_step2 (js := [(8, 165)]) (by kernel_rfl) fun gd hf => ?_) ?_
                    · have hsd := hs.dr.call hf; have hfe := (G.le_dr _).trans hf.le
                      refine QA_eq rfl ?_
                      refine QA_nil ?_
                      (refine D_yes rfl ?_; refine OpR_pure _ T.ok rfl ?_; refine ⟨_, rfl, Fr0.refl _, ?_⟩; exact rfl)
                    refine D_cons (D_step2 (js := [(9, 166)]) (by kernel_rfl) fun gd hf => ?_) ?_
                    · have hsd := hs.dr.call hf; have hfe := (G.le_dr _).trans hf.le
                      refine QA_eq rfl ?_
                      refine QA_nil ?_
                      (refine D_no rfl ?_; exact rfl)
                    refine D_cons (D_step2 (js := [(9, 166)]) (by kernel_rfl) fun gd hf => ?_) ?_
                    · have hsd := hs.dr.call hf; have hfe := (G.le_dr _).trans hf.le
                      refine QA_eq rfl ?_
                      refine QA_nil ?_
                      (refine D_no rfl ?_; exact rfl)
                    refine D_cons (D_step2 (js := [(10, 167), (11, 168), (9, 166)]) (by kernel_rfl) fun gd hf => ?_) ?_
                    · have hsd := hs.dr.call hf; have hfe := (G.le_dr _).trans hf.le
                      refine QA_eq rfl ?_; refine QA_eq rfl ?_; refine QA_eq rfl ?_
                      refine QA_nil ?_
                      (refine D_no rfl ?_; exact rfl)
                    refine D_cons (D_step2 (js := [(12, 169), (9, 166)]) (by kernel_rfl) fun gd hf => ?_) ?_
                    · have hsd := hs.dr.call hf; have hfe := (G.le_dr _).trans hf.le
                      refine QA_eq rfl ?_; refine QA_eq rfl ?_
                      refine QA_nil ?_
                      (refine D_no rfl ?_; exact rfl)
                    refine D_cons (D_step2 (js := [(13, 170), (9, 166), (9, 166)]) (by kernel_rfl) fun gd hf => ?_) ?_
                    · have hsd := hs.dr.call hf; have hfe := (G.le_dr _).trans hf.le
                      refine QA_eq rfl ?_; refine QA_eq rfl ?_; refine QA_eq rfl ?_
                      refine QA_nil ?_
                      (refine D_no rfl ?_; exact rfl)
                    refine D_cons (D_step2 (js := [(9, 166)]) (by kernel_rfl) fun gd hf => ?_) ?_
                    · have hsd := hs.dr.call hf; have hfe := (G.le_dr _).trans hf.le
                      refine QA_eq rfl ?_
                      refine QA_nil ?_
                      (refine D_no rfl ?_; exact rfl)
                    refine D_cons (D_step2 (js := [(9, 166)]) (by kernel_rfl) fun gd hf => ?_) ?_
                    · have hsd := hs.dr.call hf; have hfe := (G.le_dr _).trans hf.le
                      refine QA_eq rfl ?_
                      refine QA_nil ?_
                      (refine D_no rfl ?_; exact rfl)
                    refine D_cons (D_step2 (js := [(15, 172), (16, 173), (9, 166)]) (by kernel_rfl) fun gd hf => ?_) ?_
                    · have hsd := hs.dr.call hf; have hfe := (G.le_dr _).trans hf.le
                      refine QA_eq rfl ?_; refine QA_eq rfl ?_; refine QA_eq rfl ?_
                      refine QA_nil ?_
                      (refine D_no rfl ?_; exact rfl)
                    refine D_cons (D_step2 (js := [(17, 174), (9, 166)]) (by kernel_rfl) fun gd hf => ?_) ?_
                    · have hsd := hs.dr.call hf; have hfe := (G.le_dr _).trans hf.le
                      refine QA_eq rfl ?_; refine QA_eq rfl ?_
                      refine QA_nil ?_
                      (refine D_no rfl ?_; exact rfl)
                    refine D_cons (D_step2 (js := [(18, 175), (9, 166)]) (by kernel_rfl) fun gd hf => ?_) ?_
                    · have hsd := hs.dr.call hf; have hfe := (G.le_dr _).trans hf.le
                      refine QA_eq rfl ?_; refine QA_eq rfl ?_
                      refine QA_nil ?_
                      (refine D_no rfl ?_; exact rfl)
                    refine D_cons (D_step2 (js := [(14, 171), (19, 176), (9, 166)]) (by kernel_rfl) fun gd hf => ?_) ?_
                    · have hsd := hs.dr.call hf; have hfe := (G.le_dr _).trans hf.le
                      refine QA_eq rfl ?_; refine QA_eq rfl ?_; refine QA_eq rfl ?_
                      refine QA_nil ?_
                      (refine D_no rfl ?_; exact rfl)
                    refine D_cons (D_step2 (js := [(9, 166), (20, 177)]) (by kernel_rfl) fun gd hf => ?_) ?_
                    · have hsd := hs.dr.call hf; have hfe := (G.le_dr _).trans hf.le
                      refine QA_eq rfl ?_; refine QA_eq rfl ?_
                      refine QA_nil ?_
                      (refine D_yes rfl ?_; refine OpR_pure _ T.ok rfl ?_; refine ⟨_, rfl, Fr0.refl _, ?_⟩; exact rfl)
                    exact D_nil
                  intro g1 hf1; refine QA_eq rfl ?_; refine QA_nil ?_
                  replace hs := hs.dr.call hf1; have hqe := (G.le_dr _).trans hf1.le; replace le0 := G.le.trans le0 hqe; replace le8 := G.le.trans le8 hqe; replace rs3 := rs3.mono hqe; replace rs4 := rs4.mono hqe
                  refine WL_nil ?_; (with_reducible refine T_then ?_)
                  refine W_no rfl rfl ?_
                  refine W_skip ?_; (with_reducible refine T_bn ?_); (with_reducible refine T_then ?_); refine W_region ?_; (iterate 3 refine P1 T.ok rfl rfl rfl ?_); refine WL_nil ?_
                  exact fun a ha => ⟨i0 - (i + 1), by omega, i + 1, _, rfl, hs, le0, le8, by omega, rfl, ha.keep ⟨rfl, rfl, rfl, kI rfl (by rw [wr (by omega) (by omega)]; omega), trivial⟩⟩
                · by_cases hsum : sumM p = sumM q
                  · apply W_draw allF rfl (Fact.eq _ :: Fact.eq _ :: (strP1 p) :: Fact.eq _ :: Fact.eq _ :: Fact.eq _ :: (strP1 q) :: Fact.eq _ :: Fact.eq _ :: Fact.eq _ :: Fact.eq _ :: Fact.eq _ :: (strP1 p) :: Fact.eq _ :: Fact.eq _ :: Fact.eq _ :: Fact.eq _ :: (strP1 q) :: Fact.eq _ :: Fact.eq _ :: Fact.eq _ :: Fact.eq _ :: []) 22 [(21, 178)] rfl rfl
                    · refine D_cons (D_step2 (js := []) (by kernel_rfl) fun gd hf => ?_) ?_
                      · have hsd := hs.dr.call hf; have hfe := (G.le_dr _).trans hf.le
                        refine QA_nil ?_
                        (refine D_yes rfl ?_; refine OpR_pure _ T.ok rfl ?_; refine ⟨_, rfl, Fr0.refl _, ?_⟩; exact rfl)
                      refine D_cons (D_step2 (js := []) (by kernel_rfl) fun gd hf => ?_) ?_
                      · have hsd := hs.dr.call hf; have hfe := (G.le_dr _).trans hf.le
                        refine QA_nil ?_
                        (refine D_yes rfl ?_; refine OpR_pure _ T.ok rfl ?_; refine ⟨_, rfl, Fr0.refl _, ?_⟩; exact rfl)
                      refine D_cons (D_step2 (js := [(0, 157), (1, 158)]) (by kernel_rfl) fun gd hf => ?_) ?_
                      · have hsd := hs.dr.call hf; have hfe := (G.le_dr _).trans hf.le
                        refine QA_eq rfl ?_; refine QA_eq rfl ?_
                        refine QA_nil ?_
                        refine D_yes rfl ?_
                        refine OpR_idx T.ok rfl (rs3.mono hfe) (y := ⟨p⟩) hga rfl rfl rfl rfl rfl rfl ?_
                        intro bb pp ys hep hrc
                        exact ⟨_, rfl, Fr0.refl _, bb, pp, rfl, by rw [← show ys = [Value.string (bs p)] from hrc]; exact hep⟩
                      refine D_cons (D_step2 (js := [(2, 159)]) (by kernel_rfl) fun gd hf => ?_) ?_
                      · have hsd := hs.dr.call hf; have hfe := (G.le_dr _).trans hf.le
                        refine QA_any fun v2 h2 => ?_
                        refine QA_nil ?_
                        obtain ⟨bb, pp, rfl, hep⟩ := h2
                        refine D_yes rfl ?_
                        refine OpR_loadE T.ok 0 rfl hep rfl rfl ?_
                        exact ⟨_, rfl, Fr0.refl _, rfl⟩
                      refine D_cons (D_step2 (js := []) (by kernel_rfl) fun gd hf => ?_) ?_
                      · have hsd := hs.dr.call hf; have hfe := (G.le_dr _).trans hf.le
                        refine QA_nil ?_
                        (refine D_yes rfl ?_; refine OpR_pure _ T.ok rfl ?_; refine ⟨_, rfl, Fr0.refl _, ?_⟩; exact rfl)
                      refine D_cons (D_step2 (js := []) (by kernel_rfl) fun gd hf => ?_) ?_
                      · have hsd := hs.dr.call hf; have hfe := (G.le_dr _).trans hf.le
                        refine QA_nil ?_
                        (refine D_yes rfl ?_; refine OpR_pure _ T.ok rfl ?_; refine ⟨_, rfl, Fr0.refl _, ?_⟩; exact rfl)
                      refine D_cons (D_step2 (js := [(4, 161), (5, 162)]) (by kernel_rfl) fun gd hf => ?_) ?_
                      · have hsd := hs.dr.call hf; have hfe := (G.le_dr _).trans hf.le
                        refine QA_eq rfl ?_; refine QA_eq rfl ?_
                        refine QA_nil ?_
                        refine D_yes rfl ?_
                        refine OpR_idx T.ok rfl (rs4.mono hfe) (y := ⟨q⟩) hgb rfl rfl rfl rfl rfl rfl ?_
                        intro bb pp ys hep hrc
                        exact ⟨_, rfl, Fr0.refl _, bb, pp, rfl, by rw [← show ys = [Value.string (bs q)] from hrc]; exact hep⟩
                      refine D_cons (D_step2 (js := [(6, 163)]) (by kernel_rfl) fun gd hf => ?_) ?_
                      · have hsd := hs.dr.call hf; have hfe := (G.le_dr _).trans hf.le
                        refine QA_any fun v6 h6 => ?_
                        refine QA_nil ?_
                        obtain ⟨bb, pp, rfl, hep⟩ := h6
                        refine D_yes rfl ?_
                        refine OpR_loadE T.ok 0 rfl hep rfl rfl ?_
                        exact ⟨_, rfl, Fr0.refl _, rfl⟩
                      refine D_cons (D_step2 (js := [(3, 160), (7, 164)]) (by kernel_rfl) fun gd hf => ?_) ?_
                      · have hsd := hs.dr.call hf; have hfe := (G.le_dr _).trans hf.le
                        refine QA_eq rfl ?_; refine QA_eq rfl ?_
                        refine QA_nil ?_
                        refine D_yes rfl ?_
                        refine OpR_eqS (neg := true) rfl rfl rfl ?_
                        exact ⟨_, rfl, Fr0.refl _, show _ = Value.bool true from congrArg Value.bool (by rw [beq_eq_false_iff_ne.2 hpq]; rfl)⟩
                      refine D_cons (D_step2 (js := [(8, 165)]) (by kernel_rfl) fun gd hf => ?_) ?_
                      · have hsd := hs.dr.call hf; have hfe := (G.le_dr _).trans hf.le
                        refine QA_eq rfl ?_
                        refine QA_nil ?_
                        (refine D_yes rfl ?_; refine OpR_pure _ T.ok rfl ?_; refine ⟨_, rfl, Fr0.refl _, ?_⟩; exact rfl)
                      refine D_cons (D_step2 (js := [(9, 166)]) (by kernel_rfl) fun gd hf => ?_) ?_
                      · have hsd := hs.dr.call hf; have hfe := (G.le_dr _).trans hf.le
                        refine QA_eq rfl ?_
                        refine QA_nil ?_
                        (refine D_yes rfl ?_; refine OpR_pure _ T.ok rfl ?_; refine ⟨_, rfl, Fr0.refl _, ?_⟩; exact rfl)
                      refine D_cons (D_step2 (js := [(9, 166)]) (by kernel_rfl) fun gd hf => ?_) ?_
                      · have hsd := hs.dr.call hf; have hfe := (G.le_dr _).trans hf.le
                        refine QA_eq rfl ?_
                        refine QA_nil ?_
                        (refine D_yes rfl ?_; refine OpR_pure _ T.ok rfl ?_; refine ⟨_, rfl, Fr0.refl _, ?_⟩; exact rfl)
                      refine D_cons (D_step2 (js := [(10, 167), (11, 168), (9, 166)]) (by kernel_rfl) fun gd hf => ?_) ?_
                      · have hsd := hs.dr.call hf; have hfe := (G.le_dr _).trans hf.le
                        refine QA_eq rfl ?_; refine QA_eq rfl ?_; refine QA_eq rfl ?_
                        refine QA_nil ?_
                        refine D_yes rfl ?_
                        refine OpR_idx T.ok rfl (rs3.mono hfe) (y := ⟨p⟩) hga rfl rfl rfl rfl rfl rfl ?_
                        intro bb pp ys hep hrc
                        exact ⟨_, rfl, Fr0.refl _, bb, pp, rfl, by rw [← show ys = [Value.string (bs p)] from hrc]; exact hep⟩
                      refine D_cons (D_step2 (js := [(12, 169), (9, 166)]) (by kernel_rfl) fun gd hf => ?_) ?_
                      · have hsd := hs.dr.call hf; have hfe := (G.le_dr _).trans hf.le
                        refine QA_any fun v12 h12 => ?_; refine QA_eq rfl ?_
                        refine QA_nil ?_
                        obtain ⟨bb, pp, rfl, hep⟩ := h12
                        refine D_yes rfl ?_
                        refine OpR_loadE T.ok 0 rfl hep rfl rfl ?_
                        exact ⟨_, rfl, Fr0.refl _, rfl⟩
                      refine D_cons (D_step2 (js := [(13, 170), (9, 166), (9, 166)]) (by kernel_rfl) fun gd hf => ?_) ?_
                      · have hsd := hs.dr.call hf; have hfe := (G.le_dr _).trans hf.le
                        refine QA_eq rfl ?_; refine QA_eq rfl ?_; refine QA_eq rfl ?_
                        refine QA_nil ?_
                        refine D_yes rfl ?_
                        refine OpR_ret cl28 allF rfl rfl rfl rfl rfl (rsum_c p _ hpl) fun g' v h1 h2 => ⟨g', rfl, h1, ?_⟩
                        exact h2
                      refine D_cons (D_step2 (js := [(9, 166)]) (by kernel_rfl) fun gd hf => ?_) ?_
                      · have hsd := hs.dr.call hf; have hfe := (G.le_dr _).trans hf.le
                        refine QA_eq rfl ?_
                        refine QA_nil ?_
                        (refine D_yes rfl ?_; refine OpR_pure _ T.ok rfl ?_; refine ⟨_, rfl, Fr0.refl _, ?_⟩; exact rfl)
                      refine D_cons (D_step2 (js := [(9, 166)]) (by kernel_rfl) fun gd hf => ?_) ?_
                      · have hsd := hs.dr.call hf; have hfe := (G.le_dr _).trans hf.le
                        refine QA_eq rfl ?_
                        refine QA_nil ?_
                        (refine D_yes rfl ?_; refine OpR_pure _ T.ok rfl ?_; refine ⟨_, rfl, Fr0.refl _, ?_⟩; exact rfl)
                      refine D_cons (D_step2 (js := [(15, 172), (16, 173), (9, 166)]) (by kernel_rfl) fun gd hf => ?_) ?_
                      · have hsd := hs.dr.call hf; have hfe := (G.le_dr _).trans hf.le
                        refine QA_eq rfl ?_; refine QA_eq rfl ?_; refine QA_eq rfl ?_
                        refine QA_nil ?_
                        refine D_yes rfl ?_
                        refine OpR_idx T.ok rfl (rs4.mono hfe) (y := ⟨q⟩) hgb rfl rfl rfl rfl rfl rfl ?_
                        intro bb pp ys hep hrc
                        exact ⟨_, rfl, Fr0.refl _, bb, pp, rfl, by rw [← show ys = [Value.string (bs q)] from hrc]; exact hep⟩
                      refine D_cons (D_step2 (js := [(17, 174), (9, 166)]) (by kernel_rfl) fun gd hf => ?_) ?_
                      · have hsd := hs.dr.call hf; have hfe := (G.le_dr _).trans hf.le
                        refine QA_any fun v17 h17 => ?_; refine QA_eq rfl ?_
                        refine QA_nil ?_
                        obtain ⟨bb, pp, rfl, hep⟩ := h17
                        refine D_yes rfl ?_
                        refine OpR_loadE T.ok 0 rfl hep rfl rfl ?_
                        exact ⟨_, rfl, Fr0.refl _, rfl⟩
                      refine D_cons (D_step2 (js := [(18, 175), (9, 166)]) (by kernel_rfl) fun gd hf => ?_) ?_
                      · have hsd := hs.dr.call hf; have hfe := (G.le_dr _).trans hf.le
                        refine QA_eq rfl ?_; refine QA_eq rfl ?_
                        refine QA_nil ?_
                        refine D_yes rfl ?_
                        refine OpR_ret cl28 allF rfl rfl rfl rfl rfl (rsum_c q _ hql) fun g' v h1 h2 => ⟨g', rfl, h1, ?_⟩
                        exact h2
                      refine D_cons (D_step2 (js := [(14, 171), (19, 176), (9, 166)]) (by kernel_rfl) fun gd hf => ?_) ?_
                      · have hsd := hs.dr.call hf; have hfe := (G.le_dr _).trans hf.le
                        refine QA_eq rfl ?_; refine QA_eq rfl ?_; refine QA_eq rfl ?_
                        refine QA_nil ?_
                        refine D_yes rfl ?_
                        refine OpR_eqS (neg := false) rfl rfl rfl ?_
                        exact ⟨_, rfl, Fr0.refl _, show _ = Value.bool true from congrArg Value.bool (by rw [hsum, beq_self_eq_true]; rfl)⟩
                      refine D_cons (D_step2 (js := [(9, 166), (20, 177)]) (by kernel_rfl) fun gd hf => ?_) ?_
                      · have hsd := hs.dr.call hf; have hfe := (G.le_dr _).trans hf.le
                        refine QA_eq rfl ?_; refine QA_eq rfl ?_
                        refine QA_nil ?_
                        (refine D_yes rfl ?_; refine OpR_pure _ T.ok rfl ?_; refine ⟨_, rfl, Fr0.refl _, ?_⟩; exact rfl)
                      exact D_nil
                    intro g1 hf1; refine QA_eq rfl ?_; refine QA_nil ?_
                    replace hs := hs.dr.call hf1; have hqe := (G.le_dr _).trans hf1.le; replace le0 := G.le.trans le0 hqe; replace le8 := G.le.trans le8 hqe; replace rs3 := rs3.mono hqe; replace rs4 := rs4.mono hqe
                    refine WL_nil ?_; (with_reducible refine T_then ?_)
                    refine W_yes rfl rfl ?_
                    refine W_seq ?_; refine W_region ?_; refine P1 T.ok rfl rfl rfl ?_; refine P1 T.ok rfl rfl rfl ?_; refine WL_nil ?_; (with_reducible refine T_then ?_)
                    exact W_ret (ret1 rfl rfl (hs.ret rfl))
                  · have hine : i ≠ i0 := fun h => hsum (hcls h).2
                    apply W_draw allF rfl (Fact.eq _ :: Fact.eq _ :: (strP1 p) :: Fact.eq _ :: Fact.eq _ :: Fact.eq _ :: (strP1 q) :: Fact.eq _ :: Fact.eq _ :: Fact.eq _ :: Fact.eq _ :: Fact.eq _ :: (strP1 p) :: Fact.eq _ :: Fact.eq _ :: Fact.eq _ :: Fact.eq _ :: (strP1 q) :: Fact.eq _ :: Fact.eq _ :: Fact.eq _ :: Fact.eq _ :: []) 22 [(21, 178)] rfl rfl
                    · refine D_cons (D_step2 (js := []) (by kernel_rfl) fun gd hf => ?_) ?_
                      · have hsd := hs.dr.call hf; have hfe := (G.le_dr _).trans hf.le
                        refine QA_nil ?_
                        (refine D_yes rfl ?_; refine OpR_pure _ T.ok rfl ?_; refine ⟨_, rfl, Fr0.refl _, ?_⟩; exact rfl)
                      refine D_cons (D_step2 (js := []) (by kernel_rfl) fun gd hf => ?_) ?_
                      · have hsd := hs.dr.call hf; have hfe := (G.le_dr _).trans hf.le
                        refine QA_nil ?_
                        (refine D_yes rfl ?_; refine OpR_pure _ T.ok rfl ?_; refine ⟨_, rfl, Fr0.refl _, ?_⟩; exact rfl)
                      refine D_cons (D_step2 (js := [(0, 157), (1, 158)]) (by kernel_rfl) fun gd hf => ?_) ?_
                      · have hsd := hs.dr.call hf; have hfe := (G.le_dr _).trans hf.le
                        refine QA_eq rfl ?_; refine QA_eq rfl ?_
                        refine QA_nil ?_
                        refine D_yes rfl ?_
                        refine OpR_idx T.ok rfl (rs3.mono hfe) (y := ⟨p⟩) hga rfl rfl rfl rfl rfl rfl ?_
                        intro bb pp ys hep hrc
                        exact ⟨_, rfl, Fr0.refl _, bb, pp, rfl, by rw [← show ys = [Value.string (bs p)] from hrc]; exact hep⟩
                      refine D_cons (D_step2 (js := [(2, 159)]) (by kernel_rfl) fun gd hf => ?_) ?_
                      · have hsd := hs.dr.call hf; have hfe := (G.le_dr _).trans hf.le
                        refine QA_any fun v2 h2 => ?_
                        refine QA_nil ?_
                        obtain ⟨bb, pp, rfl, hep⟩ := h2
                        refine D_yes rfl ?_
                        refine OpR_loadE T.ok 0 rfl hep rfl rfl ?_
                        exact ⟨_, rfl, Fr0.refl _, rfl⟩
                      refine D_cons (D_step2 (js := []) (by kernel_rfl) fun gd hf => ?_) ?_
                      · have hsd := hs.dr.call hf; have hfe := (G.le_dr _).trans hf.le
                        refine QA_nil ?_
                        (refine D_yes rfl ?_; refine OpR_pure _ T.ok rfl ?_; refine ⟨_, rfl, Fr0.refl _, ?_⟩; exact rfl)
                      refine D_cons (D_step2 (js := []) (by kernel_rfl) fun gd hf => ?_) ?_
                      · have hsd := hs.dr.call hf; have hfe := (G.le_dr _).trans hf.le
                        refine QA_nil ?_
                        (refine D_yes rfl ?_; refine OpR_pure _ T.ok rfl ?_; refine ⟨_, rfl, Fr0.refl _, ?_⟩; exact rfl)
                      refine D_cons (D_step2 (js := [(4, 161), (5, 162)]) (by kernel_rfl) fun gd hf => ?_) ?_
                      · have hsd := hs.dr.call hf; have hfe := (G.le_dr _).trans hf.le
                        refine QA_eq rfl ?_; refine QA_eq rfl ?_
                        refine QA_nil ?_
                        refine D_yes rfl ?_
                        refine OpR_idx T.ok rfl (rs4.mono hfe) (y := ⟨q⟩) hgb rfl rfl rfl rfl rfl rfl ?_
                        intro bb pp ys hep hrc
                        exact ⟨_, rfl, Fr0.refl _, bb, pp, rfl, by rw [← show ys = [Value.string (bs q)] from hrc]; exact hep⟩
                      refine D_cons (D_step2 (js := [(6, 163)]) (by kernel_rfl) fun gd hf => ?_) ?_
                      · have hsd := hs.dr.call hf; have hfe := (G.le_dr _).trans hf.le
                        refine QA_any fun v6 h6 => ?_
                        refine QA_nil ?_
                        obtain ⟨bb, pp, rfl, hep⟩ := h6
                        refine D_yes rfl ?_
                        refine OpR_loadE T.ok 0 rfl hep rfl rfl ?_
                        exact ⟨_, rfl, Fr0.refl _, rfl⟩
                      refine D_cons (D_step2 (js := [(3, 160), (7, 164)]) (by kernel_rfl) fun gd hf => ?_) ?_
                      · have hsd := hs.dr.call hf; have hfe := (G.le_dr _).trans hf.le
                        refine QA_eq rfl ?_; refine QA_eq rfl ?_
                        refine QA_nil ?_
                        refine D_yes rfl ?_
                        refine OpR_eqS (neg := true) rfl rfl rfl ?_
                        exact ⟨_, rfl, Fr0.refl _, show _ = Value.bool true from congrArg Value.bool (by rw [beq_eq_false_iff_ne.2 hpq]; rfl)⟩
                      refine D_cons (D_step2 (js := [(8, 165)]) (by kernel_rfl) fun gd hf => ?_) ?_
                      · have hsd := hs.dr.call hf; have hfe := (G.le_dr _).trans hf.le
                        refine QA_eq rfl ?_
                        refine QA_nil ?_
                        (refine D_yes rfl ?_; refine OpR_pure _ T.ok rfl ?_; refine ⟨_, rfl, Fr0.refl _, ?_⟩; exact rfl)
                      refine D_cons (D_step2 (js := [(9, 166)]) (by kernel_rfl) fun gd hf => ?_) ?_
                      · have hsd := hs.dr.call hf; have hfe := (G.le_dr _).trans hf.le
                        refine QA_eq rfl ?_
                        refine QA_nil ?_
                        (refine D_yes rfl ?_; refine OpR_pure _ T.ok rfl ?_; refine ⟨_, rfl, Fr0.refl _, ?_⟩; exact rfl)
                      refine D_cons (D_step2 (js := [(9, 166)]) (by kernel_rfl) fun gd hf => ?_) ?_
                      · have hsd := hs.dr.call hf; have hfe := (G.le_dr _).trans hf.le
                        refine QA_eq rfl ?_
                        refine QA_nil ?_
                        (refine D_yes rfl ?_; refine OpR_pure _ T.ok rfl ?_; refine ⟨_, rfl, Fr0.refl _, ?_⟩; exact rfl)
                      refine D_cons (D_step2 (js := [(10, 167), (11, 168), (9, 166)]) (by kernel_rfl) fun gd hf => ?_) ?_
                      · have hsd := hs.dr.call hf; have hfe := (G.le_dr _).trans hf.le
                        refine QA_eq rfl ?_; refine QA_eq rfl ?_; refine QA_eq rfl ?_
                        refine QA_nil ?_
                        refine D_yes rfl ?_
                        refine OpR_idx T.ok rfl (rs3.mono hfe) (y := ⟨p⟩) hga rfl rfl rfl rfl rfl rfl ?_
                        intro bb pp ys hep hrc
                        exact ⟨_, rfl, Fr0.refl _, bb, pp, rfl, by rw [← show ys = [Value.string (bs p)] from hrc]; exact hep⟩
                      refine D_cons (D_step2 (js := [(12, 169), (9, 166)]) (by kernel_rfl) fun gd hf => ?_) ?_
                      · have hsd := hs.dr.call hf; have hfe := (G.le_dr _).trans hf.le
                        refine QA_any fun v12 h12 => ?_; refine QA_eq rfl ?_
                        refine QA_nil ?_
                        obtain ⟨bb, pp, rfl, hep⟩ := h12
                        refine D_yes rfl ?_
                        refine OpR_loadE T.ok 0 rfl hep rfl rfl ?_
                        exact ⟨_, rfl, Fr0.refl _, rfl⟩
                      refine D_cons (D_step2 (js := [(13, 170), (9, 166), (9, 166)]) (by kernel_rfl) fun gd hf => ?_) ?_
                      · have hsd := hs.dr.call hf; have hfe := (G.le_dr _).trans hf.le
                        refine QA_eq rfl ?_; refine QA_eq rfl ?_; refine QA_eq rfl ?_
                        refine QA_nil ?_
                        refine D_yes rfl ?_
                        refine OpR_ret cl28 allF rfl rfl rfl rfl rfl (rsum_c p _ hpl) fun g' v h1 h2 => ⟨g', rfl, h1, ?_⟩
                        exact h2
                      refine D_cons (D_step2 (js := [(9, 166)]) (by kernel_rfl) fun gd hf => ?_) ?_
                      · have hsd := hs.dr.call hf; have hfe := (G.le_dr _).trans hf.le
                        refine QA_eq rfl ?_
                        refine QA_nil ?_
                        (refine D_yes rfl ?_; refine OpR_pure _ T.ok rfl ?_; refine ⟨_, rfl, Fr0.refl _, ?_⟩; exact rfl)
                      refine D_cons (D_step2 (js := [(9, 166)]) (by kernel_rfl) fun gd hf => ?_) ?_
                      · have hsd := hs.dr.call hf; have hfe := (G.le_dr _).trans hf.le
                        refine QA_eq rfl ?_
                        refine QA_nil ?_
                        (refine D_yes rfl ?_; refine OpR_pure _ T.ok rfl ?_; refine ⟨_, rfl, Fr0.refl _, ?_⟩; exact rfl)
                      refine D_cons (D_step2 (js := [(15, 172), (16, 173), (9, 166)]) (by kernel_rfl) fun gd hf => ?_) ?_
                      · have hsd := hs.dr.call hf; have hfe := (G.le_dr _).trans hf.le
                        refine QA_eq rfl ?_; refine QA_eq rfl ?_; refine QA_eq rfl ?_
                        refine QA_nil ?_
                        refine D_yes rfl ?_
                        refine OpR_idx T.ok rfl (rs4.mono hfe) (y := ⟨q⟩) hgb rfl rfl rfl rfl rfl rfl ?_
                        intro bb pp ys hep hrc
                        exact ⟨_, rfl, Fr0.refl _, bb, pp, rfl, by rw [← show ys = [Value.string (bs q)] from hrc]; exact hep⟩
                      refine D_cons (D_step2 (js := [(17, 174), (9, 166)]) (by kernel_rfl) fun gd hf => ?_) ?_
                      · have hsd := hs.dr.call hf; have hfe := (G.le_dr _).trans hf.le
                        refine QA_any fun v17 h17 => ?_; refine QA_eq rfl ?_
                        refine QA_nil ?_
                        obtain ⟨bb, pp, rfl, hep⟩ := h17
                        refine D_yes rfl ?_
                        refine OpR_loadE T.ok 0 rfl hep rfl rfl ?_
                        exact ⟨_, rfl, Fr0.refl _, rfl⟩
                      refine D_cons (D_step2 (js := [(18, 175), (9, 166)]) (by kernel_rfl) fun gd hf => ?_) ?_
                      · have hsd := hs.dr.call hf; have hfe := (G.le_dr _).trans hf.le
                        refine QA_eq rfl ?_; refine QA_eq rfl ?_
                        refine QA_nil ?_
                        refine D_yes rfl ?_
                        refine OpR_ret cl28 allF rfl rfl rfl rfl rfl (rsum_c q _ hql) fun g' v h1 h2 => ⟨g', rfl, h1, ?_⟩
                        exact h2
                      refine D_cons (D_step2 (js := [(14, 171), (19, 176), (9, 166)]) (by kernel_rfl) fun gd hf => ?_) ?_
                      · have hsd := hs.dr.call hf; have hfe := (G.le_dr _).trans hf.le
                        refine QA_eq rfl ?_; refine QA_eq rfl ?_; refine QA_eq rfl ?_
                        refine QA_nil ?_
                        refine D_yes rfl ?_
                        refine OpR_eqS (neg := false) rfl rfl rfl ?_
                        exact ⟨_, rfl, Fr0.refl _, show _ = Value.bool false from congrArg Value.bool (by rw [beq_eq_false_iff_ne.2 hsum]; rfl)⟩
                      refine D_cons (D_step2 (js := [(9, 166), (20, 177)]) (by kernel_rfl) fun gd hf => ?_) ?_
                      · have hsd := hs.dr.call hf; have hfe := (G.le_dr _).trans hf.le
                        refine QA_eq rfl ?_; refine QA_eq rfl ?_
                        refine QA_nil ?_
                        (refine D_yes rfl ?_; refine OpR_pure _ T.ok rfl ?_; refine ⟨_, rfl, Fr0.refl _, ?_⟩; exact rfl)
                      exact D_nil
                    intro g1 hf1; refine QA_eq rfl ?_; refine QA_nil ?_
                    replace hs := hs.dr.call hf1; have hqe := (G.le_dr _).trans hf1.le; replace le0 := G.le.trans le0 hqe; replace le8 := G.le.trans le8 hqe; replace rs3 := rs3.mono hqe; replace rs4 := rs4.mono hqe
                    refine WL_nil ?_; (with_reducible refine T_then ?_)
                    refine W_no rfl rfl ?_
                    refine W_skip ?_; (with_reducible refine T_bn ?_); (with_reducible refine T_then ?_); refine W_region ?_; (iterate 3 refine P1 T.ok rfl rfl rfl ?_); refine WL_nil ?_
                    exact fun a ha => ⟨i0 - (i + 1), by omega, i + 1, _, rfl, hs, le0, le8, by omega, rfl, ha.keep ⟨rfl, rfl, rfl, kI rfl (by rw [wr (by omega) (by omega)]; omega), trivial⟩⟩
            · refine WL_know 124 (b := ((cb.toNat : Int) == 0)) (b' := false) (by simp; intro h; exact hc0 (UInt8.toNat_inj.1 (by rw [h]; rfl))) rfl ?_
              have hcl : Clash [] rs rs' := by
                rcases hlaw with h | ⟨h, _⟩
                · exact h
                · exact absurd h hc0
              (iterate 5 refine S1 allF rfl rfl ?_); refine P1 T.ok rfl rfl rfl ?_; refine P1 T.ok rfl rfl rfl ?_; (iterate 6 refine S1 allF rfl rfl ?_); refine P1 T.ok rfl rfl rfl ?_; refine P1 T.ok rfl rfl rfl ?_; refine WL_nil ?_; (with_reducible refine T_then ?_); refine W_seq ?_; refine W_seq ?_; refine W_region ?_; refine P1 T.ok rfl rfl rfl ?_; refine WL_nil ?_; (with_reducible refine T_then ?_)
              refine W_no rfl rfl ?_
              have hcall := heads_c _ (rs.map Str.mk) _ rs1 (fun x hx => by obtain ⟨r, hr, rfl⟩ := List.mem_map.1 hx; have := hJ.short r hr; show r.length ≤ _; omega) (by rw [List.length_map]; omega)
              rw [mks] at hcall
              refine W_skip ?_; (with_reducible refine T_then ?_); refine W_seq ?_; refine W_region ?_; refine P1 T.ok rfl rfl rfl ?_
              refine WL_o rfl rfl (OpR_ret cl27 allF rfl rfl rfl rfl rfl hcall ?_); rintro g1 vo hf1 rs3; replace hs := hs.call hf1; have hqe := hf1.le; replace le0 := G.le.trans le0 hqe; replace rs1 := rs1.mono hqe; replace rs2 := rs2.mono hqe
              clear hcall
              obtain ⟨a3, c3, rfl⟩ := rs3.isSlice
              have hcall := heads_c _ (rs'.map Str.mk) _ rs2 (fun x hx => by obtain ⟨r, hr, rfl⟩ := List.mem_map.1 hx; have := hsh' r hr; show r.length ≤ _; omega) (by rw [List.length_map]; omega)
              rw [mks] at hcall
              refine P1 T.ok rfl rfl rfl ?_; refine WL_nil ?_; (with_reducible refine T_then ?_); refine W_seq ?_; refine W_region ?_; refine P1 T.ok rfl rfl rfl ?_
              refine WL_o rfl rfl (OpR_ret cl27 allF rfl rfl rfl rfl rfl hcall ?_); rintro g6 vo hf1 rs4; replace hs := hs.call hf1; have hqe := hf1.le; replace le0 := G.le.trans le0 hqe; replace rs1 := rs1.mono hqe; replace rs2 := rs2.mono hqe; replace rs3 := rs3.mono hqe
              clear hcall
              obtain ⟨a4, c4, rfl⟩ := rs4.isSlice
              obtain ⟨i0, x0, y0, e1, e2, e3, e4, e5⟩ := hcl
              rw [List.nil_append] at e5
              have hi1 : i0 < rs.length := (List.getElem?_eq_some_iff.1 e1).1
              have hi2 : i0 < rs'.length := (List.getElem?_eq_some_iff.1 e2).1
              have hAll := fun i x h => headsM_get (rs := rs) i x h
              have hBll := fun i x h => headsM_get (rs := rs') i x h
              have hla := headsM_len rs
              have hlb := headsM_len rs'
              generalize headsM rs = hdsA at *
              generalize headsM rs' = hdsB at *
              refine P1 T.ok rfl rfl rfl ?_; refine WL_nil ?_; (with_reducible refine T_then ?_); refine W_seq ?_; refine W_seq ?_; refine W_region ?_; refine P1 T.ok rfl rfl rfl ?_; refine WL_nil ?_; (with_reducible refine T_then ?_); refine W_block ?_
              have le8 := G.le.refl g6
              have rs3c := rs3; have rs4c := rs4
              refine W_loop (fun m a' w => ∃ (i : Nat) (g5 : G), w = g5.w ∧ St g g5 LL ∧ G.le g g5 ∧ G.le g6 g5 ∧ i ≤ i0 ∧ m = i0 - i ∧ Fr 180 [] [(7, .bool true), (21, .slice a3 (hdsA.map Str.mk).length c3), (22, .slice a4 (hdsB.map Str.mk).length c4), (23, .int .i64 i)] a') i0
                (fun a' ha => ⟨0, g6, rfl, hs, le0, le8, Nat.zero_le _, rfl, ha.keep (by (repeat (first | exact trivial | refine ⟨rfl, ?_⟩)))⟩) ?_
              clear hs le0 le8 rs3 rs4
              rintro m a' _ ⟨i, g5, rfl, hs, le0, le8, hi, rfl, ha'⟩
              have rs3 := rs3c.mono le8
              have rs4 := rs4c.mono le8
              revert a'
              (with_reducible refine T_wp ?_); refine W_seq ?_; refine W_seq ?_; refine W_region ?_; (iterate 5 refine P1 T.ok rfl rfl rfl ?_)
              refine WL_know 149 (b := decide ((i : Int) < ((hdsA.map Str.mk).length : Int))) (b' := true) (decide_eq_true (by rw [List.length_map]; omega)) rfl ?_
              (iterate 5 refine P1 T.ok rfl rfl rfl ?_); refine WL_nil ?_; (with_reducible refine T_then ?_)
              refine W_yes (b := decide ((i : Int) < ((hdsB.map Str.mk).length : Int))) (decide_eq_true (by rw [List.length_map]; omega)) rfl ?_
              obtain ⟨x, hx⟩ : ∃ x, rs[i]? = some x := ⟨_, List.getElem?_eq_getElem (by omega)⟩
              obtain ⟨y, hy⟩ : ∃ y, rs'[i]? = some y := ⟨_, List.getElem?_eq_getElem (by omega)⟩
              have hxl := hJ.short x (List.mem_of_getElem? hx)
              have hyl := hsh' y (List.mem_of_getElem? hy)
              have hga := geti_mk (hAll i x hx)
              have hgb := geti_mk (hBll i y hy)
              have hhl := headM_len (rs.take i)
              have hhl' := headM_len (rs'.take i)
              have hcls : i = i0 → [2] ++ (headM (rs.take i) ++ x) ≠ [2] ++ (headM (rs'.take i) ++ y) ∧ sumM ([2] ++ (headM (rs.take i) ++ x)) = sumM ([2] ++ (headM (rs'.take i) ++ y)) := by
                intro h
                subst h
                rw [e1] at hx; rw [e2] at hy
                cases hx; cases hy
                rw [← e3]
                refine ⟨fun h => e4 (List.append_cancel_left (List.append_cancel_left h)), ?_⟩
                have h5 := e5
                unfold chainM at h5
                exact h5
              have hpl : ([2] ++ (headM (rs.take i) ++ x)).length ≤ 1099511627776 := by simp only [List.length_append, List.length_cons, List.length_nil]; omega
              have hql : ([2] ++ (headM (rs'.take i) ++ y)).length ≤ 1099511627776 := by simp only [List.length_append, List.length_cons, List.length_nil]; omega
              generalize [2] ++ (headM (rs.take i) ++ x) = p at *
              generalize [2] ++ (headM (rs'.take i) ++ y) = q at *
              refine W_skip ?_; (with_reducible refine T_then ?_); refine W_seq ?_; refine W_block ?_; refine W_seq ?_
              by_cases hpq : p = q
              · have hine : i ≠ i0 := fun h => (hcls h).1 hpq
                apply W_draw allF rfl (Fact.eq _ :: Fact.eq _ :: (strP1 p) :: Fact.eq _ :: Fact.eq _ :: Fact.eq _ :: (strP1 q) :: Fact.eq _ :: Fact.eq _ :: Fact.eq _ :: Fact.eq _ :: Fact.eq _ :: Fact.eq _ :: Fact.eq _ :: Fact.eq _ :: Fact.eq _ :: Fact.eq _ :: Fact.eq _ :: Fact.eq _ :: Fact.eq _ :: Fact.eq _ :: Fact.eq _ :: []) 22 [(21, 178)] rfl rfl
                · refine D_cons (D_step2 (js := []) (by kernel_rfl) fun gd hf => ?_) ?_
                  · have hsd := hs.dr.call hf; have hfe := (G.le_dr _).trans hf.le
                    refine QA_nil ?_
                    (refine D_yes rfl ?_; refine OpR_pure _ T.ok rfl ?_; refine ⟨_, rfl, Fr0.refl _, ?_⟩; exact rfl)
                  refine D_cons (D_step2 (js := []) (by kernel_rfl) fun gd hf => ?_) ?_
                  · have hsd := hs.dr.call hf; have hfe := (G.le_dr _).trans hf.le
                    refine QA_nil ?_
                    (refine D_yes rfl ?_; refine OpR_pure _ T.ok rfl ?_; refine ⟨_, rfl, Fr0.refl _, ?_⟩; exact rfl)
                  refine D_cons (D_step2 (js := [(0, 157), (1, 158)]) (by kernel_rfl) fun gd hf => ?_) ?_
                  · have hsd := hs.dr.call hf; have hfe := (G.le_dr _).trans hf.le
                    refine QA_eq rfl ?_; refine QA_eq rfl ?_
                    refine QA_nil ?_
                    refine D_yes rfl ?_
                    refine OpR_idx T.ok rfl (rs3.mono hfe) (y := ⟨p⟩) hga rfl rfl rfl rfl rfl rfl ?_
                    intro bb pp ys hep hrc
                    exact ⟨_, rfl, Fr0.refl _, bb, pp, rfl, by rw [← show ys = [Value.string (bs p)] from hrc]; exact hep⟩
                  refine D_cons (D_step2 (js := [(2, 159)]) (by kernel_rfl) fun gd hf => ?_) ?_
                  · have hsd := hs.dr.call hf; have hfe := (G.le_dr _).trans hf.le
                    refine QA_any fun v2 h2 => ?_
                    refine QA_nil ?_
                    obtain ⟨bb, pp, rfl, hep⟩ := h2
                    refine D_yes rfl ?_
                    refine OpR_loadE T.ok 0 rfl hep rfl rfl ?_
                    exact ⟨_, rfl, Fr0.refl _, rfl⟩
                  refine D_cons (D_step2 (js := []) (by kernel_rfl) fun gd hf => ?_) ?_
                  · have hsd := hs.dr.call hf; have hfe := (G.le_dr _).trans hf.le
                    refine QA_nil ?_
                    (refine D_yes rfl ?_; refine OpR_pure _ T.ok rfl ?_; refine ⟨_, rfl, Fr0.refl _, ?_⟩; exact rfl)
                  refine D_cons (D_step2 (js := []) (by kernel_rfl) fun gd hf => ?_) ?_
                  · have hsd := hs.dr.call hf; have hfe := (G.le_dr _).trans hf.le
                    refine QA_nil ?_
                    (refine D_yes rfl ?_; refine OpR_pure _ T.ok rfl ?_; refine ⟨_, rfl, Fr0.refl _, ?_⟩; exact rfl)
                  refine D_cons (D_step2 (js := [(4, 161), (5, 162)]) (by kernel_rfl) fun gd hf => ?_) ?_
                  · have hsd := hs.dr.call hf; have hfe := (G.le_dr _).trans hf.le
                    refine QA_eq rfl ?_; refine QA_eq rfl ?_
                    refine QA_nil ?_
                    refine D_yes rfl ?_
                    refine OpR_idx T.ok rfl (rs4.mono hfe) (y := ⟨q⟩) hgb rfl rfl rfl rfl rfl rfl ?_
                    intro bb pp ys hep hrc
                    exact ⟨_, rfl, Fr0.refl _, bb, pp, rfl, by rw [← show ys = [Value.string (bs q)] from hrc]; exact hep⟩
                  refine D_cons (D_step2 (js := [(6, 163)]) (by kernel_rfl) fun gd hf => ?_) ?_
                  · have hsd := hs.dr.call hf; have hfe := (G.le_dr _).trans hf.le
                    refine QA_any fun v6 h6 => ?_
                    refine QA_nil ?_
                    obtain ⟨bb, pp, rfl, hep⟩ := h6
                    refine D_yes rfl ?_
                    refine OpR_loadE T.ok 0 rfl hep rfl rfl ?_
                    exact ⟨_, rfl, Fr0.refl _, rfl⟩
                  refine D_cons (D_step2 (js := [(3, 160), (7, 164)]) (by kernel_rfl) fun gd hf => ?_) ?_
                  · have hsd := hs.dr.call hf; have hfe := (G.le_dr _).trans hf.le
                    refine QA_eq rfl ?_; refine QA_eq rfl ?_
                    refine QA_nil ?_
                    refine D_yes rfl ?_
                    refine OpR_eqS (neg := true) rfl rfl rfl ?_
                    exact ⟨_, rfl, Fr0.refl _, show _ = Value.bool false from congrArg Value.bool (by rw [hpq, beq_self_eq_true]; rfl)⟩
                  refine D_cons (D_step2 (js := [(8, 165)]) (by kernel_rfl) fun gd hf => ?_) ?_
                  · have hsd := hs.dr.call hf; have hfe := (G.le_dr _).trans hf.le
                    refine QA_eq rfl ?_
                    refine QA_nil ?_
                    (refine D_yes rfl ?_; refine OpR_pure _ T.ok rfl ?_; refine ⟨_, rfl, Fr0.refl _, ?_⟩; exact rfl)
                  refine D_cons (D_step2 (js := [(9, 166)]) (by kernel_rfl) fun gd hf => ?_) ?_
                  · have hsd := hs.dr.call hf; have hfe := (G.le_dr _).trans hf.le
                    refine QA_eq rfl ?_
                    refine QA_nil ?_
                    (refine D_no rfl ?_; exact rfl)
                  refine D_cons (D_step2 (js := [(9, 166)]) (by kernel_rfl) fun gd hf => ?_) ?_
                  · have hsd := hs.dr.call hf; have hfe := (G.le_dr _).trans hf.le
                    refine QA_eq rfl ?_
                    refine QA_nil ?_
                    (refine D_no rfl ?_; exact rfl)
                  refine D_cons (D_step2 (js := [(10, 167), (11, 168), (9, 166)]) (by kernel_rfl) fun gd hf => ?_) ?_
                  · have hsd := hs.dr.call hf; have hfe := (G.le_dr _).trans hf.le
                    refine QA_eq rfl ?_; refine QA_eq rfl ?_; refine QA_eq rfl ?_
                    refine QA_nil ?_
                    (refine D_no rfl ?_; exact rfl)
                  refine D_cons (D_step2 (js := [(12, 169), (9, 166)]) (by kernel_rfl) fun gd hf => ?_) ?_
                  · have hsd := hs.dr.call hf; have hfe := (G.le_dr _).trans hf.le
                    refine QA_eq rfl ?_; refine QA_eq rfl ?_
                    refine QA_nil ?_
                    (refine D_no rfl ?_; exact rfl)
                  refine D_cons (D_step2 (js := [(13, 170), (9, 166), (9, 166)]) (by kernel_rfl) fun gd hf => ?_) ?_
                  · have hsd := hs.dr.call hf; have hfe := (G.le_dr _).trans hf.le
                    refine QA_eq rfl ?_; refine QA_eq rfl ?_; refine QA_eq rfl ?_
                    refine QA_nil ?_
                    (refine D_no rfl ?_; exact rfl)
                  refine D_cons (D_step2 (js := [(9, 166)]) (by kernel_rfl) fun gd hf => ?_) ?_
                  · have hsd := hs.dr.call hf; have hfe := (G.le_dr _).trans hf.le
                    refine QA_eq rfl ?_
                    refine QA_nil ?_
                    (refine D_no rfl ?_; exact rfl)
                  refine D_cons (D_step2 (js := [(9, 166)]) (by kernel_rfl) fun gd hf => ?_) ?_
                  · have hsd := hs.dr.call hf; have hfe := (G.le_dr _).trans hf.le
                    refine QA_eq rfl ?_
                    refine QA_nil ?_
                    (refine D_no rfl ?_; exact rfl)
                  refine D_cons (D_step2 (js := [(15, 172), (16, 173), (9, 166)]) (by kernel_rfl) fun gd hf => ?_) ?_
                  · have hsd := hs.dr.call hf; have hfe := (G.le_dr _).trans hf.le
                    refine QA_eq rfl ?_; refine QA_eq rfl ?_; refine QA_eq rfl ?_
                    refine QA_nil ?_
                    (refine D_no rfl ?_; exact rfl)
                  refine D_cons (D_step2 (js := [(17, 174), (9, 166)]) (by kernel_rfl) fun gd hf => ?_) ?_
                  · have hsd := hs.dr.call hf; have hfe := (G.le_dr _).trans hf.le
                    refine QA_eq rfl ?_; refine QA_eq rfl ?_
                    refine QA_nil ?_
                    (refine D_no rfl ?_; exact rfl)
                  refine D_cons (D_step2 (js := [(18, 175), (9, 166)]) (by kernel_rfl) fun gd hf => ?_) ?_
                  · have hsd := hs.dr.call hf; have hfe := (G.le_dr _).trans hf.le
                    refine QA_eq rfl ?_; refine QA_eq rfl ?_
                    refine QA_nil ?_
                    (refine D_no rfl ?_; exact rfl)
                  refine D_cons (D_step2 (js := [(14, 171), (19, 176), (9, 166)]) (by kernel_rfl) fun gd hf => ?_) ?_
                  · have hsd := hs.dr.call hf; have hfe := (G.le_dr _).trans hf.le
                    refine QA_eq rfl ?_; refine QA_eq rfl ?_; refine QA_eq rfl ?_
                    refine QA_nil ?_
                    (refine D_no rfl ?_; exact rfl)
                  refine D_cons (D_step2 (js := [(9, 166), (20, 177)]) (by kernel_rfl) fun gd hf => ?_) ?_
                  · have hsd := hs.dr.call hf; have hfe := (G.le_dr _).trans hf.le
                    refine QA_eq rfl ?_; refine QA_eq rfl ?_
                    refine QA_nil ?_
                    (refine D_yes rfl ?_; refine OpR_pure _ T.ok rfl ?_; refine ⟨_, rfl, Fr0.refl _, ?_⟩; exact rfl)
                  exact D_nil
                intro g1 hf1; refine QA_eq rfl ?_; refine QA_nil ?_
                replace hs := hs.dr.call hf1; have hqe := (G.le_dr _).trans hf1.le; replace le0 := G.le.trans le0 hqe; replace le8 := G.le.trans le8 hqe; replace rs3 := rs3.mono hqe; replace rs4 := rs4.mono hqe
                refine WL_nil ?_; (with_reducible refine T_then ?_)
                refine W_no rfl rfl ?_
                refine W_skip ?_; (with_reducible refine T_bn ?_); (with_reducible refine T_then ?_); refine W_region ?_; (iterate 3 refine P1 T.ok rfl rfl rfl ?_); refine WL_nil ?_
                exact fun a ha => ⟨i0 - (i + 1), by omega, i + 1, _, rfl, hs, le0, le8, by omega, rfl, ha.keep ⟨rfl, rfl, rfl, kI rfl (by rw [wr (by omega) (by omega)]; omega), trivial⟩⟩
              · by_cases hsum : sumM p = sumM q
                · apply W_draw allF rfl (Fact.eq _ :: Fact.eq _ :: (strP1 p) :: Fact.eq _ :: Fact.eq _ :: Fact.eq _ :: (strP1 q) :: Fact.eq _ :: Fact.eq _ :: Fact.eq _ :: Fact.eq _ :: Fact.eq _ :: (strP1 p) :: Fact.eq _ :: Fact.eq _ :: Fact.eq _ :: Fact.eq _ :: (strP1 q) :: Fact.eq _ :: Fact.eq _ :: Fact.eq _ :: Fact.eq _ :: []) 22 [(21, 178)] rfl rfl
                  · refine D_cons (D_step2 (js := []) (by kernel_rfl) fun gd hf => ?_) ?_
                    · have hsd := hs.dr.call hf; have hfe := (G.le_dr _).trans hf.le
                      refine QA_nil ?_
                      (refine D_yes rfl ?_; refine OpR_pure _ T.ok rfl ?_; refine ⟨_, rfl, Fr0.refl _, ?_⟩; exact rfl)
                    refine D_cons (D_step2 (js := []) (by kernel_rfl) fun gd hf => ?_) ?_
                    · have hsd := hs.dr.call hf; have hfe := (G.le_dr _).trans hf.le
                      refine QA_nil ?_
                      (refine D_yes rfl ?_; refine OpR_pure _ T.ok rfl ?_; refine ⟨_, rfl, Fr0.refl _, ?_⟩; exact rfl)
                    refine D_cons (D_step2 (js := [(0, 157), (1, 158)]) (by kernel_rfl) fun gd hf => ?_) ?_
                    · have hsd := hs.dr.call hf; have hfe := (G.le_dr _).trans hf.le
                      refine QA_eq rfl ?_; refine QA_eq rfl ?_
                      refine QA_nil ?_
                      refine D_yes rfl ?_
                      refine OpR_idx T.ok rfl (rs3.mono hfe) (y := ⟨p⟩) hga rfl rfl rfl rfl rfl rfl ?_
                      intro bb pp ys hep hrc
                      exact ⟨_, rfl, Fr0.refl _, bb, pp, rfl, by rw [← show ys = [Value.string (bs p)] from hrc]; exact hep⟩
                    refine D_cons (D_step2 (js := [(2, 159)]) (by kernel_rfl) fun gd hf => ?_) ?_
                    · have hsd := hs.dr.call hf; have hfe := (G.le_dr _).trans hf.le
                      refine QA_any fun v2 h2 => ?_
                      refine QA_nil ?_
                      obtain ⟨bb, pp, rfl, hep⟩ := h2
                      refine D_yes rfl ?_
                      refine OpR_loadE T.ok 0 rfl hep rfl rfl ?_
                      exact ⟨_, rfl, Fr0.refl _, rfl⟩
                    refine D_cons (D_step2 (js := []) (by kernel_rfl) fun gd hf => ?_) ?_
                    · have hsd := hs.dr.call hf; have hfe := (G.le_dr _).trans hf.le
                      refine QA_nil ?_
                      (refine D_yes rfl ?_; refine OpR_pure _ T.ok rfl ?_; refine ⟨_, rfl, Fr0.refl _, ?_⟩; exact rfl)
                    refine D_cons (D_step2 (js := []) (by kernel_rfl) fun gd hf => ?_) ?_
                    · have hsd := hs.dr.call hf; have hfe := (G.le_dr _).trans hf.le
                      refine QA_nil ?_
                      (refine D_yes rfl ?_; refine OpR_pure _ T.ok rfl ?_; refine ⟨_, rfl, Fr0.refl _, ?_⟩; exact rfl)
                    refine D_cons (D_step2 (js := [(4, 161), (5, 162)]) (by kernel_rfl) fun gd hf => ?_) ?_
                    · have hsd := hs.dr.call hf; have hfe := (G.le_dr _).trans hf.le
                      refine QA_eq rfl ?_; refine QA_eq rfl ?_
                      refine QA_nil ?_
                      refine D_yes rfl ?_
                      refine OpR_idx T.ok rfl (rs4.mono hfe) (y := ⟨q⟩) hgb rfl rfl rfl rfl rfl rfl ?_
                      intro bb pp ys hep hrc
                      exact ⟨_, rfl, Fr0.refl _, bb, pp, rfl, by rw [← show ys = [Value.string (bs q)] from hrc]; exact hep⟩
                    refine D_cons (D_step2 (js := [(6, 163)]) (by kernel_rfl) fun gd hf => ?_) ?_
                    · have hsd := hs.dr.call hf; have hfe := (G.le_dr _).trans hf.le
                      refine QA_any fun v6 h6 => ?_
                      refine QA_nil ?_
                      obtain ⟨bb, pp, rfl, hep⟩ := h6
                      refine D_yes rfl ?_
                      refine OpR_loadE T.ok 0 rfl hep rfl rfl ?_
                      exact ⟨_, rfl, Fr0.refl _, rfl⟩
                    refine D_cons (D_step2 (js := [(3, 160), (7, 164)]) (by kernel_rfl) fun gd hf => ?_) ?_
                    · have hsd := hs.dr.call hf; have hfe := (G.le_dr _).trans hf.le
                      refine QA_eq rfl ?_; refine QA_eq rfl ?_
                      refine QA_nil ?_
                      refine D_yes rfl ?_
                      refine OpR_eqS (neg := true) rfl rfl rfl ?_
                      exact ⟨_, rfl, Fr0.refl _, show _ = Value.bool true from congrArg Value.bool (by rw [beq_eq_false_iff_ne.2 hpq]; rfl)⟩
                    refine D_cons (D_step2 (js := [(8, 165)]) (by kernel_rfl) fun gd hf => ?_) ?_
                    · have hsd := hs.dr.call hf; have hfe := (G.le_dr _).trans hf.le
                      refine QA_eq rfl ?_
                      refine QA_nil ?_
                      (refine D_yes rfl ?_; refine OpR_pure _ T.ok rfl ?_; refine ⟨_, rfl, Fr0.refl _, ?_⟩; exact rfl)
                    refine D_cons (D_step2 (js := [(9, 166)]) (by kernel_rfl) fun gd hf => ?_) ?_
                    · have hsd := hs.dr.call hf; have hfe := (G.le_dr _).trans hf.le
                      refine QA_eq rfl ?_
                      refine QA_nil ?_
                      (refine D_yes rfl ?_; refine OpR_pure _ T.ok rfl ?_; refine ⟨_, rfl, Fr0.refl _, ?_⟩; exact rfl)
                    refine D_cons (D_step2 (js := [(9, 166)]) (by kernel_rfl) fun gd hf => ?_) ?_
                    · have hsd := hs.dr.call hf; have hfe := (G.le_dr _).trans hf.le
                      refine QA_eq rfl ?_
                      refine QA_nil ?_
                      (refine D_yes rfl ?_; refine OpR_pure _ T.ok rfl ?_; refine ⟨_, rfl, Fr0.refl _, ?_⟩; exact rfl)
                    refine D_cons (D_step2 (js := [(10, 167), (11, 168), (9, 166)]) (by kernel_rfl) fun gd hf => ?_) ?_
                    · have hsd := hs.dr.call hf; have hfe := (G.le_dr _).trans hf.le
                      refine QA_eq rfl ?_; refine QA_eq rfl ?_; refine QA_eq rfl ?_
                      refine QA_nil ?_
                      refine D_yes rfl ?_
                      refine OpR_idx T.ok rfl (rs3.mono hfe) (y := ⟨p⟩) hga rfl rfl rfl rfl rfl rfl ?_
                      intro bb pp ys hep hrc
                      exact ⟨_, rfl, Fr0.refl _, bb, pp, rfl, by rw [← show ys = [Value.string (bs p)] from hrc]; exact hep⟩
                    refine D_cons (D_step2 (js := [(12, 169), (9, 166)]) (by kernel_rfl) fun gd hf => ?_) ?_
                    · have hsd := hs.dr.call hf; have hfe := (G.le_dr _).trans hf.le
                      refine QA_any fun v12 h12 => ?_; refine QA_eq rfl ?_
                      refine QA_nil ?_
                      obtain ⟨bb, pp, rfl, hep⟩ := h12
                      refine D_yes rfl ?_
                      refine OpR_loadE T.ok 0 rfl hep rfl rfl ?_
                      exact ⟨_, rfl, Fr0.refl _, rfl⟩
                    refine D_cons (D_step2 (js := [(13, 170), (9, 166), (9, 166)]) (by kernel_rfl) fun gd hf => ?_) ?_
                    · have hsd := hs.dr.call hf; have hfe := (G.le_dr _).trans hf.le
                      refine QA_eq rfl ?_; refine QA_eq rfl ?_; refine QA_eq rfl ?_
                      refine QA_nil ?_
                      refine D_yes rfl ?_
                      refine OpR_ret cl28 allF rfl rfl rfl rfl rfl (rsum_c p _ hpl) fun g' v h1 h2 => ⟨g', rfl, h1, ?_⟩
                      exact h2
                    refine D_cons (D_step2 (js := [(9, 166)]) (by kernel_rfl) fun gd hf => ?_) ?_
                    · have hsd := hs.dr.call hf; have hfe := (G.le_dr _).trans hf.le
                      refine QA_eq rfl ?_
                      refine QA_nil ?_
                      (refine D_yes rfl ?_; refine OpR_pure _ T.ok rfl ?_; refine ⟨_, rfl, Fr0.refl _, ?_⟩; exact rfl)
                    refine D_cons (D_step2 (js := [(9, 166)]) (by kernel_rfl) fun gd hf => ?_) ?_
                    · have hsd := hs.dr.call hf; have hfe := (G.le_dr _).trans hf.le
                      refine QA_eq rfl ?_
                      refine QA_nil ?_
                      (refine D_yes rfl ?_; refine OpR_pure _ T.ok rfl ?_; refine ⟨_, rfl, Fr0.refl _, ?_⟩; exact rfl)
                    refine D_cons (D_step2 (js := [(15, 172), (16, 173), (9, 166)]) (by kernel_rfl) fun gd hf => ?_) ?_
                    · have hsd := hs.dr.call hf; have hfe := (G.le_dr _).trans hf.le
                      refine QA_eq rfl ?_; refine QA_eq rfl ?_; refine QA_eq rfl ?_
                      refine QA_nil ?_
                      refine D_yes rfl ?_
                      refine OpR_idx T.ok rfl (rs4.mono hfe) (y := ⟨q⟩) hgb rfl rfl rfl rfl rfl rfl ?_
                      intro bb pp ys hep hrc
                      exact ⟨_, rfl, Fr0.refl _, bb, pp, rfl, by rw [← show ys = [Value.string (bs q)] from hrc]; exact hep⟩
                    refine D_cons (D_step2 (js := [(17, 174), (9, 166)]) (by kernel_rfl) fun gd hf => ?_) ?_
                    · have hsd := hs.dr.call hf; have hfe := (G.le_dr _).trans hf.le
                      refine QA_any fun v17 h17 => ?_; refine QA_eq rfl ?_
                      refine QA_nil ?_
                      obtain ⟨bb, pp, rfl, hep⟩ := h17
                      refine D_yes rfl ?_
                      refine OpR_loadE T.ok 0 rfl hep rfl rfl ?_
                      exact ⟨_, rfl, Fr0.refl _, rfl⟩
                    refine D_cons (D_step2 (js := [(18, 175), (9, 166)]) (by kernel_rfl) fun gd hf => ?_) ?_
                    · have hsd := hs.dr.call hf; have hfe := (G.le_dr _).trans hf.le
                      refine QA_eq rfl ?_; refine QA_eq rfl ?_
                      refine QA_nil ?_
                      refine D_yes rfl ?_
                      refine OpR_ret cl28 allF rfl rfl rfl rfl rfl (rsum_c q _ hql) fun g' v h1 h2 => ⟨g', rfl, h1, ?_⟩
                      exact h2
                    refine D_cons (D_step2 (js := [(14, 171), (19, 176), (9, 166)]) (by kernel_rfl) fun gd hf => ?_) ?_
                    · have hsd := hs.dr.call hf; have hfe := (G.le_dr _).trans hf.le
                      refine QA_eq rfl ?_; refine QA_eq rfl ?_; refine QA_eq rfl ?_
                      refine QA_nil ?_
                      refine D_yes rfl ?_
                      refine OpR_eqS (neg := false) rfl rfl rfl ?_
                      exact ⟨_, rfl, Fr0.refl _, show _ = Value.bool true from congrArg Value.bool (by rw [hsum, beq_self_eq_true]; rfl)⟩
                    refine D_cons (D_step2 (js := [(9, 166), (20, 177)]) (by kernel_rfl) fun gd hf => ?_) ?_
                    · have hsd := hs.dr.call hf; have hfe := (G.le_dr _).trans hf.le
                      refine QA_eq rfl ?_; refine QA_eq rfl ?_
                      refine QA_nil ?_
                      (refine D_yes rfl ?_; refine OpR_pure _ T.ok rfl ?_; refine ⟨_, rfl, Fr0.refl _, ?_⟩; exact rfl)
                    exact D_nil
                  intro g1 hf1; refine QA_eq rfl ?_; refine QA_nil ?_
                  replace hs := hs.dr.call hf1; have hqe := (G.le_dr _).trans hf1.le; replace le0 := G.le.trans le0 hqe; replace le8 := G.le.trans le8 hqe; replace rs3 := rs3.mono hqe; replace rs4 := rs4.mono hqe
                  refine WL_nil ?_; (with_reducible refine T_then ?_)
                  refine W_yes rfl rfl ?_
                  refine W_seq ?_; refine W_region ?_; refine P1 T.ok rfl rfl rfl ?_; refine P1 T.ok rfl rfl rfl ?_; refine WL_nil ?_; (with_reducible refine T_then ?_)
                  exact W_ret (ret1 rfl rfl (hs.ret rfl))
                · have hine : i ≠ i0 := fun h => hsum (hcls h).2
                  apply W_draw allF rfl (Fact.eq _ :: Fact.eq _ :: (strP1 p) :: Fact.eq _ :: Fact.eq _ :: Fact.eq _ :: (strP1 q) :: Fact.eq _ :: Fact.eq _ :: Fact.eq _ :: Fact.eq _ :: Fact.eq _ :: (strP1 p) :: Fact.eq _ :: Fact.eq _ :: Fact.eq _ :: Fact.eq _ :: (strP1 q) :: Fact.eq _ :: Fact.eq _ :: Fact.eq _ :: Fact.eq _ :: []) 22 [(21, 178)] rfl rfl
                  · refine D_cons (D_step2 (js := []) (by kernel_rfl) fun gd hf => ?_) ?_
                    · have hsd := hs.dr.call hf; have hfe := (G.le_dr _).trans hf.le
                      refine QA_nil ?_
                      (refine D_yes rfl ?_; refine OpR_pure _ T.ok rfl ?_; refine ⟨_, rfl, Fr0.refl _, ?_⟩; exact rfl)
                    refine D_cons (D_step2 (js := []) (by kernel_rfl) fun gd hf => ?_) ?_
                    · have hsd := hs.dr.call hf; have hfe := (G.le_dr _).trans hf.le
                      refine QA_nil ?_
                      (refine D_yes rfl ?_; refine OpR_pure _ T.ok rfl ?_; refine ⟨_, rfl, Fr0.refl _, ?_⟩; exact rfl)
                    refine D_cons (D_step2 (js := [(0, 157), (1, 158)]) (by kernel_rfl) fun gd hf => ?_) ?_
                    · have hsd := hs.dr.call hf; have hfe := (G.le_dr _).trans hf.le
                      refine QA_eq rfl ?_; refine QA_eq rfl ?_
                      refine QA_nil ?_
                      refine D_yes rfl ?_
                      refine OpR_idx T.ok rfl (rs3.mono hfe) (y := ⟨p⟩) hga rfl rfl rfl rfl rfl rfl ?_
                      intro bb pp ys hep hrc
                      exact ⟨_, rfl, Fr0.refl _, bb, pp, rfl, by rw [← show ys = [Value.string (bs p)] from hrc]; exact hep⟩
                    refine D_cons (D_step2 (js := [(2, 159)]) (by kernel_rfl) fun gd hf => ?_) ?_
                    · have hsd := hs.dr.call hf; have hfe := (G.le_dr _).trans hf.le
                      refine QA_any fun v2 h2 => ?_
                      refine QA_nil ?_
                      obtain ⟨bb, pp, rfl, hep⟩ := h2
                      refine D_yes rfl ?_
                      refine OpR_loadE T.ok 0 rfl hep rfl rfl ?_
                      exact ⟨_, rfl, Fr0.refl _, rfl⟩
                    refine D_cons (D_step2 (js := []) (by kernel_rfl) fun gd hf => ?_) ?_
                    · have hsd := hs.dr.call hf; have hfe := (G.le_dr _).trans hf.le
                      refine QA_nil ?_
                      (refine D_yes rfl ?_; refine OpR_pure _ T.ok rfl ?_; refine ⟨_, rfl, Fr0.refl _, ?_⟩; exact rfl)
                    refine D_cons (D_step2 (js := []) (by kernel_rfl) fun gd hf => ?_) ?_
                    · have hsd := hs.dr.call hf; have hfe := (G.le_dr _).trans hf.le
                      refine QA_nil ?_
                      (refine D_yes rfl ?_; refine OpR_pure _ T.ok rfl ?_; refine ⟨_, rfl, Fr0.refl _, ?_⟩; exact rfl)
                    refine D_cons (D_step2 (js := [(4, 161), (5, 162)]) (by kernel_rfl) fun gd hf => ?_) ?_
                    · have hsd := hs.dr.call hf; have hfe := (G.le_dr _).trans hf.le
                      refine QA_eq rfl ?_; refine QA_eq rfl ?_
                      refine QA_nil ?_
                      refine D_yes rfl ?_
                      refine OpR_idx T.ok rfl (rs4.mono hfe) (y := ⟨q⟩) hgb rfl rfl rfl rfl rfl rfl ?_
                      intro bb pp ys hep hrc
                      exact ⟨_, rfl, Fr0.refl _, bb, pp, rfl, by rw [← show ys = [Value.string (bs q)] from hrc]; exact hep⟩
                    refine D_cons (D_step2 (js := [(6, 163)]) (by kernel_rfl) fun gd hf => ?_) ?_
                    · have hsd := hs.dr.call hf; have hfe := (G.le_dr _).trans hf.le
                      refine QA_any fun v6 h6 => ?_
                      refine QA_nil ?_
                      obtain ⟨bb, pp, rfl, hep⟩ := h6
                      refine D_yes rfl ?_
                      refine OpR_loadE T.ok 0 rfl hep rfl rfl ?_
                      exact ⟨_, rfl, Fr0.refl _, rfl⟩
                    refine D_cons (D_step2 (js := [(3, 160), (7, 164)]) (by kernel_rfl) fun gd hf => ?_) ?_
                    · have hsd := hs.dr.call hf; have hfe := (G.le_dr _).trans hf.le
                      refine QA_eq rfl ?_; refine QA_eq rfl ?_
                      refine QA_nil ?_
                      refine D_yes rfl ?_
                      refine OpR_eqS (neg := true) rfl rfl rfl ?_
                      exact ⟨_, rfl, Fr0.refl _, show _ = Value.bool true from congrArg Value.bool (by rw [beq_eq_false_iff_ne.2 hpq]; rfl)⟩
                    refine D_cons (D_step2 (js := [(8, 165)]) (by kernel_rfl) fun gd hf => ?_) ?_
                    · have hsd := hs.dr.call hf; have hfe := (G.le_dr _).trans hf.le
                      refine QA_eq rfl ?_
                      refine QA_nil ?_
                      (refine D_yes rfl ?_; refine OpR_pure _ T.ok rfl ?_; refine ⟨_, rfl, Fr0.refl _, ?_⟩; exact rfl)
                    refine D_cons (D_step2 (js := [(9, 166)]) (by kernel_rfl) fun gd hf => ?_) ?_
                    · have hsd := hs.dr.call hf; have hfe := (G.le_dr _).trans hf.le
                      refine QA_eq rfl ?_
                      refine QA_nil ?_
                      (refine D_yes rfl ?_; refine OpR_pure _ T.ok rfl ?_; refine ⟨_, rfl, Fr0.refl _, ?_⟩; exact rfl)
                    refine D_cons (D_step2 (js := [(9, 166)]) (by kernel_rfl) fun gd hf => ?_) ?_
                    · have hsd := hs.dr.call hf; have hfe := (G.le_dr _).trans hf.le
                      refine QA_eq rfl ?_
                      refine QA_nil ?_
                      (refine D_yes rfl ?_; refine OpR_pure _ T.ok rfl ?_; refine ⟨_, rfl, Fr0.refl _, ?_⟩; exact rfl)
                    refine D_cons (D_step2 (js := [(10, 167), (11, 168), (9, 166)]) (by kernel_rfl) fun gd hf => ?_) ?_
                    · have hsd := hs.dr.call hf; have hfe := (G.le_dr _).trans hf.le
                      refine QA_eq rfl ?_; refine QA_eq rfl ?_; refine QA_eq rfl ?_
                      refine QA_nil ?_
                      refine D_yes rfl ?_
                      refine OpR_idx T.ok rfl (rs3.mono hfe) (y := ⟨p⟩) hga rfl rfl rfl rfl rfl rfl ?_
                      intro bb pp ys hep hrc
                      exact ⟨_, rfl, Fr0.refl _, bb, pp, rfl, by rw [← show ys = [Value.string (bs p)] from hrc]; exact hep⟩
                    refine D_cons (D_step2 (js := [(12, 169), (9, 166)]) (by kernel_rfl) fun gd hf => ?_) ?_
                    · have hsd := hs.dr.call hf; have hfe := (G.le_dr _).trans hf.le
                      refine QA_any fun v12 h12 => ?_; refine QA_eq rfl ?_
                      refine QA_nil ?_
                      obtain ⟨bb, pp, rfl, hep⟩ := h12
                      refine D_yes rfl ?_
                      refine OpR_loadE T.ok 0 rfl hep rfl rfl ?_
                      exact ⟨_, rfl, Fr0.refl _, rfl⟩
                    refine D_cons (D_step2 (js := [(13, 170), (9, 166), (9, 166)]) (by kernel_rfl) fun gd hf => ?_) ?_
                    · have hsd := hs.dr.call hf; have hfe := (G.le_dr _).trans hf.le
                      refine QA_eq rfl ?_; refine QA_eq rfl ?_; refine QA_eq rfl ?_
                      refine QA_nil ?_
                      refine D_yes rfl ?_
                      refine OpR_ret cl28 allF rfl rfl rfl rfl rfl (rsum_c p _ hpl) fun g' v h1 h2 => ⟨g', rfl, h1, ?_⟩
                      exact h2
                    refine D_cons (D_step2 (js := [(9, 166)]) (by kernel_rfl) fun gd hf => ?_) ?_
                    · have hsd := hs.dr.call hf; have hfe := (G.le_dr _).trans hf.le
                      refine QA_eq rfl ?_
                      refine QA_nil ?_
                      (refine D_yes rfl ?_; refine OpR_pure _ T.ok rfl ?_; refine ⟨_, rfl, Fr0.refl _, ?_⟩; exact rfl)
                    refine D_cons (D_step2 (js := [(9, 166)]) (by kernel_rfl) fun gd hf => ?_) ?_
                    · have hsd := hs.dr.call hf; have hfe := (G.le_dr _).trans hf.le
                      refine QA_eq rfl ?_
                      refine QA_nil ?_
                      (refine D_yes rfl ?_; refine OpR_pure _ T.ok rfl ?_; refine ⟨_, rfl, Fr0.refl _, ?_⟩; exact rfl)
                    refine D_cons (D_step2 (js := [(15, 172), (16, 173), (9, 166)]) (by kernel_rfl) fun gd hf => ?_) ?_
                    · have hsd := hs.dr.call hf; have hfe := (G.le_dr _).trans hf.le
                      refine QA_eq rfl ?_; refine QA_eq rfl ?_; refine QA_eq rfl ?_
                      refine QA_nil ?_
                      refine D_yes rfl ?_
                      refine OpR_idx T.ok rfl (rs4.mono hfe) (y := ⟨q⟩) hgb rfl rfl rfl rfl rfl rfl ?_
                      intro bb pp ys hep hrc
                      exact ⟨_, rfl, Fr0.refl _, bb, pp, rfl, by rw [← show ys = [Value.string (bs q)] from hrc]; exact hep⟩
                    refine D_cons (D_step2 (js := [(17, 174), (9, 166)]) (by kernel_rfl) fun gd hf => ?_) ?_
                    · have hsd := hs.dr.call hf; have hfe := (G.le_dr _).trans hf.le
                      refine QA_any fun v17 h17 => ?_; refine QA_eq rfl ?_
                      refine QA_nil ?_
                      obtain ⟨bb, pp, rfl, hep⟩ := h17
                      refine D_yes rfl ?_
                      refine OpR_loadE T.ok 0 rfl hep rfl rfl ?_
                      exact ⟨_, rfl, Fr0.refl _, rfl⟩
                    refine D_cons (D_step2 (js := [(18, 175), (9, 166)]) (by kernel_rfl) fun gd hf => ?_) ?_
                    · have hsd := hs.dr.call hf; have hfe := (G.le_dr _).trans hf.le
                      refine QA_eq rfl ?_; refine QA_eq rfl ?_
                      refine QA_nil ?_
                      refine D_yes rfl ?_
                      refine OpR_ret cl28 allF rfl rfl rfl rfl rfl (rsum_c q _ hql) fun g' v h1 h2 => ⟨g', rfl, h1, ?_⟩
                      exact h2
                    refine D_cons (D_step2 (js := [(14, 171), (19, 176), (9, 166)]) (by kernel_rfl) fun gd hf => ?_) ?_
                    · have hsd := hs.dr.call hf; have hfe := (G.le_dr _).trans hf.le
                      refine QA_eq rfl ?_; refine QA_eq rfl ?_; refine QA_eq rfl ?_
                      refine QA_nil ?_
                      refine D_yes rfl ?_
                      refine OpR_eqS (neg := false) rfl rfl rfl ?_
                      exact ⟨_, rfl, Fr0.refl _, show _ = Value.bool false from congrArg Value.bool (by rw [beq_eq_false_iff_ne.2 hsum]; rfl)⟩
                    refine D_cons (D_step2 (js := [(9, 166), (20, 177)]) (by kernel_rfl) fun gd hf => ?_) ?_
                    · have hsd := hs.dr.call hf; have hfe := (G.le_dr _).trans hf.le
                      refine QA_eq rfl ?_; refine QA_eq rfl ?_
                      refine QA_nil ?_
                      (refine D_yes rfl ?_; refine OpR_pure _ T.ok rfl ?_; refine ⟨_, rfl, Fr0.refl _, ?_⟩; exact rfl)
                    exact D_nil
                  intro g1 hf1; refine QA_eq rfl ?_; refine QA_nil ?_
                  replace hs := hs.dr.call hf1; have hqe := (G.le_dr _).trans hf1.le; replace le0 := G.le.trans le0 hqe; replace le8 := G.le.trans le8 hqe; replace rs3 := rs3.mono hqe; replace rs4 := rs4.mono hqe
                  refine WL_nil ?_; (with_reducible refine T_then ?_)
                  refine W_no rfl rfl ?_
                  refine W_skip ?_; (with_reducible refine T_bn ?_); (with_reducible refine T_then ?_); refine W_region ?_; (iterate 3 refine P1 T.ok rfl rfl rfl ?_); refine WL_nil ?_
                  exact fun a ha => ⟨i0 - (i + 1), by omega, i + 1, _, rfl, hs, le0, le8, by omega, rfl, ha.keep ⟨rfl, rfl, rfl, kI rfl (by rw [wr (by omega) (by omega)]; omega), trivial⟩⟩




end Go.Proofs.YteohjgndanlldaaGreatDoor
