/- The walk through FlowParseMatchesReference. -/
import Derived.Test.YtnaeopehmdcplaaGreatDoorYu

namespace Go.Proofs.YtnaeopehmdcplaaGreatDoor
open Go Go.K
set_option maxRecDepth 10000
attribute [local irreducible] W WL OpR bitAnd bitOr bitXor bitClr bitNot shlI shrI
set_option maxHeartbeats 16000000

theorem parseMatches_c (raw : List UInt8) (u : Value) (x : List Y6) (t : Value) (zs : List Y3) (v : Value) (cs : List Y3) (g : G) (hF : FlAt g) (rs0 : Rs g u x) (hx : ∀ y ∈ x, y.fit) (rs1 : Rs g t zs) (hz : ∀ z ∈ zs, z.fit) (rs7 : Rs g v cs) (hcs : ∀ z ∈ cs, z.fit) :
  CallsIn Wd 0 Tryz.prog 4 #[.string (bs raw), u, t, v] g.w (Ret g fun _ r => r = .bool true) := by
 obtain ⟨ua, uc, rfl⟩ := rs0.isSlice
 obtain ⟨ta, tc, rfl⟩ := rs1.isSlice
 obtain ⟨va, vc, rfl⟩ := rs7.isSlice
 have hcl := rs7.len_le
 unfold maxLen at hcl
 have hs := St.start g
 have le0 := G.le.refl g
 refine enter Tryz.func4 rfl Tryz.ntmps4 rfl ?_
 refine W_seq ?_; refine W_region ?_; refine P1 T.ok rfl rfl rfl ?_; refine WL_nil ?_; (with_reducible refine T_then ?_); refine W_seq ?_; refine W_region ?_
 refine WL_o rfl rfl (OpR_ret cl6 allF rfl rfl rfl rfl rfl (sane_c _ (hF.mono le0)) ?_); rintro g1 _ hf1 rfl; replace hs := hs.call hf1; have hqe := hf1.le; replace le0 := G.le.trans le0 hqe; replace rs0 := rs0.mono hqe; replace rs1 := rs1.mono hqe; replace rs7 := rs7.mono hqe
 refine P1 T.ok rfl rfl rfl ?_; refine WL_nil ?_; (with_reducible refine T_then ?_); refine W_seq ?_; refine W_region ?_; refine P1 T.ok rfl rfl rfl ?_; refine P1 T.ok rfl rfl rfl ?_
 refine WL_o rfl rfl (OpR_ret cl7 allF rfl rfl rfl rfl rfl (make_c _ _ x zs _ rs0 rs1 hx hz) ?_); rintro g1 _ hf1 fl1; replace hs := hs.call hf1; have hqe := hf1.le; replace le0 := G.le.trans le0 hqe; replace rs0 := rs0.mono hqe; replace rs1 := rs1.mono hqe; replace rs7 := rs7.mono hqe
 skip
 refine WL_o rfl rfl (OpR_ret cl12 allF rfl rfl rfl rfl rfl (rprint_c _ _ _ fl1) ?_); rintro g1 _ hf1 hp; replace hs := hs.call hf1; have hqe := hf1.le; replace le0 := G.le.trans le0 hqe; replace rs0 := rs0.mono hqe; replace rs1 := rs1.mono hqe; replace rs7 := rs7.mono hqe; replace fl1 := fl1.mono hqe
 have hmv := mk_valid x zs
 rw [printRes_yes hmv] at hp
 subst hp
 have hTl := printM_len (valid_N hmv)
 generalize printM (mk x zs) = TX at *
 clear fl1 rs0 rs1 hx hz hmv
 (iterate 5 refine P1 T.ok rfl rfl rfl ?_); refine WL_nil ?_; (with_reducible refine T_then ?_); refine W_seq ?_; refine W_seq ?_; refine W_region ?_; (iterate 4 refine P1 T.ok rfl rfl rfl ?_)
 refine WL_o rfl rfl (OpR_cutS T.ok (s := raw) (a := 0) (b := min raw.length 3000) rfl rfl rfl rfl rfl ⟨_, congrArg (fun z => some (Value.int .i64 z)) (by rw [bs_size]; exact min_int raw.length 3000)⟩ (Nat.zero_le _) (by omega) ?_)
 rw [List.drop_zero]
 have hml : (raw.take (min raw.length 3000)).length ≤ 8192 := by rw [List.length_take]; omega
 generalize raw.take (min raw.length 3000) = RW at *
 refine P1 T.ok rfl rfl rfl ?_
 refine WL_o rfl rfl (OpR_lit T.ok rfl hs (vs := [(0, .string (bs RW)), (1, .string (bs TX))]) (cells := [.string (bs RW), .string (bs TX)]) rfl rfl rfl rfl rfl rfl (by decide) (by decide) (by kernel_rfl) rfl ?_)
 clear hs
 rintro bl gl hs hqe; replace le0 := G.le.trans le0 hqe; replace rs7 := rs7.mono hqe
 obtain ⟨gz, hwz, hsz, hqz, rs8⟩ := hs.fzRow (α := Str) (xs := [Str.mk RW, Str.mk TX]) (i := 0) rfl (RcL.strs _ [RW, TX])
 have hqe := hqz; rw [← hwz]; replace hs := hsz; clear hsz; replace le0 := G.le.trans le0 hqe; replace rs7 := rs7.mono hqe
 replace hs : St g gz [] := hs
 have hget : ∀ k : Nat, k < 2 → ∃ s : List UInt8, s.length ≤ 8192 ∧ geti [Str.mk RW, Str.mk TX] (k : Int) = some ⟨s⟩ := by
  intro k hk
  match k, hk with
  | 0, _ => exact ⟨RW, hml, rfl⟩
  | 1, _ => exact ⟨TX, hTl, rfl⟩
 have hSl : [Str.mk RW, Str.mk TX].length = 2 := rfl
 generalize [Str.mk RW, Str.mk TX] = SS at *
 refine P1 T.ok rfl rfl rfl ?_; refine P1 T.ok rfl rfl rfl ?_; refine WL_nil ?_; (with_reducible refine T_then ?_); refine W_block ?_
 have rs8c := rs8; have rs7c := rs7; have le0c := le0
 refine W_loop (fun m a' w => ∃ (k : Nat) (g' : G), w = g'.w ∧ St g g' [] ∧ G.le gz g' ∧ k ≤ 2 ∧ m = 2 - k ∧
  Fr 150 [] [(3, .slice va cs.length vc), (9, .bool true), (37, .slice (some ⟨bl, 0, none⟩) 2 2), (38, .int .i64 2), (39, .int .i64 k)] a') 2 (fun a' ha => ⟨0, gz, rfl, hs, G.le.refl _, Nat.zero_le _, rfl, ha.keep (by (repeat (first | exact trivial | refine ⟨rfl, ?_⟩)))⟩) ?_
 clear hs le0 rs8 rs7
 rintro m a' _ ⟨k, g', rfl, hs, le8, hk, rfl, ha'⟩
 have rs8 := rs8c.mono le8
 have rs7 := rs7c.mono le8
 have le0 := le0c.trans le8
 revert a'
 (with_reducible refine T_wp ?_); refine W_seq ?_; refine W_region ?_; refine P1 T.ok rfl rfl rfl ?_; refine WL_nil ?_; (with_reducible refine T_then ?_); refine W_seq ?_
 by_cases hlt : k < 2
 ·refine W_yes (b := _) ?_ rfl ?_
  ·simp; omega
  obtain ⟨s, hsl, hgs⟩ := hget k hlt
  refine W_skip ?_; (with_reducible refine T_then ?_); refine W_seq ?_; refine W_block ?_; refine W_seq ?_; refine W_region ?_
  refine WL_o rfl rfl (OpR_idx T.ok rfl rs8 (y := ⟨s⟩) hgs rfl rfl rfl rfl rfl rfl ?_)
  rintro bq pq ys hep rfl
  refine WL_o rfl rfl (OpR_loadE T.ok 0 rfl hep rfl rfl ?_)
  refine P1 T.ok rfl rfl rfl ?_; refine WL_nil ?_; (with_reducible refine T_then ?_); refine W_seq ?_; refine W_region ?_; refine P1 T.ok rfl rfl rfl ?_; refine WL_nil ?_; (with_reducible refine T_then ?_); refine W_block ?_
  have rs7d := rs7; have le0d := le0; have le8d := le8
  refine W_loop (fun m a' w => ∃ (i : Nat) (s : List UInt8) (g3 : G), w = g3.w ∧ St g g3 [] ∧ G.le g' g3 ∧ i ≤ 4 ∧ m = 4 - i ∧ s.length ≤ 8192 + i ∧
   Fr 150 [] [(3, .slice va cs.length vc), (9, .bool true), (13, .string (bs s)), (14, .int .i64 i), (37, .slice (some ⟨bl, 0, none⟩) 2 2), (38, .int .i64 2), (39, .int .i64 k)] a') 4 (fun a' ha => ⟨0, s, g', rfl, hs, G.le.refl _, Nat.zero_le _, rfl, hsl, ha.keep (by (repeat (first | exact trivial | refine ⟨rfl, ?_⟩)))⟩) ?_
  clear hs le0 rs8 rs7 le8 hgs hsl hep
  rintro m a' _ ⟨i, s, g3, rfl, hs, le7, hi, rfl, hsl, ha'⟩
  have rs7 := rs7d.mono le7
  have le0 := le0d.trans le7
  revert a'
  (with_reducible refine T_wp ?_); refine W_seq ?_; refine W_seq ?_; refine W_region ?_; (iterate 5 refine P1 T.ok rfl rfl rfl ?_)
  by_cases hic : i ≤ cs.length
  ·refine WL_know 47 (b' := true) (by simp; omega) rfl ?_
   (iterate 3 refine P1 T.ok rfl rfl rfl ?_); refine WL_nil ?_; (with_reducible refine T_then ?_)
   by_cases hi3' : i ≤ 3
   ·refine W_yes (b := _) ?_ rfl ?_
    ·simp; omega
    refine W_skip ?_; (with_reducible refine T_then ?_); refine W_seq ?_; refine W_block ?_; refine W_seq ?_; refine W_region ?_; refine P1 T.ok rfl rfl rfl ?_
    refine WL_o rfl rfl (OpR_ret cl16 allF rfl rfl rfl rfl rfl (parse_c s _ (by omega) (hF.mono le0)) ?_); rintro g1 _ hf1 hp; replace hs := hs.call hf1; have hqe := hf1.le; replace le0 := G.le.trans le0 hqe; replace rs7 := rs7.mono hqe
    replace le7 := le7.trans hqe
    cases hpm : parseM s with
    | inl f =>
     rw [hpm] at hp
     obtain ⟨_, rfl, a5, n5, c5, a6, n6, c6, rfl, rs4, rs5⟩ := hp
     (iterate 4 refine P1 T.ok rfl rfl rfl ?_)
     refine WL_o rfl rfl (OpR_alloc T.ok rfl hs rfl rfl ?_); clear hs; rintro b15 g1 hs hqe; replace le0 := G.le.trans le0 hqe; replace rs4 := rs4.mono hqe; replace rs5 := rs5.mono hqe; replace rs7 := rs7.mono hqe
     replace le7 := le7.trans hqe
     skip
     refine WL_n rfl (OpR_storeO T.ok 0 rfl hs rfl rfl rfl rfl rfl rfl rfl rfl rfl ?_); replace hs := hs; rintro g1 hs hqe; replace le0 := G.le.trans le0 hqe; replace rs4 := rs4.mono hqe; replace rs5 := rs5.mono hqe; replace rs7 := rs7.mono hqe
     replace le7 := le7.trans hqe
     refine P1 T.ok rfl rfl rfl ?_; refine P1 T.ok rfl rfl rfl ?_; refine WL_nil ?_; (with_reducible refine T_then ?_); refine W_seq ?_; refine W_region ?_; refine P1 T.ok rfl rfl rfl ?_
     refine WL_o rfl rfl (OpR_ret cl17 allF rfl rfl rfl rfl rfl (rparse_c s _ (by omega)) ?_); rintro g1 _ hf1 hp; replace hs := hs.call hf1; have hqe := hf1.le; replace le0 := G.le.trans le0 hqe; replace rs4 := rs4.mono hqe; replace rs5 := rs5.mono hqe; replace rs7 := rs7.mono hqe
     replace le7 := le7.trans hqe
     rw [hpm] at hp
     obtain ⟨_, rfl, e5, en5, ec5, e6, en6, ec6, rfl, rs2, rs3⟩ := hp
     (iterate 4 refine P1 T.ok rfl rfl rfl ?_)
     refine WL_o rfl rfl (OpR_alloc T.ok rfl hs rfl rfl ?_); clear hs; rintro b18 g1 hs hqe; replace le0 := G.le.trans le0 hqe; replace rs2 := rs2.mono hqe; replace rs3 := rs3.mono hqe; replace rs4 := rs4.mono hqe; replace rs5 := rs5.mono hqe; replace rs7 := rs7.mono hqe
     replace le7 := le7.trans hqe
     skip
     refine WL_n rfl (OpR_storeO T.ok 0 rfl hs rfl rfl rfl rfl rfl rfl rfl rfl rfl ?_); replace hs := hs; rintro g1 hs hqe; replace le0 := G.le.trans le0 hqe; replace rs2 := rs2.mono hqe; replace rs3 := rs3.mono hqe; replace rs4 := rs4.mono hqe; replace rs5 := rs5.mono hqe; replace rs7 := rs7.mono hqe
     replace le7 := le7.trans hqe
     refine P1 T.ok rfl rfl rfl ?_; refine P1 T.ok rfl rfl rfl ?_; refine WL_nil ?_; (with_reducible refine T_then ?_); refine W_seq ?_; refine W_seq ?_; refine W_region ?_; (iterate 9 refine P1 T.ok rfl rfl rfl ?_); refine WL_o rfl rfl (OpR_loadO T.ok 1 rfl hs rfl rfl rfl ?_); refine WL_o rfl rfl (OpR_loadO T.ok 0 rfl hs rfl rfl rfl ?_)
     refine WL_o rfl rfl (OpR_ret cl15 allF rfl rfl rfl rfl rfl (rsame_c _ _ f f _ ⟨_, _, _, _, _, _, rfl, rs4, rs5⟩ ⟨_, _, _, _, _, _, rfl, rs2, rs3⟩) ?_); rintro g1 _ hf1 hp; replace hs := hs.call hf1; have hqe := hf1.le; replace le0 := G.le.trans le0 hqe; replace rs2 := rs2.mono hqe; replace rs3 := rs3.mono hqe; replace rs4 := rs4.mono hqe; replace rs5 := rs5.mono hqe; replace rs7 := rs7.mono hqe
     replace le7 := le7.trans hqe
     rw [(sameF_iff f f).2 rfl] at hp
     subst hp
     replace hs : St g g1 [] := (hs.drop 0).drop 0
     clear rs2 rs3 rs4 rs5
     refine P1 T.ok rfl rfl rfl ?_; refine P1 T.ok rfl rfl rfl ?_; refine WL_nil ?_; (with_reducible refine T_then ?_)
     refine W_no rfl rfl ?_
     refine W_skip ?_; (with_reducible refine T_then ?_); refine W_seq ?_; refine W_seq ?_; refine W_region ?_; (iterate 5 refine P1 T.ok rfl rfl rfl ?_)
     by_cases hin : (i : Int) = (cs.length : Int)
     ·refine WL_know 83 (b' := true) (by simp; omega) rfl ?_
      refine S1 allF rfl rfl ?_; refine S1 allF rfl rfl ?_; refine P1 T.ok rfl rfl rfl ?_; refine WL_nil ?_; (with_reducible refine T_then ?_)
      refine W_yes rfl rfl ?_
      refine W_exit ?_; (with_reducible refine T_tx ?_); (with_reducible refine T_bx ?_); (with_reducible refine T_then ?_); refine W_region ?_; (iterate 3 refine P1 T.ok rfl rfl rfl ?_); refine WL_nil ?_
      exact fun a ha => ⟨4 - (i + 1), by omega, i + 1, s, _, rfl, hs, le7, by omega, rfl, by omega, ha.keep ⟨rfl, rfl, rfl, kI rfl (by rw [wr (by omega) (by omega)]; omega), rfl, rfl, rfl, trivial⟩⟩
     ·refine WL_know 83 (b' := false) (by simp; omega) rfl ?_
      (iterate 3 refine P1 T.ok rfl rfl rfl ?_); refine WL_nil ?_; (with_reducible refine T_then ?_)
      by_cases hi3 : i = 3
      ·refine W_yes (b := _) ?_ rfl ?_
       ·simp; omega
       refine W_exit ?_; (with_reducible refine T_tx ?_); (with_reducible refine T_bx ?_); (with_reducible refine T_then ?_); refine W_region ?_; (iterate 3 refine P1 T.ok rfl rfl rfl ?_); refine WL_nil ?_
       exact fun a ha => ⟨4 - (i + 1), by omega, i + 1, s, _, rfl, hs, le7, by omega, rfl, by omega, ha.keep ⟨rfl, rfl, rfl, kI rfl (by rw [wr (by omega) (by omega)]; omega), rfl, rfl, rfl, trivial⟩⟩
      ·refine W_no (b := _) ?_ rfl ?_
       ·simp; omega
       have hil : i < cs.length := by omega
       have hgz : geti cs (i : Int) = some cs[i] := geti_of rfl hil
       have hfit := hcs _ (List.getElem_mem hil)
       generalize cs[i] = z at *
       have hpr := pickM_range (c := z.z0) (n := ((s.length + 1 : Nat) : Int)) (by omega)
       obtain ⟨kk, hkk⟩ : ∃ kk : Nat, pickM z.z0 ((s.length + 1 : Nat) : Int) = kk := ⟨(pickM z.z0 ((s.length + 1 : Nat) : Int)).toNat, by omega⟩
       have hp1 := pickM_range (c := z.z1) (n := 256) (by omega)
       have hp2 := pickM_range (c := z.z2) (n := 3) (by omega)
       refine W_skip ?_; (with_reducible refine T_then ?_); refine W_seq ?_; refine W_region ?_; refine P1 T.ok rfl rfl rfl ?_; refine P1 T.ok rfl rfl rfl ?_
       refine WL_o rfl rfl (OpR_idx T.ok rfl rs7 (y := z) hgz rfl rfl rfl rfl rfl rfl ?_)
       rintro bq pq ys hep rfl
       refine WL_o rfl rfl (OpR_idxA T.ok (q := 0) rfl rfl rfl rfl rfl rfl (by decide) ?_)
       refine WL_o rfl rfl (OpR_loadE T.ok 0 rfl (hep.sub 0 rfl) rfl rfl ?_)
       (iterate 3 refine P1 T.ok rfl rfl rfl ?_)
       refine WL_re (.int .i64 ((s.length + 1 : Nat) : Int)) (t := 94) rfl (congrArg (Value.int .i64) (by rw [bs_size, wr (by omega) (by omega)]; omega)) ?_
       have hcall := lpick_c z.z0 ((s.length + 1 : Nat) : Int) g1 hfit.h0 (by omega)
       rw [hkk] at hcall hpr
       refine WL_o rfl rfl (OpR_ret cl18 allF rfl rfl rfl rfl rfl (hcall) ?_); rintro g1 _ hf1 rfl; replace hs := hs.call hf1; have hqe := hf1.le; replace le0 := G.le.trans le0 hqe; replace rs7 := rs7.mono hqe
       replace le7 := le7.trans hqe
       clear hcall
       have hkl : kk ≤ s.length := by omega
       refine P1 T.ok rfl rfl rfl ?_; refine WL_nil ?_; (with_reducible refine T_then ?_); refine W_seq ?_; refine W_region ?_; refine P1 T.ok rfl rfl rfl ?_; refine P1 T.ok rfl rfl rfl ?_
       refine WL_o rfl rfl (OpR_idx T.ok rfl rs7 (y := z) hgz rfl rfl rfl rfl rfl rfl ?_)
       rintro bq pq ys hep rfl
       refine WL_o rfl rfl (OpR_idxA T.ok (q := 1) rfl rfl rfl rfl rfl rfl (by decide) ?_)
       refine WL_o rfl rfl (OpR_loadE T.ok 0 rfl (hep.sub 1 rfl) rfl rfl ?_)
       skip
       have hcall := lpick_c z.z1 256 g1 hfit.h1 (by decide)
       refine WL_o rfl rfl (OpR_ret cl18 allF rfl rfl rfl rfl rfl (hcall) ?_); rintro g1 _ hf1 rfl; replace hs := hs.call hf1; have hqe := hf1.le; replace le0 := G.le.trans le0 hqe; replace rs7 := rs7.mono hqe
       replace le7 := le7.trans hqe
       clear hcall
       obtain ⟨d0, hd0⟩ : ∃ d : Nat, pickM z.z1 256 = d := ⟨(pickM z.z1 256).toNat, by omega⟩
       rw [hd0] at hp1 ⊢
       have hd8 : (UInt8.ofNat d0).toNat = d0 := by rw [UInt8.toNat_ofNat']; omega
       generalize UInt8.ofNat d0 = d at *
       refine P2 T.ok rfl rfl rfl ?_
       refine WL_re (.int .u8 (d.toNat : Int)) (t := 102) rfl (congrArg (Value.int .u8) (by rw [hd8]; exact wrapU8 (by omega) (by omega))) ?_
       refine WL_o rfl rfl (OpR_lit T.ok rfl hs (vs := [(0, .int .u8 (d.toNat : Int))]) (cells := [.int .u8 (d.toNat : Int)]) rfl rfl rfl rfl rfl rfl (by decide) (by decide) (by kernel_rfl) rfl ?_)
       clear hs
       rintro bl gl hs hqe; replace le0 := G.le.trans le0 hqe; replace rs7 := rs7.mono hqe
       replace le7 := le7.trans hqe
       obtain ⟨gz, hwz, hsz, hqz, rs9⟩ := hs.fzRow (α := UInt8) (xs := [d]) (i := 0) rfl (RcL.bytes _ [d])
       have hqe := hqz; rw [← hwz]; replace hs := hsz; clear hsz; replace le0 := G.le.trans le0 hqe; replace rs7 := rs7.mono hqe
       replace le7 := le7.trans hqe
       replace hs : St g gz [] := hs
       obtain ⟨_, news, hnw, hsrc⟩ := Src.of_rs rs9
       obtain rfl := RcL.bytes_inv hnw
       refine WL_o rfl rfl (OpR_bytesStr T.ok (ns := [(d.toNat : Int)]) rfl rfl rfl rfl rfl rfl rfl rfl hsrc ?_)
       rw [show ([(d.toNat : Int)].map fun m => UInt8.ofNat m.toNat) = [d] from bs_ints [d]]
       clear hsrc hnw rs9
       refine P1 T.ok rfl rfl rfl ?_; refine WL_nil ?_; (with_reducible refine T_then ?_); refine W_seq ?_; refine W_region ?_; refine P1 T.ok rfl rfl rfl ?_; refine P1 T.ok rfl rfl rfl ?_
       refine WL_o rfl rfl (OpR_idx T.ok rfl rs7 (y := z) hgz rfl rfl rfl rfl rfl rfl ?_)
       rintro bq pq ys hep rfl
       refine WL_o rfl rfl (OpR_idxA T.ok (q := 2) rfl rfl rfl rfl rfl rfl (by decide) ?_)
       refine WL_o rfl rfl (OpR_loadE T.ok 0 rfl (hep.sub 2 rfl) rfl rfl ?_)
       skip
       have hcall := lpick_c z.z2 3 gz hfit.h2 (by decide)
       refine WL_o rfl rfl (OpR_ret cl18 allF rfl rfl rfl rfl rfl (hcall) ?_); rintro g1 _ hf1 rfl; replace hs := hs.call hf1; have hqe := hf1.le; replace le0 := G.le.trans le0 hqe; replace rs7 := rs7.mono hqe
       replace le7 := le7.trans hqe
       clear hcall
       obtain ⟨r, hr⟩ : ∃ r : Nat, pickM z.z2 3 = r := ⟨(pickM z.z2 3).toNat, by omega⟩
       rw [hr] at hp2 ⊢
       have hr3 : r < 3 := by omega
       clear hp2 hr
       match r, hr3 with
       | 0, _ =>
        refine WL_nil ?_; (with_reducible refine T_then ?_); refine W_block ?_; refine W_seq ?_; refine W_region ?_; refine P1 T.ok rfl rfl rfl ?_; refine P1 T.ok rfl rfl rfl ?_; refine WL_nil ?_; (with_reducible refine T_then ?_)
        refine W_yes rfl rfl ?_
        skip
        apply W_draw allF rfl (Fact.eq _ :: Fact.eq _ :: Fact.eq _ :: Fact.eq _ :: Fact.eq _ :: Fact.eq _ :: Fact.eq _ :: Fact.eq _ :: Fact.eq _ :: []) 9 [(8, 134)] rfl rfl
        ·refine D_s (js := []) (by kernel_rfl) (fun _ _ => QA_nil (DPu T.ok rfl rfl rfl)) ?_
         refine D_s (js := []) (by kernel_rfl) (fun _ _ => QA_nil (DPu T.ok rfl rfl rfl)) ?_
         refine D_cons (D_step2 (js := [(0, 126), (1, 127)]) (by kernel_rfl) fun gd hf => ?_) ?_
         ·have hsd := hs.dr.call hf; have hfe := (G.le_dr _).trans hf.le
          refine QA_eq rfl ?_; refine QA_eq rfl ?_
          refine QA_nil ?_
          refine D_yes rfl ?_
          refine OpR_cutS T.ok (s := s) (a := 0) (b := kk) rfl rfl rfl rfl (rfl) (⟨_, rfl⟩) (by omega) (by omega) ?_
          exact ⟨_, rfl, Fr0.refl _, rfl⟩
         refine D_s (js := []) (by kernel_rfl) (fun _ _ => QA_nil (DPu T.ok rfl rfl rfl)) ?_
         refine D_cons (D_step2 (js := [(2, 128), (3, 129)]) (by kernel_rfl) fun gd hf => ?_) ?_
         ·have hsd := hs.dr.call hf; have hfe := (G.le_dr _).trans hf.le
          refine QA_eq rfl ?_; refine QA_eq rfl ?_
          refine QA_nil ?_
          refine D_yes rfl ?_
          refine OpR_addS (p := (s.take kk).drop 0) (q := [d]) rfl rfl rfl (by simp only [List.length_take, List.length_drop, List.length_cons, List.length_nil]; omega) ?_
          exact ⟨_, rfl, Fr0.refl _, rfl⟩
         refine D_s (js := []) (by kernel_rfl) (fun _ _ => QA_nil (DPu T.ok rfl rfl rfl)) ?_
         refine D_s (js := []) (by kernel_rfl) (fun _ _ => QA_nil (DPu T.ok rfl rfl rfl)) ?_
         refine D_cons (D_step2 (js := [(5, 131), (6, 132)]) (by kernel_rfl) fun gd hf => ?_) ?_
         ·have hsd := hs.dr.call hf; have hfe := (G.le_dr _).trans hf.le
          refine QA_eq rfl ?_; refine QA_eq rfl ?_
          refine QA_nil ?_
          refine D_yes rfl ?_
          refine OpR_cutS T.ok (s := s) (a := kk) (b := s.length) rfl rfl rfl rfl (⟨_, rfl⟩) (rfl) (by omega) (by omega) ?_
          exact ⟨_, rfl, Fr0.refl _, rfl⟩
         refine D_cons (D_step2 (js := [(4, 130), (7, 133)]) (by kernel_rfl) fun gd hf => ?_) ?_
         ·have hsd := hs.dr.call hf; have hfe := (G.le_dr _).trans hf.le
          refine QA_eq rfl ?_; refine QA_eq rfl ?_
          refine QA_nil ?_
          refine D_yes rfl ?_
          refine OpR_addS (p := (s.take kk).drop 0 ++ [d]) (q := (s.take s.length).drop kk) rfl rfl rfl (by simp only [List.length_append, List.length_take, List.length_drop, List.length_cons, List.length_nil]; omega) ?_
          exact ⟨_, rfl, Fr0.refl _, rfl⟩
         exact D_nil
        intro g1 hf1; refine QA_eq rfl ?_; refine QA_nil ?_
        replace hs := hs.dr.call hf1; have hqe := (G.le_dr _).trans hf1.le; replace le0 := G.le.trans le0 hqe; replace rs7 := rs7.mono hqe
        replace le7 := le7.trans hqe
        refine P1 T.ok rfl rfl rfl ?_; refine WL_nil ?_; (with_reducible refine T_bn ?_; with_reducible refine T_bn ?_); (with_reducible refine T_then ?_); refine W_region ?_; (iterate 3 refine P1 T.ok rfl rfl rfl ?_); refine WL_nil ?_
        exact fun a ha => ⟨4 - (i + 1), by omega, i + 1, (s.take kk).drop 0 ++ [d] ++ (s.take s.length).drop kk, _, rfl, hs, le7, by omega, rfl, by simp only [List.length_append, List.length_take, List.length_drop, List.length_cons, List.length_nil]; omega, ha.keep ⟨rfl, rfl, rfl, kI rfl (by rw [wr (by omega) (by omega)]; omega), rfl, rfl, rfl, trivial⟩⟩
       | 1, _ =>
        refine WL_nil ?_; (with_reducible refine T_then ?_); refine W_block ?_; refine W_seq ?_; refine W_region ?_; refine P1 T.ok rfl rfl rfl ?_; refine P1 T.ok rfl rfl rfl ?_; refine WL_nil ?_; (with_reducible refine T_then ?_)
        refine W_no rfl rfl ?_
        refine W_seq ?_; refine W_region ?_; refine P1 T.ok rfl rfl rfl ?_; refine P1 T.ok rfl rfl rfl ?_; refine WL_nil ?_; (with_reducible refine T_then ?_)
        refine W_yes rfl rfl ?_
        skip
        apply W_draw allF rfl (Fact.eq _ :: Fact.eq _ :: Fact.eq _ :: Fact.eq _ :: Fact.eq _ :: Fact.eq _ :: Fact.eq _ :: Fact.eq _ :: Fact.eq _ :: Fact.eq _ :: Fact.eq _ :: []) 11 [(10, 147)] rfl rfl
        ·refine D_s (js := []) (by kernel_rfl) (fun _ _ => QA_nil (DPu T.ok rfl rfl rfl)) ?_
         refine D_s (js := []) (by kernel_rfl) (fun _ _ => QA_nil (DPu T.ok rfl rfl rfl)) ?_
         refine D_cons (D_step2 (js := [(0, 137), (1, 138)]) (by kernel_rfl) fun gd hf => ?_) ?_
         ·have hsd := hs.dr.call hf; have hfe := (G.le_dr _).trans hf.le
          refine QA_eq rfl ?_; refine QA_eq rfl ?_
          refine QA_nil ?_
          refine D_yes rfl ?_
          refine OpR_cutS T.ok (s := s) (a := 0) (b := kk) rfl rfl rfl rfl (rfl) (⟨_, rfl⟩) (by omega) (by omega) ?_
          exact ⟨_, rfl, Fr0.refl _, rfl⟩
         refine D_s (js := []) (by kernel_rfl) (fun _ _ => QA_nil (DPu T.ok rfl rfl rfl)) ?_
         refine D_s (js := []) (by kernel_rfl) (fun _ _ => QA_nil (DPu T.ok rfl rfl rfl)) ?_
         refine D_cons (D_step2 (js := [(4, 141)]) (by kernel_rfl) fun gd hf => ?_) ?_
         ·have hsd := hs.dr.call hf; have hfe := (G.le_dr _).trans hf.le
          refine QA_eq rfl ?_
          refine QA_nil ?_
          refine D_yes rfl ?_
          refine OpR_pure _ T.ok rfl ?_
          refine ⟨_, rfl, Fr0.refl _, ?_⟩
          exact congrArg (Value.int .i64) (show _ = ((kk + 1 : Nat) : Int) from wr (by omega) (by omega))
         refine D_s (js := []) (by kernel_rfl) (fun _ _ => QA_nil (DPu T.ok rfl rfl rfl)) ?_
         refine D_cons (D_step2 (js := [(6, 143)]) (by kernel_rfl) fun gd hf => ?_) ?_
         ·have hsd := hs.dr.call hf; have hfe := (G.le_dr _).trans hf.le
          refine QA_eq rfl ?_
          refine QA_nil ?_
          refine D_yes rfl ?_
          refine OpR_pure _ T.ok rfl ?_
          refine ⟨_, rfl, Fr0.refl _, ?_⟩
          exact congrArg (Value.int .i64) (show _ = (s.length : Int) from by rw [bs_size])
         refine D_cons (D_step2 (js := [(5, 142), (7, 144)]) (by kernel_rfl) fun gd hf => ?_) ?_
         ·have hsd := hs.dr.call hf; have hfe := (G.le_dr _).trans hf.le
          refine QA_eq rfl ?_; refine QA_eq rfl ?_
          refine QA_nil ?_
          refine D_yes rfl ?_
          refine OpR_pure _ T.ok rfl ?_
          refine ⟨_, rfl, Fr0.refl _, ?_⟩
          exact congrArg (Value.int .i64) (min_int (kk + 1) s.length)
         refine D_cons (D_step2 (js := [(3, 140), (8, 145)]) (by kernel_rfl) fun gd hf => ?_) ?_
         ·have hsd := hs.dr.call hf; have hfe := (G.le_dr _).trans hf.le
          refine QA_eq rfl ?_; refine QA_eq rfl ?_
          refine QA_nil ?_
          refine D_yes rfl ?_
          refine OpR_cutS T.ok (s := s) (a := min (kk + 1) s.length) (b := s.length) rfl rfl rfl rfl (⟨_, rfl⟩) (rfl) (by omega) (by omega) ?_
          exact ⟨_, rfl, Fr0.refl _, rfl⟩
         refine D_cons (D_step2 (js := [(2, 139), (9, 146)]) (by kernel_rfl) fun gd hf => ?_) ?_
         ·have hsd := hs.dr.call hf; have hfe := (G.le_dr _).trans hf.le
          refine QA_eq rfl ?_; refine QA_eq rfl ?_
          refine QA_nil ?_
          refine D_yes rfl ?_
          refine OpR_addS (p := (s.take kk).drop 0) (q := (s.take s.length).drop (min (kk + 1) s.length)) rfl rfl rfl (by simp only [List.length_take, List.length_drop]; omega) ?_
          exact ⟨_, rfl, Fr0.refl _, rfl⟩
         exact D_nil
        intro g1 hf1; refine QA_eq rfl ?_; refine QA_nil ?_
        replace hs := hs.dr.call hf1; have hqe := (G.le_dr _).trans hf1.le; replace le0 := G.le.trans le0 hqe; replace rs7 := rs7.mono hqe
        replace le7 := le7.trans hqe
        refine P1 T.ok rfl rfl rfl ?_; refine WL_nil ?_; (with_reducible refine T_bn ?_; with_reducible refine T_bn ?_); (with_reducible refine T_then ?_); refine W_region ?_; (iterate 3 refine P1 T.ok rfl rfl rfl ?_); refine WL_nil ?_
        exact fun a ha => ⟨4 - (i + 1), by omega, i + 1, (s.take kk).drop 0 ++ (s.take s.length).drop (min (kk + 1) s.length), _, rfl, hs, le7, by omega, rfl, by simp only [List.length_append, List.length_take, List.length_drop]; omega, ha.keep ⟨rfl, rfl, rfl, kI rfl (by rw [wr (by omega) (by omega)]; omega), rfl, rfl, rfl, trivial⟩⟩
       | 2, _ =>
        refine WL_nil ?_; (with_reducible refine T_then ?_); refine W_block ?_; refine W_seq ?_; refine W_region ?_; refine P1 T.ok rfl rfl rfl ?_; refine P1 T.ok rfl rfl rfl ?_; refine WL_nil ?_; (with_reducible refine T_then ?_)
        refine W_no rfl rfl ?_
        refine W_seq ?_; refine W_region ?_; refine P1 T.ok rfl rfl rfl ?_; refine P1 T.ok rfl rfl rfl ?_; refine WL_nil ?_; (with_reducible refine T_then ?_)
        refine W_no rfl rfl ?_
        skip
        apply W_draw allF rfl (Fact.eq _ :: Fact.eq _ :: Fact.eq _ :: Fact.eq _ :: Fact.eq _ :: Fact.eq _ :: Fact.eq _ :: Fact.eq _ :: Fact.eq _ :: Fact.eq _ :: Fact.eq _ :: Fact.eq _ :: Fact.eq _ :: []) 13 [(12, 123)] rfl rfl
        ·refine D_s (js := []) (by kernel_rfl) (fun _ _ => QA_nil (DPu T.ok rfl rfl rfl)) ?_
         refine D_s (js := []) (by kernel_rfl) (fun _ _ => QA_nil (DPu T.ok rfl rfl rfl)) ?_
         refine D_cons (D_step2 (js := [(0, 111), (1, 112)]) (by kernel_rfl) fun gd hf => ?_) ?_
         ·have hsd := hs.dr.call hf; have hfe := (G.le_dr _).trans hf.le
          refine QA_eq rfl ?_; refine QA_eq rfl ?_
          refine QA_nil ?_
          refine D_yes rfl ?_
          refine OpR_cutS T.ok (s := s) (a := 0) (b := kk) rfl rfl rfl rfl (rfl) (⟨_, rfl⟩) (by omega) (by omega) ?_
          exact ⟨_, rfl, Fr0.refl _, rfl⟩
         refine D_s (js := []) (by kernel_rfl) (fun _ _ => QA_nil (DPu T.ok rfl rfl rfl)) ?_
         refine D_cons (D_step2 (js := [(2, 113), (3, 114)]) (by kernel_rfl) fun gd hf => ?_) ?_
         ·have hsd := hs.dr.call hf; have hfe := (G.le_dr _).trans hf.le
          refine QA_eq rfl ?_; refine QA_eq rfl ?_
          refine QA_nil ?_
          refine D_yes rfl ?_
          refine OpR_addS (p := (s.take kk).drop 0) (q := [d]) rfl rfl rfl (by simp only [List.length_take, List.length_drop, List.length_cons, List.length_nil]; omega) ?_
          exact ⟨_, rfl, Fr0.refl _, rfl⟩
         refine D_s (js := []) (by kernel_rfl) (fun _ _ => QA_nil (DPu T.ok rfl rfl rfl)) ?_
         refine D_s (js := []) (by kernel_rfl) (fun _ _ => QA_nil (DPu T.ok rfl rfl rfl)) ?_
         refine D_cons (D_step2 (js := [(6, 117)]) (by kernel_rfl) fun gd hf => ?_) ?_
         ·have hsd := hs.dr.call hf; have hfe := (G.le_dr _).trans hf.le
          refine QA_eq rfl ?_
          refine QA_nil ?_
          refine D_yes rfl ?_
          refine OpR_pure _ T.ok rfl ?_
          refine ⟨_, rfl, Fr0.refl _, ?_⟩
          exact congrArg (Value.int .i64) (show _ = ((kk + 1 : Nat) : Int) from wr (by omega) (by omega))
         refine D_s (js := []) (by kernel_rfl) (fun _ _ => QA_nil (DPu T.ok rfl rfl rfl)) ?_
         refine D_cons (D_step2 (js := [(8, 119)]) (by kernel_rfl) fun gd hf => ?_) ?_
         ·have hsd := hs.dr.call hf; have hfe := (G.le_dr _).trans hf.le
          refine QA_eq rfl ?_
          refine QA_nil ?_
          refine D_yes rfl ?_
          refine OpR_pure _ T.ok rfl ?_
          refine ⟨_, rfl, Fr0.refl _, ?_⟩
          exact congrArg (Value.int .i64) (show _ = (s.length : Int) from by rw [bs_size])
         refine D_cons (D_step2 (js := [(7, 118), (9, 120)]) (by kernel_rfl) fun gd hf => ?_) ?_
         ·have hsd := hs.dr.call hf; have hfe := (G.le_dr _).trans hf.le
          refine QA_eq rfl ?_; refine QA_eq rfl ?_
          refine QA_nil ?_
          refine D_yes rfl ?_
          refine OpR_pure _ T.ok rfl ?_
          refine ⟨_, rfl, Fr0.refl _, ?_⟩
          exact congrArg (Value.int .i64) (min_int (kk + 1) s.length)
         refine D_cons (D_step2 (js := [(5, 116), (10, 121)]) (by kernel_rfl) fun gd hf => ?_) ?_
         ·have hsd := hs.dr.call hf; have hfe := (G.le_dr _).trans hf.le
          refine QA_eq rfl ?_; refine QA_eq rfl ?_
          refine QA_nil ?_
          refine D_yes rfl ?_
          refine OpR_cutS T.ok (s := s) (a := min (kk + 1) s.length) (b := s.length) rfl rfl rfl rfl (⟨_, rfl⟩) (rfl) (by omega) (by omega) ?_
          exact ⟨_, rfl, Fr0.refl _, rfl⟩
         refine D_cons (D_step2 (js := [(4, 115), (11, 122)]) (by kernel_rfl) fun gd hf => ?_) ?_
         ·have hsd := hs.dr.call hf; have hfe := (G.le_dr _).trans hf.le
          refine QA_eq rfl ?_; refine QA_eq rfl ?_
          refine QA_nil ?_
          refine D_yes rfl ?_
          refine OpR_addS (p := (s.take kk).drop 0 ++ [d]) (q := (s.take s.length).drop (min (kk + 1) s.length)) rfl rfl rfl (by simp only [List.length_append, List.length_take, List.length_drop, List.length_cons, List.length_nil]; omega) ?_
          exact ⟨_, rfl, Fr0.refl _, rfl⟩
         exact D_nil
        intro g1 hf1; refine QA_eq rfl ?_; refine QA_nil ?_
        replace hs := hs.dr.call hf1; have hqe := (G.le_dr _).trans hf1.le; replace le0 := G.le.trans le0 hqe; replace rs7 := rs7.mono hqe
        replace le7 := le7.trans hqe
        refine P1 T.ok rfl rfl rfl ?_; refine WL_nil ?_; (with_reducible refine T_bn ?_; with_reducible refine T_bn ?_); (with_reducible refine T_then ?_); refine W_region ?_; (iterate 3 refine P1 T.ok rfl rfl rfl ?_); refine WL_nil ?_
        exact fun a ha => ⟨4 - (i + 1), by omega, i + 1, (s.take kk).drop 0 ++ [d] ++ (s.take s.length).drop (min (kk + 1) s.length), _, rfl, hs, le7, by omega, rfl, by simp only [List.length_append, List.length_take, List.length_drop, List.length_cons, List.length_nil]; omega, ha.keep ⟨rfl, rfl, rfl, kI rfl (by rw [wr (by omega) (by omega)]; omega), rfl, rfl, rfl, trivial⟩⟩
    | inr q =>
     rw [hpm] at hp
     obtain rfl := hp
     (iterate 4 refine P1 T.ok rfl rfl rfl ?_)
     refine WL_o rfl rfl (OpR_alloc T.ok rfl hs rfl rfl ?_); clear hs; rintro b15 g1 hs hqe; replace le0 := G.le.trans le0 hqe; replace rs7 := rs7.mono hqe
     replace le7 := le7.trans hqe
     skip
     refine WL_n rfl (OpR_storeO T.ok 0 rfl hs rfl rfl rfl rfl rfl rfl rfl rfl rfl ?_); replace hs := hs; rintro g1 hs hqe; replace le0 := G.le.trans le0 hqe; replace rs7 := rs7.mono hqe
     replace le7 := le7.trans hqe
     refine P1 T.ok rfl rfl rfl ?_; refine P1 T.ok rfl rfl rfl ?_; refine WL_nil ?_; (with_reducible refine T_then ?_); refine W_seq ?_; refine W_region ?_; refine P1 T.ok rfl rfl rfl ?_
     refine WL_o rfl rfl (OpR_ret cl17 allF rfl rfl rfl rfl rfl (rparse_c s _ (by omega)) ?_); rintro g1 _ hf1 hp; replace hs := hs.call hf1; have hqe := hf1.le; replace le0 := G.le.trans le0 hqe; replace rs7 := rs7.mono hqe
     replace le7 := le7.trans hqe
     rw [hpm] at hp
     obtain rfl := hp
     (iterate 4 refine P1 T.ok rfl rfl rfl ?_)
     refine WL_o rfl rfl (OpR_alloc T.ok rfl hs rfl rfl ?_); clear hs; rintro b18 g1 hs hqe; replace le0 := G.le.trans le0 hqe; replace rs7 := rs7.mono hqe
     replace le7 := le7.trans hqe
     skip
     refine WL_n rfl (OpR_storeO T.ok 0 rfl hs rfl rfl rfl rfl rfl rfl rfl rfl rfl ?_); replace hs := hs; rintro g1 hs hqe; replace le0 := G.le.trans le0 hqe; replace rs7 := rs7.mono hqe
     replace le7 := le7.trans hqe
     refine P1 T.ok rfl rfl rfl ?_; refine P1 T.ok rfl rfl rfl ?_; refine WL_nil ?_; (with_reducible refine T_then ?_); refine W_seq ?_; refine W_seq ?_; refine W_region ?_; (iterate 4 refine P1 T.ok rfl rfl rfl ?_)
     refine WL_know 68 (b' := false) (by simp) rfl ?_
     (iterate 5 refine P1 T.ok rfl rfl rfl ?_); refine WL_o rfl rfl (OpR_loadO T.ok 1 rfl hs rfl rfl rfl ?_); refine WL_o rfl rfl (OpR_loadO T.ok 0 rfl hs rfl rfl rfl ?_)
     refine WL_o rfl rfl (OpR_ret cl15 allF rfl rfl rfl rfl rfl (rsame_c _ _ flow0 flow0 _ (rflow0 _) (rflow0 _)) ?_); rintro g1 _ hf1 hp; replace hs := hs.call hf1; have hqe := hf1.le; replace le0 := G.le.trans le0 hqe; replace rs7 := rs7.mono hqe
     replace le7 := le7.trans hqe
     rw [(sameF_iff flow0 flow0).2 rfl] at hp
     subst hp
     replace hs : St g g1 [] := (hs.drop 0).drop 0
     refine P1 T.ok rfl rfl rfl ?_; refine P1 T.ok rfl rfl rfl ?_; refine WL_nil ?_; (with_reducible refine T_then ?_)
     refine W_no rfl rfl ?_
     refine W_skip ?_; (with_reducible refine T_then ?_); refine W_seq ?_; refine W_seq ?_; refine W_region ?_; (iterate 5 refine P1 T.ok rfl rfl rfl ?_)
     by_cases hin : (i : Int) = (cs.length : Int)
     ·refine WL_know 83 (b' := true) (by simp; omega) rfl ?_
      refine S1 allF rfl rfl ?_; refine S1 allF rfl rfl ?_; refine P1 T.ok rfl rfl rfl ?_; refine WL_nil ?_; (with_reducible refine T_then ?_)
      refine W_yes rfl rfl ?_
      refine W_exit ?_; (with_reducible refine T_tx ?_); (with_reducible refine T_bx ?_); (with_reducible refine T_then ?_); refine W_region ?_; (iterate 3 refine P1 T.ok rfl rfl rfl ?_); refine WL_nil ?_
      exact fun a ha => ⟨4 - (i + 1), by omega, i + 1, s, _, rfl, hs, le7, by omega, rfl, by omega, ha.keep ⟨rfl, rfl, rfl, kI rfl (by rw [wr (by omega) (by omega)]; omega), rfl, rfl, rfl, trivial⟩⟩
     ·refine WL_know 83 (b' := false) (by simp; omega) rfl ?_
      (iterate 3 refine P1 T.ok rfl rfl rfl ?_); refine WL_nil ?_; (with_reducible refine T_then ?_)
      by_cases hi3 : i = 3
      ·refine W_yes (b := _) ?_ rfl ?_
       ·simp; omega
       refine W_exit ?_; (with_reducible refine T_tx ?_); (with_reducible refine T_bx ?_); (with_reducible refine T_then ?_); refine W_region ?_; (iterate 3 refine P1 T.ok rfl rfl rfl ?_); refine WL_nil ?_
       exact fun a ha => ⟨4 - (i + 1), by omega, i + 1, s, _, rfl, hs, le7, by omega, rfl, by omega, ha.keep ⟨rfl, rfl, rfl, kI rfl (by rw [wr (by omega) (by omega)]; omega), rfl, rfl, rfl, trivial⟩⟩
      ·refine W_no (b := _) ?_ rfl ?_
       ·simp; omega
       have hil : i < cs.length := by omega
       have hgz : geti cs (i : Int) = some cs[i] := geti_of rfl hil
       have hfit := hcs _ (List.getElem_mem hil)
       generalize cs[i] = z at *
       have hpr := pickM_range (c := z.z0) (n := ((s.length + 1 : Nat) : Int)) (by omega)
       obtain ⟨kk, hkk⟩ : ∃ kk : Nat, pickM z.z0 ((s.length + 1 : Nat) : Int) = kk := ⟨(pickM z.z0 ((s.length + 1 : Nat) : Int)).toNat, by omega⟩
       have hp1 := pickM_range (c := z.z1) (n := 256) (by omega)
       have hp2 := pickM_range (c := z.z2) (n := 3) (by omega)
       refine W_skip ?_; (with_reducible refine T_then ?_); refine W_seq ?_; refine W_region ?_; refine P1 T.ok rfl rfl rfl ?_; refine P1 T.ok rfl rfl rfl ?_
       refine WL_o rfl rfl (OpR_idx T.ok rfl rs7 (y := z) hgz rfl rfl rfl rfl rfl rfl ?_)
       rintro bq pq ys hep rfl
       refine WL_o rfl rfl (OpR_idxA T.ok (q := 0) rfl rfl rfl rfl rfl rfl (by decide) ?_)
       refine WL_o rfl rfl (OpR_loadE T.ok 0 rfl (hep.sub 0 rfl) rfl rfl ?_)
       (iterate 3 refine P1 T.ok rfl rfl rfl ?_)
       refine WL_re (.int .i64 ((s.length + 1 : Nat) : Int)) (t := 94) rfl (congrArg (Value.int .i64) (by rw [bs_size, wr (by omega) (by omega)]; omega)) ?_
       have hcall := lpick_c z.z0 ((s.length + 1 : Nat) : Int) g1 hfit.h0 (by omega)
       rw [hkk] at hcall hpr
       refine WL_o rfl rfl (OpR_ret cl18 allF rfl rfl rfl rfl rfl (hcall) ?_); rintro g1 _ hf1 rfl; replace hs := hs.call hf1; have hqe := hf1.le; replace le0 := G.le.trans le0 hqe; replace rs7 := rs7.mono hqe
       replace le7 := le7.trans hqe
       clear hcall
       have hkl : kk ≤ s.length := by omega
       refine P1 T.ok rfl rfl rfl ?_; refine WL_nil ?_; (with_reducible refine T_then ?_); refine W_seq ?_; refine W_region ?_; refine P1 T.ok rfl rfl rfl ?_; refine P1 T.ok rfl rfl rfl ?_
       refine WL_o rfl rfl (OpR_idx T.ok rfl rs7 (y := z) hgz rfl rfl rfl rfl rfl rfl ?_)
       rintro bq pq ys hep rfl
       refine WL_o rfl rfl (OpR_idxA T.ok (q := 1) rfl rfl rfl rfl rfl rfl (by decide) ?_)
       refine WL_o rfl rfl (OpR_loadE T.ok 0 rfl (hep.sub 1 rfl) rfl rfl ?_)
       skip
       have hcall := lpick_c z.z1 256 g1 hfit.h1 (by decide)
       refine WL_o rfl rfl (OpR_ret cl18 allF rfl rfl rfl rfl rfl (hcall) ?_); rintro g1 _ hf1 rfl; replace hs := hs.call hf1; have hqe := hf1.le; replace le0 := G.le.trans le0 hqe; replace rs7 := rs7.mono hqe
       replace le7 := le7.trans hqe
       clear hcall
       obtain ⟨d0, hd0⟩ : ∃ d : Nat, pickM z.z1 256 = d := ⟨(pickM z.z1 256).toNat, by omega⟩
       rw [hd0] at hp1 ⊢
       have hd8 : (UInt8.ofNat d0).toNat = d0 := by rw [UInt8.toNat_ofNat']; omega
       generalize UInt8.ofNat d0 = d at *
       refine P2 T.ok rfl rfl rfl ?_
       refine WL_re (.int .u8 (d.toNat : Int)) (t := 102) rfl (congrArg (Value.int .u8) (by rw [hd8]; exact wrapU8 (by omega) (by omega))) ?_
       refine WL_o rfl rfl (OpR_lit T.ok rfl hs (vs := [(0, .int .u8 (d.toNat : Int))]) (cells := [.int .u8 (d.toNat : Int)]) rfl rfl rfl rfl rfl rfl (by decide) (by decide) (by kernel_rfl) rfl ?_)
       clear hs
       rintro bl gl hs hqe; replace le0 := G.le.trans le0 hqe; replace rs7 := rs7.mono hqe
       replace le7 := le7.trans hqe
       obtain ⟨gz, hwz, hsz, hqz, rs9⟩ := hs.fzRow (α := UInt8) (xs := [d]) (i := 0) rfl (RcL.bytes _ [d])
       have hqe := hqz; rw [← hwz]; replace hs := hsz; clear hsz; replace le0 := G.le.trans le0 hqe; replace rs7 := rs7.mono hqe
       replace le7 := le7.trans hqe
       replace hs : St g gz [] := hs
       obtain ⟨_, news, hnw, hsrc⟩ := Src.of_rs rs9
       obtain rfl := RcL.bytes_inv hnw
       refine WL_o rfl rfl (OpR_bytesStr T.ok (ns := [(d.toNat : Int)]) rfl rfl rfl rfl rfl rfl rfl rfl hsrc ?_)
       rw [show ([(d.toNat : Int)].map fun m => UInt8.ofNat m.toNat) = [d] from bs_ints [d]]
       clear hsrc hnw rs9
       refine P1 T.ok rfl rfl rfl ?_; refine WL_nil ?_; (with_reducible refine T_then ?_); refine W_seq ?_; refine W_region ?_; refine P1 T.ok rfl rfl rfl ?_; refine P1 T.ok rfl rfl rfl ?_
       refine WL_o rfl rfl (OpR_idx T.ok rfl rs7 (y := z) hgz rfl rfl rfl rfl rfl rfl ?_)
       rintro bq pq ys hep rfl
       refine WL_o rfl rfl (OpR_idxA T.ok (q := 2) rfl rfl rfl rfl rfl rfl (by decide) ?_)
       refine WL_o rfl rfl (OpR_loadE T.ok 0 rfl (hep.sub 2 rfl) rfl rfl ?_)
       skip
       have hcall := lpick_c z.z2 3 gz hfit.h2 (by decide)
       refine WL_o rfl rfl (OpR_ret cl18 allF rfl rfl rfl rfl rfl (hcall) ?_); rintro g1 _ hf1 rfl; replace hs := hs.call hf1; have hqe := hf1.le; replace le0 := G.le.trans le0 hqe; replace rs7 := rs7.mono hqe
       replace le7 := le7.trans hqe
       clear hcall
       obtain ⟨r, hr⟩ : ∃ r : Nat, pickM z.z2 3 = r := ⟨(pickM z.z2 3).toNat, by omega⟩
       rw [hr] at hp2 ⊢
       have hr3 : r < 3 := by omega
       clear hp2 hr
       match r, hr3 with
       | 0, _ =>
        refine WL_nil ?_; (with_reducible refine T_then ?_); refine W_block ?_; refine W_seq ?_; refine W_region ?_; refine P1 T.ok rfl rfl rfl ?_; refine P1 T.ok rfl rfl rfl ?_; refine WL_nil ?_; (with_reducible refine T_then ?_)
        refine W_yes rfl rfl ?_
        skip
        apply W_draw allF rfl (Fact.eq _ :: Fact.eq _ :: Fact.eq _ :: Fact.eq _ :: Fact.eq _ :: Fact.eq _ :: Fact.eq _ :: Fact.eq _ :: Fact.eq _ :: []) 9 [(8, 134)] rfl rfl
        ·refine D_s (js := []) (by kernel_rfl) (fun _ _ => QA_nil (DPu T.ok rfl rfl rfl)) ?_
         refine D_s (js := []) (by kernel_rfl) (fun _ _ => QA_nil (DPu T.ok rfl rfl rfl)) ?_
         refine D_cons (D_step2 (js := [(0, 126), (1, 127)]) (by kernel_rfl) fun gd hf => ?_) ?_
         ·have hsd := hs.dr.call hf; have hfe := (G.le_dr _).trans hf.le
          refine QA_eq rfl ?_; refine QA_eq rfl ?_
          refine QA_nil ?_
          refine D_yes rfl ?_
          refine OpR_cutS T.ok (s := s) (a := 0) (b := kk) rfl rfl rfl rfl (rfl) (⟨_, rfl⟩) (by omega) (by omega) ?_
          exact ⟨_, rfl, Fr0.refl _, rfl⟩
         refine D_s (js := []) (by kernel_rfl) (fun _ _ => QA_nil (DPu T.ok rfl rfl rfl)) ?_
         refine D_cons (D_step2 (js := [(2, 128), (3, 129)]) (by kernel_rfl) fun gd hf => ?_) ?_
         ·have hsd := hs.dr.call hf; have hfe := (G.le_dr _).trans hf.le
          refine QA_eq rfl ?_; refine QA_eq rfl ?_
          refine QA_nil ?_
          refine D_yes rfl ?_
          refine OpR_addS (p := (s.take kk).drop 0) (q := [d]) rfl rfl rfl (by simp only [List.length_take, List.length_drop, List.length_cons, List.length_nil]; omega) ?_
          exact ⟨_, rfl, Fr0.refl _, rfl⟩
         refine D_s (js := []) (by kernel_rfl) (fun _ _ => QA_nil (DPu T.ok rfl rfl rfl)) ?_
         refine D_s (js := []) (by kernel_rfl) (fun _ _ => QA_nil (DPu T.ok rfl rfl rfl)) ?_
         refine D_cons (D_step2 (js := [(5, 131), (6, 132)]) (by kernel_rfl) fun gd hf => ?_) ?_
         ·have hsd := hs.dr.call hf; have hfe := (G.le_dr _).trans hf.le
          refine QA_eq rfl ?_; refine QA_eq rfl ?_
          refine QA_nil ?_
          refine D_yes rfl ?_
          refine OpR_cutS T.ok (s := s) (a := kk) (b := s.length) rfl rfl rfl rfl (⟨_, rfl⟩) (rfl) (by omega) (by omega) ?_
          exact ⟨_, rfl, Fr0.refl _, rfl⟩
         refine D_cons (D_step2 (js := [(4, 130), (7, 133)]) (by kernel_rfl) fun gd hf => ?_) ?_
         ·have hsd := hs.dr.call hf; have hfe := (G.le_dr _).trans hf.le
          refine QA_eq rfl ?_; refine QA_eq rfl ?_
          refine QA_nil ?_
          refine D_yes rfl ?_
          refine OpR_addS (p := (s.take kk).drop 0 ++ [d]) (q := (s.take s.length).drop kk) rfl rfl rfl (by simp only [List.length_append, List.length_take, List.length_drop, List.length_cons, List.length_nil]; omega) ?_
          exact ⟨_, rfl, Fr0.refl _, rfl⟩
         exact D_nil
        intro g1 hf1; refine QA_eq rfl ?_; refine QA_nil ?_
        replace hs := hs.dr.call hf1; have hqe := (G.le_dr _).trans hf1.le; replace le0 := G.le.trans le0 hqe; replace rs7 := rs7.mono hqe
        replace le7 := le7.trans hqe
        refine P1 T.ok rfl rfl rfl ?_; refine WL_nil ?_; (with_reducible refine T_bn ?_; with_reducible refine T_bn ?_); (with_reducible refine T_then ?_); refine W_region ?_; (iterate 3 refine P1 T.ok rfl rfl rfl ?_); refine WL_nil ?_
        exact fun a ha => ⟨4 - (i + 1), by omega, i + 1, (s.take kk).drop 0 ++ [d] ++ (s.take s.length).drop kk, _, rfl, hs, le7, by omega, rfl, by simp only [List.length_append, List.length_take, List.length_drop, List.length_cons, List.length_nil]; omega, ha.keep ⟨rfl, rfl, rfl, kI rfl (by rw [wr (by omega) (by omega)]; omega), rfl, rfl, rfl, trivial⟩⟩
       | 1, _ =>
        refine WL_nil ?_; (with_reducible refine T_then ?_); refine W_block ?_; refine W_seq ?_; refine W_region ?_; refine P1 T.ok rfl rfl rfl ?_; refine P1 T.ok rfl rfl rfl ?_; refine WL_nil ?_; (with_reducible refine T_then ?_)
        refine W_no rfl rfl ?_
        refine W_seq ?_; refine W_region ?_; refine P1 T.ok rfl rfl rfl ?_; refine P1 T.ok rfl rfl rfl ?_; refine WL_nil ?_; (with_reducible refine T_then ?_)
        refine W_yes rfl rfl ?_
        skip
        apply W_draw allF rfl (Fact.eq _ :: Fact.eq _ :: Fact.eq _ :: Fact.eq _ :: Fact.eq _ :: Fact.eq _ :: Fact.eq _ :: Fact.eq _ :: Fact.eq _ :: Fact.eq _ :: Fact.eq _ :: []) 11 [(10, 147)] rfl rfl
        ·refine D_s (js := []) (by kernel_rfl) (fun _ _ => QA_nil (DPu T.ok rfl rfl rfl)) ?_
         refine D_s (js := []) (by kernel_rfl) (fun _ _ => QA_nil (DPu T.ok rfl rfl rfl)) ?_
         refine D_cons (D_step2 (js := [(0, 137), (1, 138)]) (by kernel_rfl) fun gd hf => ?_) ?_
         ·have hsd := hs.dr.call hf; have hfe := (G.le_dr _).trans hf.le
          refine QA_eq rfl ?_; refine QA_eq rfl ?_
          refine QA_nil ?_
          refine D_yes rfl ?_
          refine OpR_cutS T.ok (s := s) (a := 0) (b := kk) rfl rfl rfl rfl (rfl) (⟨_, rfl⟩) (by omega) (by omega) ?_
          exact ⟨_, rfl, Fr0.refl _, rfl⟩
         refine D_s (js := []) (by kernel_rfl) (fun _ _ => QA_nil (DPu T.ok rfl rfl rfl)) ?_
         refine D_s (js := []) (by kernel_rfl) (fun _ _ => QA_nil (DPu T.ok rfl rfl rfl)) ?_
         refine D_cons (D_step2 (js := [(4, 141)]) (by kernel_rfl) fun gd hf => ?_) ?_
         ·have hsd := hs.dr.call hf; have hfe := (G.le_dr _).trans hf.le
          refine QA_eq rfl ?_
          refine QA_nil ?_
          refine D_yes rfl ?_
          refine OpR_pure _ T.ok rfl ?_
          refine ⟨_, rfl, Fr0.refl _, ?_⟩
          exact congrArg (Value.int .i64) (show _ = ((kk + 1 : Nat) : Int) from wr (by omega) (by omega))
         refine D_s (js := []) (by kernel_rfl) (fun _ _ => QA_nil (DPu T.ok rfl rfl rfl)) ?_
         refine D_cons (D_step2 (js := [(6, 143)]) (by kernel_rfl) fun gd hf => ?_) ?_
         ·have hsd := hs.dr.call hf; have hfe := (G.le_dr _).trans hf.le
          refine QA_eq rfl ?_
          refine QA_nil ?_
          refine D_yes rfl ?_
          refine OpR_pure _ T.ok rfl ?_
          refine ⟨_, rfl, Fr0.refl _, ?_⟩
          exact congrArg (Value.int .i64) (show _ = (s.length : Int) from by rw [bs_size])
         refine D_cons (D_step2 (js := [(5, 142), (7, 144)]) (by kernel_rfl) fun gd hf => ?_) ?_
         ·have hsd := hs.dr.call hf; have hfe := (G.le_dr _).trans hf.le
          refine QA_eq rfl ?_; refine QA_eq rfl ?_
          refine QA_nil ?_
          refine D_yes rfl ?_
          refine OpR_pure _ T.ok rfl ?_
          refine ⟨_, rfl, Fr0.refl _, ?_⟩
          exact congrArg (Value.int .i64) (min_int (kk + 1) s.length)
         refine D_cons (D_step2 (js := [(3, 140), (8, 145)]) (by kernel_rfl) fun gd hf => ?_) ?_
         ·have hsd := hs.dr.call hf; have hfe := (G.le_dr _).trans hf.le
          refine QA_eq rfl ?_; refine QA_eq rfl ?_
          refine QA_nil ?_
          refine D_yes rfl ?_
          refine OpR_cutS T.ok (s := s) (a := min (kk + 1) s.length) (b := s.length) rfl rfl rfl rfl (⟨_, rfl⟩) (rfl) (by omega) (by omega) ?_
          exact ⟨_, rfl, Fr0.refl _, rfl⟩
         refine D_cons (D_step2 (js := [(2, 139), (9, 146)]) (by kernel_rfl) fun gd hf => ?_) ?_
         ·have hsd := hs.dr.call hf; have hfe := (G.le_dr _).trans hf.le
          refine QA_eq rfl ?_; refine QA_eq rfl ?_
          refine QA_nil ?_
          refine D_yes rfl ?_
          refine OpR_addS (p := (s.take kk).drop 0) (q := (s.take s.length).drop (min (kk + 1) s.length)) rfl rfl rfl (by simp only [List.length_take, List.length_drop]; omega) ?_
          exact ⟨_, rfl, Fr0.refl _, rfl⟩
         exact D_nil
        intro g1 hf1; refine QA_eq rfl ?_; refine QA_nil ?_
        replace hs := hs.dr.call hf1; have hqe := (G.le_dr _).trans hf1.le; replace le0 := G.le.trans le0 hqe; replace rs7 := rs7.mono hqe
        replace le7 := le7.trans hqe
        refine P1 T.ok rfl rfl rfl ?_; refine WL_nil ?_; (with_reducible refine T_bn ?_; with_reducible refine T_bn ?_); (with_reducible refine T_then ?_); refine W_region ?_; (iterate 3 refine P1 T.ok rfl rfl rfl ?_); refine WL_nil ?_
        exact fun a ha => ⟨4 - (i + 1), by omega, i + 1, (s.take kk).drop 0 ++ (s.take s.length).drop (min (kk + 1) s.length), _, rfl, hs, le7, by omega, rfl, by simp only [List.length_append, List.length_take, List.length_drop]; omega, ha.keep ⟨rfl, rfl, rfl, kI rfl (by rw [wr (by omega) (by omega)]; omega), rfl, rfl, rfl, trivial⟩⟩
       | 2, _ =>
        refine WL_nil ?_; (with_reducible refine T_then ?_); refine W_block ?_; refine W_seq ?_; refine W_region ?_; refine P1 T.ok rfl rfl rfl ?_; refine P1 T.ok rfl rfl rfl ?_; refine WL_nil ?_; (with_reducible refine T_then ?_)
        refine W_no rfl rfl ?_
        refine W_seq ?_; refine W_region ?_; refine P1 T.ok rfl rfl rfl ?_; refine P1 T.ok rfl rfl rfl ?_; refine WL_nil ?_; (with_reducible refine T_then ?_)
        refine W_no rfl rfl ?_
        skip
        apply W_draw allF rfl (Fact.eq _ :: Fact.eq _ :: Fact.eq _ :: Fact.eq _ :: Fact.eq _ :: Fact.eq _ :: Fact.eq _ :: Fact.eq _ :: Fact.eq _ :: Fact.eq _ :: Fact.eq _ :: Fact.eq _ :: Fact.eq _ :: []) 13 [(12, 123)] rfl rfl
        ·refine D_s (js := []) (by kernel_rfl) (fun _ _ => QA_nil (DPu T.ok rfl rfl rfl)) ?_
         refine D_s (js := []) (by kernel_rfl) (fun _ _ => QA_nil (DPu T.ok rfl rfl rfl)) ?_
         refine D_cons (D_step2 (js := [(0, 111), (1, 112)]) (by kernel_rfl) fun gd hf => ?_) ?_
         ·have hsd := hs.dr.call hf; have hfe := (G.le_dr _).trans hf.le
          refine QA_eq rfl ?_; refine QA_eq rfl ?_
          refine QA_nil ?_
          refine D_yes rfl ?_
          refine OpR_cutS T.ok (s := s) (a := 0) (b := kk) rfl rfl rfl rfl (rfl) (⟨_, rfl⟩) (by omega) (by omega) ?_
          exact ⟨_, rfl, Fr0.refl _, rfl⟩
         refine D_s (js := []) (by kernel_rfl) (fun _ _ => QA_nil (DPu T.ok rfl rfl rfl)) ?_
         refine D_cons (D_step2 (js := [(2, 113), (3, 114)]) (by kernel_rfl) fun gd hf => ?_) ?_
         ·have hsd := hs.dr.call hf; have hfe := (G.le_dr _).trans hf.le
          refine QA_eq rfl ?_; refine QA_eq rfl ?_
          refine QA_nil ?_
          refine D_yes rfl ?_
          refine OpR_addS (p := (s.take kk).drop 0) (q := [d]) rfl rfl rfl (by simp only [List.length_take, List.length_drop, List.length_cons, List.length_nil]; omega) ?_
          exact ⟨_, rfl, Fr0.refl _, rfl⟩
         refine D_s (js := []) (by kernel_rfl) (fun _ _ => QA_nil (DPu T.ok rfl rfl rfl)) ?_
         refine D_s (js := []) (by kernel_rfl) (fun _ _ => QA_nil (DPu T.ok rfl rfl rfl)) ?_
         refine D_cons (D_step2 (js := [(6, 117)]) (by kernel_rfl) fun gd hf => ?_) ?_
         ·have hsd := hs.dr.call hf; have hfe := (G.le_dr _).trans hf.le
          refine QA_eq rfl ?_
          refine QA_nil ?_
          refine D_yes rfl ?_
          refine OpR_pure _ T.ok rfl ?_
          refine ⟨_, rfl, Fr0.refl _, ?_⟩
          exact congrArg (Value.int .i64) (show _ = ((kk + 1 : Nat) : Int) from wr (by omega) (by omega))
         refine D_s (js := []) (by kernel_rfl) (fun _ _ => QA_nil (DPu T.ok rfl rfl rfl)) ?_
         refine D_cons (D_step2 (js := [(8, 119)]) (by kernel_rfl) fun gd hf => ?_) ?_
         ·have hsd := hs.dr.call hf; have hfe := (G.le_dr _).trans hf.le
          refine QA_eq rfl ?_
          refine QA_nil ?_
          refine D_yes rfl ?_
          refine OpR_pure _ T.ok rfl ?_
          refine ⟨_, rfl, Fr0.refl _, ?_⟩
          exact congrArg (Value.int .i64) (show _ = (s.length : Int) from by rw [bs_size])
         refine D_cons (D_step2 (js := [(7, 118), (9, 120)]) (by kernel_rfl) fun gd hf => ?_) ?_
         ·have hsd := hs.dr.call hf; have hfe := (G.le_dr _).trans hf.le
          refine QA_eq rfl ?_; refine QA_eq rfl ?_
          refine QA_nil ?_
          refine D_yes rfl ?_
          refine OpR_pure _ T.ok rfl ?_
          refine ⟨_, rfl, Fr0.refl _, ?_⟩
          exact congrArg (Value.int .i64) (min_int (kk + 1) s.length)
         refine D_cons (D_step2 (js := [(5, 116), (10, 121)]) (by kernel_rfl) fun gd hf => ?_) ?_
         ·have hsd := hs.dr.call hf; have hfe := (G.le_dr _).trans hf.le
          refine QA_eq rfl ?_; refine QA_eq rfl ?_
          refine QA_nil ?_
          refine D_yes rfl ?_
          refine OpR_cutS T.ok (s := s) (a := min (kk + 1) s.length) (b := s.length) rfl rfl rfl rfl (⟨_, rfl⟩) (rfl) (by omega) (by omega) ?_
          exact ⟨_, rfl, Fr0.refl _, rfl⟩
         refine D_cons (D_step2 (js := [(4, 115), (11, 122)]) (by kernel_rfl) fun gd hf => ?_) ?_
         ·have hsd := hs.dr.call hf; have hfe := (G.le_dr _).trans hf.le
          refine QA_eq rfl ?_; refine QA_eq rfl ?_
          refine QA_nil ?_
          refine D_yes rfl ?_
          refine OpR_addS (p := (s.take kk).drop 0 ++ [d]) (q := (s.take s.length).drop (min (kk + 1) s.length)) rfl rfl rfl (by simp only [List.length_append, List.length_take, List.length_drop, List.length_cons, List.length_nil]; omega) ?_
          exact ⟨_, rfl, Fr0.refl _, rfl⟩
         exact D_nil
        intro g1 hf1; refine QA_eq rfl ?_; refine QA_nil ?_
        replace hs := hs.dr.call hf1; have hqe := (G.le_dr _).trans hf1.le; replace le0 := G.le.trans le0 hqe; replace rs7 := rs7.mono hqe
        replace le7 := le7.trans hqe
        refine P1 T.ok rfl rfl rfl ?_; refine WL_nil ?_; (with_reducible refine T_bn ?_; with_reducible refine T_bn ?_); (with_reducible refine T_then ?_); refine W_region ?_; (iterate 3 refine P1 T.ok rfl rfl rfl ?_); refine WL_nil ?_
        exact fun a ha => ⟨4 - (i + 1), by omega, i + 1, (s.take kk).drop 0 ++ [d] ++ (s.take s.length).drop (min (kk + 1) s.length), _, rfl, hs, le7, by omega, rfl, by simp only [List.length_append, List.length_take, List.length_drop, List.length_cons, List.length_nil]; omega, ha.keep ⟨rfl, rfl, rfl, kI rfl (by rw [wr (by omega) (by omega)]; omega), rfl, rfl, rfl, trivial⟩⟩
   ·refine W_no (b := _) ?_ rfl ?_
    ·simp; omega
    have le8 := le8d.trans le7
    refine W_exit ?_; (with_reducible refine T_tx ?_; with_reducible refine T_tx ?_); (with_reducible refine T_bx ?_); (with_reducible refine T_bn ?_); (with_reducible refine T_then ?_); refine W_region ?_; refine P1 T.ok rfl rfl rfl ?_; refine P1 T.ok rfl rfl rfl ?_; refine WL_nil ?_
    exact fun a ha => ⟨2 - (k + 1), by omega, k + 1, _, rfl, hs, le8, by omega, rfl, ha.keep ⟨rfl, rfl, rfl, rfl, kI rfl (by rw [wr (by omega) (by omega)]; omega), trivial⟩⟩
  ·refine WL_know 47 (b' := false) (by simp; omega) rfl ?_
   refine S1 allF rfl rfl ?_; refine S1 allF rfl rfl ?_; refine P1 T.ok rfl rfl rfl ?_; refine WL_nil ?_; (with_reducible refine T_then ?_)
   refine W_no rfl rfl ?_
   have le8 := le8d.trans le7
   refine W_exit ?_; (with_reducible refine T_tx ?_; with_reducible refine T_tx ?_); (with_reducible refine T_bx ?_); (with_reducible refine T_bn ?_); (with_reducible refine T_then ?_); refine W_region ?_; refine P1 T.ok rfl rfl rfl ?_; refine P1 T.ok rfl rfl rfl ?_; refine WL_nil ?_
   exact fun a ha => ⟨2 - (k + 1), by omega, k + 1, _, rfl, hs, le8, by omega, rfl, ha.keep ⟨rfl, rfl, rfl, rfl, kI rfl (by rw [wr (by omega) (by omega)]; omega), trivial⟩⟩
 ·refine W_no (b := _) ?_ rfl ?_
  ·simp; omega
  refine W_exit ?_; (with_reducible refine T_tx ?_; with_reducible refine T_tx ?_); (with_reducible refine T_bx ?_); (with_reducible refine T_then ?_); refine W_seq ?_; refine W_region ?_; refine P1 T.ok rfl rfl rfl ?_; refine P1 T.ok rfl rfl rfl ?_; refine WL_nil ?_; (with_reducible refine T_then ?_)
  refine W_ret ?_
  skip
  exact ret1 rfl rfl (hs.ret rfl)

end Go.Proofs.YtnaeopehmdcplaaGreatDoor
