/- The walks through the reference's digest: Sum, Chain, Head. -/
import Derived.Test.YteohjgndanlldaaGreatDoorWl
import Derived.Test.YteohjgndanlldaaGreatDoorWa

/- The reference's digest: the padding. -/
namespace Go.Proofs.YteohjgndanlldaaGreatDoor
open Go Go.K
set_option maxRecDepth 10000
attribute [local irreducible] W WL OpR bitAnd bitOr bitXor bitClr bitNot shlI shrI
set_option maxHeartbeats 2000000


theorem extended_c (s : List UInt8) (g : G) (hl : s.length ≤ 1099511627776) : CallsIn Wd 0 Tryz.prog 58 #[.string (bs s)] g.w (Ret g fun g' r => Rs g' r (padded s)) := by
 have hs := St.start g
 have le0 := G.le.refl g
 have hpe := padded_eq s
 generalize padded s = pb at *
 refine enter Tryz.func58 rfl Tryz.ntmps58 rfl ?_
 refine W_seq ?_; refine W_region ?_; refine P1 T.ok rfl rfl rfl ?_; refine WL_nil ?_; (with_reducible refine T_then ?_); refine W_seq ?_; refine W_region ?_; refine P1 T.ok rfl rfl rfl ?_; refine WL_nil ?_; (with_reducible refine T_then ?_); refine W_seq ?_; refine W_seq ?_; refine W_region ?_; refine P1 T.ok rfl rfl rfl ?_; refine WL_nil ?_; (with_reducible refine T_then ?_); refine W_block ?_
 replace hs := hs.nilrow 5 1 none
 refine W_loop (fun m a' w => ∃ (i : Nat) (ad : Option Addr) (c : Nat) (g2 : G), w = g2.w ∧ St g g2 [.row 5 1 (.slice ad i c) i (byteV (s.take i))] ∧ G.le g g2 ∧ i ≤ s.length ∧ m = s.length - i ∧
   Fr 43 [] [(0, .string (bs s)), (3, .slice ad i c), (4, .int .i64 i)] a') s.length
  (fun a' ha => ⟨0, none, 0, g, rfl, hs, le0, Nat.zero_le _, rfl, ha.keep (by (repeat (first | exact trivial | refine ⟨rfl, ?_⟩)))⟩) ?_
 clear hs le0
 rintro m a' _ ⟨i, ad, cc, g2, rfl, hs, le0, hi, rfl, ha'⟩
 revert a'
 (with_reducible refine T_wp ?_); refine W_seq ?_; refine W_seq ?_; refine W_region ?_; (iterate 4 refine P1 T.ok rfl rfl rfl ?_); refine WL_nil ?_; (with_reducible refine T_then ?_)
 by_cases hlt : i < s.length
 ·refine W_yes (b := decide ((i : Int) < ((bs s).size : Int))) (decide_eq_true (by rw [bs_size]; omega)) rfl ?_
  have htk : s.take (i + 1) = s.take i ++ [s[i]] := by rw [List.take_add_one, List.getElem?_eq_getElem hlt]; rfl
  refine W_skip ?_; (with_reducible refine T_then ?_); refine W_seq ?_; refine W_block ?_; refine W_region ?_; (iterate 3 refine P1 T.ok rfl rfl rfl ?_)
  refine WL_o rfl rfl (OpR_idxS T.ok rfl rfl rfl rfl rfl (by omega) (by omega) ?_)
  refine WL_re (.int .u8 (s[i].toNat : Int)) (t := 15) rfl rfl ?_
  generalize s[i] = x at *
  skip
  refine WL_o rfl rfl (OpR_lit T.ok rfl hs (vs := [(0, .int .u8 ((x.toNat : Int)))]) (cells := [.int .u8 ((x.toNat : Int))]) rfl rfl rfl rfl rfl rfl (by decide) (by decide) (by kernel_rfl) rfl ?_); rintro bl gl hs hqe; replace le0 := G.le.trans le0 hqe
  skip
  refine WL_o rfl rfl (OpR_append T.ok 1 rfl hs rfl rfl rfl rfl rfl rfl rfl (by decide) rfl (Src.of_row (hs.own 0 _ rfl).1).2 (by simp [Value.oneCell']) (by show ((i) + 1) * 1 ≤ _; omega) (by unfold maxLen; omega) ?_); rintro a9 c9 g9 hs hqe; replace le0 := G.le.trans le0 hqe
  replace hs := hs.drop 0
  refine P1 T.ok rfl rfl rfl ?_; refine WL_nil ?_; (with_reducible refine T_bn ?_); (with_reducible refine T_then ?_); refine W_region ?_; (iterate 3 refine P1 T.ok rfl rfl rfl ?_); refine WL_nil ?_
  exact fun a ha => ⟨s.length - (i + 1), by omega, i + 1, a9, c9, g9, rfl, by rw [htk, byteV_app]; exact hs, le0, by omega, rfl, ha.keep ⟨rfl, rfl, kI rfl (by rw [wr (by omega) (by omega)]; omega), trivial⟩⟩
 ·refine W_no (b := decide ((i : Int) < ((bs s).size : Int))) (decide_eq_false (by rw [bs_size]; omega)) rfl ?_
  obtain rfl : i = s.length := by omega
  rw [List.take_length] at hs
  refine W_exit ?_; (with_reducible refine T_tx ?_; with_reducible refine T_tx ?_); (with_reducible refine T_bx ?_); (with_reducible refine T_then ?_); refine W_seq ?_; refine W_region ?_; refine P1 T.ok rfl rfl rfl ?_
  refine WL_o rfl rfl (OpR_lit T.ok rfl hs (vs := [(0, .int .u8 (128))]) (cells := [.int .u8 (128)]) rfl rfl rfl rfl rfl rfl (by decide) (by decide) (by kernel_rfl) rfl ?_); rintro bl gl hs hqe; replace le0 := G.le.trans le0 hqe
  skip
  refine WL_o rfl rfl (OpR_append T.ok 1 rfl hs rfl rfl rfl rfl rfl rfl rfl (by decide) rfl (Src.of_row (hs.own 0 _ rfl).1).2 (by simp [Value.oneCell']) (by show ((s.length) + 1) * 1 ≤ _; omega) (by unfold maxLen; omega) ?_); rintro a9 c9 g9 hs hqe; replace le0 := G.le.trans le0 hqe
  replace hs := hs.drop 0
  refine P1 T.ok rfl rfl rfl ?_; refine WL_nil ?_; (with_reducible refine T_then ?_); refine W_seq ?_; refine W_block ?_
  replace hs : St g g9 [.row 5 1 (.slice a9 (s.length + 1) c9) (s.length + 1) (byteV (s ++ [128] ++ List.replicate 0 0))] := by
   simpa [byteV] using hs
  have hpn := padN_le s.length
  refine W_loop (fun m a' w => ∃ (j : Nat) (ad : Option Addr) (c : Nat) (g2 : G), w = g2.w ∧ St g g2 [.row 5 1 (.slice ad (s.length + 1 + j) c) (s.length + 1 + j) (byteV (s ++ [128] ++ List.replicate j 0))] ∧ G.le g g2 ∧ j ≤ padN s.length ∧ m = padN s.length - j ∧
    Fr 43 [] [(0, .string (bs s)), (3, .slice ad (s.length + 1 + j) c)] a') (padN s.length)
   (fun a' ha => ⟨0, a9, c9, g9, rfl, hs, le0, Nat.zero_le _, rfl, ha.keep (by (repeat (first | exact trivial | refine ⟨rfl, ?_⟩)))⟩) ?_
  clear hs le0
  rintro m a' _ ⟨j, ad, cc, g2, rfl, hs, le0, hj, rfl, ha'⟩
  revert a'
  have hmod : ((s.length + 1 + j : Nat) : Int).tmod 64 = (((s.length + 1 + j) % 64 : Nat) : Int) := by rw [Int.tmod_eq_emod_of_nonneg (by omega)]; omega
  (with_reducible refine T_wp ?_); refine W_seq ?_; refine W_seq ?_; refine W_region ?_; (iterate 4 refine P1 T.ok rfl rfl rfl ?_); refine WL_nil ?_; (with_reducible refine T_then ?_)
  by_cases hlt : j < padN s.length
  ·refine W_yes (b := ((s.length + 1 + j : Nat) : Int).tmod 64 != 56) (by have := padN_step hlt; rw [hmod]; simp; omega) rfl ?_
   refine W_skip ?_; (with_reducible refine T_then ?_); refine W_block ?_; refine W_region ?_; refine P1 T.ok rfl rfl rfl ?_
   refine WL_o rfl rfl (OpR_lit T.ok rfl hs (vs := [(0, .int .u8 (0))]) (cells := [.int .u8 (0)]) rfl rfl rfl rfl rfl rfl (by decide) (by decide) (by kernel_rfl) rfl ?_); rintro bl gl hs hqe; replace le0 := G.le.trans le0 hqe
   skip
   refine WL_o rfl rfl (OpR_append T.ok 1 rfl hs rfl rfl rfl rfl rfl rfl rfl (by decide) rfl (Src.of_row (hs.own 0 _ rfl).1).2 (by simp [Value.oneCell']) (by show ((s.length + 1 + j) + 1) * 1 ≤ _; omega) (by unfold maxLen; omega) ?_); rintro a9 c9 g9 hs hqe; replace le0 := G.le.trans le0 hqe
   replace hs := hs.drop 0
   refine P1 T.ok rfl rfl rfl ?_; refine WL_nil ?_; (with_reducible refine T_bn ?_)
   exact fun a ha => ⟨padN s.length - (j + 1), by omega, j + 1, a9, c9, _, rfl, by rw [List.replicate_succ']; simpa [byteV, List.map_append, Nat.add_assoc] using hs, le0, by omega, rfl, ha.keep (by (repeat (first | exact trivial | refine ⟨rfl, ?_⟩)))⟩
  ·obtain rfl : j = padN s.length := by omega
   have h5 := padN_end s.length
   refine W_no (b := ((s.length + 1 + padN s.length : Nat) : Int).tmod 64 != 56) (by rw [hmod, h5]; rfl) rfl ?_
   generalize hln : s.length + 1 + padN s.length = n1 at *
   have hn1 : (s ++ [128] ++ List.replicate (padN s.length) 0).length = n1 := by simp; omega
   generalize s ++ [128] ++ List.replicate (padN s.length) 0 = p1 at *
   refine W_exit ?_; (with_reducible refine T_tx ?_; with_reducible refine T_tx ?_); (with_reducible refine T_bx ?_); (with_reducible refine T_then ?_); refine W_seq ?_; refine W_seq ?_; refine W_region ?_; refine P1 T.ok rfl rfl rfl ?_; refine WL_nil ?_; (with_reducible refine T_then ?_); refine W_block ?_
   refine W_loop (fun m a' w => ∃ (i : Nat) (ad : Option Addr) (c : Nat) (g3 : G), w = g3.w ∧ St g g3 [.row 5 1 (.slice ad (n1 + i) c) (n1 + i) (byteV (p1 ++ lens s.length i))] ∧ G.le g g3 ∧ i ≤ 8 ∧ m = 8 - i ∧
     Fr 43 [] [(0, .string (bs s)), (3, .slice ad (n1 + i) c), (5, .int .i64 (7 - (i : Int)))] a') 8
    (fun a' ha => ⟨0, ad, cc, g2, rfl, by simpa [lens] using hs, le0, Nat.zero_le _, rfl, ha.keep (by (repeat (first | exact trivial | refine ⟨rfl, ?_⟩)))⟩) ?_
   clear hs le0
   rintro m a' _ ⟨i, ad, cc, g3, rfl, hs, le0, hi, rfl, ha'⟩
   revert a'
   (with_reducible refine T_wp ?_); refine W_seq ?_; refine W_seq ?_; refine W_region ?_; refine P1 T.ok rfl rfl rfl ?_; refine P1 T.ok rfl rfl rfl ?_; refine WL_nil ?_; (with_reducible refine T_then ?_)
   by_cases hli : i < 8
   ·refine W_yes (b := decide ((0 : Int) ≤ 7 - (i : Int))) (decide_eq_true (by omega)) rfl ?_
    have hls := lens_succ s.length i
    refine W_skip ?_; (with_reducible refine T_then ?_); refine W_seq ?_; refine W_block ?_; refine W_region ?_; (iterate 6 refine P1 T.ok rfl rfl rfl ?_)
    refine WL_re (.int .i64 ((8 * (7 - i) : Nat) : Int)) (t := 37) rfl (congrArg (Value.int .i64) (by rw [wr (by omega) (by omega)]; omega)) ?_
    refine WL_o rfl rfl (OpR_shrV rfl rfl rfl (by omega) ?_)
    rw [Int.toNat_natCast]
    refine P2 T.ok rfl rfl rfl ?_
    refine WL_re (.int .u8 ((lenByte s.length (7 - i)).toNat : Int)) (t := 39) rfl (congrArg (Value.int .u8) (by unfold lenByte; rw [byte_wrap, bs_size])) ?_
    generalize lenByte s.length (7 - i) = lb at *
    refine WL_o rfl rfl (OpR_lit T.ok rfl hs (vs := [(0, .int .u8 ((lb.toNat : Int)))]) (cells := [.int .u8 ((lb.toNat : Int))]) rfl rfl rfl rfl rfl rfl (by decide) (by decide) (by kernel_rfl) rfl ?_); rintro bl gl hs hqe; replace le0 := G.le.trans le0 hqe
    skip
    refine WL_o rfl rfl (OpR_append T.ok 1 rfl hs rfl rfl rfl rfl rfl rfl rfl (by decide) rfl (Src.of_row (hs.own 0 _ rfl).1).2 (by simp [Value.oneCell']) (by show ((n1 + i) + 1) * 1 ≤ _; omega) (by unfold maxLen; omega) ?_); rintro a9 c9 g9 hs hqe; replace le0 := G.le.trans le0 hqe
    replace hs := hs.drop 0
    refine P1 T.ok rfl rfl rfl ?_; refine WL_nil ?_; (with_reducible refine T_bn ?_); (with_reducible refine T_then ?_); refine W_region ?_; (iterate 3 refine P1 T.ok rfl rfl rfl ?_); refine WL_nil ?_
    exact fun a ha => ⟨8 - (i + 1), by omega, i + 1, a9, c9, _, rfl, by rw [hls]; simpa [byteV, List.map_append, Nat.add_assoc] using hs, le0, by omega, rfl, ha.keep ⟨rfl, rfl, kI rfl (by rw [wr (by omega) (by omega)]; omega), trivial⟩⟩
   ·refine W_no (b := decide ((0 : Int) ≤ 7 - (i : Int))) (decide_eq_false (by omega)) rfl ?_
    obtain rfl : i = 8 := by omega
    rw [← hpe] at hs
    obtain ⟨gz, hwz, hsz, hqz, rs0⟩ := hs.fzRow (α := UInt8) (xs := pb) (i := 0) rfl (RcL.bytes _ _)
    have hqe := hqz; rw [← hwz]; replace hs := hsz; clear hsz
    refine W_exit ?_; (with_reducible refine T_tx ?_; with_reducible refine T_tx ?_); (with_reducible refine T_bx ?_); (with_reducible refine T_then ?_); refine W_seq ?_; refine W_region ?_; refine P1 T.ok rfl rfl rfl ?_; refine P1 T.ok rfl rfl rfl ?_; refine WL_nil ?_; (with_reducible refine T_then ?_)
    exact W_ret (ret1 rfl rfl (hs.ret rs0))
end Go.Proofs.YteohjgndanlldaaGreatDoor

/- The reference's digest: Sum, Chain, Head. -/
namespace Go.Proofs.YteohjgndanlldaaGreatDoor
open Go Go.K
set_option maxRecDepth 10000
attribute [local irreducible] W WL OpR bitAnd bitOr bitXor bitClr bitNot shlI shrI
set_option maxHeartbeats 2000000

structure U8i where
 n : Int
instance : El U8i where
 k := 1
 pos := by omega
 rc _ cs x := cs = [.int .u8 x.n]
 len h := by rw [h]; rfl
 mono _ h := h
 one h := by rw [h]; simp [Value.oneCell']
theorem RcL.u8i (g : G) : ∀ xs : List Int, RcL g (xs.map (Value.int .u8)) (xs.map U8i.mk)
 | [] => rfl
 | x :: xs => ⟨[.int .u8 x], xs.map (Value.int .u8), rfl, rfl, RcL.u8i g xs⟩
theorem RcL.u8i_inv {g : G} : ∀ {xs : List Int} {cs : List Value}, RcL g cs (xs.map U8i.mk) → cs = xs.map (Value.int .u8)
 | [], _, h => h
 | x :: xs, _, ⟨_, _, e, h1, h2⟩ => by rw [e, RcL.u8i_inv h2, show _ = [Value.int .u8 x] from h1]; rfl
theorem dByte3 (h : V8) (i : Nat) : dByte h i 3 = IntKind.u8.wrap (h.ints.getD i 0) := by
 unfold dByte shrI
 rw [show (2 : Int) ^ min (24 - 8 * 3) IntKind.u32.bits = 1 from by decide, Int.fdiv_one]
theorem dTo4 (h : V8) (i : Nat) (hi : i < 8) : (dTo h (4 * i + 4)).take (4 * i + 4) = (dTo h (4 * i)).take (4 * i) ++ [dByte h i 0, dByte h i 1, dByte h i 2, dByte h i 3] := by
 rw [show 4 * i + 4 = (4 * i + 3) + 1 from rfl, dTo_take h (4 * i + 3) (by omega), show 4 * i + 3 = (4 * i + 2) + 1 from rfl, dTo_take h (4 * i + 2) (by omega), show 4 * i + 2 = (4 * i + 1) + 1 from rfl, dTo_take h (4 * i + 1) (by omega), dTo_take h (4 * i) (by omega)]
 rw [show (4 * i + 1 + 1 + 1) / 4 = i from by omega, show (4 * i + 1 + 1 + 1) % 4 = 3 from by omega, show (4 * i + 1 + 1) / 4 = i from by omega, show (4 * i + 1 + 1) % 4 = 2 from by omega, show (4 * i + 1) / 4 = i from by omega, show (4 * i + 1) % 4 = 1 from by omega, show (4 * i) / 4 = i from by omega, show (4 * i) % 4 = 0 from by omega]
 simp
theorem chunk_cut (b : List UInt8) (q : Nat) : (b.take (64 * q + 64)).drop (64 * q) = chunk b q := by
 unfold chunk
 rw [List.drop_take, show 64 * q + 64 - 64 * q = 64 from by omega]


theorem rsum_c (s : List UInt8) (g : G) (hl : s.length ≤ 1099511627776) : CallsIn Wd 0 Tryz.prog 28 #[.string (bs s)] g.w (Ret g fun _ r => r = .string (bs (sumM s))) := by
 have hs := St.start g
 have le0 := G.le.refl g
 refine enter Tryz.func28 rfl Tryz.ntmps28 rfl ?_
 refine W_seq ?_; refine W_region ?_; refine P1 T.ok rfl rfl rfl ?_; refine WL_nil ?_; (with_reducible refine T_then ?_); refine W_seq ?_; refine W_region ?_
 refine WL_o rfl rfl (OpR_lit T.ok rfl hs (vs := [(0, .int .u32 h0M.a0), (1, .int .u32 h0M.a1), (2, .int .u32 h0M.a2), (3, .int .u32 h0M.a3), (4, .int .u32 h0M.a4), (5, .int .u32 h0M.a5), (6, .int .u32 h0M.a6), (7, .int .u32 h0M.a7)]) (cells := h0M.cells) rfl rfl rfl rfl rfl rfl (by decide) (by decide) (by kernel_rfl) rfl ?_)
 clear hs
 rintro bl gl hs hqe; replace le0 := G.le.trans le0 hqe
 obtain ⟨gz, hwz, hsz, hqz, rs8⟩ := hs.fzRow (α := U32) (xs := h0M.ints.map U32.mk) (i := 0) rfl (RcL.u32s _ h0M.ints)
 have hqe := hqz; rw [← hwz]; replace hs := hsz; clear hsz; replace le0 := G.le.trans le0 hqe
 replace hs : St g gz [] := hs
 refine P1 T.ok rfl rfl rfl ?_; refine WL_nil ?_; (with_reducible refine T_then ?_); refine W_seq ?_; refine W_region ?_; refine P1 T.ok rfl rfl rfl ?_
 refine WL_o rfl rfl (OpR_ret cl58 allF rfl rfl rfl rfl rfl (extended_c s _ hl) ?_); rintro g1 vo hf1 rs0; replace hs := hs.call hf1; have hqe := hf1.le; replace le0 := G.le.trans le0 hqe; replace rs8 := rs8.mono hqe
 have hp64 := padded_len s
 have hpl : (padded s).length ≤ 1099511627776 + 200 := by
  unfold padded; simp [padN]; omega
 have hsm : sumM s = digestM (hTo (padded s) ((padded s).length / 64)) := rfl
 rw [hsm]
 clear hsm
 have h00 : h0M = hTo (padded s) 0 := rfl
 rw [h00] at rs8
 clear h00
 generalize padded s = pb at *
 obtain ⟨a, c, rfl⟩ := rs0.isSlice
 have hcap := rs0.cap_le
 refine P1 T.ok rfl rfl rfl ?_; refine WL_nil ?_; (with_reducible refine T_then ?_); refine W_seq ?_; refine W_seq ?_; refine W_region ?_; refine P1 T.ok rfl rfl rfl ?_; refine WL_nil ?_; (with_reducible refine T_then ?_); refine W_block ?_
 have le8 := G.le.refl g1
 have rs0c := rs0
 refine W_loop (fun m a' w => ∃ (q : Nat) (vv : Value) (g2 : G), w = g2.w ∧ St g g2 [] ∧ G.le g g2 ∧ G.le g1 g2 ∧ Rs g2 vv ((hTo pb q).ints.map U32.mk) ∧ q ≤ pb.length / 64 ∧ m = pb.length / 64 - q ∧
   Fr 56 [] [(3, vv), (4, .slice a pb.length c), (5, .int .i64 ((64 * q : Nat) : Int))] a') (pb.length / 64)
  (fun a' ha => ⟨0, _, g1, rfl, hs, le0, le8, rs8, Nat.zero_le _, rfl, ha.keep (by (repeat (first | exact trivial | refine ⟨rfl, ?_⟩)))⟩) ?_
 clear hs le0 le8 rs0 rs8
 rintro m a' _ ⟨q, vv, g2, rfl, hs, le0, le8, rs8, hq, rfl, ha'⟩
 have rs0 := rs0c.mono le8
 revert a'
 (with_reducible refine T_wp ?_); refine W_seq ?_; refine W_seq ?_; refine W_region ?_; (iterate 4 refine P1 T.ok rfl rfl rfl ?_); refine WL_nil ?_; (with_reducible refine T_then ?_)
 by_cases hlt : 64 * q < pb.length
 ·refine W_yes (b := decide (((64 * q : Nat) : Int) < (pb.length : Int))) (decide_eq_true (by omega)) rfl ?_
  have hts := hTo_succ pb q
  have rs2 := rs0.cut (a := 64 * q) (b := 64 * q + 64) (by omega) (by omega)
  rw [chunk_cut] at rs2
  have hcl : (chunk pb q).length = 64 := by unfold chunk; rw [List.length_take, List.length_drop]; omega
  refine W_skip ?_; (with_reducible refine T_then ?_); refine W_seq ?_; refine W_block ?_; refine W_region ?_; (iterate 5 refine P1 T.ok rfl rfl rfl ?_)
  refine WL_re (.int .i64 ((64 * q + 64 : Nat) : Int)) (t := 21) rfl (congrArg (Value.int .i64) (by rw [wr (by omega) (by omega)]; omega)) ?_
  refine WL_o rfl rfl (OpR_cut T.ok (a := 64 * q) (b := 64 * q + 64) rfl rfl rfl rfl rfl ⟨_, rfl⟩ ⟨_, rfl⟩ (by omega) (by omega) ?_)
  refine WL_o rfl rfl (OpR_ret cl59 allF rfl rfl rfl rfl rfl (block_c _ (hTo pb q) _ (chunk pb q) _ rs2 hcl rs8) ?_); rintro g3 vo hf1 rs9; replace hs := hs.call hf1; have hqe := hf1.le; replace le0 := G.le.trans le0 hqe; replace le8 := G.le.trans le8 hqe; replace rs0 := rs0.mono hqe; replace rs2 := rs2.mono hqe; replace rs8 := rs8.mono hqe
  refine P1 T.ok rfl rfl rfl ?_; refine WL_nil ?_; (with_reducible refine T_bn ?_); (with_reducible refine T_then ?_); refine W_region ?_; (iterate 3 refine P1 T.ok rfl rfl rfl ?_); refine WL_nil ?_
  exact fun a ha => ⟨pb.length / 64 - (q + 1), by omega, q + 1, vo, g3, rfl, hs, le0, le8, by rw [hts]; exact rs9, by omega, rfl, ha.keep ⟨rfl, rfl, kI rfl (by rw [wr (by omega) (by omega)]; omega), trivial⟩⟩
 ·refine W_no (b := decide (((64 * q : Nat) : Int) < (pb.length : Int))) (decide_eq_false (by omega)) rfl ?_
  obtain rfl : q = pb.length / 64 := by omega
  generalize hTo pb (pb.length / 64) = V at *
  clear rs0 rs0c
  refine W_exit ?_; (with_reducible refine T_tx ?_; with_reducible refine T_tx ?_); (with_reducible refine T_bx ?_); (with_reducible refine T_then ?_); refine W_seq ?_; refine W_region ?_; refine P1 T.ok rfl rfl rfl ?_; refine WL_nil ?_; (with_reducible refine T_then ?_); refine W_seq ?_; refine W_seq ?_; refine W_region ?_; refine P1 T.ok rfl rfl rfl ?_; refine WL_nil ?_; (with_reducible refine T_then ?_); refine W_block ?_
  replace hs := hs.nilrow 5 1 none
  have le9 := G.le.refl g2
  have rs8d := rs8
  refine W_loop (fun m a' w => ∃ (i : Nat) (ad : Option Addr) (c : Nat) (g3 : G), w = g3.w ∧ St g g3 [.row 5 1 (.slice ad (4 * i) c) (4 * i) (((dTo V (4 * i)).take (4 * i)).map (Value.int .u8))] ∧ G.le g g3 ∧ G.le g2 g3 ∧ i ≤ 8 ∧ m = 8 - i ∧
    Fr 56 [] [(3, vv), (6, .slice ad (4 * i) c), (7, .int .i64 i)] a') 8
   (fun a' ha => ⟨0, none, 0, g2, rfl, hs, le0, le9, Nat.zero_le _, rfl, ha.keep (by (repeat (first | exact trivial | refine ⟨rfl, ?_⟩)))⟩) ?_
  clear hs le0 le9 rs8
  rintro m a' _ ⟨i, ad, cc, g3, rfl, hs, le0, le9, hi, rfl, ha'⟩
  have rs8 := rs8d.mono le9
  revert a'
  (with_reducible refine T_wp ?_); refine W_seq ?_; refine W_seq ?_; refine W_region ?_; refine P1 T.ok rfl rfl rfl ?_; refine P1 T.ok rfl rfl rfl ?_; refine WL_nil ?_; (with_reducible refine T_then ?_)
  by_cases hlt : i < 8
  ·refine W_yes (b := decide ((i : Int) < 8)) (decide_eq_true (by omega)) rfl ?_
   have hd4 := dTo4 V i hlt
   rw [dByte3] at hd4
   refine W_skip ?_; (with_reducible refine T_then ?_); refine W_seq ?_; refine W_block ?_
   apply W_draw allF rfl (Fact.eq _ :: Fact.eq _ :: Fact.eq _ :: (wordPtr ((V.ints).getD (i) 0)) :: Fact.eq _ :: Fact.eq _ :: Fact.eq _ :: Fact.eq _ :: Fact.eq _ :: (wordPtr ((V.ints).getD (i) 0)) :: Fact.eq _ :: Fact.eq _ :: Fact.eq _ :: Fact.eq _ :: Fact.eq _ :: (wordPtr ((V.ints).getD (i) 0)) :: Fact.eq _ :: Fact.eq _ :: Fact.eq _ :: Fact.eq _ :: Fact.eq _ :: (wordPtr ((V.ints).getD (i) 0)) :: Fact.eq _ :: Fact.eq _ :: (Fact.rs ([⟨dByte V i 0⟩, ⟨dByte V i 1⟩, ⟨dByte V i 2⟩, ⟨IntKind.u8.wrap (V.ints.getD i 0)⟩] : List U8i)) :: []) 25 [(0, 28), (24, 52)] rfl rfl
   ·refine D_s (js := []) (by kernel_rfl) (fun _ _ => QA_nil (DPu T.ok rfl rfl rfl)) ?_
    refine D_s (js := []) (by kernel_rfl) (fun _ _ => QA_nil (DPu T.ok rfl rfl rfl)) ?_
    refine D_s (js := []) (by kernel_rfl) (fun _ _ => QA_nil (DPu T.ok rfl rfl rfl)) ?_
    refine D_cons (D_step2 (js := [(1, 29), (2, 30)]) (by kernel_rfl) fun gd hf => ?_) ?_
    ·have hsd := hs.dr.call hf; have hfe := (G.le_dr _).trans hf.le
     refine QA_eq rfl ?_; refine QA_eq rfl ?_
     refine QA_nil ?_
     refine D_yes rfl ?_
     refine OpR_idx T.ok rfl (rs8.mono hfe) (y := ⟨(V.ints).getD (i) 0⟩) (geti_u32 (j := i) rfl (by show _ < 8; omega)) rfl rfl rfl rfl rfl rfl ?_
     intro bb p ys hep hrc
     exact ⟨_, rfl, Fr0.refl _, bb, p, rfl, by rw [← show ys = [Value.int .u32 ((V.ints).getD (i) 0)] from hrc]; exact hep⟩
    refine D_cons (D_step2 (js := [(3, 31)]) (by kernel_rfl) fun gd hf => ?_) ?_
    ·have hsd := hs.dr.call hf; have hfe := (G.le_dr _).trans hf.le
     refine QA_any fun v3 h3 => ?_
     refine QA_nil ?_
     obtain ⟨bb, p, rfl, hep⟩ := h3
     refine D_yes rfl ?_
     refine OpR_loadE T.ok 0 rfl hep rfl rfl ?_
     exact ⟨_, rfl, Fr0.refl _, rfl⟩
    refine D_s (js := [(4, 32)]) (by kernel_rfl) (fun _ _ => QA_eq rfl (QA_nil (DPu2 T.ok rfl rfl rfl))) ?_
    refine D_s (js := [(5, 33)]) (by kernel_rfl) (fun _ _ => QA_eq rfl (QA_nil (DPu2 T.ok rfl rfl rfl))) ?_
    refine D_s (js := []) (by kernel_rfl) (fun _ _ => QA_nil (DPu T.ok rfl rfl rfl)) ?_
    refine D_s (js := []) (by kernel_rfl) (fun _ _ => QA_nil (DPu T.ok rfl rfl rfl)) ?_
    refine D_cons (D_step2 (js := [(7, 35), (8, 36)]) (by kernel_rfl) fun gd hf => ?_) ?_
    ·have hsd := hs.dr.call hf; have hfe := (G.le_dr _).trans hf.le
     refine QA_eq rfl ?_; refine QA_eq rfl ?_
     refine QA_nil ?_
     refine D_yes rfl ?_
     refine OpR_idx T.ok rfl (rs8.mono hfe) (y := ⟨(V.ints).getD (i) 0⟩) (geti_u32 (j := i) rfl (by show _ < 8; omega)) rfl rfl rfl rfl rfl rfl ?_
     intro bb p ys hep hrc
     exact ⟨_, rfl, Fr0.refl _, bb, p, rfl, by rw [← show ys = [Value.int .u32 ((V.ints).getD (i) 0)] from hrc]; exact hep⟩
    refine D_cons (D_step2 (js := [(9, 37)]) (by kernel_rfl) fun gd hf => ?_) ?_
    ·have hsd := hs.dr.call hf; have hfe := (G.le_dr _).trans hf.le
     refine QA_any fun v9 h9 => ?_
     refine QA_nil ?_
     obtain ⟨bb, p, rfl, hep⟩ := h9
     refine D_yes rfl ?_
     refine OpR_loadE T.ok 0 rfl hep rfl rfl ?_
     exact ⟨_, rfl, Fr0.refl _, rfl⟩
    refine D_s (js := [(10, 38)]) (by kernel_rfl) (fun _ _ => QA_eq rfl (QA_nil (DPu2 T.ok rfl rfl rfl))) ?_
    refine D_s (js := [(11, 39)]) (by kernel_rfl) (fun _ _ => QA_eq rfl (QA_nil (DPu2 T.ok rfl rfl rfl))) ?_
    refine D_s (js := []) (by kernel_rfl) (fun _ _ => QA_nil (DPu T.ok rfl rfl rfl)) ?_
    refine D_s (js := []) (by kernel_rfl) (fun _ _ => QA_nil (DPu T.ok rfl rfl rfl)) ?_
    refine D_cons (D_step2 (js := [(13, 41), (14, 42)]) (by kernel_rfl) fun gd hf => ?_) ?_
    ·have hsd := hs.dr.call hf; have hfe := (G.le_dr _).trans hf.le
     refine QA_eq rfl ?_; refine QA_eq rfl ?_
     refine QA_nil ?_
     refine D_yes rfl ?_
     refine OpR_idx T.ok rfl (rs8.mono hfe) (y := ⟨(V.ints).getD (i) 0⟩) (geti_u32 (j := i) rfl (by show _ < 8; omega)) rfl rfl rfl rfl rfl rfl ?_
     intro bb p ys hep hrc
     exact ⟨_, rfl, Fr0.refl _, bb, p, rfl, by rw [← show ys = [Value.int .u32 ((V.ints).getD (i) 0)] from hrc]; exact hep⟩
    refine D_cons (D_step2 (js := [(15, 43)]) (by kernel_rfl) fun gd hf => ?_) ?_
    ·have hsd := hs.dr.call hf; have hfe := (G.le_dr _).trans hf.le
     refine QA_any fun v15 h15 => ?_
     refine QA_nil ?_
     obtain ⟨bb, p, rfl, hep⟩ := h15
     refine D_yes rfl ?_
     refine OpR_loadE T.ok 0 rfl hep rfl rfl ?_
     exact ⟨_, rfl, Fr0.refl _, rfl⟩
    refine D_s (js := [(16, 44)]) (by kernel_rfl) (fun _ _ => QA_eq rfl (QA_nil (DPu2 T.ok rfl rfl rfl))) ?_
    refine D_s (js := [(17, 45)]) (by kernel_rfl) (fun _ _ => QA_eq rfl (QA_nil (DPu2 T.ok rfl rfl rfl))) ?_
    refine D_s (js := []) (by kernel_rfl) (fun _ _ => QA_nil (DPu T.ok rfl rfl rfl)) ?_
    refine D_s (js := []) (by kernel_rfl) (fun _ _ => QA_nil (DPu T.ok rfl rfl rfl)) ?_
    refine D_cons (D_step2 (js := [(19, 47), (20, 48)]) (by kernel_rfl) fun gd hf => ?_) ?_
    ·have hsd := hs.dr.call hf; have hfe := (G.le_dr _).trans hf.le
     refine QA_eq rfl ?_; refine QA_eq rfl ?_
     refine QA_nil ?_
     refine D_yes rfl ?_
     refine OpR_idx T.ok rfl (rs8.mono hfe) (y := ⟨(V.ints).getD (i) 0⟩) (geti_u32 (j := i) rfl (by show _ < 8; omega)) rfl rfl rfl rfl rfl rfl ?_
     intro bb p ys hep hrc
     exact ⟨_, rfl, Fr0.refl _, bb, p, rfl, by rw [← show ys = [Value.int .u32 ((V.ints).getD (i) 0)] from hrc]; exact hep⟩
    refine D_cons (D_step2 (js := [(21, 49)]) (by kernel_rfl) fun gd hf => ?_) ?_
    ·have hsd := hs.dr.call hf; have hfe := (G.le_dr _).trans hf.le
     refine QA_any fun v21 h21 => ?_
     refine QA_nil ?_
     obtain ⟨bb, p, rfl, hep⟩ := h21
     refine D_yes rfl ?_
     refine OpR_loadE T.ok 0 rfl hep rfl rfl ?_
     exact ⟨_, rfl, Fr0.refl _, rfl⟩
    refine D_s (js := [(22, 50)]) (by kernel_rfl) (fun _ _ => QA_eq rfl (QA_nil (DPu2 T.ok rfl rfl rfl))) ?_
    refine D_cons (D_step2 (js := [(6, 34), (12, 40), (18, 46), (23, 51)]) (by kernel_rfl) fun gd hf => ?_) ?_
    ·have hsd := hs.dr.call hf; have hfe := (G.le_dr _).trans hf.le
     refine QA_eq rfl ?_; refine QA_eq rfl ?_; refine QA_eq rfl ?_; refine QA_eq rfl ?_
     refine QA_nil ?_
     refine D_yes rfl ?_
     refine OpR_lit T.ok rfl (St.start gd) (vs := [(0, .int .u8 (dByte V i 0)), (1, .int .u8 (dByte V i 1)), (2, .int .u8 (dByte V i 2)), (3, .int .u8 (IntKind.u8.wrap (V.ints.getD i 0)))]) (cells := [.int .u8 (dByte V i 0), .int .u8 (dByte V i 1), .int .u8 (dByte V i 2), .int .u8 (IntKind.u8.wrap (V.ints.getD i 0))]) rfl rfl rfl rfl rfl rfl (by decide) (by decide) (by kernel_rfl) rfl ?_
     intro bb g' hs' hle
     obtain ⟨g2, e1, e2, e3⟩ := hs'.lit0 (α := U8i) (RcL.u8i _ [dByte V i 0, dByte V i 1, dByte V i 2, IntKind.u8.wrap (V.ints.getD i 0)])
     exact ⟨g2, e1, e2, e3⟩
    exact D_nil
   intro g1 hf1; refine QA_eq rfl ?_; refine QA_any fun v24 h24 => ?_; refine QA_nil ?_
   replace hs := hs.dr.call hf1; have hqe := (G.le_dr _).trans hf1.le; replace le0 := G.le.trans le0 hqe; replace le9 := G.le.trans le9 hqe; replace rs8 := rs8.mono hqe
   skip
   have hq : Rs g1 _ ([⟨dByte V i 0⟩, ⟨dByte V i 1⟩, ⟨dByte V i 2⟩, ⟨IntKind.u8.wrap (V.ints.getD i 0)⟩] : List U8i) := h24
   obtain ⟨aq, cq, rfl⟩ := hq.isSlice
   obtain ⟨_, news, hnw, hsrc⟩ := Src.of_rs hq
   obtain rfl := RcL.u8i_inv (xs := [dByte V i 0, dByte V i 1, dByte V i 2, IntKind.u8.wrap (V.ints.getD i 0)]) hnw
   refine WL_o rfl rfl (OpR_append T.ok 0 rfl hs rfl rfl rfl rfl rfl rfl rfl (by decide) rfl hsrc hnw.one (by show (4 * i + 4) * 1 ≤ _; omega) (by unfold maxLen; show 4 * i + 4 ≤ _; omega) ?_)
   clear hs hsrc hnw hq h24
   rintro a9 c9 g9 hs hqe; replace le0 := G.le.trans le0 hqe; replace le9 := G.le.trans le9 hqe; replace rs8 := rs8.mono hqe
   refine P1 T.ok rfl rfl rfl ?_; refine WL_nil ?_; (with_reducible refine T_bn ?_); (with_reducible refine T_then ?_); refine W_region ?_; (iterate 3 refine P1 T.ok rfl rfl rfl ?_); refine WL_nil ?_
   exact fun a ha => ⟨8 - (i + 1), by omega, i + 1, a9, c9, _, rfl, by rw [show 4 * (i + 1) = 4 * i + 4 from rfl, hd4, List.map_append]; exact hs, le0, le9, by omega, rfl, ha.keep ⟨rfl, rfl, kI rfl (by rw [wr (by omega) (by omega)]; omega), trivial⟩⟩
  ·refine W_no (b := decide ((i : Int) < 8)) (decide_eq_false (by omega)) rfl ?_
   obtain rfl : i = 8 := by omega
   have hdl := dTo_len V (4 * 8)
   rw [List.take_of_length_le (by omega)] at hs
   have hdm : digestM V = (dTo V (4 * 8)).map fun m => UInt8.ofNat m.toNat := rfl
   rw [hdm]
   clear hdm
   generalize dTo V (4 * 8) = dl at *
   have hsrc := (Src.of_row (hs.own 0 _ rfl).1).2
   refine W_exit ?_; (with_reducible refine T_tx ?_; with_reducible refine T_tx ?_); (with_reducible refine T_bx ?_); (with_reducible refine T_then ?_); refine W_seq ?_; refine W_region ?_; refine P1 T.ok rfl rfl rfl ?_
   refine WL_o rfl rfl (OpR_bytesStr T.ok (ns := dl) rfl rfl rfl rfl rfl rfl rfl rfl hsrc ?_)
   refine P1 T.ok rfl rfl rfl ?_; refine WL_nil ?_; (with_reducible refine T_then ?_)
   exact W_ret (ret1 rfl rfl (hs.ret rfl))
end Go.Proofs.YteohjgndanlldaaGreatDoor

/- The reference's digest: Chain, Head. -/
namespace Go.Proofs.YteohjgndanlldaaGreatDoor
open Go Go.K
set_option maxRecDepth 10000
attribute [local irreducible] W WL OpR bitAnd bitOr bitXor bitClr bitNot shlI shrI
set_option maxHeartbeats 400000

theorem rchain_c (p q : List UInt8) (g : G) (hl : p.length + q.length ≤ 1099511627775) : CallsIn Wd 0 Tryz.prog 57 #[.string (bs p), .string (bs q)] g.w (Ret g fun _ r => r = .string (bs (chainM p q))) := by
 have hs := St.start g
 have le0 := G.le.refl g
 refine enter Tryz.func57 rfl Tryz.ntmps57 rfl ?_
 refine W_seq ?_; refine W_region ?_; refine P1 T.ok rfl rfl rfl ?_; refine WL_nil ?_; (with_reducible refine T_then ?_); refine W_seq ?_; refine W_region ?_; refine P1 T.ok rfl rfl rfl ?_
 refine WL_o rfl rfl (OpR_addS (p := [2]) (q := p) rfl rfl rfl (by simp; omega) ?_)
 refine P1 T.ok rfl rfl rfl ?_
 refine WL_o rfl rfl (OpR_addS (p := [2] ++ p) (q := q) rfl rfl rfl (by simp; omega) ?_)
 rw [List.append_assoc]
 refine WL_o rfl rfl (OpR_ret cl28 allF rfl rfl rfl rfl rfl (rsum_c ([2] ++ (p ++ q)) _ (by simp; omega)) ?_); rintro g1 _ hf1 rfl; replace hs := hs.call hf1; have hqe := hf1.le; replace le0 := G.le.trans le0 hqe
 refine P1 T.ok rfl rfl rfl ?_; refine WL_nil ?_; (with_reducible refine T_then ?_)
 exact W_ret (ret1 rfl rfl (hs.ret (by unfold chainM; rfl)))

def headM (l : List (List UInt8)) : List UInt8 := l.foldl chainM (List.replicate 32 0)
theorem headM_snoc (l : List (List UInt8)) (x : List UInt8) : headM (l ++ [x]) = chainM (headM l) x := by unfold headM; rw [List.foldl_append, List.foldl_cons, List.foldl_nil]
theorem headM_len (l : List (List UInt8)) : (headM l).length = 32 := by
 rcases List.eq_nil_or_concat l with rfl | ⟨l', x, rfl⟩
 ·rfl
 ·rw [List.concat_eq_append, headM_snoc, chainM_len]
theorem rhead_c (v : Value) (l : List Str) (g : G) (rs0 : Rs g v l) (hl : ∀ x ∈ l, x.s.length ≤ 1099511627000) : CallsIn Wd 0 Tryz.prog 43 #[v] g.w (Ret g fun _ r => r = .string (bs (headM (l.map Str.s)))) := by
 have hs := St.start g
 have le0 := G.le.refl g
 obtain ⟨a, c, rfl⟩ := rs0.isSlice
 have hlen := rs0.len_le
 unfold maxLen at hlen
 refine enter Tryz.func43 rfl Tryz.ntmps43 rfl ?_
 refine W_seq ?_; refine W_region ?_; refine P1 T.ok rfl rfl rfl ?_; refine WL_nil ?_; (with_reducible refine T_then ?_); refine W_seq ?_; refine W_region ?_
 refine WL_o rfl rfl (OpR_make T.ok (n := 32) rfl hs rfl rfl rfl rfl rfl rfl (by decide) rfl (by decide) (by decide) ?_)
 clear hs
 rintro bm gm hs hqe; replace le0 := G.le.trans le0 hqe; replace rs0 := rs0.mono hqe
 have hsrc := (Src.of_row (hs.own 0 _ rfl).1).2
 skip
 refine WL_o rfl rfl (OpR_bytesStr T.ok (ns := List.replicate 32 0) rfl rfl rfl rfl rfl rfl rfl rfl hsrc ?_)
 refine WL_re (.string (bs (headM (([] : List Str).map Str.s)))) (t := 6) rfl (by kernel_rfl) ?_
 replace hs := hs.drop 0
 replace hs : St g gm [] := hs
 refine P1 T.ok rfl rfl rfl ?_; refine WL_nil ?_; (with_reducible refine T_then ?_); refine W_seq ?_; refine W_seq ?_; refine W_region ?_; refine P1 T.ok rfl rfl rfl ?_; refine WL_nil ?_; (with_reducible refine T_then ?_); refine W_block ?_
 have le8 := G.le.refl gm
 have rs0c := rs0
 refine W_loop (fun m a' w => ∃ (i : Nat) (g2 : G), w = g2.w ∧ St g g2 [] ∧ G.le g g2 ∧ G.le gm g2 ∧ i ≤ l.length ∧ m = l.length - i ∧
   Fr 20 [] [(0, .slice a l.length c), (3, .string (bs (headM ((l.take i).map Str.s)))), (4, .int .i64 i)] a') l.length
  (fun a' ha => ⟨0, gm, rfl, hs, le0, le8, Nat.zero_le _, rfl, ha.keep (by (repeat (first | exact trivial | refine ⟨rfl, ?_⟩)))⟩) ?_
 clear hs le0 le8 rs0
 rintro m a' _ ⟨i, g2, rfl, hs, le0, le8, hi, rfl, ha'⟩
 have rs0 := rs0c.mono le8
 revert a'
 (with_reducible refine T_wp ?_); refine W_seq ?_; refine W_seq ?_; refine W_region ?_; (iterate 4 refine P1 T.ok rfl rfl rfl ?_); refine WL_nil ?_; (with_reducible refine T_then ?_)
 by_cases hlt : i < l.length
 ·refine W_yes (b := decide ((i : Int) < (l.length : Int))) (decide_eq_true (by omega)) rfl ?_
  have htk : headM ((l.take (i + 1)).map Str.s) = chainM (headM ((l.take i).map Str.s)) l[i].s := by
   rw [List.take_add_one, List.getElem?_eq_getElem hlt, List.map_append]; exact headM_snoc _ _
  have hgi : geti l (i : Int) = some l[i] := geti_of rfl hlt
  have hxl := hl l[i] (List.getElem_mem hlt)
  have hhl := headM_len ((l.take i).map Str.s)
  generalize l[i] = x at *
  generalize headM ((l.take i).map Str.s) = hd at *
  refine W_skip ?_; (with_reducible refine T_then ?_); refine W_seq ?_; refine W_block ?_; refine W_region ?_; (iterate 3 refine P1 T.ok rfl rfl rfl ?_)
  refine WL_o rfl rfl (OpR_idx T.ok rfl rs0 (y := x) hgi rfl rfl rfl rfl rfl rfl ?_)
  rintro b p ys hep hrc
  obtain rfl : ys = [.string (bs x.s)] := hrc
  have ep0 := hep
  refine WL_o rfl rfl (OpR_loadE T.ok 0 rfl ep0 rfl rfl ?_)
  refine WL_o rfl rfl (OpR_ret cl57 allF rfl rfl rfl rfl rfl (rchain_c hd x.s _ (by omega)) ?_); rintro g1 _ hf1 rfl; replace hs := hs.call hf1; have hqe := hf1.le; replace le0 := G.le.trans le0 hqe; replace le8 := G.le.trans le8 hqe; replace ep0 := ep0.mono hqe; replace rs0 := rs0.mono hqe
  refine P1 T.ok rfl rfl rfl ?_; refine WL_nil ?_; (with_reducible refine T_bn ?_); (with_reducible refine T_then ?_); refine W_region ?_; (iterate 3 refine P1 T.ok rfl rfl rfl ?_); refine WL_nil ?_
  exact fun a ha => ⟨l.length - (i + 1), by omega, i + 1, g1, rfl, hs, le0, le8, by omega, rfl, ha.keep ⟨rfl, kV rfl (by rw [htk]), kI rfl (by rw [wr (by omega) (by omega)]; omega), trivial⟩⟩
 ·refine W_no (b := decide ((i : Int) < (l.length : Int))) (decide_eq_false (by omega)) rfl ?_
  obtain rfl : i = l.length := by omega
  rw [List.take_length]
  refine W_exit ?_; (with_reducible refine T_tx ?_; with_reducible refine T_tx ?_); (with_reducible refine T_bx ?_); (with_reducible refine T_then ?_); refine W_seq ?_; refine W_region ?_; refine P1 T.ok rfl rfl rfl ?_; refine P1 T.ok rfl rfl rfl ?_; refine WL_nil ?_; (with_reducible refine T_then ?_)
  exact W_ret (ret1 rfl rfl (hs.ret rfl))
end Go.Proofs.YteohjgndanlldaaGreatDoor
