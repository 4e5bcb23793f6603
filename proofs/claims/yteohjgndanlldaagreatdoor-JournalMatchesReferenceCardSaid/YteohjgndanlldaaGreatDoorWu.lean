/- The walk through the law. -/
import Derived.Test.YteohjgndanlldaaGreatDoorWs

namespace Go.Proofs.YteohjgndanlldaaGreatDoor
open Go Go.K
set_option maxRecDepth 10000
attribute [local irreducible] W WL OpR bitAnd bitOr bitXor bitClr bitNot shlI shrI
set_option maxHeartbeats 2000000


theorem matches_c {e : Addr} (n : Int) (v : Value) (ops : List OpE) (g : G) (hrk : RoundAt g) (hE : ErrAt e g) (hn : I64 n) (rsg : Rs g v ops) : CallsIn Wd 0 Tryz.prog 7 #[.int .i64 n, v] g.w (Ret g fun _ r => r = .bool true) := by
 obtain ⟨a, c, rfl⟩ := rsg.isSlice
 have hlen := rsg.len_le
 unfold maxLen at hlen
 have hs := St.start g
 have le0 := G.le.refl g
 refine enter Tryz.func7 rfl Tryz.ntmps7 rfl ?_
 refine W_seq ?_; refine W_region ?_; refine P1 T.ok rfl rfl rfl ?_; refine WL_nil ?_; (with_reducible refine T_then ?_); refine W_seq ?_; refine W_region ?_
 refine WL_o rfl rfl (OpR_ret cl8 allF rfl rfl rfl rfl rfl (sane_c _ hrk hE) ?_); rintro g1 _ hf1 rfl; replace hs := hs.call hf1; have hqe := hf1.le; replace le0 := G.le.trans le0 hqe
 refine P1 T.ok rfl rfl rfl ?_; refine WL_nil ?_; (with_reducible refine T_then ?_); refine W_seq ?_; refine W_region ?_; refine P1 T.ok rfl rfl rfl ?_
 have hcall := begin_c n hn (hrk.mono le0) (hE.mono le0) hs
 refine WL_o rfl rfl (OpR_st cl9 allF rfl rfl rfl rfl rfl hcall ?_)
 clear hs hcall
 rintro g1 r hqe hpo; replace le0 := G.le.trans le0 hqe
 obtain ⟨bw, A0, R0, B0, kb0, kv0, rfl, hr0, hs⟩ := hpo
 have hsz := sizeM_range n
 have hW0 := WOk.new hsz.1 hsz.2
 have hS0 : WSt bw A0 R0 (DiskM.new (sizeM n)) g g1 [] (some (tape0, false)) := ⟨_, _, _, _, ⟨B0, kb0, kv0, hr0, rfl, rfl, rfl, rfl⟩, hs⟩
 clear hs hr0
 (iterate 5 refine P1 T.ok rfl rfl rfl ?_); refine WL_nil ?_; (with_reducible refine T_then ?_); refine W_seq ?_; refine W_seq ?_; refine W_region ?_; refine P1 T.ok rfl rfl rfl ?_; refine P1 T.ok rfl rfl rfl ?_; refine WL_nil ?_; (with_reducible refine T_then ?_)
 refine W_no rfl rfl ?_
 refine W_skip ?_; (with_reducible refine T_then ?_); refine W_seq ?_; refine W_seq ?_; refine W_region ?_; refine P1 T.ok rfl rfl rfl ?_; refine WL_nil ?_; (with_reducible refine T_then ?_); refine W_block ?_
 refine W_loop (fun m a' w => ∃ (k : Nat) (g2 : G) (L : List Ent) (A : DkA) (R : RkA) (D : DiskM) (st : Option (TapeM × Bool)), w = g2.w ∧ WSt bw A R D g g2 L st ∧ WOk D st ∧ G.le g g2 ∧ k ≤ ops.length ∧ k ≤ 25 ∧ m = 25 - k ∧
   Fr 111 [] [(1, .slice a ops.length c), (5, .bool true), (6, .pointer (some ⟨bw, 0, none⟩)), (8, .int .i64 k)] a') 25
  (fun a' ha => ⟨0, _, _, _, _, _, _, rfl, hS0, hW0, le0, Nat.zero_le _, by omega, rfl, ha.keep (by (repeat (first | exact trivial | refine ⟨rfl, ?_⟩)))⟩) ?_
 clear le0 hS0 hW0
 rintro m a' _ ⟨k, g2, L, A, R, D, st, rfl, hS, hW, le0, hk, hk8, rfl, ha'⟩
 have rs1 := rsg.mono le0
 revert a'
 (with_reducible refine T_wp ?_); refine W_seq ?_; refine W_seq ?_; refine W_region ?_; (iterate 5 refine P1 T.ok rfl rfl rfl ?_)
 by_cases hlt : k < ops.length
 ·refine WL_know 22 (b := decide ((k : Int) < (ops.length : Int))) (b' := true) (decide_eq_true (by omega)) rfl ?_
  (iterate 3 refine P1 T.ok rfl rfl rfl ?_); refine WL_nil ?_; (with_reducible refine T_then ?_)
  by_cases h8 : k < 25
  ·refine W_yes (b := decide ((k : Int) < 25)) (decide_eq_true (by omega)) rfl ?_
   have hgi : geti ops (k : Int) = some ops[k] := geti_of rfl hlt
   generalize ops[k] = x at *
   refine W_skip ?_; (with_reducible refine T_then ?_); refine W_seq ?_; refine W_block ?_; refine W_seq ?_; refine W_region ?_; (iterate 3 refine P1 T.ok rfl rfl rfl ?_)
   refine WL_o rfl rfl (OpR_idx T.ok rfl rs1 (y := x) hgi rfl rfl rfl rfl rfl rfl ?_)
   rintro b p ys hep ⟨a4, n4, c4, a5, n5, c5, rfl, rsl, rskp, hxk, hxn⟩
   refine WL_o rfl rfl (OpR_loadE T.ok 0 rfl hep rfl (v := .agg #[.int .i64 x.kind, .slice a4 n4 c4, .int .i64 x.n, .slice a5 n5 c5]) rfl ?_)
   clear hep
   have hcall := does_c x hW (hrk.mono le0) (hE.mono le0) rsl rskp hxk hxn hS
   refine WL_o rfl rfl (OpR_st cl31 allF rfl rfl rfl rfl rfl hcall ?_)
   clear hS hcall hW rsl rskp
   rintro g3 r hqe ⟨rfl, A2, R2, D2, st2, L2, _, _, hW, hS⟩; replace le0 := G.le.trans le0 hqe; replace rs1 := rs1.mono hqe
   have le8 := G.le.refl g3
   obtain ⟨jv, kv, X, Z, hrel, hs⟩ := hS
   have hrel0 := hrel
   have hs0 := hs
   unfold wL wO at hs
   have hD := hW.2.1
   have hR := hW.1
   refine P1 T.ok rfl rfl rfl ?_; refine WL_nil ?_; (with_reducible refine T_then ?_); refine W_seq ?_; refine W_seq ?_
   cases ho : D2.off with
   | true =>
    apply W_draw allF rfl (Fact.eq _ :: Fact.eq _ :: Fact.eq _ :: Fact.eq _ :: Fact.eq _ :: Fact.eq _ :: Fact.eq _ :: Fact.eq _ :: Fact.eq _ :: Fact.eq _ :: Fact.eq _ :: Fact.eq _ :: Fact.eq _ :: Fact.eq _ :: Fact.eq _ :: Fact.eq _ :: Fact.eq _ :: Fact.eq _ :: Fact.eq _ :: Fact.eq _ :: Fact.eq _ :: Fact.eq _ :: Fact.eq _ :: Fact.eq _ :: Fact.eq _ :: Fact.eq _ :: Fact.eq _ :: Fact.eq _ :: Fact.eq _ :: Fact.eq _ :: Fact.eq _ :: Fact.eq _ :: Fact.eq _ :: Fact.eq _ :: Fact.eq _ :: Fact.eq _ :: Fact.eq _ :: Fact.eq _ :: Fact.eq _ :: Fact.eq _ :: Fact.eq _ :: Fact.eq _ :: []) 42 [(41, 75)] rfl rfl
    ·refine D_s (js := []) (by kernel_rfl) (fun _ _ => QA_nil (DPu T.ok rfl rfl rfl)) ?_
     refine D_s (js := [(0, 34)]) (by kernel_rfl) (fun _ _ => QA_eq rfl (QA_nil (DPu T.ok rfl rfl rfl))) ?_
     refine D_s (js := [(1, 35)]) (by kernel_rfl) (fun _ _ => QA_eq rfl (QA_nil (DPu T.ok rfl rfl rfl))) ?_
     refine D_s (js := [(2, 36)]) (by kernel_rfl) (fun _ _ => QA_eq rfl (QA_nil (DPu T.ok rfl rfl rfl))) ?_
     refine D_s (js := [(3, 37), (2, 36)]) (by kernel_rfl) (fun _ _ => QA_eq rfl (QA_eq rfl (QA_nil (DPu T.ok rfl rfl rfl)))) ?_
     refine D_s (js := [(4, 38), (2, 36)]) (by kernel_rfl) (fun _ _ => QA_eq rfl (QA_eq rfl (QA_nil (DPu T.ok rfl rfl rfl)))) ?_
     refine D_s (js := [(5, 39), (2, 36)]) (by kernel_rfl) (fun _ hf => QA_eq rfl (QA_eq rfl (QA_nil (DLo T.ok 0 rfl rfl (hs.dr.call hf) rfl rfl rfl rfl)))) ?_
     refine D_cons (D_step2 (js := [(6, 40), (2, 36), (2, 36)]) (by kernel_rfl) fun gd hf => ?_) ?_
     ·have hsd := hs.dr.call hf; have hfe := (G.le_dr _).trans hf.le
      refine QA_eq rfl ?_; refine QA_eq rfl ?_; refine QA_eq rfl ?_
      refine QA_nil ?_
      refine D_yes rfl ?_
      refine OpR_ret cl32 allF rfl rfl rfl rfl rfl (dpending_c (A := A2) (D := D2) (St.arr [[wO bw A2.b R2.b jv kv], X, dkL A2 D2, Z, rkL R2 D2] [2, 0, 1, 3, 4] rfl hsd)) fun g' v h1 h2 => ⟨g', rfl, h1, ?_⟩
      exact h2
     refine D_s (js := [(2, 36)]) (by kernel_rfl) (fun _ _ => QA_eq rfl (QA_nil (DPu T.ok rfl rfl rfl))) ?_
     refine D_s (js := [(8, 42), (2, 36)]) (by kernel_rfl) (fun _ _ => QA_eq rfl (QA_eq rfl (QA_nil (DPu T.ok rfl rfl rfl)))) ?_
     refine D_s (js := [(9, 43), (2, 36)]) (by kernel_rfl) (fun _ _ => QA_eq rfl (QA_eq rfl (QA_nil (DPu T.ok rfl rfl rfl)))) ?_
     refine D_s (js := [(10, 44), (2, 36)]) (by kernel_rfl) (fun _ hf => QA_eq rfl (QA_eq rfl (QA_nil (DLo T.ok 0 rfl rfl (hs.dr.call hf) rfl rfl rfl rfl)))) ?_
     refine D_s (js := [(11, 45), (2, 36)]) (by kernel_rfl) (fun _ _ => QA_eq rfl (QA_eq rfl (QA_nil (DPu T.ok rfl rfl rfl)))) ?_
     refine D_s (js := [(12, 46), (2, 36)]) (by kernel_rfl) (fun _ _ => QA_eq rfl (QA_eq rfl (QA_nil (DPu T.ok rfl rfl rfl)))) ?_
     refine D_cons (D_step2 (js := [(13, 47), (2, 36)]) (by kernel_rfl) fun gd hf => ?_) ?_
     ·have hsd := hs.dr.call hf; have hfe := (G.le_dr _).trans hf.le
      refine QA_eq rfl ?_; refine QA_eq rfl ?_
      refine QA_nil ?_
      refine D_yes rfl ?_
      refine OpR_loadO T.ok 0 rfl (St.arr [[wO bw A2.b R2.b jv kv], X, dkL A2 D2, Z, rkL R2 D2] [4, 0, 1, 2, 3] rfl hsd) rfl rfl rfl ?_
      exact ⟨_, rfl, Fr0.refl _, rfl⟩
     refine D_s (js := [(14, 48), (2, 36)]) (by kernel_rfl) (fun _ _ => QA_eq rfl (QA_eq rfl (QA_nil (DPu T.ok rfl rfl rfl)))) ?_
     refine D_cons (D_step2 (js := [(7, 41), (15, 49), (2, 36)]) (by kernel_rfl) fun gd hf => ?_) ?_
     ·have hsd := hs.dr.call hf; have hfe := (G.le_dr _).trans hf.le
      refine QA_eq rfl ?_; refine QA_eq rfl ?_; refine QA_eq rfl ?_
      refine QA_nil ?_
      refine D_yes rfl ?_
      refine OpR_pure _ T.ok rfl ?_
      refine ⟨_, rfl, Fr0.refl _, ?_⟩
      exact congrArg Value.bool (bne_self_eq_false _)
     refine D_s (js := [(2, 36), (16, 50)]) (by kernel_rfl) (fun _ _ => QA_eq rfl (QA_eq rfl (QA_nil (DPu T.ok rfl rfl rfl)))) ?_
     refine D_s (js := [(17, 51)]) (by kernel_rfl) (fun _ _ => QA_eq rfl (QA_nil (DPu T.ok rfl rfl rfl))) ?_
     refine D_s (js := [(18, 52)]) (by kernel_rfl) (fun _ _ => QA_eq rfl (QA_nil (DPu T.ok rfl rfl rfl))) ?_
     refine D_s (js := [(19, 53), (18, 52)]) (by kernel_rfl) (fun _ _ => QA_eq rfl (QA_eq rfl (QA_nil (DPu T.ok rfl rfl rfl)))) ?_
     refine D_s (js := [(20, 54), (18, 52)]) (by kernel_rfl) (fun _ _ => QA_eq rfl (QA_eq rfl (QA_nil (DPu T.ok rfl rfl rfl)))) ?_
     refine D_s (js := [(21, 55), (18, 52)]) (by kernel_rfl) (fun _ hf => QA_eq rfl (QA_eq rfl (QA_nil (DLo T.ok 0 rfl rfl (hs.dr.call hf) rfl rfl rfl rfl)))) ?_
     refine D_s (js := [(22, 56), (18, 52)]) (by kernel_rfl) (fun _ _ => QA_eq rfl (QA_eq rfl (QA_nil (DPu T.ok rfl rfl rfl)))) ?_
     refine D_s (js := [(23, 57), (18, 52)]) (by kernel_rfl) (fun _ _ => QA_eq rfl (QA_eq rfl (QA_nil (DPu T.ok rfl rfl rfl)))) ?_
     refine D_cons (D_step2 (js := [(24, 58), (18, 52)]) (by kernel_rfl) fun gd hf => ?_) ?_
     ·have hsd := hs.dr.call hf; have hfe := (G.le_dr _).trans hf.le
      refine QA_eq rfl ?_; refine QA_eq rfl ?_
      refine QA_nil ?_
      refine D_yes rfl ?_
      refine OpR_loadO T.ok 0 rfl (St.arr [[wO bw A2.b R2.b jv kv], X, dkL A2 D2, Z, rkL R2 D2] [4, 0, 1, 2, 3] rfl hsd) rfl rfl rfl ?_
      refine ⟨_, rfl, Fr0.refl _, ?_⟩
      exact congrArg Value.bool ho
     refine D_s (js := [(25, 59), (18, 52)]) (by kernel_rfl) (fun _ _ => QA_eq rfl (QA_eq rfl (QA_nil (DPu T.ok rfl rfl rfl)))) ?_
     refine D_s (js := [(26, 60), (18, 52), (18, 52)]) (by kernel_rfl) (fun _ _ => QA_eq rfl (QA_eq rfl (QA_eq rfl (QA_nil (DPu T.ok rfl rfl rfl))))) ?_
     refine D_s (js := [(27, 61)]) (by kernel_rfl) (fun _ _ => QA_eq rfl (QA_nil (DNo rfl rfl))) ?_
     refine D_s (js := [(28, 62), (27, 61)]) (by kernel_rfl) (fun _ _ => QA_eq rfl (QA_eq rfl (QA_nil (DNo rfl rfl)))) ?_
     refine D_s (js := [(29, 63), (27, 61)]) (by kernel_rfl) (fun _ _ => QA_eq rfl (QA_eq rfl (QA_nil (DNo rfl rfl)))) ?_
     refine D_s (js := [(30, 64), (27, 61)]) (by kernel_rfl) (fun _ _ => QA_eq rfl (QA_eq rfl (QA_nil (DNo rfl rfl)))) ?_
     refine D_s (js := [(31, 65), (27, 61), (27, 61)]) (by kernel_rfl) (fun _ _ => QA_eq rfl (QA_eq rfl (QA_eq rfl (QA_nil (DNo rfl rfl))))) ?_
     refine D_s (js := [(27, 61)]) (by kernel_rfl) (fun _ _ => QA_eq rfl (QA_nil (DNo rfl rfl))) ?_
     refine D_s (js := [(33, 67), (27, 61)]) (by kernel_rfl) (fun _ _ => QA_eq rfl (QA_eq rfl (QA_nil (DNo rfl rfl)))) ?_
     refine D_s (js := [(34, 68), (27, 61)]) (by kernel_rfl) (fun _ _ => QA_eq rfl (QA_eq rfl (QA_nil (DNo rfl rfl)))) ?_
     refine D_s (js := [(35, 69), (27, 61)]) (by kernel_rfl) (fun _ _ => QA_eq rfl (QA_eq rfl (QA_nil (DNo rfl rfl)))) ?_
     refine D_s (js := [(36, 70), (27, 61)]) (by kernel_rfl) (fun _ _ => QA_eq rfl (QA_eq rfl (QA_nil (DNo rfl rfl)))) ?_
     refine D_s (js := [(37, 71), (27, 61)]) (by kernel_rfl) (fun _ _ => QA_eq rfl (QA_eq rfl (QA_nil (DNo rfl rfl)))) ?_
     refine D_s (js := [(32, 66), (38, 72), (27, 61)]) (by kernel_rfl) (fun _ _ => QA_eq rfl (QA_eq rfl (QA_eq rfl (QA_nil (DNo rfl rfl))))) ?_
     refine D_s (js := [(27, 61), (39, 73), (18, 52)]) (by kernel_rfl) (fun _ _ => QA_eq rfl (QA_eq rfl (QA_eq rfl (QA_nil (DPu T.ok rfl rfl rfl))))) ?_
     refine D_s (js := [(18, 52), (40, 74)]) (by kernel_rfl) (fun _ _ => QA_eq rfl (QA_eq rfl (QA_nil (DPu T.ok rfl rfl rfl)))) ?_
     exact D_nil
    intro g1 hf1; refine QA_eq rfl ?_; refine QA_nil ?_
    replace hs := hs.dr.call hf1; have hqe := (G.le_dr _).trans hf1.le; replace le0 := G.le.trans le0 hqe; replace le8 := G.le.trans le8 hqe; replace rs1 := rs1.mono hqe
    refine WL_nil ?_; (with_reducible refine T_then ?_)
    refine W_no rfl rfl ?_
    refine W_skip ?_; (with_reducible refine T_then ?_); refine W_seq ?_
    cases st2 with
    | none =>
     obtain ⟨rfl, rfl, rfl, rfl⟩ := hrel
     apply W_draw allF rfl (Fact.eq _ :: Fact.eq _ :: Fact.eq _ :: Fact.eq _ :: Fact.eq _ :: Fact.eq _ :: Fact.eq _ :: Fact.eq _ :: Fact.eq _ :: Fact.eq _ :: Fact.eq _ :: Fact.eq _ :: Fact.eq _ :: Fact.eq _ :: Fact.eq _ :: Fact.eq _ :: Fact.eq _ :: Fact.eq _ :: Fact.eq _ :: Fact.eq _ :: Fact.eq _ :: Fact.eq _ :: Fact.eq _ :: Fact.eq _ :: Fact.eq _ :: Fact.eq _ :: Fact.eq _ :: Fact.eq _ :: Fact.eq _ :: Fact.eq _ :: Fact.eq _ :: Fact.eq _ :: Fact.eq _ :: Fact.eq _ :: []) 34 [(33, 109)] rfl rfl
     ·refine D_s (js := []) (by kernel_rfl) (fun _ _ => QA_nil (DPu T.ok rfl rfl rfl)) ?_
      refine D_s (js := [(0, 76)]) (by kernel_rfl) (fun _ _ => QA_eq rfl (QA_nil (DPu T.ok rfl rfl rfl))) ?_
      refine D_s (js := [(1, 77)]) (by kernel_rfl) (fun _ _ => QA_eq rfl (QA_nil (DPu T.ok rfl rfl rfl))) ?_
      refine D_s (js := [(2, 78)]) (by kernel_rfl) (fun _ hf => QA_eq rfl (QA_nil (DLo T.ok 0 rfl rfl (hs.dr.call hf) rfl rfl rfl rfl))) ?_
      refine D_cons (D_step2 (js := [(3, 79)]) (by kernel_rfl) fun gd hf => ?_) ?_
      ·have hsd := hs.dr.call hf; have hfe := (G.le_dr _).trans hf.le
       refine QA_eq rfl ?_
       refine QA_nil ?_
       refine D_yes rfl ?_
       refine OpR_eqNilPtr T.ok (neg := true) rfl rfl rfl rfl rfl ?_
       exact ⟨_, rfl, Fr0.refl _, rfl⟩
      refine D_s (js := [(4, 80)]) (by kernel_rfl) (fun _ _ => QA_eq rfl (QA_nil (DPu T.ok rfl rfl rfl))) ?_
      refine D_s (js := [(5, 81)]) (by kernel_rfl) (fun _ _ => QA_eq rfl (QA_nil (DNo rfl rfl))) ?_
      refine D_s (js := [(6, 82), (5, 81)]) (by kernel_rfl) (fun _ _ => QA_eq rfl (QA_eq rfl (QA_nil (DNo rfl rfl)))) ?_
      refine D_s (js := [(7, 83), (5, 81)]) (by kernel_rfl) (fun _ _ => QA_eq rfl (QA_eq rfl (QA_nil (DNo rfl rfl)))) ?_
      refine D_s (js := [(8, 84), (5, 81)]) (by kernel_rfl) (fun _ _ => QA_eq rfl (QA_eq rfl (QA_nil (DNo rfl rfl)))) ?_
      refine D_s (js := [(9, 85), (5, 81), (5, 81)]) (by kernel_rfl) (fun _ _ => QA_eq rfl (QA_eq rfl (QA_eq rfl (QA_nil (DNo rfl rfl))))) ?_
      refine D_s (js := [(5, 81)]) (by kernel_rfl) (fun _ _ => QA_eq rfl (QA_nil (DNo rfl rfl))) ?_
      refine D_s (js := [(11, 87), (5, 81)]) (by kernel_rfl) (fun _ _ => QA_eq rfl (QA_eq rfl (QA_nil (DNo rfl rfl)))) ?_
      refine D_s (js := [(12, 88), (5, 81)]) (by kernel_rfl) (fun _ _ => QA_eq rfl (QA_eq rfl (QA_nil (DNo rfl rfl)))) ?_
      refine D_s (js := [(13, 89), (5, 81)]) (by kernel_rfl) (fun _ _ => QA_eq rfl (QA_eq rfl (QA_nil (DNo rfl rfl)))) ?_
      refine D_s (js := [(14, 90), (5, 81)]) (by kernel_rfl) (fun _ _ => QA_eq rfl (QA_eq rfl (QA_nil (DNo rfl rfl)))) ?_
      refine D_s (js := [(15, 91), (5, 81)]) (by kernel_rfl) (fun _ _ => QA_eq rfl (QA_eq rfl (QA_nil (DNo rfl rfl)))) ?_
      refine D_s (js := [(16, 92), (5, 81)]) (by kernel_rfl) (fun _ _ => QA_eq rfl (QA_eq rfl (QA_nil (DNo rfl rfl)))) ?_
      refine D_s (js := [(10, 86), (17, 93), (10, 86), (5, 81)]) (by kernel_rfl) (fun _ _ => QA_eq rfl (QA_eq rfl (QA_eq rfl (QA_eq rfl (QA_nil (DNo rfl rfl)))))) ?_
      refine D_s (js := [(18, 94), (5, 81)]) (by kernel_rfl) (fun _ _ => QA_eq rfl (QA_eq rfl (QA_nil (DNo rfl rfl)))) ?_
      refine D_s (js := [(19, 95), (5, 81)]) (by kernel_rfl) (fun _ _ => QA_eq rfl (QA_eq rfl (QA_nil (DNo rfl rfl)))) ?_
      refine D_s (js := [(20, 96)]) (by kernel_rfl) (fun _ _ => QA_eq rfl (QA_nil (DNo rfl rfl))) ?_
      refine D_s (js := [(21, 97), (20, 96)]) (by kernel_rfl) (fun _ _ => QA_eq rfl (QA_eq rfl (QA_nil (DNo rfl rfl)))) ?_
      refine D_s (js := [(22, 98), (20, 96)]) (by kernel_rfl) (fun _ _ => QA_eq rfl (QA_eq rfl (QA_nil (DNo rfl rfl)))) ?_
      refine D_s (js := [(23, 99), (20, 96)]) (by kernel_rfl) (fun _ _ => QA_eq rfl (QA_eq rfl (QA_nil (DNo rfl rfl)))) ?_
      refine D_s (js := [(24, 100), (20, 96), (20, 96)]) (by kernel_rfl) (fun _ _ => QA_eq rfl (QA_eq rfl (QA_eq rfl (QA_nil (DNo rfl rfl))))) ?_
      refine D_s (js := [(20, 96)]) (by kernel_rfl) (fun _ _ => QA_eq rfl (QA_nil (DNo rfl rfl))) ?_
      refine D_s (js := [(26, 102), (20, 96)]) (by kernel_rfl) (fun _ _ => QA_eq rfl (QA_eq rfl (QA_nil (DNo rfl rfl)))) ?_
      refine D_s (js := [(27, 103), (20, 96)]) (by kernel_rfl) (fun _ _ => QA_eq rfl (QA_eq rfl (QA_nil (DNo rfl rfl)))) ?_
      refine D_s (js := [(28, 104), (20, 96)]) (by kernel_rfl) (fun _ _ => QA_eq rfl (QA_eq rfl (QA_nil (DNo rfl rfl)))) ?_
      refine D_s (js := [(29, 105), (20, 96)]) (by kernel_rfl) (fun _ _ => QA_eq rfl (QA_eq rfl (QA_nil (DNo rfl rfl)))) ?_
      refine D_s (js := [(25, 101), (30, 106), (20, 96)]) (by kernel_rfl) (fun _ _ => QA_eq rfl (QA_eq rfl (QA_eq rfl (QA_nil (DNo rfl rfl))))) ?_
      refine D_s (js := [(20, 96), (31, 107), (5, 81)]) (by kernel_rfl) (fun _ _ => QA_eq rfl (QA_eq rfl (QA_eq rfl (QA_nil (DNo rfl rfl))))) ?_
      refine D_s (js := [(5, 81), (32, 108)]) (by kernel_rfl) (fun _ _ => QA_eq rfl (QA_eq rfl (QA_nil (DPu T.ok rfl rfl rfl)))) ?_
      exact D_nil
     intro g1 hf1; refine QA_eq rfl ?_; refine QA_nil ?_
     replace hs := hs.dr.call hf1; have hqe := (G.le_dr _).trans hf1.le; replace le0 := G.le.trans le0 hqe; replace le8 := G.le.trans le8 hqe; replace rs1 := rs1.mono hqe
     refine WL_nil ?_; (with_reducible refine T_then ?_)
     refine W_no rfl rfl ?_
     refine W_skip ?_; (with_reducible refine T_bn ?_); (with_reducible refine T_then ?_); refine W_region ?_; (iterate 3 refine P1 T.ok rfl rfl rfl ?_); refine WL_nil ?_
     exact fun a ha => ⟨25 - (k + 1), by omega, k + 1, _, L2, A2, R2, D2, _, rfl, ⟨_, _, _, _, hrel0.mono le8, hs⟩, hW, le0, by omega, by omega, rfl, ha.keep ⟨rfl, rfl, rfl, kI rfl (by rw [wr (by omega) (by omega)]; omega), trivial⟩⟩
    | some q =>
     obtain ⟨Y, br⟩ := q
     obtain ⟨B, kb, kv', rsv, rfl, rfl, rfl, rfl⟩ := hrel
     have rs5 := rsv.mono le8
     clear rsv
     obtain ⟨_, _, _, rs, rs', hany⟩ := id hW
     have hyok := hany.ok.2.2.2.1
     apply W_draw allF rfl (Fact.eq _ :: Fact.eq _ :: Fact.eq _ :: Fact.eq _ :: Fact.eq _ :: Fact.eq _ :: Fact.eq _ :: Fact.eq _ :: Fact.eq _ :: Fact.eq _ :: (Fact.rs (Y.recs.map Str.mk)) :: Fact.eq _ :: Fact.eq _ :: Fact.eq _ :: Fact.eq _ :: Fact.eq _ :: Fact.eq _ :: Fact.eq _ :: Fact.eq _ :: Fact.eq _ :: Fact.eq _ :: Fact.eq _ :: Fact.eq _ :: Fact.eq _ :: Fact.eq _ :: Fact.eq _ :: Fact.eq _ :: Fact.eq _ :: Fact.eq _ :: Fact.eq _ :: Fact.eq _ :: Fact.eq _ :: Fact.eq _ :: Fact.eq _ :: []) 34 [(33, 109)] rfl rfl
     ·refine D_s (js := []) (by kernel_rfl) (fun _ _ => QA_nil (DPu T.ok rfl rfl rfl)) ?_
      refine D_s (js := [(0, 76)]) (by kernel_rfl) (fun _ _ => QA_eq rfl (QA_nil (DPu T.ok rfl rfl rfl))) ?_
      refine D_s (js := [(1, 77)]) (by kernel_rfl) (fun _ _ => QA_eq rfl (QA_nil (DPu T.ok rfl rfl rfl))) ?_
      refine D_s (js := [(2, 78)]) (by kernel_rfl) (fun _ hf => QA_eq rfl (QA_nil (DLo T.ok 0 rfl rfl (hs.dr.call hf) rfl rfl rfl rfl))) ?_
      refine D_cons (D_step2 (js := [(3, 79)]) (by kernel_rfl) fun gd hf => ?_) ?_
      ·have hsd := hs.dr.call hf; have hfe := (G.le_dr _).trans hf.le
       refine QA_eq rfl ?_
       refine QA_nil ?_
       refine D_yes rfl ?_
       refine OpR_eqNilPtr T.ok (neg := true) rfl rfl rfl rfl rfl ?_
       exact ⟨_, rfl, Fr0.refl _, rfl⟩
      refine D_s (js := [(4, 80)]) (by kernel_rfl) (fun _ _ => QA_eq rfl (QA_nil (DPu T.ok rfl rfl rfl))) ?_
      refine D_s (js := [(5, 81)]) (by kernel_rfl) (fun _ _ => QA_eq rfl (QA_nil (DPu T.ok rfl rfl rfl))) ?_
      refine D_s (js := [(6, 82), (5, 81)]) (by kernel_rfl) (fun _ _ => QA_eq rfl (QA_eq rfl (QA_nil (DPu T.ok rfl rfl rfl)))) ?_
      refine D_s (js := [(7, 83), (5, 81)]) (by kernel_rfl) (fun _ _ => QA_eq rfl (QA_eq rfl (QA_nil (DPu T.ok rfl rfl rfl)))) ?_
      refine D_s (js := [(8, 84), (5, 81)]) (by kernel_rfl) (fun _ hf => QA_eq rfl (QA_eq rfl (QA_nil (DLo T.ok 0 rfl rfl (hs.dr.call hf) rfl rfl rfl rfl)))) ?_
      refine D_cons (D_step2 (js := [(9, 85), (5, 81), (5, 81)]) (by kernel_rfl) fun gd hf => ?_) ?_
      ·have hsd := hs.dr.call hf; have hfe := (G.le_dr _).trans hf.le
       refine QA_eq rfl ?_; refine QA_eq rfl ?_; refine QA_eq rfl ?_
       refine QA_nil ?_
       refine D_yes rfl ?_
       refine OpR_ret cl19 allF rfl rfl rfl rfl rfl (records_c (B := B) (A := A2) (br := br) hyok (St.arr [[wO bw A2.b R2.b (.pointer (some ⟨B.b, 0, none⟩)) (.pointer (some ⟨kb, 0, none⟩))], jnL B A2 br Y, dkL A2 D2, [kjO kb R2.b kv' br Y], rkL R2 D2] [1, 0, 2, 3, 4] rfl hsd)) fun g' v h1 h2 => ?_
       obtain ⟨g2, hw2, hs2, hle2, hrs⟩ := (St.start gd).ownRs h1 h2
       exact ⟨g2, hw2, hs2.fr0, hrs⟩
      refine D_s (js := [(5, 81)]) (by kernel_rfl) (fun _ _ => QA_eq rfl (QA_nil (DPu T.ok rfl rfl rfl))) ?_
      refine D_s (js := [(11, 87), (5, 81)]) (by kernel_rfl) (fun _ _ => QA_eq rfl (QA_eq rfl (QA_nil (DPu T.ok rfl rfl rfl)))) ?_
      refine D_s (js := [(12, 88), (5, 81)]) (by kernel_rfl) (fun _ _ => QA_eq rfl (QA_eq rfl (QA_nil (DPu T.ok rfl rfl rfl)))) ?_
      refine D_s (js := [(13, 89), (5, 81)]) (by kernel_rfl) (fun _ hf => QA_eq rfl (QA_eq rfl (QA_nil (DLo T.ok 0 rfl rfl (hs.dr.call hf) rfl rfl rfl rfl)))) ?_
      refine D_s (js := [(14, 90), (5, 81)]) (by kernel_rfl) (fun _ _ => QA_eq rfl (QA_eq rfl (QA_nil (DPu T.ok rfl rfl rfl)))) ?_
      refine D_s (js := [(15, 91), (5, 81)]) (by kernel_rfl) (fun _ _ => QA_eq rfl (QA_eq rfl (QA_nil (DPu T.ok rfl rfl rfl)))) ?_
      refine D_cons (D_step2 (js := [(16, 92), (5, 81)]) (by kernel_rfl) fun gd hf => ?_) ?_
      ·have hsd := hs.dr.call hf; have hfe := (G.le_dr _).trans hf.le
       refine QA_eq rfl ?_; refine QA_eq rfl ?_
       refine QA_nil ?_
       refine D_yes rfl ?_
       refine OpR_loadO T.ok 0 rfl (St.arr [[wO bw A2.b R2.b (.pointer (some ⟨B.b, 0, none⟩)) (.pointer (some ⟨kb, 0, none⟩))], jnL B A2 br Y, dkL A2 D2, [kjO kb R2.b kv' br Y], rkL R2 D2] [3, 0, 1, 2, 4] rfl hsd) rfl rfl rfl ?_
       exact ⟨_, rfl, Fr0.refl _, rfl⟩
      refine D_cons (D_step2 (js := [(10, 86), (17, 93), (10, 86), (5, 81)]) (by kernel_rfl) fun gd hf => ?_) ?_
      ·have hsd := hs.dr.call hf; have hfe := (G.le_dr _).trans hf.le
       refine QA_any fun v10 h10 => ?_; refine QA_eq rfl ?_; refine QA_any fun v10 h10 => ?_; refine QA_eq rfl ?_
       refine QA_nil ?_
       refine D_yes rfl ?_
       refine OpR_ret cl18 allF rfl rfl rfl rfl rfl (same_c _ _ _ _ gd h10 (rs5.mono hfe)) fun g' v h1 h2 => ?_
       obtain ⟨b, rfl, hb⟩ := h2
       obtain rfl := hb.2 rfl
       exact ⟨g', rfl, h1, rfl⟩
      refine D_s (js := [(18, 94), (5, 81)]) (by kernel_rfl) (fun _ _ => QA_eq rfl (QA_eq rfl (QA_nil (DPu T.ok rfl rfl rfl)))) ?_
      refine D_s (js := [(19, 95), (5, 81)]) (by kernel_rfl) (fun _ _ => QA_eq rfl (QA_eq rfl (QA_nil (DPu T.ok rfl rfl rfl)))) ?_
      refine D_s (js := [(20, 96)]) (by kernel_rfl) (fun _ _ => QA_eq rfl (QA_nil (DPu T.ok rfl rfl rfl))) ?_
      refine D_s (js := [(21, 97), (20, 96)]) (by kernel_rfl) (fun _ _ => QA_eq rfl (QA_eq rfl (QA_nil (DPu T.ok rfl rfl rfl)))) ?_
      refine D_s (js := [(22, 98), (20, 96)]) (by kernel_rfl) (fun _ _ => QA_eq rfl (QA_eq rfl (QA_nil (DPu T.ok rfl rfl rfl)))) ?_
      refine D_s (js := [(23, 99), (20, 96)]) (by kernel_rfl) (fun _ hf => QA_eq rfl (QA_eq rfl (QA_nil (DLo T.ok 0 rfl rfl (hs.dr.call hf) rfl rfl rfl rfl)))) ?_
      refine D_cons (D_step2 (js := [(24, 100), (20, 96), (20, 96)]) (by kernel_rfl) fun gd hf => ?_) ?_
      ·have hsd := hs.dr.call hf; have hfe := (G.le_dr _).trans hf.le
       refine QA_eq rfl ?_; refine QA_eq rfl ?_; refine QA_eq rfl ?_
       refine QA_nil ?_
       refine D_yes rfl ?_
       refine OpR_ret cl20 allF rfl rfl rfl rfl rfl (room_c (B := B) (A := A2) (br := br) hD hyok (St.arr [[wO bw A2.b R2.b (.pointer (some ⟨B.b, 0, none⟩)) (.pointer (some ⟨kb, 0, none⟩))], jnL B A2 br Y, dkL A2 D2, [kjO kb R2.b kv' br Y], rkL R2 D2] [1, 2, 0, 3, 4] rfl hsd)) fun g' v h1 h2 => ⟨g', rfl, h1, ?_⟩
       exact h2
      refine D_s (js := [(20, 96)]) (by kernel_rfl) (fun _ _ => QA_eq rfl (QA_nil (DPu T.ok rfl rfl rfl))) ?_
      refine D_s (js := [(26, 102), (20, 96)]) (by kernel_rfl) (fun _ _ => QA_eq rfl (QA_eq rfl (QA_nil (DPu T.ok rfl rfl rfl)))) ?_
      refine D_s (js := [(27, 103), (20, 96)]) (by kernel_rfl) (fun _ _ => QA_eq rfl (QA_eq rfl (QA_nil (DPu T.ok rfl rfl rfl)))) ?_
      refine D_s (js := [(28, 104), (20, 96)]) (by kernel_rfl) (fun _ hf => QA_eq rfl (QA_eq rfl (QA_nil (DLo T.ok 0 rfl rfl (hs.dr.call hf) rfl rfl rfl rfl)))) ?_
      refine D_cons (D_step2 (js := [(29, 105), (20, 96)]) (by kernel_rfl) fun gd hf => ?_) ?_
      ·have hsd := hs.dr.call hf; have hfe := (G.le_dr _).trans hf.le
       refine QA_eq rfl ?_; refine QA_eq rfl ?_
       refine QA_nil ?_
       refine D_yes rfl ?_
       refine OpR_ret cl21 allF rfl rfl rfl rfl rfl (rroom_c (b := kb) (A := R2) (v := kv') (br := br) (Y := Y) (D := D2) hD.le hyok.size (St.arr [[wO bw A2.b R2.b (.pointer (some ⟨B.b, 0, none⟩)) (.pointer (some ⟨kb, 0, none⟩))], jnL B A2 br Y, dkL A2 D2, [kjO kb R2.b kv' br Y], rkL R2 D2] [3, 4, 0, 1, 2] rfl hsd)) fun g' v h1 h2 => ⟨g', rfl, h1, ?_⟩
       exact h2
      refine D_cons (D_step2 (js := [(25, 101), (30, 106), (20, 96)]) (by kernel_rfl) fun gd hf => ?_) ?_
      ·have hsd := hs.dr.call hf; have hfe := (G.le_dr _).trans hf.le
       refine QA_eq rfl ?_; refine QA_eq rfl ?_; refine QA_eq rfl ?_
       refine QA_nil ?_
       refine D_yes rfl ?_
       refine OpR_pure _ T.ok rfl ?_
       refine ⟨_, rfl, Fr0.refl _, ?_⟩
       exact congrArg Value.bool (bne_self_eq_false _)
      refine D_s (js := [(20, 96), (31, 107), (5, 81)]) (by kernel_rfl) (fun _ _ => QA_eq rfl (QA_eq rfl (QA_eq rfl (QA_nil (DPu T.ok rfl rfl rfl))))) ?_
      refine D_s (js := [(5, 81), (32, 108)]) (by kernel_rfl) (fun _ _ => QA_eq rfl (QA_eq rfl (QA_nil (DPu T.ok rfl rfl rfl)))) ?_
      exact D_nil
     intro g1 hf1; refine QA_eq rfl ?_; refine QA_nil ?_
     replace hs := hs.dr.call hf1; have hqe := (G.le_dr _).trans hf1.le; replace le0 := G.le.trans le0 hqe; replace le8 := G.le.trans le8 hqe; replace rs1 := rs1.mono hqe; replace rs5 := rs5.mono hqe
     refine WL_nil ?_; (with_reducible refine T_then ?_)
     refine W_no rfl rfl ?_
     refine W_skip ?_; (with_reducible refine T_bn ?_); (with_reducible refine T_then ?_); refine W_region ?_; (iterate 3 refine P1 T.ok rfl rfl rfl ?_); refine WL_nil ?_
     exact fun a ha => ⟨25 - (k + 1), by omega, k + 1, _, L2, A2, R2, D2, _, rfl, ⟨_, _, _, _, hrel0.mono le8, hs⟩, hW, le0, by omega, by omega, rfl, ha.keep ⟨rfl, rfl, rfl, kI rfl (by rw [wr (by omega) (by omega)]; omega), trivial⟩⟩
   | false =>
    have hvis := fun (gq : G) (h : St g gq ([wO bw A2.b R2.b jv kv] ++ (X ++ (dkL A2 D2 ++ (Z ++ (rkL R2 D2 ++ L2)))))) => rvis_c hD hR (St.arr [[wO bw A2.b R2.b jv kv], X, dkL A2 D2, Z, rkL R2 D2] [4, 0, 1, 2, 3] rfl h)
    apply W_draw allF rfl (Fact.eq _ :: Fact.eq _ :: Fact.eq _ :: Fact.eq _ :: Fact.eq _ :: Fact.eq _ :: Fact.eq _ :: Fact.eq _ :: Fact.eq _ :: Fact.eq _ :: Fact.eq _ :: Fact.eq _ :: Fact.eq _ :: Fact.eq _ :: Fact.eq _ :: Fact.eq _ :: Fact.eq _ :: Fact.eq _ :: Fact.eq _ :: Fact.eq _ :: Fact.eq _ :: Fact.eq _ :: Fact.eq _ :: Fact.eq _ :: Fact.eq _ :: Fact.eq _ :: Fact.eq _ :: Fact.eq _ :: Fact.eq _ :: Fact.eq _ :: Fact.eq _ :: Fact.eq _ :: (Fact.eq (.string (bs D2.vis))) :: Fact.eq _ :: Fact.eq _ :: Fact.eq _ :: Fact.eq _ :: (Fact.rs D2.vis) :: (Fact.eq (.string (bs D2.vis))) :: Fact.eq _ :: Fact.eq _ :: Fact.eq _ :: []) 42 [(41, 75)] rfl rfl
    ·refine D_s (js := []) (by kernel_rfl) (fun _ _ => QA_nil (DPu T.ok rfl rfl rfl)) ?_
     refine D_s (js := [(0, 34)]) (by kernel_rfl) (fun _ _ => QA_eq rfl (QA_nil (DPu T.ok rfl rfl rfl))) ?_
     refine D_s (js := [(1, 35)]) (by kernel_rfl) (fun _ _ => QA_eq rfl (QA_nil (DPu T.ok rfl rfl rfl))) ?_
     refine D_s (js := [(2, 36)]) (by kernel_rfl) (fun _ _ => QA_eq rfl (QA_nil (DPu T.ok rfl rfl rfl))) ?_
     refine D_s (js := [(3, 37), (2, 36)]) (by kernel_rfl) (fun _ _ => QA_eq rfl (QA_eq rfl (QA_nil (DPu T.ok rfl rfl rfl)))) ?_
     refine D_s (js := [(4, 38), (2, 36)]) (by kernel_rfl) (fun _ _ => QA_eq rfl (QA_eq rfl (QA_nil (DPu T.ok rfl rfl rfl)))) ?_
     refine D_s (js := [(5, 39), (2, 36)]) (by kernel_rfl) (fun _ hf => QA_eq rfl (QA_eq rfl (QA_nil (DLo T.ok 0 rfl rfl (hs.dr.call hf) rfl rfl rfl rfl)))) ?_
     refine D_cons (D_step2 (js := [(6, 40), (2, 36), (2, 36)]) (by kernel_rfl) fun gd hf => ?_) ?_
     ·have hsd := hs.dr.call hf; have hfe := (G.le_dr _).trans hf.le
      refine QA_eq rfl ?_; refine QA_eq rfl ?_; refine QA_eq rfl ?_
      refine QA_nil ?_
      refine D_yes rfl ?_
      refine OpR_ret cl32 allF rfl rfl rfl rfl rfl (dpending_c (A := A2) (D := D2) (St.arr [[wO bw A2.b R2.b jv kv], X, dkL A2 D2, Z, rkL R2 D2] [2, 0, 1, 3, 4] rfl hsd)) fun g' v h1 h2 => ⟨g', rfl, h1, ?_⟩
      exact h2
     refine D_s (js := [(2, 36)]) (by kernel_rfl) (fun _ _ => QA_eq rfl (QA_nil (DPu T.ok rfl rfl rfl))) ?_
     refine D_s (js := [(8, 42), (2, 36)]) (by kernel_rfl) (fun _ _ => QA_eq rfl (QA_eq rfl (QA_nil (DPu T.ok rfl rfl rfl)))) ?_
     refine D_s (js := [(9, 43), (2, 36)]) (by kernel_rfl) (fun _ _ => QA_eq rfl (QA_eq rfl (QA_nil (DPu T.ok rfl rfl rfl)))) ?_
     refine D_s (js := [(10, 44), (2, 36)]) (by kernel_rfl) (fun _ hf => QA_eq rfl (QA_eq rfl (QA_nil (DLo T.ok 0 rfl rfl (hs.dr.call hf) rfl rfl rfl rfl)))) ?_
     refine D_s (js := [(11, 45), (2, 36)]) (by kernel_rfl) (fun _ _ => QA_eq rfl (QA_eq rfl (QA_nil (DPu T.ok rfl rfl rfl)))) ?_
     refine D_s (js := [(12, 46), (2, 36)]) (by kernel_rfl) (fun _ _ => QA_eq rfl (QA_eq rfl (QA_nil (DPu T.ok rfl rfl rfl)))) ?_
     refine D_cons (D_step2 (js := [(13, 47), (2, 36)]) (by kernel_rfl) fun gd hf => ?_) ?_
     ·have hsd := hs.dr.call hf; have hfe := (G.le_dr _).trans hf.le
      refine QA_eq rfl ?_; refine QA_eq rfl ?_
      refine QA_nil ?_
      refine D_yes rfl ?_
      refine OpR_loadO T.ok 0 rfl (St.arr [[wO bw A2.b R2.b jv kv], X, dkL A2 D2, Z, rkL R2 D2] [4, 0, 1, 2, 3] rfl hsd) rfl rfl rfl ?_
      exact ⟨_, rfl, Fr0.refl _, rfl⟩
     refine D_s (js := [(14, 48), (2, 36)]) (by kernel_rfl) (fun _ _ => QA_eq rfl (QA_eq rfl (QA_nil (DPu T.ok rfl rfl rfl)))) ?_
     refine D_cons (D_step2 (js := [(7, 41), (15, 49), (2, 36)]) (by kernel_rfl) fun gd hf => ?_) ?_
     ·have hsd := hs.dr.call hf; have hfe := (G.le_dr _).trans hf.le
      refine QA_eq rfl ?_; refine QA_eq rfl ?_; refine QA_eq rfl ?_
      refine QA_nil ?_
      refine D_yes rfl ?_
      refine OpR_pure _ T.ok rfl ?_
      refine ⟨_, rfl, Fr0.refl _, ?_⟩
      exact congrArg Value.bool (bne_self_eq_false _)
     refine D_s (js := [(2, 36), (16, 50)]) (by kernel_rfl) (fun _ _ => QA_eq rfl (QA_eq rfl (QA_nil (DPu T.ok rfl rfl rfl)))) ?_
     refine D_s (js := [(17, 51)]) (by kernel_rfl) (fun _ _ => QA_eq rfl (QA_nil (DPu T.ok rfl rfl rfl))) ?_
     refine D_s (js := [(18, 52)]) (by kernel_rfl) (fun _ _ => QA_eq rfl (QA_nil (DPu T.ok rfl rfl rfl))) ?_
     refine D_s (js := [(19, 53), (18, 52)]) (by kernel_rfl) (fun _ _ => QA_eq rfl (QA_eq rfl (QA_nil (DPu T.ok rfl rfl rfl)))) ?_
     refine D_s (js := [(20, 54), (18, 52)]) (by kernel_rfl) (fun _ _ => QA_eq rfl (QA_eq rfl (QA_nil (DPu T.ok rfl rfl rfl)))) ?_
     refine D_s (js := [(21, 55), (18, 52)]) (by kernel_rfl) (fun _ hf => QA_eq rfl (QA_eq rfl (QA_nil (DLo T.ok 0 rfl rfl (hs.dr.call hf) rfl rfl rfl rfl)))) ?_
     refine D_s (js := [(22, 56), (18, 52)]) (by kernel_rfl) (fun _ _ => QA_eq rfl (QA_eq rfl (QA_nil (DPu T.ok rfl rfl rfl)))) ?_
     refine D_s (js := [(23, 57), (18, 52)]) (by kernel_rfl) (fun _ _ => QA_eq rfl (QA_eq rfl (QA_nil (DPu T.ok rfl rfl rfl)))) ?_
     refine D_cons (D_step2 (js := [(24, 58), (18, 52)]) (by kernel_rfl) fun gd hf => ?_) ?_
     ·have hsd := hs.dr.call hf; have hfe := (G.le_dr _).trans hf.le
      refine QA_eq rfl ?_; refine QA_eq rfl ?_
      refine QA_nil ?_
      refine D_yes rfl ?_
      refine OpR_loadO T.ok 0 rfl (St.arr [[wO bw A2.b R2.b jv kv], X, dkL A2 D2, Z, rkL R2 D2] [4, 0, 1, 2, 3] rfl hsd) rfl rfl rfl ?_
      refine ⟨_, rfl, Fr0.refl _, ?_⟩
      exact congrArg Value.bool ho
     refine D_s (js := [(25, 59), (18, 52)]) (by kernel_rfl) (fun _ _ => QA_eq rfl (QA_eq rfl (QA_nil (DPu T.ok rfl rfl rfl)))) ?_
     refine D_s (js := [(26, 60), (18, 52), (18, 52)]) (by kernel_rfl) (fun _ _ => QA_eq rfl (QA_eq rfl (QA_eq rfl (QA_nil (DPu T.ok rfl rfl rfl))))) ?_
     refine D_s (js := [(27, 61)]) (by kernel_rfl) (fun _ _ => QA_eq rfl (QA_nil (DPu T.ok rfl rfl rfl))) ?_
     refine D_s (js := [(28, 62), (27, 61)]) (by kernel_rfl) (fun _ _ => QA_eq rfl (QA_eq rfl (QA_nil (DPu T.ok rfl rfl rfl)))) ?_
     refine D_s (js := [(29, 63), (27, 61)]) (by kernel_rfl) (fun _ _ => QA_eq rfl (QA_eq rfl (QA_nil (DPu T.ok rfl rfl rfl)))) ?_
     refine D_s (js := [(30, 64), (27, 61)]) (by kernel_rfl) (fun _ hf => QA_eq rfl (QA_eq rfl (QA_nil (DLo T.ok 0 rfl rfl (hs.dr.call hf) rfl rfl rfl rfl)))) ?_
     refine D_cons (D_step2 (js := [(31, 65), (27, 61), (27, 61)]) (by kernel_rfl) fun gd hf => ?_) ?_
     ·have hsd := hs.dr.call hf; have hfe := (G.le_dr _).trans hf.le
      refine QA_eq rfl ?_; refine QA_eq rfl ?_; refine QA_eq rfl ?_
      refine QA_nil ?_
      refine D_yes rfl ?_
      refine OpR_ret cl22 allF rfl rfl rfl rfl rfl (content_c (A := A2) (D := D2) hD (St.arr [[wO bw A2.b R2.b jv kv], X, dkL A2 D2, Z, rkL R2 D2] [2, 0, 1, 3, 4] rfl hsd)) fun g' v h1 h2 => ⟨g', rfl, h1, ?_⟩
      rw [ho, if_neg (by simp)] at h2
      exact h2
     refine D_s (js := [(27, 61)]) (by kernel_rfl) (fun _ _ => QA_eq rfl (QA_nil (DPu T.ok rfl rfl rfl))) ?_
     refine D_s (js := [(33, 67), (27, 61)]) (by kernel_rfl) (fun _ _ => QA_eq rfl (QA_eq rfl (QA_nil (DPu T.ok rfl rfl rfl)))) ?_
     refine D_s (js := [(34, 68), (27, 61)]) (by kernel_rfl) (fun _ _ => QA_eq rfl (QA_eq rfl (QA_nil (DPu T.ok rfl rfl rfl)))) ?_
     refine D_s (js := [(35, 69), (27, 61)]) (by kernel_rfl) (fun _ hf => QA_eq rfl (QA_eq rfl (QA_nil (DLo T.ok 0 rfl rfl (hs.dr.call hf) rfl rfl rfl rfl)))) ?_
     refine D_cons (D_step2 (js := [(36, 70), (27, 61)]) (by kernel_rfl) fun gd hf => ?_) ?_
     ·have hsd := hs.dr.call hf; have hfe := (G.le_dr _).trans hf.le
      refine QA_eq rfl ?_; refine QA_eq rfl ?_
      refine QA_nil ?_
      refine D_yes rfl ?_
      refine OpR_ret cl23 allF rfl rfl rfl rfl rfl (hvis gd hsd) fun g' v h1 h2 => ?_
      obtain ⟨g2, hw2, hs2, hle2, hrs⟩ := (St.start gd).ownRs h1 h2
      exact ⟨g2, hw2, hs2.fr0, hrs⟩
     refine D_cons (D_step2 (js := [(37, 71), (27, 61)]) (by kernel_rfl) fun gd hf => ?_) ?_
     ·have hsd := hs.dr.call hf; have hfe := (G.le_dr _).trans hf.le
      refine QA_any fun v37 h37 => ?_; refine QA_eq rfl ?_
      refine QA_nil ?_
      obtain ⟨ax, cx, rfl⟩ := Rs.isSlice h37
      obtain ⟨_, news, hnw, hsrc⟩ := Src.of_rs h37
      obtain rfl := RcL.bytes_inv hnw
      have hsr2 : Src gd.w ax D2.vis.length 1 ((D2.vis.map fun b => (b.toNat : Int)).map (Value.int .u8)) := by
       rw [List.map_map]; exact hsrc
      refine D_yes rfl ?_
      refine OpR_bytesStr (ns := D2.vis.map fun b => (b.toNat : Int)) T.ok rfl rfl rfl rfl rfl rfl rfl rfl hsr2 ?_
      refine ⟨_, rfl, Fr0.refl _, ?_⟩
      show Value.string _ = _
      rw [bytesL]
     refine D_cons (D_step2 (js := [(32, 66), (38, 72), (27, 61)]) (by kernel_rfl) fun gd hf => ?_) ?_
     ·have hsd := hs.dr.call hf; have hfe := (G.le_dr _).trans hf.le
      refine QA_any fun v32 h32 => ?_; refine QA_any fun v38 h38 => ?_; refine QA_eq rfl ?_
      refine QA_nil ?_
      obtain rfl := h32
      obtain rfl := h38
      refine D_yes rfl ?_
      refine OpR_eqS (neg := true) rfl rfl rfl ?_
      refine ⟨_, rfl, Fr0.refl _, ?_⟩
      exact congrArg Value.bool (show (true != (D2.vis == D2.vis)) = false by simp)
     refine D_s (js := [(27, 61), (39, 73), (18, 52)]) (by kernel_rfl) (fun _ _ => QA_eq rfl (QA_eq rfl (QA_eq rfl (QA_nil (DPu T.ok rfl rfl rfl))))) ?_
     refine D_s (js := [(18, 52), (40, 74)]) (by kernel_rfl) (fun _ _ => QA_eq rfl (QA_eq rfl (QA_nil (DPu T.ok rfl rfl rfl)))) ?_
     exact D_nil
    intro g1 hf1; refine QA_eq rfl ?_; refine QA_nil ?_
    replace hs := hs.dr.call hf1; have hqe := (G.le_dr _).trans hf1.le; replace le0 := G.le.trans le0 hqe; replace le8 := G.le.trans le8 hqe; replace rs1 := rs1.mono hqe
    refine WL_nil ?_; (with_reducible refine T_then ?_)
    refine W_no rfl rfl ?_
    refine W_skip ?_; (with_reducible refine T_then ?_); refine W_seq ?_
    cases st2 with
    | none =>
     obtain ⟨rfl, rfl, rfl, rfl⟩ := hrel
     apply W_draw allF rfl (Fact.eq _ :: Fact.eq _ :: Fact.eq _ :: Fact.eq _ :: Fact.eq _ :: Fact.eq _ :: Fact.eq _ :: Fact.eq _ :: Fact.eq _ :: Fact.eq _ :: Fact.eq _ :: Fact.eq _ :: Fact.eq _ :: Fact.eq _ :: Fact.eq _ :: Fact.eq _ :: Fact.eq _ :: Fact.eq _ :: Fact.eq _ :: Fact.eq _ :: Fact.eq _ :: Fact.eq _ :: Fact.eq _ :: Fact.eq _ :: Fact.eq _ :: Fact.eq _ :: Fact.eq _ :: Fact.eq _ :: Fact.eq _ :: Fact.eq _ :: Fact.eq _ :: Fact.eq _ :: Fact.eq _ :: Fact.eq _ :: []) 34 [(33, 109)] rfl rfl
     ·refine D_s (js := []) (by kernel_rfl) (fun _ _ => QA_nil (DPu T.ok rfl rfl rfl)) ?_
      refine D_s (js := [(0, 76)]) (by kernel_rfl) (fun _ _ => QA_eq rfl (QA_nil (DPu T.ok rfl rfl rfl))) ?_
      refine D_s (js := [(1, 77)]) (by kernel_rfl) (fun _ _ => QA_eq rfl (QA_nil (DPu T.ok rfl rfl rfl))) ?_
      refine D_s (js := [(2, 78)]) (by kernel_rfl) (fun _ hf => QA_eq rfl (QA_nil (DLo T.ok 0 rfl rfl (hs.dr.call hf) rfl rfl rfl rfl))) ?_
      refine D_cons (D_step2 (js := [(3, 79)]) (by kernel_rfl) fun gd hf => ?_) ?_
      ·have hsd := hs.dr.call hf; have hfe := (G.le_dr _).trans hf.le
       refine QA_eq rfl ?_
       refine QA_nil ?_
       refine D_yes rfl ?_
       refine OpR_eqNilPtr T.ok (neg := true) rfl rfl rfl rfl rfl ?_
       exact ⟨_, rfl, Fr0.refl _, rfl⟩
      refine D_s (js := [(4, 80)]) (by kernel_rfl) (fun _ _ => QA_eq rfl (QA_nil (DPu T.ok rfl rfl rfl))) ?_
      refine D_s (js := [(5, 81)]) (by kernel_rfl) (fun _ _ => QA_eq rfl (QA_nil (DNo rfl rfl))) ?_
      refine D_s (js := [(6, 82), (5, 81)]) (by kernel_rfl) (fun _ _ => QA_eq rfl (QA_eq rfl (QA_nil (DNo rfl rfl)))) ?_
      refine D_s (js := [(7, 83), (5, 81)]) (by kernel_rfl) (fun _ _ => QA_eq rfl (QA_eq rfl (QA_nil (DNo rfl rfl)))) ?_
      refine D_s (js := [(8, 84), (5, 81)]) (by kernel_rfl) (fun _ _ => QA_eq rfl (QA_eq rfl (QA_nil (DNo rfl rfl)))) ?_
      refine D_s (js := [(9, 85), (5, 81), (5, 81)]) (by kernel_rfl) (fun _ _ => QA_eq rfl (QA_eq rfl (QA_eq rfl (QA_nil (DNo rfl rfl))))) ?_
      refine D_s (js := [(5, 81)]) (by kernel_rfl) (fun _ _ => QA_eq rfl (QA_nil (DNo rfl rfl))) ?_
      refine D_s (js := [(11, 87), (5, 81)]) (by kernel_rfl) (fun _ _ => QA_eq rfl (QA_eq rfl (QA_nil (DNo rfl rfl)))) ?_
      refine D_s (js := [(12, 88), (5, 81)]) (by kernel_rfl) (fun _ _ => QA_eq rfl (QA_eq rfl (QA_nil (DNo rfl rfl)))) ?_
      refine D_s (js := [(13, 89), (5, 81)]) (by kernel_rfl) (fun _ _ => QA_eq rfl (QA_eq rfl (QA_nil (DNo rfl rfl)))) ?_
      refine D_s (js := [(14, 90), (5, 81)]) (by kernel_rfl) (fun _ _ => QA_eq rfl (QA_eq rfl (QA_nil (DNo rfl rfl)))) ?_
      refine D_s (js := [(15, 91), (5, 81)]) (by kernel_rfl) (fun _ _ => QA_eq rfl (QA_eq rfl (QA_nil (DNo rfl rfl)))) ?_
      refine D_s (js := [(16, 92), (5, 81)]) (by kernel_rfl) (fun _ _ => QA_eq rfl (QA_eq rfl (QA_nil (DNo rfl rfl)))) ?_
      refine D_s (js := [(10, 86), (17, 93), (10, 86), (5, 81)]) (by kernel_rfl) (fun _ _ => QA_eq rfl (QA_eq rfl (QA_eq rfl (QA_eq rfl (QA_nil (DNo rfl rfl)))))) ?_
      refine D_s (js := [(18, 94), (5, 81)]) (by kernel_rfl) (fun _ _ => QA_eq rfl (QA_eq rfl (QA_nil (DNo rfl rfl)))) ?_
      refine D_s (js := [(19, 95), (5, 81)]) (by kernel_rfl) (fun _ _ => QA_eq rfl (QA_eq rfl (QA_nil (DNo rfl rfl)))) ?_
      refine D_s (js := [(20, 96)]) (by kernel_rfl) (fun _ _ => QA_eq rfl (QA_nil (DNo rfl rfl))) ?_
      refine D_s (js := [(21, 97), (20, 96)]) (by kernel_rfl) (fun _ _ => QA_eq rfl (QA_eq rfl (QA_nil (DNo rfl rfl)))) ?_
      refine D_s (js := [(22, 98), (20, 96)]) (by kernel_rfl) (fun _ _ => QA_eq rfl (QA_eq rfl (QA_nil (DNo rfl rfl)))) ?_
      refine D_s (js := [(23, 99), (20, 96)]) (by kernel_rfl) (fun _ _ => QA_eq rfl (QA_eq rfl (QA_nil (DNo rfl rfl)))) ?_
      refine D_s (js := [(24, 100), (20, 96), (20, 96)]) (by kernel_rfl) (fun _ _ => QA_eq rfl (QA_eq rfl (QA_eq rfl (QA_nil (DNo rfl rfl))))) ?_
      refine D_s (js := [(20, 96)]) (by kernel_rfl) (fun _ _ => QA_eq rfl (QA_nil (DNo rfl rfl))) ?_
      refine D_s (js := [(26, 102), (20, 96)]) (by kernel_rfl) (fun _ _ => QA_eq rfl (QA_eq rfl (QA_nil (DNo rfl rfl)))) ?_
      refine D_s (js := [(27, 103), (20, 96)]) (by kernel_rfl) (fun _ _ => QA_eq rfl (QA_eq rfl (QA_nil (DNo rfl rfl)))) ?_
      refine D_s (js := [(28, 104), (20, 96)]) (by kernel_rfl) (fun _ _ => QA_eq rfl (QA_eq rfl (QA_nil (DNo rfl rfl)))) ?_
      refine D_s (js := [(29, 105), (20, 96)]) (by kernel_rfl) (fun _ _ => QA_eq rfl (QA_eq rfl (QA_nil (DNo rfl rfl)))) ?_
      refine D_s (js := [(25, 101), (30, 106), (20, 96)]) (by kernel_rfl) (fun _ _ => QA_eq rfl (QA_eq rfl (QA_eq rfl (QA_nil (DNo rfl rfl))))) ?_
      refine D_s (js := [(20, 96), (31, 107), (5, 81)]) (by kernel_rfl) (fun _ _ => QA_eq rfl (QA_eq rfl (QA_eq rfl (QA_nil (DNo rfl rfl))))) ?_
      refine D_s (js := [(5, 81), (32, 108)]) (by kernel_rfl) (fun _ _ => QA_eq rfl (QA_eq rfl (QA_nil (DPu T.ok rfl rfl rfl)))) ?_
      exact D_nil
     intro g1 hf1; refine QA_eq rfl ?_; refine QA_nil ?_
     replace hs := hs.dr.call hf1; have hqe := (G.le_dr _).trans hf1.le; replace le0 := G.le.trans le0 hqe; replace le8 := G.le.trans le8 hqe; replace rs1 := rs1.mono hqe
     refine WL_nil ?_; (with_reducible refine T_then ?_)
     refine W_no rfl rfl ?_
     refine W_skip ?_; (with_reducible refine T_bn ?_); (with_reducible refine T_then ?_); refine W_region ?_; (iterate 3 refine P1 T.ok rfl rfl rfl ?_); refine WL_nil ?_
     exact fun a ha => ⟨25 - (k + 1), by omega, k + 1, _, L2, A2, R2, D2, _, rfl, ⟨_, _, _, _, hrel0.mono le8, hs⟩, hW, le0, by omega, by omega, rfl, ha.keep ⟨rfl, rfl, rfl, kI rfl (by rw [wr (by omega) (by omega)]; omega), trivial⟩⟩
    | some q =>
     obtain ⟨Y, br⟩ := q
     obtain ⟨B, kb, kv', rsv, rfl, rfl, rfl, rfl⟩ := hrel
     have rs5 := rsv.mono le8
     clear rsv
     obtain ⟨_, _, _, rs, rs', hany⟩ := id hW
     have hyok := hany.ok.2.2.2.1
     apply W_draw allF rfl (Fact.eq _ :: Fact.eq _ :: Fact.eq _ :: Fact.eq _ :: Fact.eq _ :: Fact.eq _ :: Fact.eq _ :: Fact.eq _ :: Fact.eq _ :: Fact.eq _ :: (Fact.rs (Y.recs.map Str.mk)) :: Fact.eq _ :: Fact.eq _ :: Fact.eq _ :: Fact.eq _ :: Fact.eq _ :: Fact.eq _ :: Fact.eq _ :: Fact.eq _ :: Fact.eq _ :: Fact.eq _ :: Fact.eq _ :: Fact.eq _ :: Fact.eq _ :: Fact.eq _ :: Fact.eq _ :: Fact.eq _ :: Fact.eq _ :: Fact.eq _ :: Fact.eq _ :: Fact.eq _ :: Fact.eq _ :: Fact.eq _ :: Fact.eq _ :: []) 34 [(33, 109)] rfl rfl
     ·refine D_s (js := []) (by kernel_rfl) (fun _ _ => QA_nil (DPu T.ok rfl rfl rfl)) ?_
      refine D_s (js := [(0, 76)]) (by kernel_rfl) (fun _ _ => QA_eq rfl (QA_nil (DPu T.ok rfl rfl rfl))) ?_
      refine D_s (js := [(1, 77)]) (by kernel_rfl) (fun _ _ => QA_eq rfl (QA_nil (DPu T.ok rfl rfl rfl))) ?_
      refine D_s (js := [(2, 78)]) (by kernel_rfl) (fun _ hf => QA_eq rfl (QA_nil (DLo T.ok 0 rfl rfl (hs.dr.call hf) rfl rfl rfl rfl))) ?_
      refine D_cons (D_step2 (js := [(3, 79)]) (by kernel_rfl) fun gd hf => ?_) ?_
      ·have hsd := hs.dr.call hf; have hfe := (G.le_dr _).trans hf.le
       refine QA_eq rfl ?_
       refine QA_nil ?_
       refine D_yes rfl ?_
       refine OpR_eqNilPtr T.ok (neg := true) rfl rfl rfl rfl rfl ?_
       exact ⟨_, rfl, Fr0.refl _, rfl⟩
      refine D_s (js := [(4, 80)]) (by kernel_rfl) (fun _ _ => QA_eq rfl (QA_nil (DPu T.ok rfl rfl rfl))) ?_
      refine D_s (js := [(5, 81)]) (by kernel_rfl) (fun _ _ => QA_eq rfl (QA_nil (DPu T.ok rfl rfl rfl))) ?_
      refine D_s (js := [(6, 82), (5, 81)]) (by kernel_rfl) (fun _ _ => QA_eq rfl (QA_eq rfl (QA_nil (DPu T.ok rfl rfl rfl)))) ?_
      refine D_s (js := [(7, 83), (5, 81)]) (by kernel_rfl) (fun _ _ => QA_eq rfl (QA_eq rfl (QA_nil (DPu T.ok rfl rfl rfl)))) ?_
      refine D_s (js := [(8, 84), (5, 81)]) (by kernel_rfl) (fun _ hf => QA_eq rfl (QA_eq rfl (QA_nil (DLo T.ok 0 rfl rfl (hs.dr.call hf) rfl rfl rfl rfl)))) ?_
      refine D_cons (D_step2 (js := [(9, 85), (5, 81), (5, 81)]) (by kernel_rfl) fun gd hf => ?_) ?_
      ·have hsd := hs.dr.call hf; have hfe := (G.le_dr _).trans hf.le
       refine QA_eq rfl ?_; refine QA_eq rfl ?_; refine QA_eq rfl ?_
       refine QA_nil ?_
       refine D_yes rfl ?_
       refine OpR_ret cl19 allF rfl rfl rfl rfl rfl (records_c (B := B) (A := A2) (br := br) hyok (St.arr [[wO bw A2.b R2.b (.pointer (some ⟨B.b, 0, none⟩)) (.pointer (some ⟨kb, 0, none⟩))], jnL B A2 br Y, dkL A2 D2, [kjO kb R2.b kv' br Y], rkL R2 D2] [1, 0, 2, 3, 4] rfl hsd)) fun g' v h1 h2 => ?_
       obtain ⟨g2, hw2, hs2, hle2, hrs⟩ := (St.start gd).ownRs h1 h2
       exact ⟨g2, hw2, hs2.fr0, hrs⟩
      refine D_s (js := [(5, 81)]) (by kernel_rfl) (fun _ _ => QA_eq rfl (QA_nil (DPu T.ok rfl rfl rfl))) ?_
      refine D_s (js := [(11, 87), (5, 81)]) (by kernel_rfl) (fun _ _ => QA_eq rfl (QA_eq rfl (QA_nil (DPu T.ok rfl rfl rfl)))) ?_
      refine D_s (js := [(12, 88), (5, 81)]) (by kernel_rfl) (fun _ _ => QA_eq rfl (QA_eq rfl (QA_nil (DPu T.ok rfl rfl rfl)))) ?_
      refine D_s (js := [(13, 89), (5, 81)]) (by kernel_rfl) (fun _ hf => QA_eq rfl (QA_eq rfl (QA_nil (DLo T.ok 0 rfl rfl (hs.dr.call hf) rfl rfl rfl rfl)))) ?_
      refine D_s (js := [(14, 90), (5, 81)]) (by kernel_rfl) (fun _ _ => QA_eq rfl (QA_eq rfl (QA_nil (DPu T.ok rfl rfl rfl)))) ?_
      refine D_s (js := [(15, 91), (5, 81)]) (by kernel_rfl) (fun _ _ => QA_eq rfl (QA_eq rfl (QA_nil (DPu T.ok rfl rfl rfl)))) ?_
      refine D_cons (D_step2 (js := [(16, 92), (5, 81)]) (by kernel_rfl) fun gd hf => ?_) ?_
      ·have hsd := hs.dr.call hf; have hfe := (G.le_dr _).trans hf.le
       refine QA_eq rfl ?_; refine QA_eq rfl ?_
       refine QA_nil ?_
       refine D_yes rfl ?_
       refine OpR_loadO T.ok 0 rfl (St.arr [[wO bw A2.b R2.b (.pointer (some ⟨B.b, 0, none⟩)) (.pointer (some ⟨kb, 0, none⟩))], jnL B A2 br Y, dkL A2 D2, [kjO kb R2.b kv' br Y], rkL R2 D2] [3, 0, 1, 2, 4] rfl hsd) rfl rfl rfl ?_
       exact ⟨_, rfl, Fr0.refl _, rfl⟩
      refine D_cons (D_step2 (js := [(10, 86), (17, 93), (10, 86), (5, 81)]) (by kernel_rfl) fun gd hf => ?_) ?_
      ·have hsd := hs.dr.call hf; have hfe := (G.le_dr _).trans hf.le
       refine QA_any fun v10 h10 => ?_; refine QA_eq rfl ?_; refine QA_any fun v10 h10 => ?_; refine QA_eq rfl ?_
       refine QA_nil ?_
       refine D_yes rfl ?_
       refine OpR_ret cl18 allF rfl rfl rfl rfl rfl (same_c _ _ _ _ gd h10 (rs5.mono hfe)) fun g' v h1 h2 => ?_
       obtain ⟨b, rfl, hb⟩ := h2
       obtain rfl := hb.2 rfl
       exact ⟨g', rfl, h1, rfl⟩
      refine D_s (js := [(18, 94), (5, 81)]) (by kernel_rfl) (fun _ _ => QA_eq rfl (QA_eq rfl (QA_nil (DPu T.ok rfl rfl rfl)))) ?_
      refine D_s (js := [(19, 95), (5, 81)]) (by kernel_rfl) (fun _ _ => QA_eq rfl (QA_eq rfl (QA_nil (DPu T.ok rfl rfl rfl)))) ?_
      refine D_s (js := [(20, 96)]) (by kernel_rfl) (fun _ _ => QA_eq rfl (QA_nil (DPu T.ok rfl rfl rfl))) ?_
      refine D_s (js := [(21, 97), (20, 96)]) (by kernel_rfl) (fun _ _ => QA_eq rfl (QA_eq rfl (QA_nil (DPu T.ok rfl rfl rfl)))) ?_
      refine D_s (js := [(22, 98), (20, 96)]) (by kernel_rfl) (fun _ _ => QA_eq rfl (QA_eq rfl (QA_nil (DPu T.ok rfl rfl rfl)))) ?_
      refine D_s (js := [(23, 99), (20, 96)]) (by kernel_rfl) (fun _ hf => QA_eq rfl (QA_eq rfl (QA_nil (DLo T.ok 0 rfl rfl (hs.dr.call hf) rfl rfl rfl rfl)))) ?_
      refine D_cons (D_step2 (js := [(24, 100), (20, 96), (20, 96)]) (by kernel_rfl) fun gd hf => ?_) ?_
      ·have hsd := hs.dr.call hf; have hfe := (G.le_dr _).trans hf.le
       refine QA_eq rfl ?_; refine QA_eq rfl ?_; refine QA_eq rfl ?_
       refine QA_nil ?_
       refine D_yes rfl ?_
       refine OpR_ret cl20 allF rfl rfl rfl rfl rfl (room_c (B := B) (A := A2) (br := br) hD hyok (St.arr [[wO bw A2.b R2.b (.pointer (some ⟨B.b, 0, none⟩)) (.pointer (some ⟨kb, 0, none⟩))], jnL B A2 br Y, dkL A2 D2, [kjO kb R2.b kv' br Y], rkL R2 D2] [1, 2, 0, 3, 4] rfl hsd)) fun g' v h1 h2 => ⟨g', rfl, h1, ?_⟩
       exact h2
      refine D_s (js := [(20, 96)]) (by kernel_rfl) (fun _ _ => QA_eq rfl (QA_nil (DPu T.ok rfl rfl rfl))) ?_
      refine D_s (js := [(26, 102), (20, 96)]) (by kernel_rfl) (fun _ _ => QA_eq rfl (QA_eq rfl (QA_nil (DPu T.ok rfl rfl rfl)))) ?_
      refine D_s (js := [(27, 103), (20, 96)]) (by kernel_rfl) (fun _ _ => QA_eq rfl (QA_eq rfl (QA_nil (DPu T.ok rfl rfl rfl)))) ?_
      refine D_s (js := [(28, 104), (20, 96)]) (by kernel_rfl) (fun _ hf => QA_eq rfl (QA_eq rfl (QA_nil (DLo T.ok 0 rfl rfl (hs.dr.call hf) rfl rfl rfl rfl)))) ?_
      refine D_cons (D_step2 (js := [(29, 105), (20, 96)]) (by kernel_rfl) fun gd hf => ?_) ?_
      ·have hsd := hs.dr.call hf; have hfe := (G.le_dr _).trans hf.le
       refine QA_eq rfl ?_; refine QA_eq rfl ?_
       refine QA_nil ?_
       refine D_yes rfl ?_
       refine OpR_ret cl21 allF rfl rfl rfl rfl rfl (rroom_c (b := kb) (A := R2) (v := kv') (br := br) (Y := Y) (D := D2) hD.le hyok.size (St.arr [[wO bw A2.b R2.b (.pointer (some ⟨B.b, 0, none⟩)) (.pointer (some ⟨kb, 0, none⟩))], jnL B A2 br Y, dkL A2 D2, [kjO kb R2.b kv' br Y], rkL R2 D2] [3, 4, 0, 1, 2] rfl hsd)) fun g' v h1 h2 => ⟨g', rfl, h1, ?_⟩
       exact h2
      refine D_cons (D_step2 (js := [(25, 101), (30, 106), (20, 96)]) (by kernel_rfl) fun gd hf => ?_) ?_
      ·have hsd := hs.dr.call hf; have hfe := (G.le_dr _).trans hf.le
       refine QA_eq rfl ?_; refine QA_eq rfl ?_; refine QA_eq rfl ?_
       refine QA_nil ?_
       refine D_yes rfl ?_
       refine OpR_pure _ T.ok rfl ?_
       refine ⟨_, rfl, Fr0.refl _, ?_⟩
       exact congrArg Value.bool (bne_self_eq_false _)
      refine D_s (js := [(20, 96), (31, 107), (5, 81)]) (by kernel_rfl) (fun _ _ => QA_eq rfl (QA_eq rfl (QA_eq rfl (QA_nil (DPu T.ok rfl rfl rfl))))) ?_
      refine D_s (js := [(5, 81), (32, 108)]) (by kernel_rfl) (fun _ _ => QA_eq rfl (QA_eq rfl (QA_nil (DPu T.ok rfl rfl rfl)))) ?_
      exact D_nil
     intro g1 hf1; refine QA_eq rfl ?_; refine QA_nil ?_
     replace hs := hs.dr.call hf1; have hqe := (G.le_dr _).trans hf1.le; replace le0 := G.le.trans le0 hqe; replace le8 := G.le.trans le8 hqe; replace rs1 := rs1.mono hqe; replace rs5 := rs5.mono hqe
     refine WL_nil ?_; (with_reducible refine T_then ?_)
     refine W_no rfl rfl ?_
     refine W_skip ?_; (with_reducible refine T_bn ?_); (with_reducible refine T_then ?_); refine W_region ?_; (iterate 3 refine P1 T.ok rfl rfl rfl ?_); refine WL_nil ?_
     exact fun a ha => ⟨25 - (k + 1), by omega, k + 1, _, L2, A2, R2, D2, _, rfl, ⟨_, _, _, _, hrel0.mono le8, hs⟩, hW, le0, by omega, by omega, rfl, ha.keep ⟨rfl, rfl, rfl, kI rfl (by rw [wr (by omega) (by omega)]; omega), trivial⟩⟩
  ·refine W_no (b := decide ((k : Int) < 25)) (decide_eq_false (by omega)) rfl ?_
   obtain ⟨jv, kv, X, Z, hrel, hs⟩ := hS
   refine W_exit ?_; (with_reducible refine T_tx ?_; with_reducible refine T_tx ?_); (with_reducible refine T_bx ?_); (with_reducible refine T_then ?_); refine W_seq ?_; refine W_region ?_; refine P1 T.ok rfl rfl rfl ?_; refine P1 T.ok rfl rfl rfl ?_; refine WL_nil ?_; (with_reducible refine T_then ?_)
   exact W_ret (ret1 rfl rfl (hs.ret rfl))
 ·refine WL_know 22 (b := decide ((k : Int) < (ops.length : Int))) (b' := false) (decide_eq_false (by omega)) rfl ?_
  obtain ⟨jv, kv, X, Z, hrel, hs⟩ := hS
  refine S1 allF rfl rfl ?_; refine S1 allF rfl rfl ?_; refine P1 T.ok rfl rfl rfl ?_; refine WL_nil ?_; (with_reducible refine T_then ?_)
  refine W_no rfl rfl ?_
  refine W_exit ?_; (with_reducible refine T_tx ?_; with_reducible refine T_tx ?_); (with_reducible refine T_bx ?_); (with_reducible refine T_then ?_); refine W_seq ?_; refine W_region ?_; refine P1 T.ok rfl rfl rfl ?_; refine P1 T.ok rfl rfl rfl ?_; refine WL_nil ?_; (with_reducible refine T_then ?_)
  exact W_ret (ret1 rfl rfl (hs.ret rfl))
end Go.Proofs.YteohjgndanlldaaGreatDoor
