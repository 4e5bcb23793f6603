/- The walks through the reference's Valid, Same and Print. -/
import Derived.Test.YtnaeopehmdcplaaGreatDoorYr

/- The reference's tests: within, moves, Ascending, step, window. -/
namespace Go.Proofs.YtnaeopehmdcplaaGreatDoor
open Go Go.K
set_option maxRecDepth 10000
attribute [local irreducible] W WL OpR bitAnd bitOr bitXor bitClr bitNot shlI shrI
set_option maxHeartbeats 4000000

theorem rwithin_c (n lo hi : Int) (g : G) : CallsIn Wd 0 Tryz.prog 39 #[.int .i64 n, .int .i64 lo, .int .i64 hi] g.w (Ret g fun _ v => v = .bool (within n lo hi)) := by
 have hs := St.start g
 refine enter Tryz.func39 rfl Tryz.ntmps39 rfl ?_
 refine W_seq ?_; refine W_region ?_; refine P1 T.ok rfl rfl rfl ?_; refine WL_nil ?_; (with_reducible refine T_then ?_); refine W_seq ?_; refine W_region ?_; (iterate 4 refine P1 T.ok rfl rfl rfl ?_)
 refine WL_seg (want := true) (x := decide (n ≤ hi)) 3 allF rfl rfl rfl rfl (.inl ⟨rfl, rfl, rfl⟩) rfl rfl rfl rfl (fun hb Q' hQ' => ?_) (fun g' hf => ?_)
 ·(iterate 3 refine P1 T.ok rfl rfl rfl ?_); refine WL_nil ?_
  exact fun a ha => hQ' _ a (Fr0.refl _) (ha.keep (by (repeat (first | exact trivial | refine ⟨rfl, ?_⟩))))
 replace hs := hs.call hf
 refine P1 T.ok rfl rfl rfl ?_; refine WL_nil ?_; (with_reducible refine T_then ?_)
 exact W_ret (ret1 rfl rfl (hs.ret rfl))
theorem rmoves_c (a b : Int) (g : G) : CallsIn Wd 0 Tryz.prog 38 #[.int .i64 a, .int .i64 b] g.w (Ret g fun _ v => v = .bool (rightMoves ⟨a, b, [], []⟩)) := by
 have hs := St.start g
 refine enter Tryz.func38 rfl Tryz.ntmps38 rfl ?_
 refine W_seq ?_; refine W_region ?_; refine P1 T.ok rfl rfl rfl ?_; refine WL_nil ?_; (with_reducible refine T_then ?_); refine W_seq ?_; refine W_region ?_; (iterate 3 refine P1 T.ok rfl rfl rfl ?_)
 refine WL_seg (want := true) (x := decide (a ≤ b)) 3 allF rfl rfl rfl rfl (.inl ⟨rfl, rfl, rfl⟩) rfl rfl rfl rfl (fun hb Q' hQ' => ?_) (fun g' hf => ?_)
 ·(iterate 3 refine P1 T.ok rfl rfl rfl ?_); refine WL_nil ?_
  exact fun a ha => hQ' _ a (Fr0.refl _) (ha.keep (by (repeat (first | exact trivial | refine ⟨rfl, ?_⟩))))
 replace hs := hs.call hf
 refine P1 T.ok rfl rfl rfl ?_
 refine WL_seg (want := true) (x := decide (b ≤ 10000)) 2 allF rfl rfl rfl rfl (.inl ⟨rfl, rfl, rfl⟩) rfl rfl rfl rfl (fun hb Q' hQ' => ?_) (fun g' hf => ?_)
 ·refine P1 T.ok rfl rfl rfl ?_; refine P1 T.ok rfl rfl rfl ?_; refine WL_nil ?_
  exact fun a ha => hQ' _ a (Fr0.refl _) (ha.keep (by (repeat (first | exact trivial | refine ⟨rfl, ?_⟩))))
 replace hs := hs.call hf
 refine P1 T.ok rfl rfl rfl ?_; refine WL_nil ?_; (with_reducible refine T_then ?_)
 exact W_ret (ret1 rfl rfl (hs.ret rfl))





theorem rascending_c (v : Value) (l : List Int) (lo hi : Int) (g : G) (hl : Rs g v l) :
  CallsIn Wd 0 Tryz.prog 61 #[v, .int .i64 lo, .int .i64 hi] g.w (Ret g fun _ r => r = .bool (ascending l lo hi)) := by
 obtain ⟨a, c, rfl⟩ := hl.isSlice
 have hlen := hl.len_le
 unfold maxLen at hlen
 have hs := St.start g
 refine enter Tryz.func61 rfl Tryz.ntmps61 rfl ?_
 refine W_seq ?_; refine W_region ?_; refine P1 T.ok rfl rfl rfl ?_; refine WL_nil ?_; (with_reducible refine T_then ?_); refine W_seq ?_; refine W_seq ?_; refine W_region ?_; refine P1 T.ok rfl rfl rfl ?_; refine WL_nil ?_; (with_reducible refine T_then ?_); refine W_block ?_
 refine W_loop (fun m a' w => ∃ (k : Nat) (g' : G), w = g'.w ∧ St g g' [] ∧ G.le g g' ∧ k ≤ l.length ∧ m = l.length - k ∧ ((if k = 0 then ascending l lo hi else ascGo lo hi (l.getD (k - 1) 0) (l.drop k)) = ascending l lo hi) ∧
  Fr 38 [] [(0, .slice a l.length c), (1, .int .i64 lo), (2, .int .i64 hi), (7, .int .i64 k)] a') l.length (fun a' ha => ⟨0, g, rfl, hs, G.le.refl g, Nat.zero_le _, rfl, by simp, ha.keep (by (repeat (first | exact trivial | refine ⟨rfl, ?_⟩)))⟩) ?_
 clear hs
 rintro m a' _ ⟨k, g', rfl, hs, le0, hk, rfl, hno, ha'⟩
 have rs0 := hl.mono le0
 revert a'
 (with_reducible refine T_wp ?_); refine W_seq ?_; refine W_seq ?_; refine W_region ?_; (iterate 4 refine P1 T.ok rfl rfl rfl ?_); refine WL_nil ?_; (with_reducible refine T_then ?_)
 by_cases hlt : k < l.length
 ·refine W_yes (b := decide ((k : Int) < (l.length : Int))) (by simp; omega) rfl ?_
  rw [ascR_step l lo hi k hlt] at hno
  have hgi : geti l (k : Int) = some l[k] := by simp [geti, hlt]
  have hnx : l.getD (k + 1 - 1) 0 = l[k] := by simp [List.getD_eq_getElem?_getD, hlt]
  have hgp : ∀ (h : 0 < k), geti l ((k - 1 : Nat) : Int) = some (l.getD (k - 1) 0) := by
   intro h
   have h1 : k - 1 < l.length := by omega
   rw [geti_of (n := ((k - 1 : Nat) : Int)) rfl h1, List.getD_eq_getElem?_getD, List.getElem?_eq_getElem h1]; rfl
  generalize l.getD (k - 1) 0 = y at *
  generalize l[k] = x at *
  cases e1 : within x lo hi with
  | false =>
   rw [e1, Bool.false_and, Bool.false_and] at hno
   refine W_skip ?_; (with_reducible refine T_then ?_); refine W_seq ?_; refine W_block ?_; refine W_seq ?_
   apply W_draw allF rfl (Fact.eq _ :: Fact.eq _ :: (intPtr (x)) :: Fact.eq _ :: Fact.eq _ :: Fact.eq _ :: Fact.eq _ :: Fact.eq _ :: Fact.eq _ :: Fact.eq _ :: Fact.eq _ :: Fact.eq _ :: Fact.eq _ :: Fact.eq _ :: Fact.eq _ :: Fact.eq _ :: Fact.eq _ :: Fact.eq _ :: Fact.eq _ :: Fact.eq _ :: Fact.eq _ :: Fact.eq _ :: Fact.eq _ :: Fact.eq _ :: []) 24 [(23, 37)] rfl rfl
   ·refine D_s (js := []) (by kernel_rfl) (fun _ _ => QA_nil (DPu T.ok rfl rfl rfl)) ?_
    refine D_s (js := []) (by kernel_rfl) (fun _ _ => QA_nil (DPu T.ok rfl rfl rfl)) ?_
    refine D_cons (D_step2 (js := [(0, 14), (1, 15)]) (by kernel_rfl) fun gd hf => ?_) ?_
    ·have hsd := hs.dr.call hf; have hfe := (G.le_dr _).trans hf.le
     refine QA_eq rfl ?_; refine QA_eq rfl ?_
     refine QA_nil ?_
     refine D_yes rfl ?_
     refine OpR_idx T.ok rfl (rs0.mono hfe) (y := x) hgi rfl rfl rfl rfl rfl rfl ?_
     rintro b p ys hep rfl
     exact ⟨_, rfl, Fr0.refl _, b, p, rfl, hep⟩
    refine D_cons (D_step2 (js := [(2, 16)]) (by kernel_rfl) fun gd hf => ?_) ?_
    ·have hsd := hs.dr.call hf; have hfe := (G.le_dr _).trans hf.le
     refine QA_any fun v2 h2 => ?_
     refine QA_nil ?_
     obtain ⟨b, p, rfl, hep⟩ := h2
     refine D_yes rfl ?_
     refine OpR_loadE T.ok 0 rfl hep rfl rfl ?_
     refine ⟨_, rfl, Fr0.refl _, ?_⟩
     exact rfl
    refine D_s (js := []) (by kernel_rfl) (fun _ _ => QA_nil (DPu T.ok rfl rfl rfl)) ?_
    refine D_s (js := []) (by kernel_rfl) (fun _ _ => QA_nil (DPu T.ok rfl rfl rfl)) ?_
    refine D_cons (D_step2 (js := [(3, 17), (4, 18), (5, 19)]) (by kernel_rfl) fun gd hf => ?_) ?_
    ·have hsd := hs.dr.call hf; have hfe := (G.le_dr _).trans hf.le
     refine QA_eq rfl ?_; refine QA_eq rfl ?_; refine QA_eq rfl ?_
     refine QA_nil ?_
     refine D_yes rfl ?_
     refine OpR_ret cl39 allF rfl rfl rfl rfl rfl (rwithin_c x lo hi _) fun g' v h1 h2 => ⟨g', rfl, h1, ?_⟩
     rw [h2]; exact congrArg Value.bool e1
    refine D_s (js := [(6, 20)]) (by kernel_rfl) (fun _ _ => QA_eq rfl (QA_nil (DPu T.ok rfl rfl rfl))) ?_
    refine D_s (js := [(7, 21)]) (by kernel_rfl) (fun _ _ => QA_eq rfl (QA_nil (DPu T.ok rfl rfl rfl))) ?_
    refine D_s (js := [(8, 22)]) (by kernel_rfl) (fun _ _ => QA_eq rfl (QA_nil (DNo rfl rfl))) ?_
    refine D_s (js := [(9, 23), (8, 22)]) (by kernel_rfl) (fun _ _ => QA_eq rfl (QA_eq rfl (QA_nil (DNo rfl rfl)))) ?_
    refine D_s (js := [(10, 24), (8, 22), (8, 22)]) (by kernel_rfl) (fun _ _ => QA_eq rfl (QA_eq rfl (QA_eq rfl (QA_nil (DNo rfl rfl))))) ?_
    refine D_s (js := [(11, 25)]) (by kernel_rfl) (fun _ _ => QA_eq rfl (QA_nil (DNo rfl rfl))) ?_
    refine D_s (js := [(11, 25)]) (by kernel_rfl) (fun _ _ => QA_eq rfl (QA_nil (DNo rfl rfl))) ?_
    refine D_s (js := [(12, 26), (13, 27), (11, 25)]) (by kernel_rfl) (fun _ _ => QA_eq rfl (QA_eq rfl (QA_eq rfl (QA_nil (DNo rfl rfl))))) ?_
    refine D_s (js := [(14, 28), (11, 25)]) (by kernel_rfl) (fun _ _ => QA_eq rfl (QA_eq rfl (QA_nil (DNo rfl rfl)))) ?_
    refine D_s (js := [(11, 25)]) (by kernel_rfl) (fun _ _ => QA_eq rfl (QA_nil (DNo rfl rfl))) ?_
    refine D_s (js := [(11, 25)]) (by kernel_rfl) (fun _ _ => QA_eq rfl (QA_nil (DNo rfl rfl))) ?_
    refine D_s (js := [(17, 31), (11, 25)]) (by kernel_rfl) (fun _ _ => QA_eq rfl (QA_eq rfl (QA_nil (DNo rfl rfl)))) ?_
    refine D_s (js := [(16, 30), (18, 32), (11, 25)]) (by kernel_rfl) (fun _ _ => QA_eq rfl (QA_eq rfl (QA_eq rfl (QA_nil (DNo rfl rfl))))) ?_
    refine D_s (js := [(19, 33), (11, 25)]) (by kernel_rfl) (fun _ _ => QA_eq rfl (QA_eq rfl (QA_nil (DNo rfl rfl)))) ?_
    refine D_s (js := [(15, 29), (20, 34), (11, 25)]) (by kernel_rfl) (fun _ _ => QA_eq rfl (QA_eq rfl (QA_eq rfl (QA_nil (DNo rfl rfl))))) ?_
    refine D_s (js := [(11, 25), (21, 35), (8, 22)]) (by kernel_rfl) (fun _ _ => QA_eq rfl (QA_eq rfl (QA_eq rfl (QA_nil (DNo rfl rfl))))) ?_
    refine D_s (js := [(8, 22), (22, 36)]) (by kernel_rfl) (fun _ _ => QA_eq rfl (QA_eq rfl (QA_nil (DPu T.ok rfl rfl rfl)))) ?_
    exact D_nil
   intro g1 hf1; refine QA_eq rfl ?_; refine QA_nil ?_
   replace hs := hs.dr.call hf1; have hqe := (G.le_dr _).trans hf1.le; replace le0 := G.le.trans le0 hqe; replace rs0 := rs0.mono hqe
   refine WL_nil ?_; (with_reducible refine T_then ?_)
   refine W_yes rfl rfl ?_
   refine W_seq ?_; refine W_region ?_; refine P1 T.ok rfl rfl rfl ?_; refine WL_nil ?_; (with_reducible refine T_then ?_)
   refine W_ret (ret1 rfl rfl (hs.ret ?_))
   rw [← hno]
  | true =>
   rw [e1, Bool.true_and] at hno
   cases e2 : decide (0 < (k : Int)) with
   | false =>
    have e3 : decide (k = 0) = true := by simp at e2 ⊢; omega
    rw [e3, Bool.true_or, Bool.true_and] at hno
    refine W_skip ?_; (with_reducible refine T_then ?_); refine W_seq ?_; refine W_block ?_; refine W_seq ?_
    apply W_draw allF rfl (Fact.eq _ :: Fact.eq _ :: (intPtr (x)) :: Fact.eq _ :: Fact.eq _ :: Fact.eq _ :: Fact.eq _ :: Fact.eq _ :: Fact.eq _ :: Fact.eq _ :: Fact.eq _ :: Fact.eq _ :: Fact.eq _ :: Fact.eq _ :: Fact.eq _ :: Fact.eq _ :: Fact.eq _ :: Fact.eq _ :: Fact.eq _ :: Fact.eq _ :: Fact.eq _ :: Fact.eq _ :: Fact.eq _ :: Fact.eq _ :: []) 24 [(23, 37)] rfl rfl
    ·refine D_s (js := []) (by kernel_rfl) (fun _ _ => QA_nil (DPu T.ok rfl rfl rfl)) ?_
     refine D_s (js := []) (by kernel_rfl) (fun _ _ => QA_nil (DPu T.ok rfl rfl rfl)) ?_
     refine D_cons (D_step2 (js := [(0, 14), (1, 15)]) (by kernel_rfl) fun gd hf => ?_) ?_
     ·have hsd := hs.dr.call hf; have hfe := (G.le_dr _).trans hf.le
      refine QA_eq rfl ?_; refine QA_eq rfl ?_
      refine QA_nil ?_
      refine D_yes rfl ?_
      refine OpR_idx T.ok rfl (rs0.mono hfe) (y := x) hgi rfl rfl rfl rfl rfl rfl ?_
      rintro b p ys hep rfl
      exact ⟨_, rfl, Fr0.refl _, b, p, rfl, hep⟩
     refine D_cons (D_step2 (js := [(2, 16)]) (by kernel_rfl) fun gd hf => ?_) ?_
     ·have hsd := hs.dr.call hf; have hfe := (G.le_dr _).trans hf.le
      refine QA_any fun v2 h2 => ?_
      refine QA_nil ?_
      obtain ⟨b, p, rfl, hep⟩ := h2
      refine D_yes rfl ?_
      refine OpR_loadE T.ok 0 rfl hep rfl rfl ?_
      refine ⟨_, rfl, Fr0.refl _, ?_⟩
      exact rfl
     refine D_s (js := []) (by kernel_rfl) (fun _ _ => QA_nil (DPu T.ok rfl rfl rfl)) ?_
     refine D_s (js := []) (by kernel_rfl) (fun _ _ => QA_nil (DPu T.ok rfl rfl rfl)) ?_
     refine D_cons (D_step2 (js := [(3, 17), (4, 18), (5, 19)]) (by kernel_rfl) fun gd hf => ?_) ?_
     ·have hsd := hs.dr.call hf; have hfe := (G.le_dr _).trans hf.le
      refine QA_eq rfl ?_; refine QA_eq rfl ?_; refine QA_eq rfl ?_
      refine QA_nil ?_
      refine D_yes rfl ?_
      refine OpR_ret cl39 allF rfl rfl rfl rfl rfl (rwithin_c x lo hi _) fun g' v h1 h2 => ⟨g', rfl, h1, ?_⟩
      rw [h2]; exact congrArg Value.bool e1
     refine D_s (js := [(6, 20)]) (by kernel_rfl) (fun _ _ => QA_eq rfl (QA_nil (DPu T.ok rfl rfl rfl))) ?_
     refine D_s (js := [(7, 21)]) (by kernel_rfl) (fun _ _ => QA_eq rfl (QA_nil (DPu T.ok rfl rfl rfl))) ?_
     refine D_s (js := [(8, 22)]) (by kernel_rfl) (fun _ _ => QA_eq rfl (QA_nil (DPu T.ok rfl rfl rfl))) ?_
     refine D_cons (D_step2 (js := [(9, 23), (8, 22)]) (by kernel_rfl) fun gd hf => ?_) ?_
     ·have hsd := hs.dr.call hf; have hfe := (G.le_dr _).trans hf.le
      refine QA_eq rfl ?_; refine QA_eq rfl ?_
      refine QA_nil ?_
      refine D_yes rfl ?_
      refine OpR_pure _ T.ok rfl ?_
      exact ⟨_, rfl, Fr0.refl _, congrArg Value.bool e2⟩
     refine D_s (js := [(10, 24), (8, 22), (8, 22)]) (by kernel_rfl) (fun _ _ => QA_eq rfl (QA_eq rfl (QA_eq rfl (QA_nil (DPu T.ok rfl rfl rfl))))) ?_
     refine D_s (js := [(11, 25)]) (by kernel_rfl) (fun _ _ => QA_eq rfl (QA_nil (DNo rfl rfl))) ?_
     refine D_s (js := [(11, 25)]) (by kernel_rfl) (fun _ _ => QA_eq rfl (QA_nil (DNo rfl rfl))) ?_
     refine D_s (js := [(12, 26), (13, 27), (11, 25)]) (by kernel_rfl) (fun _ _ => QA_eq rfl (QA_eq rfl (QA_eq rfl (QA_nil (DNo rfl rfl))))) ?_
     refine D_s (js := [(14, 28), (11, 25)]) (by kernel_rfl) (fun _ _ => QA_eq rfl (QA_eq rfl (QA_nil (DNo rfl rfl)))) ?_
     refine D_s (js := [(11, 25)]) (by kernel_rfl) (fun _ _ => QA_eq rfl (QA_nil (DNo rfl rfl))) ?_
     refine D_s (js := [(11, 25)]) (by kernel_rfl) (fun _ _ => QA_eq rfl (QA_nil (DNo rfl rfl))) ?_
     refine D_s (js := [(17, 31), (11, 25)]) (by kernel_rfl) (fun _ _ => QA_eq rfl (QA_eq rfl (QA_nil (DNo rfl rfl)))) ?_
     refine D_s (js := [(16, 30), (18, 32), (11, 25)]) (by kernel_rfl) (fun _ _ => QA_eq rfl (QA_eq rfl (QA_eq rfl (QA_nil (DNo rfl rfl))))) ?_
     refine D_s (js := [(19, 33), (11, 25)]) (by kernel_rfl) (fun _ _ => QA_eq rfl (QA_eq rfl (QA_nil (DNo rfl rfl)))) ?_
     refine D_s (js := [(15, 29), (20, 34), (11, 25)]) (by kernel_rfl) (fun _ _ => QA_eq rfl (QA_eq rfl (QA_eq rfl (QA_nil (DNo rfl rfl))))) ?_
     refine D_s (js := [(11, 25), (21, 35), (8, 22)]) (by kernel_rfl) (fun _ _ => QA_eq rfl (QA_eq rfl (QA_eq rfl (QA_nil (DPu T.ok rfl rfl rfl))))) ?_
     refine D_s (js := [(8, 22), (22, 36)]) (by kernel_rfl) (fun _ _ => QA_eq rfl (QA_eq rfl (QA_nil (DPu T.ok rfl rfl rfl)))) ?_
     exact D_nil
    intro g1 hf1; refine QA_eq rfl ?_; refine QA_nil ?_
    replace hs := hs.dr.call hf1; have hqe := (G.le_dr _).trans hf1.le; replace le0 := G.le.trans le0 hqe; replace rs0 := rs0.mono hqe
    refine WL_nil ?_; (with_reducible refine T_then ?_)
    refine W_no rfl rfl ?_
    refine W_skip ?_; (with_reducible refine T_bn ?_); (with_reducible refine T_then ?_); refine W_region ?_; (iterate 3 refine P1 T.ok rfl rfl rfl ?_); refine WL_nil ?_
    refine fun a ha => ⟨l.length - (k + 1), by omega, k + 1, _, rfl, hs, le0, by omega, rfl, ?_, ha.keep ⟨rfl, rfl, rfl, kI rfl (by rw [wr (by omega) (by omega)]; omega), trivial⟩⟩
    rw [← hno, if_neg (by omega), hnx]
   | true =>
    have hk0 : 0 < k := by simpa using e2
    have e3 : decide (k = 0) = false := by simp; omega
    rw [e3, Bool.false_or] at hno
    have hgp := hgp hk0
    refine W_skip ?_; (with_reducible refine T_then ?_); refine W_seq ?_; refine W_block ?_; refine W_seq ?_
    apply W_draw allF rfl (Fact.eq _ :: Fact.eq _ :: (intPtr (x)) :: Fact.eq _ :: Fact.eq _ :: Fact.eq _ :: Fact.eq _ :: Fact.eq _ :: Fact.eq _ :: Fact.eq _ :: Fact.eq _ :: Fact.eq _ :: Fact.eq _ :: Fact.eq _ :: (intPtr (x)) :: Fact.eq _ :: Fact.eq _ :: Fact.eq _ :: Fact.eq _ :: (intPtr (y)) :: Fact.eq _ :: Fact.eq _ :: Fact.eq _ :: Fact.eq _ :: []) 24 [(23, 37)] rfl rfl
    ·refine D_s (js := []) (by kernel_rfl) (fun _ _ => QA_nil (DPu T.ok rfl rfl rfl)) ?_
     refine D_s (js := []) (by kernel_rfl) (fun _ _ => QA_nil (DPu T.ok rfl rfl rfl)) ?_
     refine D_cons (D_step2 (js := [(0, 14), (1, 15)]) (by kernel_rfl) fun gd hf => ?_) ?_
     ·have hsd := hs.dr.call hf; have hfe := (G.le_dr _).trans hf.le
      refine QA_eq rfl ?_; refine QA_eq rfl ?_
      refine QA_nil ?_
      refine D_yes rfl ?_
      refine OpR_idx T.ok rfl (rs0.mono hfe) (y := x) hgi rfl rfl rfl rfl rfl rfl ?_
      rintro b p ys hep rfl
      exact ⟨_, rfl, Fr0.refl _, b, p, rfl, hep⟩
     refine D_cons (D_step2 (js := [(2, 16)]) (by kernel_rfl) fun gd hf => ?_) ?_
     ·have hsd := hs.dr.call hf; have hfe := (G.le_dr _).trans hf.le
      refine QA_any fun v2 h2 => ?_
      refine QA_nil ?_
      obtain ⟨b, p, rfl, hep⟩ := h2
      refine D_yes rfl ?_
      refine OpR_loadE T.ok 0 rfl hep rfl rfl ?_
      refine ⟨_, rfl, Fr0.refl _, ?_⟩
      exact rfl
     refine D_s (js := []) (by kernel_rfl) (fun _ _ => QA_nil (DPu T.ok rfl rfl rfl)) ?_
     refine D_s (js := []) (by kernel_rfl) (fun _ _ => QA_nil (DPu T.ok rfl rfl rfl)) ?_
     refine D_cons (D_step2 (js := [(3, 17), (4, 18), (5, 19)]) (by kernel_rfl) fun gd hf => ?_) ?_
     ·have hsd := hs.dr.call hf; have hfe := (G.le_dr _).trans hf.le
      refine QA_eq rfl ?_; refine QA_eq rfl ?_; refine QA_eq rfl ?_
      refine QA_nil ?_
      refine D_yes rfl ?_
      refine OpR_ret cl39 allF rfl rfl rfl rfl rfl (rwithin_c x lo hi _) fun g' v h1 h2 => ⟨g', rfl, h1, ?_⟩
      rw [h2]; exact congrArg Value.bool e1
     refine D_s (js := [(6, 20)]) (by kernel_rfl) (fun _ _ => QA_eq rfl (QA_nil (DPu T.ok rfl rfl rfl))) ?_
     refine D_s (js := [(7, 21)]) (by kernel_rfl) (fun _ _ => QA_eq rfl (QA_nil (DPu T.ok rfl rfl rfl))) ?_
     refine D_s (js := [(8, 22)]) (by kernel_rfl) (fun _ _ => QA_eq rfl (QA_nil (DPu T.ok rfl rfl rfl))) ?_
     refine D_cons (D_step2 (js := [(9, 23), (8, 22)]) (by kernel_rfl) fun gd hf => ?_) ?_
     ·have hsd := hs.dr.call hf; have hfe := (G.le_dr _).trans hf.le
      refine QA_eq rfl ?_; refine QA_eq rfl ?_
      refine QA_nil ?_
      refine D_yes rfl ?_
      refine OpR_pure _ T.ok rfl ?_
      exact ⟨_, rfl, Fr0.refl _, congrArg Value.bool e2⟩
     refine D_s (js := [(10, 24), (8, 22), (8, 22)]) (by kernel_rfl) (fun _ _ => QA_eq rfl (QA_eq rfl (QA_eq rfl (QA_nil (DPu T.ok rfl rfl rfl))))) ?_
     refine D_s (js := [(11, 25)]) (by kernel_rfl) (fun _ _ => QA_eq rfl (QA_nil (DPu T.ok rfl rfl rfl))) ?_
     refine D_s (js := [(11, 25)]) (by kernel_rfl) (fun _ _ => QA_eq rfl (QA_nil (DPu T.ok rfl rfl rfl))) ?_
     refine D_cons (D_step2 (js := [(12, 26), (13, 27), (11, 25)]) (by kernel_rfl) fun gd hf => ?_) ?_
     ·have hsd := hs.dr.call hf; have hfe := (G.le_dr _).trans hf.le
      refine QA_eq rfl ?_; refine QA_eq rfl ?_; refine QA_eq rfl ?_
      refine QA_nil ?_
      refine D_yes rfl ?_
      refine OpR_idx T.ok rfl (rs0.mono hfe) (y := x) hgi rfl rfl rfl rfl rfl rfl ?_
      rintro b p ys hep rfl
      exact ⟨_, rfl, Fr0.refl _, b, p, rfl, hep⟩
     refine D_cons (D_step2 (js := [(14, 28), (11, 25)]) (by kernel_rfl) fun gd hf => ?_) ?_
     ·have hsd := hs.dr.call hf; have hfe := (G.le_dr _).trans hf.le
      refine QA_any fun v14 h14 => ?_; refine QA_eq rfl ?_
      refine QA_nil ?_
      obtain ⟨b, p, rfl, hep⟩ := h14
      refine D_yes rfl ?_
      refine OpR_loadE T.ok 0 rfl hep rfl rfl ?_
      refine ⟨_, rfl, Fr0.refl _, ?_⟩
      exact rfl
     refine D_s (js := [(11, 25)]) (by kernel_rfl) (fun _ _ => QA_eq rfl (QA_nil (DPu T.ok rfl rfl rfl))) ?_
     refine D_s (js := [(11, 25)]) (by kernel_rfl) (fun _ _ => QA_eq rfl (QA_nil (DPu T.ok rfl rfl rfl))) ?_
     refine D_cons (D_step2 (js := [(17, 31), (11, 25)]) (by kernel_rfl) fun gd hf => ?_) ?_
     ·have hsd := hs.dr.call hf; have hfe := (G.le_dr _).trans hf.le
      refine QA_eq rfl ?_; refine QA_eq rfl ?_
      refine QA_nil ?_
      refine D_yes rfl ?_
      refine OpR_pure _ T.ok rfl ?_
      refine ⟨_, rfl, Fr0.refl _, ?_⟩
      exact congrArg (Value.int .i64) (show _ = ((k - 1 : Nat) : Int) from by rw [wr (by omega) (by omega)]; omega)
     refine D_cons (D_step2 (js := [(16, 30), (18, 32), (11, 25)]) (by kernel_rfl) fun gd hf => ?_) ?_
     ·have hsd := hs.dr.call hf; have hfe := (G.le_dr _).trans hf.le
      refine QA_eq rfl ?_; refine QA_eq rfl ?_; refine QA_eq rfl ?_
      refine QA_nil ?_
      refine D_yes rfl ?_
      refine OpR_idx T.ok rfl (rs0.mono hfe) (y := y) hgp rfl rfl rfl rfl rfl rfl ?_
      rintro b p ys hep rfl
      exact ⟨_, rfl, Fr0.refl _, b, p, rfl, hep⟩
     refine D_cons (D_step2 (js := [(19, 33), (11, 25)]) (by kernel_rfl) fun gd hf => ?_) ?_
     ·have hsd := hs.dr.call hf; have hfe := (G.le_dr _).trans hf.le
      refine QA_any fun v19 h19 => ?_; refine QA_eq rfl ?_
      refine QA_nil ?_
      obtain ⟨b, p, rfl, hep⟩ := h19
      refine D_yes rfl ?_
      refine OpR_loadE T.ok 0 rfl hep rfl rfl ?_
      refine ⟨_, rfl, Fr0.refl _, ?_⟩
      exact rfl
     refine D_s (js := [(15, 29), (20, 34), (11, 25)]) (by kernel_rfl) (fun _ _ => QA_eq rfl (QA_eq rfl (QA_eq rfl (QA_nil (DPu T.ok rfl rfl rfl))))) ?_
     refine D_s (js := [(11, 25), (21, 35), (8, 22)]) (by kernel_rfl) (fun _ _ => QA_eq rfl (QA_eq rfl (QA_eq rfl (QA_nil (DPu T.ok rfl rfl rfl))))) ?_
     refine D_s (js := [(8, 22), (22, 36)]) (by kernel_rfl) (fun _ _ => QA_eq rfl (QA_eq rfl (QA_nil (DPu T.ok rfl rfl rfl)))) ?_
     exact D_nil
    intro g1 hf1; refine QA_eq rfl ?_; refine QA_nil ?_
    replace hs := hs.dr.call hf1; have hqe := (G.le_dr _).trans hf1.le; replace le0 := G.le.trans le0 hqe; replace rs0 := rs0.mono hqe
    by_cases hxy : x ≤ y
    ·have e4 : decide (y < x) = false := by simp; omega
     rw [e4, Bool.false_and] at hno
     refine WL_nil ?_; (with_reducible refine T_then ?_)
     refine W_yes (by simp [hxy]) rfl ?_
     refine W_seq ?_; refine W_region ?_; refine P1 T.ok rfl rfl rfl ?_; refine WL_nil ?_; (with_reducible refine T_then ?_)
     refine W_ret (ret1 rfl rfl (hs.ret ?_))
     rw [← hno]
    ·have e4 : decide (y < x) = true := by simp; omega
     rw [e4, Bool.true_and] at hno
     refine WL_nil ?_; (with_reducible refine T_then ?_)
     refine W_no (b := _) ?_ rfl ?_
     ·simp; omega
     refine W_skip ?_; (with_reducible refine T_bn ?_); (with_reducible refine T_then ?_); refine W_region ?_; (iterate 3 refine P1 T.ok rfl rfl rfl ?_); refine WL_nil ?_
     refine fun a ha => ⟨l.length - (k + 1), by omega, k + 1, _, rfl, hs, le0, by omega, rfl, ?_, ha.keep ⟨rfl, rfl, rfl, kI rfl (by rw [wr (by omega) (by omega)]; omega), trivial⟩⟩
     rw [← hno, if_neg (by omega), hnx]
 ·refine W_no (b := decide ((k : Int) < (l.length : Int))) (by simp; omega) rfl ?_
  refine W_exit ?_; (with_reducible refine T_tx ?_; with_reducible refine T_tx ?_); (with_reducible refine T_bx ?_); (with_reducible refine T_then ?_); refine W_seq ?_; refine W_region ?_; refine P1 T.ok rfl rfl rfl ?_; refine WL_nil ?_; (with_reducible refine T_then ?_)
  obtain rfl : k = l.length := by omega
  refine W_ret (ret1 rfl rfl (hs.ret ?_))
  rw [← hno]
  by_cases h0 : l.length = 0
  ·rw [if_pos h0, List.eq_nil_of_length_eq_zero h0]; rfl
  ·rw [if_neg h0]; simp [ascGo]
theorem rstep_c (v : Value) (s : Step) (n : Int) (g : G) (hv : RStepV g v s) (h1 : 0 ≤ n) (h2 : n ≤ 9223372036854775807) :
  CallsIn Wd 0 Tryz.prog 40 #[v, .int .i64 n] g.w (Ret g fun _ r => r = .bool (rightStep s n)) := by
 obtain ⟨cs, rfl, a1, n1, c1, a2, n2, c2, rfl, hr1, hr2⟩ := hv
 obtain ⟨_, _, e⟩ := hr1.isSlice; obtain ⟨rfl, rfl, rfl⟩ := Value.slice.inj e; clear e
 obtain ⟨_, _, e⟩ := hr2.isSlice; obtain ⟨rfl, rfl, rfl⟩ := Value.slice.inj e; clear e
 have hs := St.start g
 have le0 := G.le.refl g
 have hn : IntKind.i64.wrap (n - 1) = n - 1 := wr (by omega) (by omega)
 refine enter Tryz.func40 rfl Tryz.ntmps40 rfl ?_
 refine W_seq ?_; refine W_region ?_
 refine WL_o rfl rfl (OpR_box rfl hs rfl rfl ?_); clear hs; rintro b1 g1 hs hqe; replace le0 := G.le.trans le0 hqe
 refine P1 T.ok rfl rfl rfl ?_; refine WL_nil ?_; (with_reducible refine T_then ?_); refine W_seq ?_; refine W_region ?_; refine P1 T.ok rfl rfl rfl ?_; refine WL_o rfl rfl (OpR_loadO T.ok 0 rfl hs rfl rfl rfl ?_)
 refine WL_o rfl rfl (OpR_ret cl61 allF rfl rfl rfl rfl rfl (rascending_c _ s.tools 0 59 _ (hr1.mono le0)) ?_); rintro g1 _ hf1 rfl; replace hs := hs.call hf1; have hqe := hf1.le; replace le0 := G.le.trans le0 hqe
 refine P1 T.ok rfl rfl rfl ?_; refine WL_nil ?_; (with_reducible refine T_then ?_); refine W_seq ?_; refine W_region ?_; refine P1 T.ok rfl rfl rfl ?_; refine WL_o rfl rfl (OpR_loadO T.ok 0 rfl hs rfl rfl rfl ?_); refine P1 T.ok rfl rfl rfl ?_; refine P1 T.ok rfl rfl rfl ?_
 rw [hn]
 refine WL_o rfl rfl (OpR_ret cl61 allF rfl rfl rfl rfl rfl (rascending_c _ s.next 0 (n - 1) _ (hr2.mono le0)) ?_); rintro g1 _ hf1 rfl; replace hs := hs.call hf1; have hqe := hf1.le; replace le0 := G.le.trans le0 hqe
 refine P1 T.ok rfl rfl rfl ?_; refine WL_nil ?_; (with_reducible refine T_then ?_); refine W_seq ?_; refine W_region ?_; refine P1 T.ok rfl rfl rfl ?_; refine WL_o rfl rfl (OpR_loadO T.ok 0 rfl hs rfl rfl rfl ?_); refine P1 T.ok rfl rfl rfl ?_; refine P1 T.ok rfl rfl rfl ?_
 refine WL_seg (want := true) (x := s.limit == 0) 3 allF rfl rfl rfl rfl (.inl ⟨rfl, rfl, rfl⟩) rfl rfl rfl rfl (fun hb Q' hQ' => ?_) (fun g' hf => ?_)
 ·refine P1 T.ok rfl rfl rfl ?_; refine WL_o rfl rfl (OpR_loadO T.ok 0 rfl hs rfl rfl rfl ?_); refine P1 T.ok rfl rfl rfl ?_; refine WL_nil ?_
  exact fun a ha => hQ' _ a (Fr0.refl _) (ha.keep (by (repeat (first | exact trivial | refine ⟨rfl, ?_⟩))))
 replace hs := hs.call hf; have hqe := hf.le; replace le0 := G.le.trans le0 hqe
 refine P1 T.ok rfl rfl rfl ?_
 refine WL_seg (want := false) (x := within s.back 0 (n - 1) && within s.limit 1 9) 10 allF rfl rfl rfl rfl (.inr ⟨rfl, rfl, rfl⟩) rfl rfl rfl rfl (fun hb Q' hQ' => ?_) (fun g' hf => ?_)
 ·refine P1 T.ok rfl rfl rfl ?_; refine WL_o rfl rfl (OpR_loadO T.ok 0 rfl hs rfl rfl rfl ?_); refine P1 T.ok rfl rfl rfl ?_; refine P1 T.ok rfl rfl rfl ?_
  rw [hn]
  refine WL_o rfl rfl (OpR_ret cl39 allF rfl rfl rfl rfl rfl (rwithin_c _ _ _ _) ?_); rintro g1 _ hf1 rfl; replace hs := hs.call hf1; have hqe := hf1.le; replace le0 := G.le.trans le0 hqe
  refine P1 T.ok rfl rfl rfl ?_
  refine WL_seg (want := true) (x := within s.limit 1 9) 3 allF rfl rfl rfl rfl (.inl ⟨rfl, rfl, rfl⟩) rfl rfl rfl rfl (fun hb Q' hQ' => ?_) (fun g' hf => ?_)
  ·refine P1 T.ok rfl rfl rfl ?_; refine WL_o rfl rfl (OpR_loadO T.ok 0 rfl hs rfl rfl rfl ?_)
   refine WL_o rfl rfl (OpR_ret cl39 allF rfl rfl rfl rfl rfl (rwithin_c _ _ _ _) ?_); rintro g1 _ hf1 rfl; replace hs := hs.call hf1; have hqe := hf1.le; replace le0 := G.le.trans le0 hqe
   refine WL_nil ?_
   exact fun a ha => hQ' _ a hf1 (ha.keep (by (repeat (first | exact trivial | refine ⟨rfl, ?_⟩))))
  exact WL_nil fun a ha => hQ' _ a (hf1.trans hf) (ha.keep (by (repeat (first | exact trivial | refine ⟨rfl, ?_⟩))))
 replace hs := hs.call hf; have hqe := hf.le; replace le0 := G.le.trans le0 hqe
 refine P1 T.ok rfl rfl rfl ?_; refine WL_nil ?_; (with_reducible refine T_then ?_); refine W_seq ?_; refine W_region ?_; refine P1 T.ok rfl rfl rfl ?_; refine P1 T.ok rfl rfl rfl ?_
 refine WL_seg (want := true) (x := ascending s.next 0 (n - 1)) 1 allF rfl rfl rfl rfl (.inl ⟨rfl, rfl, rfl⟩) rfl rfl rfl rfl (fun hb Q' hQ' => ?_) (fun g' hf => ?_)
 ·refine P1 T.ok rfl rfl rfl ?_; refine WL_nil ?_
  exact fun a ha => hQ' _ a (Fr0.refl _) (ha.keep (by (repeat (first | exact trivial | refine ⟨rfl, ?_⟩))))
 replace hs := hs.call hf; have hqe := hf.le; replace le0 := G.le.trans le0 hqe
 refine P1 T.ok rfl rfl rfl ?_
 refine WL_seg (want := true) (x := (s.back == -1 && s.limit == 0) || (within s.back 0 (n - 1) && within s.limit 1 9)) 1 allF rfl rfl rfl rfl (.inl ⟨rfl, rfl, rfl⟩) rfl rfl rfl rfl (fun hb Q' hQ' => ?_) (fun g' hf => ?_)
 ·refine P1 T.ok rfl rfl rfl ?_; refine WL_nil ?_
  exact fun a ha => hQ' _ a (Fr0.refl _) (ha.keep (by (repeat (first | exact trivial | refine ⟨rfl, ?_⟩))))
 replace hs := hs.call hf; have hqe := hf.le; replace le0 := G.le.trans le0 hqe
 refine P1 T.ok rfl rfl rfl ?_
 refine WL_seg (want := true) (x := within s.recipe 1 1000000) 3 allF rfl rfl rfl rfl (.inl ⟨rfl, rfl, rfl⟩) rfl rfl rfl rfl (fun hb Q' hQ' => ?_) (fun g' hf => ?_)
 ·refine P1 T.ok rfl rfl rfl ?_; refine WL_o rfl rfl (OpR_loadO T.ok 0 rfl hs rfl rfl rfl ?_)
  refine WL_o rfl rfl (OpR_ret cl39 allF rfl rfl rfl rfl rfl (rwithin_c _ _ _ _) ?_); rintro g1 _ hf1 rfl; replace hs := hs.call hf1; have hqe := hf1.le; replace le0 := G.le.trans le0 hqe
  refine WL_nil ?_
  exact fun a ha => hQ' _ a hf1 (ha.keep (by (repeat (first | exact trivial | refine ⟨rfl, ?_⟩))))
 replace hs := hs.call hf; have hqe := hf.le; replace le0 := G.le.trans le0 hqe
 refine P1 T.ok rfl rfl rfl ?_
 refine WL_seg (want := true) (x := within (↑s.tools.length) 1 8) 4 allF rfl rfl rfl rfl (.inl ⟨rfl, rfl, rfl⟩) rfl rfl rfl rfl (fun hb Q' hQ' => ?_) (fun g' hf => ?_)
 ·refine P1 T.ok rfl rfl rfl ?_; refine WL_o rfl rfl (OpR_loadO T.ok 0 rfl hs rfl rfl rfl ?_); refine P1 T.ok rfl rfl rfl ?_
  refine WL_o rfl rfl (OpR_ret cl39 allF rfl rfl rfl rfl rfl (rwithin_c _ _ _ _) ?_); rintro g1 _ hf1 rfl; replace hs := hs.call hf1; have hqe := hf1.le; replace le0 := G.le.trans le0 hqe
  refine WL_nil ?_
  exact fun a ha => hQ' _ a hf1 (ha.keep (by (repeat (first | exact trivial | refine ⟨rfl, ?_⟩))))
 replace hs := hs.call hf; have hqe := hf.le; replace le0 := G.le.trans le0 hqe
 refine P1 T.ok rfl rfl rfl ?_
 refine WL_seg (want := true) (x := decide ((s.next.length : Int) ≤ 4)) 4 allF rfl rfl rfl rfl (.inl ⟨rfl, rfl, rfl⟩) rfl rfl rfl rfl (fun hb Q' hQ' => ?_) (fun g' hf => ?_)
 ·refine P1 T.ok rfl rfl rfl ?_; refine WL_o rfl rfl (OpR_loadO T.ok 0 rfl hs rfl rfl rfl ?_); refine P1 T.ok rfl rfl rfl ?_; refine P1 T.ok rfl rfl rfl ?_; refine WL_nil ?_
  exact fun a ha => hQ' _ a (Fr0.refl _) (ha.keep (by (repeat (first | exact trivial | refine ⟨rfl, ?_⟩))))
 replace hs := hs.call hf; have hqe := hf.le; replace le0 := G.le.trans le0 hqe
 refine P1 T.ok rfl rfl rfl ?_
 refine WL_seg (want := true) (x := decide (1 ≤ s.min)) 3 allF rfl rfl rfl rfl (.inl ⟨rfl, rfl, rfl⟩) rfl rfl rfl rfl (fun hb Q' hQ' => ?_) (fun g' hf => ?_)
 ·refine P1 T.ok rfl rfl rfl ?_; refine WL_o rfl rfl (OpR_loadO T.ok 0 rfl hs rfl rfl rfl ?_); refine P1 T.ok rfl rfl rfl ?_; refine WL_nil ?_
  exact fun a ha => hQ' _ a (Fr0.refl _) (ha.keep (by (repeat (first | exact trivial | refine ⟨rfl, ?_⟩))))
 replace hs := hs.call hf; have hqe := hf.le; replace le0 := G.le.trans le0 hqe
 refine P1 T.ok rfl rfl rfl ?_
 refine WL_seg (want := true) (x := decide (s.min ≤ s.max)) 5 allF rfl rfl rfl rfl (.inl ⟨rfl, rfl, rfl⟩) rfl rfl rfl rfl (fun hb Q' hQ' => ?_) (fun g' hf => ?_)
 ·refine P1 T.ok rfl rfl rfl ?_; refine WL_o rfl rfl (OpR_loadO T.ok 0 rfl hs rfl rfl rfl ?_); refine P1 T.ok rfl rfl rfl ?_; refine WL_o rfl rfl (OpR_loadO T.ok 0 rfl hs rfl rfl rfl ?_); refine P1 T.ok rfl rfl rfl ?_; refine WL_nil ?_
  exact fun a ha => hQ' _ a (Fr0.refl _) (ha.keep (by (repeat (first | exact trivial | refine ⟨rfl, ?_⟩))))
 replace hs := hs.call hf; have hqe := hf.le; replace le0 := G.le.trans le0 hqe
 refine P1 T.ok rfl rfl rfl ?_
 refine WL_seg (want := true) (x := decide (s.max ≤ 10000)) 3 allF rfl rfl rfl rfl (.inl ⟨rfl, rfl, rfl⟩) rfl rfl rfl rfl (fun hb Q' hQ' => ?_) (fun g' hf => ?_)
 ·refine P1 T.ok rfl rfl rfl ?_; refine WL_o rfl rfl (OpR_loadO T.ok 0 rfl hs rfl rfl rfl ?_); refine P1 T.ok rfl rfl rfl ?_; refine WL_nil ?_
  exact fun a ha => hQ' _ a (Fr0.refl _) (ha.keep (by (repeat (first | exact trivial | refine ⟨rfl, ?_⟩))))
 replace hs := hs.call hf; have hqe := hf.le; replace le0 := G.le.trans le0 hqe
 refine P1 T.ok rfl rfl rfl ?_; refine WL_nil ?_; (with_reducible refine T_then ?_)
 refine W_ret (ret1 rfl rfl (hs.ret ?_))
 unfold rightStep
 refine congrArg Value.bool ?_
 simp only [cond_true]
 ac_rfl
theorem rwindow_c (w : Window) (n : Int) (g : G) (h1 : 0 ≤ n) (h2 : n ≤ 9223372036854775807) :
  CallsIn Wd 0 Tryz.prog 41 #[.agg #[.int .i64 w.src, .int .i64 w.dst, .int .i64 w.limit], .int .i64 n] g.w (Ret g fun _ r => r = .bool (rightWindow w n)) := by
 have hs := St.start g
 have hn : IntKind.i64.wrap (n - 1) = n - 1 := wr (by omega) (by omega)
 refine enter Tryz.func41 rfl Tryz.ntmps41 rfl ?_
 refine W_seq ?_; refine W_region ?_
 refine WL_o rfl rfl (OpR_box rfl hs rfl rfl ?_); clear hs; rintro b1 g1 hs hqe; skip
 refine P1 T.ok rfl rfl rfl ?_; refine WL_nil ?_; (with_reducible refine T_then ?_); refine W_seq ?_; refine W_region ?_; refine P1 T.ok rfl rfl rfl ?_; refine WL_o rfl rfl (OpR_loadO T.ok 0 rfl hs rfl rfl rfl ?_); refine P1 T.ok rfl rfl rfl ?_; refine P1 T.ok rfl rfl rfl ?_
 rw [hn]
 refine WL_o rfl rfl (OpR_ret cl39 allF rfl rfl rfl rfl rfl (rwithin_c _ _ _ _) ?_); rintro g1 _ hf1 rfl; replace hs := hs.call hf1; have hqe := hf1.le; skip
 refine P1 T.ok rfl rfl rfl ?_
 refine WL_seg (want := true) (x := within w.dst 0 (n - 1)) 5 allF rfl rfl rfl rfl (.inl ⟨rfl, rfl, rfl⟩) rfl rfl rfl rfl (fun hb Q' hQ' => ?_) (fun g' hf => ?_)
 ·refine P1 T.ok rfl rfl rfl ?_; refine WL_o rfl rfl (OpR_loadO T.ok 0 rfl hs rfl rfl rfl ?_); refine P1 T.ok rfl rfl rfl ?_; refine P1 T.ok rfl rfl rfl ?_
  rw [hn]
  refine WL_o rfl rfl (OpR_ret cl39 allF rfl rfl rfl rfl rfl (rwithin_c _ _ _ _) ?_); rintro g1 _ hf1 rfl; replace hs := hs.call hf1; have hqe := hf1.le; skip
  refine WL_nil ?_
  exact fun a ha => hQ' _ a hf1 (ha.keep (by (repeat (first | exact trivial | refine ⟨rfl, ?_⟩))))
 replace hs := hs.call hf
 refine P1 T.ok rfl rfl rfl ?_
 refine WL_seg (want := true) (x := w.src != w.dst) 5 allF rfl rfl rfl rfl (.inl ⟨rfl, rfl, rfl⟩) rfl rfl rfl rfl (fun hb Q' hQ' => ?_) (fun g' hf => ?_)
 ·refine P1 T.ok rfl rfl rfl ?_; refine WL_o rfl rfl (OpR_loadO T.ok 0 rfl hs rfl rfl rfl ?_); refine P1 T.ok rfl rfl rfl ?_; refine WL_o rfl rfl (OpR_loadO T.ok 0 rfl hs rfl rfl rfl ?_); refine P1 T.ok rfl rfl rfl ?_; refine WL_nil ?_
  exact fun a ha => hQ' _ a (Fr0.refl _) (ha.keep (by (repeat (first | exact trivial | refine ⟨rfl, ?_⟩))))
 replace hs := hs.call hf
 refine P1 T.ok rfl rfl rfl ?_
 refine WL_seg (want := true) (x := within w.limit 0 1000000) 3 allF rfl rfl rfl rfl (.inl ⟨rfl, rfl, rfl⟩) rfl rfl rfl rfl (fun hb Q' hQ' => ?_) (fun g' hf => ?_)
 ·refine P1 T.ok rfl rfl rfl ?_; refine WL_o rfl rfl (OpR_loadO T.ok 0 rfl hs rfl rfl rfl ?_)
  refine WL_o rfl rfl (OpR_ret cl39 allF rfl rfl rfl rfl rfl (rwithin_c _ _ _ _) ?_); rintro g1 _ hf1 rfl; replace hs := hs.call hf1; have hqe := hf1.le; skip
  refine WL_nil ?_
  exact fun a ha => hQ' _ a hf1 (ha.keep (by (repeat (first | exact trivial | refine ⟨rfl, ?_⟩))))
 replace hs := hs.call hf
 refine P1 T.ok rfl rfl rfl ?_; refine WL_nil ?_; (with_reducible refine T_then ?_)
 exact W_ret (ret1 rfl rfl (hs.ret rfl))
end Go.Proofs.YtnaeopehmdcplaaGreatDoor

/- The reference's Valid. -/
namespace Go.Proofs.YtnaeopehmdcplaaGreatDoor
open Go Go.K
set_option maxRecDepth 10000
attribute [local irreducible] W WL OpR bitAnd bitOr bitXor bitClr bitNot shlI shrI
set_option maxHeartbeats 8000000

theorem winsOk_app {n : Int} : ∀ (a pre b : List Window), winsOk n pre (a ++ b) = (winsOk n pre a && winsOk n (pre ++ a) b)
 | [], pre, b => by simp [winsOk]
 | w :: a, pre, b => by
  rw [List.cons_append, winsOk, winsOk, winsOk_app a, List.append_assoc]
  simp only [Bool.and_assoc, List.singleton_append]
theorem last_take {ws : List Window} {k : Nat} (hk : k < ws.length) (h0 : 0 < k) : (ws.take k).getLast? = some (ws[k - 1]'(by omega)) := by
 rw [List.getLast?_eq_getElem?, List.length_take, Nat.min_eq_left (by omega), List.getElem?_take_of_lt (by omega), List.getElem?_eq_getElem (by omega)]
/-- One window more. -/
theorem winsOk_next {n : Int} {ws : List Window} {k : Nat} (hk : k < ws.length) (h : winsOk n [] (ws.take k) = true) :
  winsOk n [] (ws.take (k + 1)) = (rightWindow ws[k] n && (decide (k = 0) || (k ≠ 0 && winLess (ws[k - 1]'(by omega)) ws[k]))) := by
 rw [List.take_succ_eq_append_getElem hk, winsOk_snoc, h, Bool.true_and, List.nil_append]
 congr 1
 by_cases h0 : k = 0
 ·subst h0; rfl
 ·unfold follows
  rw [last_take hk (by omega)]
  simp [h0]
theorem winsOk_bad {n : Int} {ws : List Window} {k : Nat} (h : winsOk n [] (ws.take k) = false) : winsOk n [] ws = false := by
 conv => lhs; rw [← List.take_append_drop k ws]
 rw [winsOk_app, h, Bool.false_and]
theorem all_bad {ss : List Step} {n : Int} {k : Nat} (hk : k < ss.length) (h : rightStep ss[k] n = false) : (ss.all fun s => rightStep s n) = false := by
 rw [List.all_eq_false]
 exact ⟨ss[k], List.getElem_mem hk, by rw [h]; decide⟩
def winP (w : Window) : Fact := ⟨fun v g => ∃ b p, v = .pointer (some ⟨b, p, none⟩) ∧ EP g b p (winV w), fun _ _ _ hf ⟨b, p, e, h⟩ => ⟨b, p, e, h.mono hf.le⟩⟩





theorem rvalid_c (v : Value) (f : Flow) (g : G) (fl0 : RFlow g v f) : CallsIn Wd 0 Tryz.prog 13 #[v] g.w (Ret g fun _ r => r = .bool (valid f)) := by
 obtain ⟨a1, n1, c1, a2, n2, c2, rfl, rs0, rs1⟩ := id fl0
 obtain ⟨_, _, e⟩ := rs0.isSlice; obtain ⟨rfl, rfl, rfl⟩ := Value.slice.inj e; clear e
 obtain ⟨_, _, e⟩ := rs1.isSlice; obtain ⟨rfl, rfl, rfl⟩ := Value.slice.inj e; clear e
 clear fl0
 have hcap := rs0.len_le; have hcap2 := rs1.len_le
 unfold maxLen at hcap hcap2
 have hs := St.start g
 have le0 := G.le.refl g
 refine enter Tryz.func13 rfl Tryz.ntmps13 rfl ?_
 refine W_seq ?_; refine W_region ?_
 refine WL_o rfl rfl (OpR_box rfl hs rfl rfl ?_); clear hs; rintro bx g1 hs hqe; replace le0 := G.le.trans le0 hqe; replace rs0 := rs0.mono hqe; replace rs1 := rs1.mono hqe
 obtain ⟨g2, hw2, hs2, hqe, hep⟩ := hs.fzObj (i := 0) rfl; replace hs := hs2; clear hs2; rw [← hw2]; replace le0 := G.le.trans le0 hqe; replace rs0 := rs0.mono hqe; replace rs1 := rs1.mono hqe
 have ep0 := hep
 clear hep hw2 hqe
 refine P1 T.ok rfl rfl rfl ?_; refine WL_nil ?_; (with_reducible refine T_then ?_); refine W_seq ?_; refine W_region ?_; refine P1 T.ok rfl rfl rfl ?_; refine WL_o rfl rfl (OpR_loadE T.ok 2 rfl ep0 rfl rfl ?_); refine P1 T.ok rfl rfl rfl ?_; refine P1 T.ok rfl rfl rfl ?_; refine WL_nil ?_; (with_reducible refine T_then ?_); refine W_seq ?_; refine W_seq ?_; refine W_region ?_; refine P1 T.ok rfl rfl rfl ?_; refine WL_o rfl rfl (OpR_loadE T.ok 0 rfl ep0 rfl rfl ?_); refine P1 T.ok rfl rfl rfl ?_; refine WL_o rfl rfl (OpR_loadE T.ok 1 rfl ep0 rfl rfl ?_)
 refine WL_o rfl rfl (OpR_ret cl38 allF rfl rfl rfl rfl rfl (rmoves_c f.moveMin f.moveMax _) ?_); rintro g1 _ hf1 rfl; replace hs := hs.call hf1; have hqe := hf1.le; replace le0 := G.le.trans le0 hqe; replace ep0 := ep0.mono hqe; replace rs0 := rs0.mono hqe; replace rs1 := rs1.mono hqe
 refine P1 T.ok rfl rfl rfl ?_; refine P1 T.ok rfl rfl rfl ?_
 have hmv : rightMoves ⟨f.moveMin, f.moveMax, [], []⟩ = rightMoves f := rfl
 rw [hmv]
 refine WL_seg (want := false) (x := !within f.steps.length 1 40) 3 allF rfl rfl rfl rfl (.inr ⟨rfl, rfl, rfl⟩) rfl rfl rfl rfl (fun hb Q' hQ' => ?_) (fun g' hf => ?_)
 ·refine P1 T.ok rfl rfl rfl ?_
  refine WL_o rfl rfl (OpR_ret cl39 allF rfl rfl rfl rfl rfl (rwithin_c _ _ _ _) ?_); rintro g1 _ hf1 rfl; replace hs := hs.call hf1; have hqe := hf1.le; replace le0 := G.le.trans le0 hqe; replace ep0 := ep0.mono hqe; replace rs0 := rs0.mono hqe; replace rs1 := rs1.mono hqe
  refine P1 T.ok rfl rfl rfl ?_; refine WL_nil ?_
  exact fun a ha => hQ' _ a hf1 (ha.keep (by (repeat (first | exact trivial | refine ⟨rfl, ?_⟩))))
 replace hs := hs.call hf; have hqe := hf.le; replace le0 := G.le.trans le0 hqe; replace ep0 := ep0.mono hqe; replace rs0 := rs0.mono hqe; replace rs1 := rs1.mono hqe
 refine P1 T.ok rfl rfl rfl ?_
 refine WL_seg (want := false) (x := decide (20 < (f.windows.length : Int))) 4 allF rfl rfl rfl rfl (.inr ⟨rfl, rfl, rfl⟩) rfl rfl rfl rfl (fun hb Q' hQ' => ?_) (fun g' hf => ?_)
 ·refine P1 T.ok rfl rfl rfl ?_; refine WL_o rfl rfl (OpR_loadE T.ok 3 rfl ep0 rfl rfl ?_); refine P1 T.ok rfl rfl rfl ?_; refine P1 T.ok rfl rfl rfl ?_; refine WL_nil ?_
  exact fun a ha => hQ' _ a (Fr0.refl _) (ha.keep (by (repeat (first | exact trivial | refine ⟨rfl, ?_⟩))))
 replace hs := hs.call hf; have hqe := hf.le; replace le0 := G.le.trans le0 hqe; replace ep0 := ep0.mono hqe; replace rs0 := rs0.mono hqe; replace rs1 := rs1.mono hqe
 refine WL_nil ?_; (with_reducible refine T_then ?_)
 have hvalid : valid f = (rightMoves f && within f.steps.length 1 40 && decide ((f.windows.length : Int) ≤ 20) && f.steps.all (fun s => rightStep s f.steps.length) && winsOk f.steps.length [] f.windows) := rfl
 by_cases hc : (!rightMoves f || !within f.steps.length 1 40 || decide (20 < (f.windows.length : Int))) = true
 ·refine W_yes hc rfl ?_
  refine W_seq ?_; refine W_region ?_; refine P1 T.ok rfl rfl rfl ?_; refine WL_nil ?_; (with_reducible refine T_then ?_)
  refine W_ret (ret1 rfl rfl (hs.ret ?_))
  rw [hvalid]
  simp only [Bool.or_eq_true, Bool.not_eq_true', decide_eq_true_eq] at hc
  rcases hc with (h | h) | h
  ·rw [h]; simp
  ·rw [h]; simp
  ·have e : decide ((f.windows.length : Int) ≤ 20) = false := by simp; omega
   rw [e]; simp
 ·refine W_no (Bool.eq_false_iff.2 hc) rfl ?_
  simp only [Bool.not_eq_true, Bool.or_eq_false_iff, Bool.not_eq_false', decide_eq_false_iff_not] at hc
  obtain ⟨⟨hm, hw⟩, h20⟩ := hc
  have e20 : decide ((f.windows.length : Int) ≤ 20) = true := by simp; omega
  rw [hm, hw, e20, Bool.true_and, Bool.true_and, Bool.true_and] at hvalid
  refine W_skip ?_; (with_reducible refine T_then ?_); refine W_seq ?_; refine W_seq ?_; refine W_region ?_; refine P1 T.ok rfl rfl rfl ?_; refine WL_nil ?_; (with_reducible refine T_then ?_); refine W_block ?_
  have rs0c := rs0; have rs1c := rs1; have ep0c := ep0; have le0c := le0
  refine W_loop (fun m a' w => ∃ (k : Nat) (g4 : G), w = g4.w ∧ St g g4 [] ∧ G.le g' g4 ∧ k ≤ f.steps.length ∧ m = f.steps.length - k ∧ (∀ j (h : j < f.steps.length), j < k → rightStep f.steps[j] f.steps.length = true) ∧
   Fr 73 [] [(1, .pointer (some ⟨bx, 0, none⟩)), (3, .int .i64 f.steps.length), (4, .int .i64 k)] a') f.steps.length (fun a' ha => ⟨0, g', rfl, hs, G.le.refl _, Nat.zero_le _, rfl, fun _ _ h => by omega, ha.keep (by (repeat (first | exact trivial | refine ⟨rfl, ?_⟩)))⟩) ?_
  clear hs le0 rs0 rs1 ep0
  rintro m a' _ ⟨k, g4, rfl, hs, le8, hk, rfl, hno, ha'⟩
  have rs0 := rs0c.mono le8
  have rs1 := rs1c.mono le8
  have ep0 := ep0c.mono le8
  revert a'
  (with_reducible refine T_wp ?_); refine W_seq ?_; refine W_seq ?_; refine W_region ?_; (iterate 3 refine P1 T.ok rfl rfl rfl ?_); refine WL_nil ?_; (with_reducible refine T_then ?_)
  by_cases hlt : k < f.steps.length
  ·refine W_yes (b := _) ?_ rfl ?_
   ·simp; omega
   have hgi : geti f.steps (k : Int) = some f.steps[k] := by simp [geti, hlt]
   have hbad := all_bad (ss := f.steps) (n := f.steps.length) hlt
   have hnx : rightStep f.steps[k] f.steps.length = true → ∀ j (h : j < f.steps.length), j < k + 1 → rightStep f.steps[j] f.steps.length = true := by
    intro h1 j h h2
    by_cases hj : j = k
    ·subst hj; exact h1
    ·exact hno j h (by omega)
   generalize f.steps[k] = s at *
   refine W_skip ?_; (with_reducible refine T_then ?_); refine W_seq ?_; refine W_block ?_; refine W_seq ?_; refine W_region ?_; refine P1 T.ok rfl rfl rfl ?_; refine WL_o rfl rfl (OpR_loadE T.ok 2 rfl ep0 rfl rfl ?_); refine P1 T.ok rfl rfl rfl ?_
   refine WL_o rfl rfl (OpR_idx T.ok rfl rs0 (y := s) hgi rfl rfl rfl rfl rfl rfl ?_)
   rintro bq pq ys hep ⟨ta, tn, tc, na, nn, nc, rfl, rs2, rs3⟩
   refine WL_o rfl rfl (OpR_loadE T.ok 0 rfl hep rfl rfl ?_)
   refine P1 T.ok rfl rfl rfl ?_
   refine WL_o rfl rfl (OpR_ret cl40 allF rfl rfl rfl rfl rfl (rstep_c _ s f.steps.length _ ⟨_, rfl, _, _, _, _, _, _, rfl, rs2, rs3⟩ (by omega) (by omega)) ?_); rintro g1 _ hf1 rfl; replace hs := hs.call hf1; have hqe := hf1.le; replace le8 := G.le.trans le8 hqe; replace ep0 := ep0.mono hqe; replace rs0 := rs0.mono hqe; replace rs1 := rs1.mono hqe; replace rs2 := rs2.mono hqe; replace rs3 := rs3.mono hqe
   refine P1 T.ok rfl rfl rfl ?_; refine WL_nil ?_; (with_reducible refine T_then ?_)
   cases e1 : rightStep s f.steps.length with
   | false =>
    refine W_yes rfl rfl ?_
    refine W_seq ?_; refine W_region ?_; refine P1 T.ok rfl rfl rfl ?_; refine WL_nil ?_; (with_reducible refine T_then ?_)
    refine W_ret (ret1 rfl rfl (hs.ret ?_))
    rw [hvalid, hbad e1, Bool.false_and]
   | true =>
    refine W_no rfl rfl ?_
    refine W_skip ?_; (with_reducible refine T_bn ?_); (with_reducible refine T_then ?_); refine W_region ?_; (iterate 3 refine P1 T.ok rfl rfl rfl ?_); refine WL_nil ?_
    exact fun a ha => ⟨f.steps.length - (k + 1), by omega, k + 1, _, rfl, hs, le8, by omega, rfl, hnx e1, ha.keep ⟨rfl, rfl, kI rfl (by rw [wr (by omega) (by omega)]; omega), trivial⟩⟩
  ·refine W_no (b := _) ?_ rfl ?_
   ·simp; omega
   have hall : (f.steps.all fun s => rightStep s f.steps.length) = true := by
    rw [List.all_eq_true]
    intro s hs
    obtain ⟨j, hj, rfl⟩ := List.getElem_of_mem hs
    exact hno j hj (by omega)
   rw [hall, Bool.true_and] at hvalid
   clear hno hall
   refine W_exit ?_; (with_reducible refine T_tx ?_; with_reducible refine T_tx ?_); (with_reducible refine T_bx ?_); (with_reducible refine T_then ?_); refine W_seq ?_; refine W_seq ?_; refine W_region ?_; refine P1 T.ok rfl rfl rfl ?_; refine WL_nil ?_; (with_reducible refine T_then ?_); refine W_block ?_
   have rs1d := rs1; have ep0d := ep0
   have hs0 := hs
   refine W_loop (fun m a' w => ∃ (k : Nat) (g5 : G), w = g5.w ∧ St g g5 [] ∧ G.le g4 g5 ∧ k ≤ f.windows.length ∧ m = f.windows.length - k ∧ winsOk f.steps.length [] (f.windows.take k) = true ∧
    Fr 73 [] [(1, .pointer (some ⟨bx, 0, none⟩)), (3, .int .i64 f.steps.length), (5, .int .i64 k)] a') f.windows.length (fun a' ha => ⟨0, g4, rfl, hs, G.le.refl _, Nat.zero_le _, rfl, rfl, ha.keep (by (repeat (first | exact trivial | refine ⟨rfl, ?_⟩)))⟩) ?_
   clear hs hs0 rs0 rs1 ep0 le8 hlt hk
   rintro m a' _ ⟨k, g5, rfl, hs, le8, hk, rfl, hno, ha'⟩
   have rs1 := rs1d.mono le8
   have ep0 := ep0d.mono le8
   revert a'
   (with_reducible refine T_wp ?_); refine W_seq ?_; refine W_seq ?_; refine W_region ?_; refine P1 T.ok rfl rfl rfl ?_; refine P1 T.ok rfl rfl rfl ?_; refine WL_o rfl rfl (OpR_loadE T.ok 3 rfl ep0 rfl rfl ?_); refine P1 T.ok rfl rfl rfl ?_; refine P1 T.ok rfl rfl rfl ?_; refine WL_nil ?_; (with_reducible refine T_then ?_)
   by_cases hlt : k < f.windows.length
   ·refine W_yes (b := _) ?_ rfl ?_
    ·simp; omega
    have hgi : geti f.windows (k : Int) = some f.windows[k] := by simp [geti, hlt]
    have hnx0 := winsOk_next (n := f.steps.length) hlt hno
    have hbd := fun h => winsOk_bad (n := f.steps.length) (ws := f.windows) (k := k + 1) h
    have hgp : 0 < k → geti f.windows ((k - 1 : Nat) : Int) = some (f.windows[k - 1]'(by omega)) := fun h => geti_of rfl (by omega)
    generalize f.windows[k - 1]'(by omega) = wp at *
    generalize f.windows[k] = w0 at *
    cases e1 : rightWindow w0 f.steps.length with
    | false =>
     rw [e1, Bool.false_and] at hnx0
     have hvv : valid f = false := by rw [hvalid, hbd hnx0]
     refine W_skip ?_; (with_reducible refine T_then ?_); refine W_seq ?_; refine W_block ?_; refine W_seq ?_
     apply W_draw allF rfl (Fact.eq _ :: Fact.eq _ :: Fact.eq _ :: (winP (w0)) :: Fact.eq _ :: Fact.eq _ :: Fact.eq _ :: Fact.eq _ :: Fact.eq _ :: Fact.eq _ :: Fact.eq _ :: Fact.eq _ :: Fact.eq _ :: Fact.eq _ :: Fact.eq _ :: Fact.eq _ :: Fact.eq _ :: Fact.eq _ :: Fact.eq _ :: Fact.eq _ :: Fact.eq _ :: Fact.eq _ :: Fact.eq _ :: Fact.eq _ :: Fact.eq _ :: Fact.eq _ :: Fact.eq _ :: []) 27 [(26, 72)] rfl rfl
     ·refine D_s (js := []) (by kernel_rfl) (fun _ _ => QA_nil (DPu T.ok rfl rfl rfl)) ?_
      refine D_s (js := [(0, 46)]) (by kernel_rfl) (fun _ hf => QA_eq rfl (QA_nil (DLe T.ok 3 rfl rfl (ep0.mono ((G.le_dr _).trans hf.le)) rfl rfl rfl))) ?_
      refine D_s (js := []) (by kernel_rfl) (fun _ _ => QA_nil (DPu T.ok rfl rfl rfl)) ?_
      refine D_cons (D_step2 (js := [(1, 47), (2, 48)]) (by kernel_rfl) fun gd hf => ?_) ?_
      ·have hsd := hs.dr.call hf; have hfe := (G.le_dr _).trans hf.le
       refine QA_eq rfl ?_; refine QA_eq rfl ?_
       refine QA_nil ?_
       refine D_yes rfl ?_
       refine OpR_idx T.ok rfl (rs1.mono hfe) (y := w0) hgi rfl rfl rfl rfl rfl rfl ?_
       rintro b p ys hep rfl
       exact ⟨_, rfl, Fr0.refl _, b, p, rfl, hep⟩
      refine D_cons (D_step2 (js := [(3, 49)]) (by kernel_rfl) fun gd hf => ?_) ?_
      ·have hsd := hs.dr.call hf; have hfe := (G.le_dr _).trans hf.le
       refine QA_any fun v3 h3 => ?_
       refine QA_nil ?_
       obtain ⟨b, p, rfl, hep⟩ := h3
       refine D_yes rfl ?_
       refine OpR_loadE T.ok 0 rfl hep rfl rfl ?_
       refine ⟨_, rfl, Fr0.refl _, ?_⟩
       exact rfl
      refine D_s (js := []) (by kernel_rfl) (fun _ _ => QA_nil (DPu T.ok rfl rfl rfl)) ?_
      refine D_cons (D_step2 (js := [(4, 50), (5, 51)]) (by kernel_rfl) fun gd hf => ?_) ?_
      ·have hsd := hs.dr.call hf; have hfe := (G.le_dr _).trans hf.le
       refine QA_eq rfl ?_; refine QA_eq rfl ?_
       refine QA_nil ?_
       refine D_yes rfl ?_
       refine OpR_ret cl41 allF rfl rfl rfl rfl rfl (rwindow_c w0 f.steps.length _ (by omega) (by omega)) fun g' v h1 h2 => ⟨g', rfl, h1, ?_⟩
       rw [h2]; exact congrArg Value.bool e1
      refine D_s (js := [(6, 52)]) (by kernel_rfl) (fun _ _ => QA_eq rfl (QA_nil (DPu T.ok rfl rfl rfl))) ?_
      refine D_s (js := [(7, 53)]) (by kernel_rfl) (fun _ _ => QA_eq rfl (QA_nil (DPu T.ok rfl rfl rfl))) ?_
      refine D_s (js := [(8, 54)]) (by kernel_rfl) (fun _ _ => QA_eq rfl (QA_nil (DNo rfl rfl))) ?_
      refine D_s (js := [(9, 55), (8, 54)]) (by kernel_rfl) (fun _ _ => QA_eq rfl (QA_eq rfl (QA_nil (DNo rfl rfl)))) ?_
      refine D_s (js := [(10, 56), (8, 54), (8, 54)]) (by kernel_rfl) (fun _ _ => QA_eq rfl (QA_eq rfl (QA_eq rfl (QA_nil (DNo rfl rfl))))) ?_
      refine D_s (js := [(11, 57)]) (by kernel_rfl) (fun _ _ => QA_eq rfl (QA_nil (DNo rfl rfl))) ?_
      refine D_s (js := [(12, 58), (11, 57)]) (by kernel_rfl) (fun _ _ => QA_eq rfl (QA_eq rfl (QA_nil (DNo rfl rfl)))) ?_
      refine D_s (js := [(11, 57)]) (by kernel_rfl) (fun _ _ => QA_eq rfl (QA_nil (DNo rfl rfl))) ?_
      refine D_s (js := [(14, 60), (11, 57)]) (by kernel_rfl) (fun _ _ => QA_eq rfl (QA_eq rfl (QA_nil (DNo rfl rfl)))) ?_
      refine D_s (js := [(13, 59), (15, 61), (11, 57)]) (by kernel_rfl) (fun _ _ => QA_eq rfl (QA_eq rfl (QA_eq rfl (QA_nil (DNo rfl rfl))))) ?_
      refine D_s (js := [(16, 62), (11, 57)]) (by kernel_rfl) (fun _ _ => QA_eq rfl (QA_eq rfl (QA_nil (DNo rfl rfl)))) ?_
      refine D_s (js := [(11, 57)]) (by kernel_rfl) (fun _ _ => QA_eq rfl (QA_nil (DNo rfl rfl))) ?_
      refine D_s (js := [(18, 64), (11, 57)]) (by kernel_rfl) (fun _ _ => QA_eq rfl (QA_eq rfl (QA_nil (DNo rfl rfl)))) ?_
      refine D_s (js := [(11, 57)]) (by kernel_rfl) (fun _ _ => QA_eq rfl (QA_nil (DNo rfl rfl))) ?_
      refine D_s (js := [(19, 65), (20, 66), (11, 57)]) (by kernel_rfl) (fun _ _ => QA_eq rfl (QA_eq rfl (QA_eq rfl (QA_nil (DNo rfl rfl))))) ?_
      refine D_s (js := [(21, 67), (11, 57)]) (by kernel_rfl) (fun _ _ => QA_eq rfl (QA_eq rfl (QA_nil (DNo rfl rfl)))) ?_
      refine D_s (js := [(17, 63), (22, 68), (11, 57), (11, 57)]) (by kernel_rfl) (fun _ _ => QA_eq rfl (QA_eq rfl (QA_eq rfl (QA_eq rfl (QA_nil (DNo rfl rfl)))))) ?_
      refine D_s (js := [(23, 69), (11, 57)]) (by kernel_rfl) (fun _ _ => QA_eq rfl (QA_eq rfl (QA_nil (DNo rfl rfl)))) ?_
      refine D_s (js := [(11, 57), (24, 70), (8, 54)]) (by kernel_rfl) (fun _ _ => QA_eq rfl (QA_eq rfl (QA_eq rfl (QA_nil (DNo rfl rfl))))) ?_
      refine D_s (js := [(8, 54), (25, 71)]) (by kernel_rfl) (fun _ _ => QA_eq rfl (QA_eq rfl (QA_nil (DPu T.ok rfl rfl rfl)))) ?_
      exact D_nil
     intro g1 hf1; refine QA_eq rfl ?_; refine QA_nil ?_
     replace hs := hs.dr.call hf1; have hqe := (G.le_dr _).trans hf1.le; replace le8 := G.le.trans le8 hqe; replace ep0 := ep0.mono hqe; replace rs1 := rs1.mono hqe
     refine WL_nil ?_; (with_reducible refine T_then ?_)
     refine W_yes rfl rfl ?_
     refine W_seq ?_; refine W_region ?_; refine P1 T.ok rfl rfl rfl ?_; refine WL_nil ?_; (with_reducible refine T_then ?_)
     refine W_ret (ret1 rfl rfl (hs.ret ?_))
     rw [hvv]
    | true =>
     rw [e1, Bool.true_and] at hnx0
     cases e2 : decide (0 < (k : Int)) with
     | false =>
      have hk0 : k = 0 := by simpa using e2
      have hnx : winsOk f.steps.length [] (f.windows.take (k + 1)) = true := by rw [hnx0]; simp [hk0]
      refine W_skip ?_; (with_reducible refine T_then ?_); refine W_seq ?_; refine W_block ?_; refine W_seq ?_
      apply W_draw allF rfl (Fact.eq _ :: Fact.eq _ :: Fact.eq _ :: (winP (w0)) :: Fact.eq _ :: Fact.eq _ :: Fact.eq _ :: Fact.eq _ :: Fact.eq _ :: Fact.eq _ :: Fact.eq _ :: Fact.eq _ :: Fact.eq _ :: Fact.eq _ :: Fact.eq _ :: Fact.eq _ :: Fact.eq _ :: Fact.eq _ :: Fact.eq _ :: Fact.eq _ :: Fact.eq _ :: Fact.eq _ :: Fact.eq _ :: Fact.eq _ :: Fact.eq _ :: Fact.eq _ :: Fact.eq _ :: []) 27 [(26, 72)] rfl rfl
      ·refine D_s (js := []) (by kernel_rfl) (fun _ _ => QA_nil (DPu T.ok rfl rfl rfl)) ?_
       refine D_s (js := [(0, 46)]) (by kernel_rfl) (fun _ hf => QA_eq rfl (QA_nil (DLe T.ok 3 rfl rfl (ep0.mono ((G.le_dr _).trans hf.le)) rfl rfl rfl))) ?_
       refine D_s (js := []) (by kernel_rfl) (fun _ _ => QA_nil (DPu T.ok rfl rfl rfl)) ?_
       refine D_cons (D_step2 (js := [(1, 47), (2, 48)]) (by kernel_rfl) fun gd hf => ?_) ?_
       ·have hsd := hs.dr.call hf; have hfe := (G.le_dr _).trans hf.le
        refine QA_eq rfl ?_; refine QA_eq rfl ?_
        refine QA_nil ?_
        refine D_yes rfl ?_
        refine OpR_idx T.ok rfl (rs1.mono hfe) (y := w0) hgi rfl rfl rfl rfl rfl rfl ?_
        rintro b p ys hep rfl
        exact ⟨_, rfl, Fr0.refl _, b, p, rfl, hep⟩
       refine D_cons (D_step2 (js := [(3, 49)]) (by kernel_rfl) fun gd hf => ?_) ?_
       ·have hsd := hs.dr.call hf; have hfe := (G.le_dr _).trans hf.le
        refine QA_any fun v3 h3 => ?_
        refine QA_nil ?_
        obtain ⟨b, p, rfl, hep⟩ := h3
        refine D_yes rfl ?_
        refine OpR_loadE T.ok 0 rfl hep rfl rfl ?_
        refine ⟨_, rfl, Fr0.refl _, ?_⟩
        exact rfl
       refine D_s (js := []) (by kernel_rfl) (fun _ _ => QA_nil (DPu T.ok rfl rfl rfl)) ?_
       refine D_cons (D_step2 (js := [(4, 50), (5, 51)]) (by kernel_rfl) fun gd hf => ?_) ?_
       ·have hsd := hs.dr.call hf; have hfe := (G.le_dr _).trans hf.le
        refine QA_eq rfl ?_; refine QA_eq rfl ?_
        refine QA_nil ?_
        refine D_yes rfl ?_
        refine OpR_ret cl41 allF rfl rfl rfl rfl rfl (rwindow_c w0 f.steps.length _ (by omega) (by omega)) fun g' v h1 h2 => ⟨g', rfl, h1, ?_⟩
        rw [h2]; exact congrArg Value.bool e1
       refine D_s (js := [(6, 52)]) (by kernel_rfl) (fun _ _ => QA_eq rfl (QA_nil (DPu T.ok rfl rfl rfl))) ?_
       refine D_s (js := [(7, 53)]) (by kernel_rfl) (fun _ _ => QA_eq rfl (QA_nil (DPu T.ok rfl rfl rfl))) ?_
       refine D_s (js := [(8, 54)]) (by kernel_rfl) (fun _ _ => QA_eq rfl (QA_nil (DPu T.ok rfl rfl rfl))) ?_
       refine D_cons (D_step2 (js := [(9, 55), (8, 54)]) (by kernel_rfl) fun gd hf => ?_) ?_
       ·have hsd := hs.dr.call hf; have hfe := (G.le_dr _).trans hf.le
        refine QA_eq rfl ?_; refine QA_eq rfl ?_
        refine QA_nil ?_
        refine D_yes rfl ?_
        refine OpR_pure _ T.ok rfl ?_
        exact ⟨_, rfl, Fr0.refl _, congrArg Value.bool e2⟩
       refine D_s (js := [(10, 56), (8, 54), (8, 54)]) (by kernel_rfl) (fun _ _ => QA_eq rfl (QA_eq rfl (QA_eq rfl (QA_nil (DPu T.ok rfl rfl rfl))))) ?_
       refine D_s (js := [(11, 57)]) (by kernel_rfl) (fun _ _ => QA_eq rfl (QA_nil (DNo rfl rfl))) ?_
       refine D_s (js := [(12, 58), (11, 57)]) (by kernel_rfl) (fun _ _ => QA_eq rfl (QA_eq rfl (QA_nil (DNo rfl rfl)))) ?_
       refine D_s (js := [(11, 57)]) (by kernel_rfl) (fun _ _ => QA_eq rfl (QA_nil (DNo rfl rfl))) ?_
       refine D_s (js := [(14, 60), (11, 57)]) (by kernel_rfl) (fun _ _ => QA_eq rfl (QA_eq rfl (QA_nil (DNo rfl rfl)))) ?_
       refine D_s (js := [(13, 59), (15, 61), (11, 57)]) (by kernel_rfl) (fun _ _ => QA_eq rfl (QA_eq rfl (QA_eq rfl (QA_nil (DNo rfl rfl))))) ?_
       refine D_s (js := [(16, 62), (11, 57)]) (by kernel_rfl) (fun _ _ => QA_eq rfl (QA_eq rfl (QA_nil (DNo rfl rfl)))) ?_
       refine D_s (js := [(11, 57)]) (by kernel_rfl) (fun _ _ => QA_eq rfl (QA_nil (DNo rfl rfl))) ?_
       refine D_s (js := [(18, 64), (11, 57)]) (by kernel_rfl) (fun _ _ => QA_eq rfl (QA_eq rfl (QA_nil (DNo rfl rfl)))) ?_
       refine D_s (js := [(11, 57)]) (by kernel_rfl) (fun _ _ => QA_eq rfl (QA_nil (DNo rfl rfl))) ?_
       refine D_s (js := [(19, 65), (20, 66), (11, 57)]) (by kernel_rfl) (fun _ _ => QA_eq rfl (QA_eq rfl (QA_eq rfl (QA_nil (DNo rfl rfl))))) ?_
       refine D_s (js := [(21, 67), (11, 57)]) (by kernel_rfl) (fun _ _ => QA_eq rfl (QA_eq rfl (QA_nil (DNo rfl rfl)))) ?_
       refine D_s (js := [(17, 63), (22, 68), (11, 57), (11, 57)]) (by kernel_rfl) (fun _ _ => QA_eq rfl (QA_eq rfl (QA_eq rfl (QA_eq rfl (QA_nil (DNo rfl rfl)))))) ?_
       refine D_s (js := [(23, 69), (11, 57)]) (by kernel_rfl) (fun _ _ => QA_eq rfl (QA_eq rfl (QA_nil (DNo rfl rfl)))) ?_
       refine D_s (js := [(11, 57), (24, 70), (8, 54)]) (by kernel_rfl) (fun _ _ => QA_eq rfl (QA_eq rfl (QA_eq rfl (QA_nil (DPu T.ok rfl rfl rfl))))) ?_
       refine D_s (js := [(8, 54), (25, 71)]) (by kernel_rfl) (fun _ _ => QA_eq rfl (QA_eq rfl (QA_nil (DPu T.ok rfl rfl rfl)))) ?_
       exact D_nil
      intro g1 hf1; refine QA_eq rfl ?_; refine QA_nil ?_
      replace hs := hs.dr.call hf1; have hqe := (G.le_dr _).trans hf1.le; replace le8 := G.le.trans le8 hqe; replace ep0 := ep0.mono hqe; replace rs1 := rs1.mono hqe
      refine WL_nil ?_; (with_reducible refine T_then ?_)
      refine W_no rfl rfl ?_
      refine W_skip ?_; (with_reducible refine T_bn ?_); (with_reducible refine T_then ?_); refine W_region ?_; (iterate 3 refine P1 T.ok rfl rfl rfl ?_); refine WL_nil ?_
      refine fun a ha => ⟨f.windows.length - (k + 1), by omega, k + 1, _, rfl, hs, le8, by omega, rfl, hnx, ha.keep ⟨rfl, rfl, kI rfl (by rw [wr (by omega) (by omega)]; omega), trivial⟩⟩
     | true =>
      have hk0 : 0 < k := by simpa using e2
      have hgp := hgp hk0
      have hnx1 : winsOk f.steps.length [] (f.windows.take (k + 1)) = winLess wp w0 := by rw [hnx0, decide_eq_false (show ¬ k = 0 by omega), decide_eq_true (show k ≠ 0 by omega)]; rfl
      cases e3 : winLess wp w0 with
      | false =>
       have hvv : valid f = false := by rw [hvalid, hbd (hnx1.trans e3)]
       refine W_skip ?_; (with_reducible refine T_then ?_); refine W_seq ?_; refine W_block ?_; refine W_seq ?_
       apply W_draw allF rfl (Fact.eq _ :: Fact.eq _ :: Fact.eq _ :: (winP (w0)) :: Fact.eq _ :: Fact.eq _ :: Fact.eq _ :: Fact.eq _ :: Fact.eq _ :: Fact.eq _ :: Fact.eq _ :: Fact.eq _ :: Fact.eq _ :: Fact.eq _ :: Fact.eq _ :: Fact.eq _ :: (winP (wp)) :: Fact.eq _ :: Fact.eq _ :: Fact.eq _ :: Fact.eq _ :: (winP (w0)) :: Fact.eq _ :: Fact.eq _ :: Fact.eq _ :: Fact.eq _ :: Fact.eq _ :: []) 27 [(26, 72)] rfl rfl
       ·refine D_s (js := []) (by kernel_rfl) (fun _ _ => QA_nil (DPu T.ok rfl rfl rfl)) ?_
        refine D_s (js := [(0, 46)]) (by kernel_rfl) (fun _ hf => QA_eq rfl (QA_nil (DLe T.ok 3 rfl rfl (ep0.mono ((G.le_dr _).trans hf.le)) rfl rfl rfl))) ?_
        refine D_s (js := []) (by kernel_rfl) (fun _ _ => QA_nil (DPu T.ok rfl rfl rfl)) ?_
        refine D_cons (D_step2 (js := [(1, 47), (2, 48)]) (by kernel_rfl) fun gd hf => ?_) ?_
        ·have hsd := hs.dr.call hf; have hfe := (G.le_dr _).trans hf.le
         refine QA_eq rfl ?_; refine QA_eq rfl ?_
         refine QA_nil ?_
         refine D_yes rfl ?_
         refine OpR_idx T.ok rfl (rs1.mono hfe) (y := w0) hgi rfl rfl rfl rfl rfl rfl ?_
         rintro b p ys hep rfl
         exact ⟨_, rfl, Fr0.refl _, b, p, rfl, hep⟩
        refine D_cons (D_step2 (js := [(3, 49)]) (by kernel_rfl) fun gd hf => ?_) ?_
        ·have hsd := hs.dr.call hf; have hfe := (G.le_dr _).trans hf.le
         refine QA_any fun v3 h3 => ?_
         refine QA_nil ?_
         obtain ⟨b, p, rfl, hep⟩ := h3
         refine D_yes rfl ?_
         refine OpR_loadE T.ok 0 rfl hep rfl rfl ?_
         refine ⟨_, rfl, Fr0.refl _, ?_⟩
         exact rfl
        refine D_s (js := []) (by kernel_rfl) (fun _ _ => QA_nil (DPu T.ok rfl rfl rfl)) ?_
        refine D_cons (D_step2 (js := [(4, 50), (5, 51)]) (by kernel_rfl) fun gd hf => ?_) ?_
        ·have hsd := hs.dr.call hf; have hfe := (G.le_dr _).trans hf.le
         refine QA_eq rfl ?_; refine QA_eq rfl ?_
         refine QA_nil ?_
         refine D_yes rfl ?_
         refine OpR_ret cl41 allF rfl rfl rfl rfl rfl (rwindow_c w0 f.steps.length _ (by omega) (by omega)) fun g' v h1 h2 => ⟨g', rfl, h1, ?_⟩
         rw [h2]; exact congrArg Value.bool e1
        refine D_s (js := [(6, 52)]) (by kernel_rfl) (fun _ _ => QA_eq rfl (QA_nil (DPu T.ok rfl rfl rfl))) ?_
        refine D_s (js := [(7, 53)]) (by kernel_rfl) (fun _ _ => QA_eq rfl (QA_nil (DPu T.ok rfl rfl rfl))) ?_
        refine D_s (js := [(8, 54)]) (by kernel_rfl) (fun _ _ => QA_eq rfl (QA_nil (DPu T.ok rfl rfl rfl))) ?_
        refine D_cons (D_step2 (js := [(9, 55), (8, 54)]) (by kernel_rfl) fun gd hf => ?_) ?_
        ·have hsd := hs.dr.call hf; have hfe := (G.le_dr _).trans hf.le
         refine QA_eq rfl ?_; refine QA_eq rfl ?_
         refine QA_nil ?_
         refine D_yes rfl ?_
         refine OpR_pure _ T.ok rfl ?_
         exact ⟨_, rfl, Fr0.refl _, congrArg Value.bool e2⟩
        refine D_s (js := [(10, 56), (8, 54), (8, 54)]) (by kernel_rfl) (fun _ _ => QA_eq rfl (QA_eq rfl (QA_eq rfl (QA_nil (DPu T.ok rfl rfl rfl))))) ?_
        refine D_s (js := [(11, 57)]) (by kernel_rfl) (fun _ _ => QA_eq rfl (QA_nil (DPu T.ok rfl rfl rfl))) ?_
        refine D_s (js := [(12, 58), (11, 57)]) (by kernel_rfl) (fun _ hf => QA_eq rfl (QA_eq rfl (QA_nil (DLe T.ok 3 rfl rfl (ep0.mono ((G.le_dr _).trans hf.le)) rfl rfl rfl)))) ?_
        refine D_s (js := [(11, 57)]) (by kernel_rfl) (fun _ _ => QA_eq rfl (QA_nil (DPu T.ok rfl rfl rfl))) ?_
        refine D_cons (D_step2 (js := [(14, 60), (11, 57)]) (by kernel_rfl) fun gd hf => ?_) ?_
        ·have hsd := hs.dr.call hf; have hfe := (G.le_dr _).trans hf.le
         refine QA_eq rfl ?_; refine QA_eq rfl ?_
         refine QA_nil ?_
         refine D_yes rfl ?_
         refine OpR_pure _ T.ok rfl ?_
         refine ⟨_, rfl, Fr0.refl _, ?_⟩
         exact congrArg (Value.int .i64) (show _ = ((k - 1 : Nat) : Int) from by rw [wr (by omega) (by omega)]; omega)
        refine D_cons (D_step2 (js := [(13, 59), (15, 61), (11, 57)]) (by kernel_rfl) fun gd hf => ?_) ?_
        ·have hsd := hs.dr.call hf; have hfe := (G.le_dr _).trans hf.le
         refine QA_eq rfl ?_; refine QA_eq rfl ?_; refine QA_eq rfl ?_
         refine QA_nil ?_
         refine D_yes rfl ?_
         refine OpR_idx T.ok rfl (rs1.mono hfe) (y := wp) hgp rfl rfl rfl rfl rfl rfl ?_
         rintro b p ys hep rfl
         exact ⟨_, rfl, Fr0.refl _, b, p, rfl, hep⟩
        refine D_cons (D_step2 (js := [(16, 62), (11, 57)]) (by kernel_rfl) fun gd hf => ?_) ?_
        ·have hsd := hs.dr.call hf; have hfe := (G.le_dr _).trans hf.le
         refine QA_any fun v16 h16 => ?_; refine QA_eq rfl ?_
         refine QA_nil ?_
         obtain ⟨b, p, rfl, hep⟩ := h16
         refine D_yes rfl ?_
         refine OpR_loadE T.ok 0 rfl hep rfl rfl ?_
         refine ⟨_, rfl, Fr0.refl _, ?_⟩
         exact rfl
        refine D_s (js := [(11, 57)]) (by kernel_rfl) (fun _ _ => QA_eq rfl (QA_nil (DPu T.ok rfl rfl rfl))) ?_
        refine D_s (js := [(18, 64), (11, 57)]) (by kernel_rfl) (fun _ hf => QA_eq rfl (QA_eq rfl (QA_nil (DLe T.ok 3 rfl rfl (ep0.mono ((G.le_dr _).trans hf.le)) rfl rfl rfl)))) ?_
        refine D_s (js := [(11, 57)]) (by kernel_rfl) (fun _ _ => QA_eq rfl (QA_nil (DPu T.ok rfl rfl rfl))) ?_
        refine D_cons (D_step2 (js := [(19, 65), (20, 66), (11, 57)]) (by kernel_rfl) fun gd hf => ?_) ?_
        ·have hsd := hs.dr.call hf; have hfe := (G.le_dr _).trans hf.le
         refine QA_eq rfl ?_; refine QA_eq rfl ?_; refine QA_eq rfl ?_
         refine QA_nil ?_
         refine D_yes rfl ?_
         refine OpR_idx T.ok rfl (rs1.mono hfe) (y := w0) hgi rfl rfl rfl rfl rfl rfl ?_
         rintro b p ys hep rfl
         exact ⟨_, rfl, Fr0.refl _, b, p, rfl, hep⟩
        refine D_cons (D_step2 (js := [(21, 67), (11, 57)]) (by kernel_rfl) fun gd hf => ?_) ?_
        ·have hsd := hs.dr.call hf; have hfe := (G.le_dr _).trans hf.le
         refine QA_any fun v21 h21 => ?_; refine QA_eq rfl ?_
         refine QA_nil ?_
         obtain ⟨b, p, rfl, hep⟩ := h21
         refine D_yes rfl ?_
         refine OpR_loadE T.ok 0 rfl hep rfl rfl ?_
         refine ⟨_, rfl, Fr0.refl _, ?_⟩
         exact rfl
        refine D_cons (D_step2 (js := [(17, 63), (22, 68), (11, 57), (11, 57)]) (by kernel_rfl) fun gd hf => ?_) ?_
        ·have hsd := hs.dr.call hf; have hfe := (G.le_dr _).trans hf.le
         refine QA_eq rfl ?_; refine QA_eq rfl ?_; refine QA_eq rfl ?_; refine QA_eq rfl ?_
         refine QA_nil ?_
         refine D_yes rfl ?_
         refine OpR_ret cl23 allF rfl rfl rfl rfl rfl (after_c wp w0 _) fun g' v h1 h2 => ⟨g', rfl, h1, ?_⟩
         rw [h2]; exact congrArg Value.bool e3
        refine D_s (js := [(23, 69), (11, 57)]) (by kernel_rfl) (fun _ _ => QA_eq rfl (QA_eq rfl (QA_nil (DPu T.ok rfl rfl rfl)))) ?_
        refine D_s (js := [(11, 57), (24, 70), (8, 54)]) (by kernel_rfl) (fun _ _ => QA_eq rfl (QA_eq rfl (QA_eq rfl (QA_nil (DPu T.ok rfl rfl rfl))))) ?_
        refine D_s (js := [(8, 54), (25, 71)]) (by kernel_rfl) (fun _ _ => QA_eq rfl (QA_eq rfl (QA_nil (DPu T.ok rfl rfl rfl)))) ?_
        exact D_nil
       intro g1 hf1; refine QA_eq rfl ?_; refine QA_nil ?_
       replace hs := hs.dr.call hf1; have hqe := (G.le_dr _).trans hf1.le; replace le8 := G.le.trans le8 hqe; replace ep0 := ep0.mono hqe; replace rs1 := rs1.mono hqe
       refine WL_nil ?_; (with_reducible refine T_then ?_)
       refine W_yes rfl rfl ?_
       refine W_seq ?_; refine W_region ?_; refine P1 T.ok rfl rfl rfl ?_; refine WL_nil ?_; (with_reducible refine T_then ?_)
       refine W_ret (ret1 rfl rfl (hs.ret ?_))
       rw [hvv]
      | true =>
       have hnx := hnx1.trans e3
       refine W_skip ?_; (with_reducible refine T_then ?_); refine W_seq ?_; refine W_block ?_; refine W_seq ?_
       apply W_draw allF rfl (Fact.eq _ :: Fact.eq _ :: Fact.eq _ :: (winP (w0)) :: Fact.eq _ :: Fact.eq _ :: Fact.eq _ :: Fact.eq _ :: Fact.eq _ :: Fact.eq _ :: Fact.eq _ :: Fact.eq _ :: Fact.eq _ :: Fact.eq _ :: Fact.eq _ :: Fact.eq _ :: (winP (wp)) :: Fact.eq _ :: Fact.eq _ :: Fact.eq _ :: Fact.eq _ :: (winP (w0)) :: Fact.eq _ :: Fact.eq _ :: Fact.eq _ :: Fact.eq _ :: Fact.eq _ :: []) 27 [(26, 72)] rfl rfl
       ·refine D_s (js := []) (by kernel_rfl) (fun _ _ => QA_nil (DPu T.ok rfl rfl rfl)) ?_
        refine D_s (js := [(0, 46)]) (by kernel_rfl) (fun _ hf => QA_eq rfl (QA_nil (DLe T.ok 3 rfl rfl (ep0.mono ((G.le_dr _).trans hf.le)) rfl rfl rfl))) ?_
        refine D_s (js := []) (by kernel_rfl) (fun _ _ => QA_nil (DPu T.ok rfl rfl rfl)) ?_
        refine D_cons (D_step2 (js := [(1, 47), (2, 48)]) (by kernel_rfl) fun gd hf => ?_) ?_
        ·have hsd := hs.dr.call hf; have hfe := (G.le_dr _).trans hf.le
         refine QA_eq rfl ?_; refine QA_eq rfl ?_
         refine QA_nil ?_
         refine D_yes rfl ?_
         refine OpR_idx T.ok rfl (rs1.mono hfe) (y := w0) hgi rfl rfl rfl rfl rfl rfl ?_
         rintro b p ys hep rfl
         exact ⟨_, rfl, Fr0.refl _, b, p, rfl, hep⟩
        refine D_cons (D_step2 (js := [(3, 49)]) (by kernel_rfl) fun gd hf => ?_) ?_
        ·have hsd := hs.dr.call hf; have hfe := (G.le_dr _).trans hf.le
         refine QA_any fun v3 h3 => ?_
         refine QA_nil ?_
         obtain ⟨b, p, rfl, hep⟩ := h3
         refine D_yes rfl ?_
         refine OpR_loadE T.ok 0 rfl hep rfl rfl ?_
         refine ⟨_, rfl, Fr0.refl _, ?_⟩
         exact rfl
        refine D_s (js := []) (by kernel_rfl) (fun _ _ => QA_nil (DPu T.ok rfl rfl rfl)) ?_
        refine D_cons (D_step2 (js := [(4, 50), (5, 51)]) (by kernel_rfl) fun gd hf => ?_) ?_
        ·have hsd := hs.dr.call hf; have hfe := (G.le_dr _).trans hf.le
         refine QA_eq rfl ?_; refine QA_eq rfl ?_
         refine QA_nil ?_
         refine D_yes rfl ?_
         refine OpR_ret cl41 allF rfl rfl rfl rfl rfl (rwindow_c w0 f.steps.length _ (by omega) (by omega)) fun g' v h1 h2 => ⟨g', rfl, h1, ?_⟩
         rw [h2]; exact congrArg Value.bool e1
        refine D_s (js := [(6, 52)]) (by kernel_rfl) (fun _ _ => QA_eq rfl (QA_nil (DPu T.ok rfl rfl rfl))) ?_
        refine D_s (js := [(7, 53)]) (by kernel_rfl) (fun _ _ => QA_eq rfl (QA_nil (DPu T.ok rfl rfl rfl))) ?_
        refine D_s (js := [(8, 54)]) (by kernel_rfl) (fun _ _ => QA_eq rfl (QA_nil (DPu T.ok rfl rfl rfl))) ?_
        refine D_cons (D_step2 (js := [(9, 55), (8, 54)]) (by kernel_rfl) fun gd hf => ?_) ?_
        ·have hsd := hs.dr.call hf; have hfe := (G.le_dr _).trans hf.le
         refine QA_eq rfl ?_; refine QA_eq rfl ?_
         refine QA_nil ?_
         refine D_yes rfl ?_
         refine OpR_pure _ T.ok rfl ?_
         exact ⟨_, rfl, Fr0.refl _, congrArg Value.bool e2⟩
        refine D_s (js := [(10, 56), (8, 54), (8, 54)]) (by kernel_rfl) (fun _ _ => QA_eq rfl (QA_eq rfl (QA_eq rfl (QA_nil (DPu T.ok rfl rfl rfl))))) ?_
        refine D_s (js := [(11, 57)]) (by kernel_rfl) (fun _ _ => QA_eq rfl (QA_nil (DPu T.ok rfl rfl rfl))) ?_
        refine D_s (js := [(12, 58), (11, 57)]) (by kernel_rfl) (fun _ hf => QA_eq rfl (QA_eq rfl (QA_nil (DLe T.ok 3 rfl rfl (ep0.mono ((G.le_dr _).trans hf.le)) rfl rfl rfl)))) ?_
        refine D_s (js := [(11, 57)]) (by kernel_rfl) (fun _ _ => QA_eq rfl (QA_nil (DPu T.ok rfl rfl rfl))) ?_
        refine D_cons (D_step2 (js := [(14, 60), (11, 57)]) (by kernel_rfl) fun gd hf => ?_) ?_
        ·have hsd := hs.dr.call hf; have hfe := (G.le_dr _).trans hf.le
         refine QA_eq rfl ?_; refine QA_eq rfl ?_
         refine QA_nil ?_
         refine D_yes rfl ?_
         refine OpR_pure _ T.ok rfl ?_
         refine ⟨_, rfl, Fr0.refl _, ?_⟩
         exact congrArg (Value.int .i64) (show _ = ((k - 1 : Nat) : Int) from by rw [wr (by omega) (by omega)]; omega)
        refine D_cons (D_step2 (js := [(13, 59), (15, 61), (11, 57)]) (by kernel_rfl) fun gd hf => ?_) ?_
        ·have hsd := hs.dr.call hf; have hfe := (G.le_dr _).trans hf.le
         refine QA_eq rfl ?_; refine QA_eq rfl ?_; refine QA_eq rfl ?_
         refine QA_nil ?_
         refine D_yes rfl ?_
         refine OpR_idx T.ok rfl (rs1.mono hfe) (y := wp) hgp rfl rfl rfl rfl rfl rfl ?_
         rintro b p ys hep rfl
         exact ⟨_, rfl, Fr0.refl _, b, p, rfl, hep⟩
        refine D_cons (D_step2 (js := [(16, 62), (11, 57)]) (by kernel_rfl) fun gd hf => ?_) ?_
        ·have hsd := hs.dr.call hf; have hfe := (G.le_dr _).trans hf.le
         refine QA_any fun v16 h16 => ?_; refine QA_eq rfl ?_
         refine QA_nil ?_
         obtain ⟨b, p, rfl, hep⟩ := h16
         refine D_yes rfl ?_
         refine OpR_loadE T.ok 0 rfl hep rfl rfl ?_
         refine ⟨_, rfl, Fr0.refl _, ?_⟩
         exact rfl
        refine D_s (js := [(11, 57)]) (by kernel_rfl) (fun _ _ => QA_eq rfl (QA_nil (DPu T.ok rfl rfl rfl))) ?_
        refine D_s (js := [(18, 64), (11, 57)]) (by kernel_rfl) (fun _ hf => QA_eq rfl (QA_eq rfl (QA_nil (DLe T.ok 3 rfl rfl (ep0.mono ((G.le_dr _).trans hf.le)) rfl rfl rfl)))) ?_
        refine D_s (js := [(11, 57)]) (by kernel_rfl) (fun _ _ => QA_eq rfl (QA_nil (DPu T.ok rfl rfl rfl))) ?_
        refine D_cons (D_step2 (js := [(19, 65), (20, 66), (11, 57)]) (by kernel_rfl) fun gd hf => ?_) ?_
        ·have hsd := hs.dr.call hf; have hfe := (G.le_dr _).trans hf.le
         refine QA_eq rfl ?_; refine QA_eq rfl ?_; refine QA_eq rfl ?_
         refine QA_nil ?_
         refine D_yes rfl ?_
         refine OpR_idx T.ok rfl (rs1.mono hfe) (y := w0) hgi rfl rfl rfl rfl rfl rfl ?_
         rintro b p ys hep rfl
         exact ⟨_, rfl, Fr0.refl _, b, p, rfl, hep⟩
        refine D_cons (D_step2 (js := [(21, 67), (11, 57)]) (by kernel_rfl) fun gd hf => ?_) ?_
        ·have hsd := hs.dr.call hf; have hfe := (G.le_dr _).trans hf.le
         refine QA_any fun v21 h21 => ?_; refine QA_eq rfl ?_
         refine QA_nil ?_
         obtain ⟨b, p, rfl, hep⟩ := h21
         refine D_yes rfl ?_
         refine OpR_loadE T.ok 0 rfl hep rfl rfl ?_
         refine ⟨_, rfl, Fr0.refl _, ?_⟩
         exact rfl
        refine D_cons (D_step2 (js := [(17, 63), (22, 68), (11, 57), (11, 57)]) (by kernel_rfl) fun gd hf => ?_) ?_
        ·have hsd := hs.dr.call hf; have hfe := (G.le_dr _).trans hf.le
         refine QA_eq rfl ?_; refine QA_eq rfl ?_; refine QA_eq rfl ?_; refine QA_eq rfl ?_
         refine QA_nil ?_
         refine D_yes rfl ?_
         refine OpR_ret cl23 allF rfl rfl rfl rfl rfl (after_c wp w0 _) fun g' v h1 h2 => ⟨g', rfl, h1, ?_⟩
         rw [h2]; exact congrArg Value.bool e3
        refine D_s (js := [(23, 69), (11, 57)]) (by kernel_rfl) (fun _ _ => QA_eq rfl (QA_eq rfl (QA_nil (DPu T.ok rfl rfl rfl)))) ?_
        refine D_s (js := [(11, 57), (24, 70), (8, 54)]) (by kernel_rfl) (fun _ _ => QA_eq rfl (QA_eq rfl (QA_eq rfl (QA_nil (DPu T.ok rfl rfl rfl))))) ?_
        refine D_s (js := [(8, 54), (25, 71)]) (by kernel_rfl) (fun _ _ => QA_eq rfl (QA_eq rfl (QA_nil (DPu T.ok rfl rfl rfl)))) ?_
        exact D_nil
       intro g1 hf1; refine QA_eq rfl ?_; refine QA_nil ?_
       replace hs := hs.dr.call hf1; have hqe := (G.le_dr _).trans hf1.le; replace le8 := G.le.trans le8 hqe; replace ep0 := ep0.mono hqe; replace rs1 := rs1.mono hqe
       refine WL_nil ?_; (with_reducible refine T_then ?_)
       refine W_no rfl rfl ?_
       refine W_skip ?_; (with_reducible refine T_bn ?_); (with_reducible refine T_then ?_); refine W_region ?_; (iterate 3 refine P1 T.ok rfl rfl rfl ?_); refine WL_nil ?_
       refine fun a ha => ⟨f.windows.length - (k + 1), by omega, k + 1, _, rfl, hs, le8, by omega, rfl, hnx, ha.keep ⟨rfl, rfl, kI rfl (by rw [wr (by omega) (by omega)]; omega), trivial⟩⟩
   ·refine W_no (b := _) ?_ rfl ?_
    ·simp; omega
    obtain rfl : k = f.windows.length := by omega
    rw [List.take_length] at hno
    refine W_exit ?_; (with_reducible refine T_tx ?_; with_reducible refine T_tx ?_); (with_reducible refine T_bx ?_); (with_reducible refine T_then ?_); refine W_seq ?_; refine W_region ?_; refine P1 T.ok rfl rfl rfl ?_; refine WL_nil ?_; (with_reducible refine T_then ?_)
    refine W_ret (ret1 rfl rfl (hs.ret ?_))
    rw [hvalid, hno]

end Go.Proofs.YtnaeopehmdcplaaGreatDoor

/- The reference's SameInts and Same. -/
namespace Go.Proofs.YtnaeopehmdcplaaGreatDoor
open Go Go.K
set_option maxRecDepth 10000
attribute [local irreducible] W WL OpR bitAnd bitOr bitXor bitClr bitNot shlI shrI
set_option maxHeartbeats 8000000

theorem eqBy_drop {α : Type} {p : α → α → Bool} {l m : List α} {k : Nat} (h1 : k < l.length) (h2 : k < m.length) : eqBy p (l.drop k) (m.drop k) = (p l[k] m[k] && eqBy p (l.drop (k + 1)) (m.drop (k + 1))) := by
 rw [List.drop_eq_getElem_cons h1, List.drop_eq_getElem_cons h2]; rfl
theorem eqBy_end {α : Type} {p : α → α → Bool} {l m : List α} {k : Nat} (h1 : l.length ≤ k) (h2 : m.length ≤ k) : eqBy p (l.drop k) (m.drop k) = true := by
 rw [List.drop_of_length_le h1, List.drop_of_length_le h2]; rfl
theorem sameI_eqBy (l m : List Int) : eqBy (fun a b : Int => a == b) l m = sameI l m := by
 unfold sameI
 by_cases h : l = m
 ·subst h; simp only [decide_true]; exact (eqBy_iff fun x y => by simp).2 rfl
 ·rw [decide_eq_false h]
  cases hq : eqBy (fun a b : Int => a == b) l m with
  | false => rfl
  | true => exact absurd ((eqBy_iff fun x y => by simp).1 hq) h


theorem rsameInts_c (v u : Value) (l m : List Int) (g : G) (hv : Rs g v l) (hu : Rs g u m) : CallsIn Wd 0 Tryz.prog 47 #[v, u] g.w (Ret g fun _ r => r = .bool (sameI l m)) := by
 obtain ⟨a, c, rfl⟩ := hv.isSlice
 obtain ⟨a2, c2, rfl⟩ := hu.isSlice
 have h1 := hv.len_le
 have h2 := hu.len_le
 unfold maxLen at h1 h2
 have hs := St.start g
 refine enter Tryz.func47 rfl Tryz.ntmps47 rfl ?_
 rw [← sameI_eqBy]
 refine W_seq ?_; refine W_region ?_; refine P1 T.ok rfl rfl rfl ?_; refine WL_nil ?_; (with_reducible refine T_then ?_); refine W_seq ?_; refine W_seq ?_; refine W_region ?_; (iterate 5 refine P1 T.ok rfl rfl rfl ?_); refine WL_nil ?_; (with_reducible refine T_then ?_)
 by_cases hl : l.length = m.length
 ·refine W_no (b := _) ?_ rfl ?_
  ·simp [hl]
  refine W_skip ?_; (with_reducible refine T_then ?_); refine W_seq ?_; refine W_seq ?_; refine W_region ?_; refine P1 T.ok rfl rfl rfl ?_; refine WL_nil ?_; (with_reducible refine T_then ?_); refine W_block ?_
  refine W_loop (fun mm a' w => ∃ (k : Nat) (g' : G), w = g'.w ∧ St g g' [] ∧ G.le g g' ∧ k ≤ l.length ∧ mm = l.length - k ∧ eqBy (fun a b : Int => a == b) (l.drop k) (m.drop k) = eqBy (fun a b : Int => a == b) l m ∧
   Fr 26 [] [(0, .slice a l.length c), (1, .slice a2 m.length c2), (5, .int .i64 k)] a') l.length (fun a' ha => ⟨0, g, rfl, hs, G.le.refl g, Nat.zero_le _, rfl, rfl, ha.keep (by (repeat (first | exact trivial | refine ⟨rfl, ?_⟩)))⟩) ?_
  clear hs
  rintro mm a' _ ⟨k, g', rfl, hs, le0, hk, rfl, hno, ha'⟩
  have rs0 := hv.mono le0
  have rs1 := hu.mono le0
  revert a'
  (with_reducible refine T_wp ?_); refine W_seq ?_; refine W_seq ?_; refine W_region ?_; (iterate 4 refine P1 T.ok rfl rfl rfl ?_); refine WL_nil ?_; (with_reducible refine T_then ?_)
  by_cases hlt : k < l.length
  ·refine W_yes (b := decide ((k : Int) < (l.length : Int))) (by simp; omega) rfl ?_
   have hltm : k < m.length := by omega
   rw [eqBy_drop hlt hltm] at hno
   have hg1 : geti l (k : Int) = some l[k] := by simp [geti, hlt]
   have hg2 : geti m (k : Int) = some m[k] := by simp [geti, hltm]
   generalize l[k] = x at *
   generalize m[k] = y at *
   refine W_skip ?_; (with_reducible refine T_then ?_); refine W_seq ?_; refine W_block ?_; refine W_seq ?_
   apply W_draw allF rfl (Fact.eq _ :: Fact.eq _ :: (intPtr (x)) :: Fact.eq _ :: Fact.eq _ :: Fact.eq _ :: (intPtr (y)) :: Fact.eq _ :: Fact.eq _ :: []) 9 [(8, 25)] rfl rfl
   ·refine D_s (js := []) (by kernel_rfl) (fun _ _ => QA_nil (DPu T.ok rfl rfl rfl)) ?_
    refine D_s (js := []) (by kernel_rfl) (fun _ _ => QA_nil (DPu T.ok rfl rfl rfl)) ?_
    refine D_cons (D_step2 (js := [(0, 17), (1, 18)]) (by kernel_rfl) fun gd hf => ?_) ?_
    ·have hsd := hs.dr.call hf; have hfe := (G.le_dr _).trans hf.le
     refine QA_eq rfl ?_; refine QA_eq rfl ?_
     refine QA_nil ?_
     refine D_yes rfl ?_
     refine OpR_idx T.ok rfl (rs0.mono hfe) (y := x) hg1 rfl rfl rfl rfl rfl rfl ?_
     rintro b p ys hep rfl
     exact ⟨_, rfl, Fr0.refl _, b, p, rfl, hep⟩
    refine D_cons (D_step2 (js := [(2, 19)]) (by kernel_rfl) fun gd hf => ?_) ?_
    ·have hsd := hs.dr.call hf; have hfe := (G.le_dr _).trans hf.le
     refine QA_any fun v2 h2 => ?_
     refine QA_nil ?_
     obtain ⟨b, p, rfl, hep⟩ := h2
     refine D_yes rfl ?_
     refine OpR_loadE T.ok 0 rfl hep rfl rfl ?_
     refine ⟨_, rfl, Fr0.refl _, ?_⟩
     exact rfl
    refine D_s (js := []) (by kernel_rfl) (fun _ _ => QA_nil (DPu T.ok rfl rfl rfl)) ?_
    refine D_s (js := []) (by kernel_rfl) (fun _ _ => QA_nil (DPu T.ok rfl rfl rfl)) ?_
    refine D_cons (D_step2 (js := [(4, 21), (5, 22)]) (by kernel_rfl) fun gd hf => ?_) ?_
    ·have hsd := hs.dr.call hf; have hfe := (G.le_dr _).trans hf.le
     refine QA_eq rfl ?_; refine QA_eq rfl ?_
     refine QA_nil ?_
     refine D_yes rfl ?_
     refine OpR_idx T.ok rfl (rs1.mono hfe) (y := y) hg2 rfl rfl rfl rfl rfl rfl ?_
     rintro b p ys hep rfl
     exact ⟨_, rfl, Fr0.refl _, b, p, rfl, hep⟩
    refine D_cons (D_step2 (js := [(6, 23)]) (by kernel_rfl) fun gd hf => ?_) ?_
    ·have hsd := hs.dr.call hf; have hfe := (G.le_dr _).trans hf.le
     refine QA_any fun v6 h6 => ?_
     refine QA_nil ?_
     obtain ⟨b, p, rfl, hep⟩ := h6
     refine D_yes rfl ?_
     refine OpR_loadE T.ok 0 rfl hep rfl rfl ?_
     refine ⟨_, rfl, Fr0.refl _, ?_⟩
     exact rfl
    refine D_s (js := [(3, 20), (7, 24)]) (by kernel_rfl) (fun _ _ => QA_eq rfl (QA_eq rfl (QA_nil (DPu T.ok rfl rfl rfl)))) ?_
    exact D_nil
   intro g1 hf1; refine QA_eq rfl ?_; refine QA_nil ?_
   replace hs := hs.dr.call hf1; have hqe := (G.le_dr _).trans hf1.le; replace le0 := G.le.trans le0 hqe; replace rs0 := rs0.mono hqe; replace rs1 := rs1.mono hqe
   refine WL_nil ?_; (with_reducible refine T_then ?_)
   by_cases hxy : x = y
   ·subst hxy
    refine W_no (b := _) ?_ rfl ?_
    ·simp
    refine W_skip ?_; (with_reducible refine T_bn ?_); (with_reducible refine T_then ?_); refine W_region ?_; (iterate 3 refine P1 T.ok rfl rfl rfl ?_); refine WL_nil ?_
    refine fun a ha => ⟨l.length - (k + 1), by omega, k + 1, _, rfl, hs, le0, by omega, rfl, ?_, ha.keep ⟨rfl, rfl, kI rfl (by rw [wr (by omega) (by omega)]; omega), trivial⟩⟩
    rw [← hno]; simp
   ·refine W_yes (b := _) ?_ rfl ?_
    ·simp [hxy]
    refine W_seq ?_; refine W_region ?_; refine P1 T.ok rfl rfl rfl ?_; refine WL_nil ?_; (with_reducible refine T_then ?_)
    refine W_ret (ret1 rfl rfl (hs.ret ?_))
    rw [← hno]; simp [hxy]
  ·refine W_no (b := decide ((k : Int) < (l.length : Int))) (by simp; omega) rfl ?_
   refine W_exit ?_; (with_reducible refine T_tx ?_; with_reducible refine T_tx ?_); (with_reducible refine T_bx ?_); (with_reducible refine T_then ?_); refine W_seq ?_; refine W_region ?_; refine P1 T.ok rfl rfl rfl ?_; refine WL_nil ?_; (with_reducible refine T_then ?_)
   refine W_ret (ret1 rfl rfl (hs.ret ?_))
   rw [← hno, eqBy_end (by omega) (by omega)]
 ·refine W_yes (b := _) ?_ rfl ?_
  ·simp; omega
  refine W_seq ?_; refine W_region ?_; refine P1 T.ok rfl rfl rfl ?_; refine WL_nil ?_; (with_reducible refine T_then ?_)
  refine W_ret (ret1 rfl rfl (hs.ret ?_))
  rw [eqBy_len hl]


theorem sameS_parts (x y : Step) : sameS x y = (x.recipe == y.recipe && x.min == y.min && x.max == y.max && x.back == y.back && x.limit == y.limit && sameI x.tools y.tools && sameI x.next y.next) := rfl
theorem rsame_c (v u : Value) (f h : Flow) (g : G) (hv : RFlow g v f) (hu : RFlow g u h) : CallsIn Wd 0 Tryz.prog 15 #[v, u] g.w (Ret g fun _ r => r = .bool (sameF f h)) := by
 obtain ⟨a1, n1, c1, a2, n2, c2, rfl, rs0, rs1⟩ := hv
 obtain ⟨a3, n3, c3, a4, n4, c4, rfl, rs2, rs3⟩ := hu
 obtain ⟨_, _, e⟩ := rs0.isSlice; obtain ⟨rfl, rfl, rfl⟩ := Value.slice.inj e; clear e
 obtain ⟨_, _, e⟩ := rs1.isSlice; obtain ⟨rfl, rfl, rfl⟩ := Value.slice.inj e; clear e
 obtain ⟨_, _, e⟩ := rs2.isSlice; obtain ⟨rfl, rfl, rfl⟩ := Value.slice.inj e; clear e
 obtain ⟨_, _, e⟩ := rs3.isSlice; obtain ⟨rfl, rfl, rfl⟩ := Value.slice.inj e; clear e
 have hc0 := rs0.len_le; have hc1 := rs1.len_le
 unfold maxLen at hc0 hc1
 have hs := St.start g
 have le0 := G.le.refl g
 have hsame : sameF f h = (eqBy sameS f.steps h.steps && f.moveMin == h.moveMin && f.moveMax == h.moveMax && eqBy sameW f.windows h.windows) := rfl
 refine enter Tryz.func15 rfl Tryz.ntmps15 rfl ?_
 refine W_seq ?_; refine W_region ?_
 refine WL_o rfl rfl (OpR_box rfl hs rfl rfl ?_); clear hs; rintro bx g1 hs hqe; replace le0 := G.le.trans le0 hqe; replace rs0 := rs0.mono hqe; replace rs1 := rs1.mono hqe; replace rs2 := rs2.mono hqe; replace rs3 := rs3.mono hqe
 obtain ⟨g2, hw2, hs2, hqe, hep⟩ := hs.fzObj (i := 0) rfl; replace hs := hs2; clear hs2; rw [← hw2]; replace le0 := G.le.trans le0 hqe; replace rs0 := rs0.mono hqe; replace rs1 := rs1.mono hqe; replace rs2 := rs2.mono hqe; replace rs3 := rs3.mono hqe
 have ep0 := hep
 clear hep hw2 hqe
 skip
 refine WL_o rfl rfl (OpR_box rfl hs rfl rfl ?_); clear hs; rintro by1 g1 hs hqe; replace le0 := G.le.trans le0 hqe; replace ep0 := ep0.mono hqe; replace rs0 := rs0.mono hqe; replace rs1 := rs1.mono hqe; replace rs2 := rs2.mono hqe; replace rs3 := rs3.mono hqe
 obtain ⟨g2, hw2, hs2, hqe, hep⟩ := hs.fzObj (i := 0) rfl; replace hs := hs2; clear hs2; rw [← hw2]; replace le0 := G.le.trans le0 hqe; replace ep0 := ep0.mono hqe; replace rs0 := rs0.mono hqe; replace rs1 := rs1.mono hqe; replace rs2 := rs2.mono hqe; replace rs3 := rs3.mono hqe
 have ep1 := hep
 clear hep hw2 hqe
 refine P1 T.ok rfl rfl rfl ?_; refine WL_nil ?_; (with_reducible refine T_then ?_); refine W_seq ?_; refine W_seq ?_; refine W_region ?_; refine P1 T.ok rfl rfl rfl ?_; refine WL_o rfl rfl (OpR_loadE T.ok 0 rfl ep0 rfl rfl ?_); refine P1 T.ok rfl rfl rfl ?_; refine WL_o rfl rfl (OpR_loadE T.ok 0 rfl ep1 rfl rfl ?_); refine P1 T.ok rfl rfl rfl ?_; refine P1 T.ok rfl rfl rfl ?_
 cases e1 : (f.moveMin != h.moveMin) with
 | true =>
  (iterate 5 refine S1 allF rfl rfl ?_); refine P1 T.ok rfl rfl rfl ?_; refine P1 T.ok rfl rfl rfl ?_; (iterate 7 refine S1 allF rfl rfl ?_); refine P1 T.ok rfl rfl rfl ?_; refine P1 T.ok rfl rfl rfl ?_; (iterate 7 refine S1 allF rfl rfl ?_); refine P1 T.ok rfl rfl rfl ?_; refine WL_nil ?_; (with_reducible refine T_then ?_)
  refine W_yes rfl rfl ?_
  refine W_seq ?_; refine W_region ?_; refine P1 T.ok rfl rfl rfl ?_; refine WL_nil ?_; (with_reducible refine T_then ?_)
  refine W_ret (ret1 rfl rfl (hs.ret ?_))
  have : (f.moveMin == h.moveMin) = false := by simpa using e1
  rw [hsame, this]; simp
 | false =>
 have e1' : (f.moveMin == h.moveMin) = true := by simpa using e1
 refine P1 T.ok rfl rfl rfl ?_; refine WL_o rfl rfl (OpR_loadE T.ok 1 rfl ep0 rfl rfl ?_); refine P1 T.ok rfl rfl rfl ?_; refine WL_o rfl rfl (OpR_loadE T.ok 1 rfl ep1 rfl rfl ?_); (iterate 3 refine P1 T.ok rfl rfl rfl ?_)
 cases e2 : (f.moveMax != h.moveMax) with
 | true =>
  (iterate 7 refine S1 allF rfl rfl ?_); refine P1 T.ok rfl rfl rfl ?_; refine P1 T.ok rfl rfl rfl ?_; (iterate 7 refine S1 allF rfl rfl ?_); refine P1 T.ok rfl rfl rfl ?_; refine WL_nil ?_; (with_reducible refine T_then ?_)
  refine W_yes rfl rfl ?_
  refine W_seq ?_; refine W_region ?_; refine P1 T.ok rfl rfl rfl ?_; refine WL_nil ?_; (with_reducible refine T_then ?_)
  refine W_ret (ret1 rfl rfl (hs.ret ?_))
  have : (f.moveMax == h.moveMax) = false := by simpa using e2
  rw [hsame, this]; simp
 | false =>
 have e2' : (f.moveMax == h.moveMax) = true := by simpa using e2
 refine P1 T.ok rfl rfl rfl ?_; refine WL_o rfl rfl (OpR_loadE T.ok 2 rfl ep0 rfl rfl ?_); refine P1 T.ok rfl rfl rfl ?_; refine P1 T.ok rfl rfl rfl ?_; refine WL_o rfl rfl (OpR_loadE T.ok 2 rfl ep1 rfl rfl ?_); (iterate 4 refine P1 T.ok rfl rfl rfl ?_)
 cases e3 : ((f.steps.length : Int) != (h.steps.length : Int)) with
 | true =>
  (iterate 7 refine S1 allF rfl rfl ?_); refine P1 T.ok rfl rfl rfl ?_; refine WL_nil ?_; (with_reducible refine T_then ?_)
  refine W_yes rfl rfl ?_
  refine W_seq ?_; refine W_region ?_; refine P1 T.ok rfl rfl rfl ?_; refine WL_nil ?_; (with_reducible refine T_then ?_)
  refine W_ret (ret1 rfl rfl (hs.ret ?_))
  have : f.steps.length ≠ h.steps.length := by simp at e3; omega
  rw [hsame, eqBy_len this]; simp
 | false =>
 have e3' : f.steps.length = h.steps.length := by simp at e3; omega
 refine P1 T.ok rfl rfl rfl ?_; refine WL_o rfl rfl (OpR_loadE T.ok 3 rfl ep0 rfl rfl ?_); refine P1 T.ok rfl rfl rfl ?_; refine P1 T.ok rfl rfl rfl ?_; refine WL_o rfl rfl (OpR_loadE T.ok 3 rfl ep1 rfl rfl ?_); (iterate 3 refine P1 T.ok rfl rfl rfl ?_); refine WL_nil ?_; (with_reducible refine T_then ?_)
 cases e4 : ((f.windows.length : Int) != (h.windows.length : Int)) with
 | true =>
  skip
  refine W_yes rfl rfl ?_
  refine W_seq ?_; refine W_region ?_; refine P1 T.ok rfl rfl rfl ?_; refine WL_nil ?_; (with_reducible refine T_then ?_)
  refine W_ret (ret1 rfl rfl (hs.ret ?_))
  have : f.windows.length ≠ h.windows.length := by simp at e4; omega
  rw [hsame, eqBy_len this]; simp
 | false =>
 have e4' : f.windows.length = h.windows.length := by simp at e4; omega
 rw [e1', e2', Bool.and_true, Bool.and_true] at hsame
 refine W_no rfl rfl ?_
 refine W_skip ?_; (with_reducible refine T_then ?_); refine W_seq ?_; refine W_seq ?_; refine W_region ?_; refine P1 T.ok rfl rfl rfl ?_; refine WL_nil ?_; (with_reducible refine T_then ?_); refine W_block ?_
 have rs0c := rs0; have rs1c := rs1; have rs2c := rs2; have rs3c := rs3; have ep0c := ep0; have ep1c := ep1
 refine W_loop (fun m a' w => ∃ (k : Nat) (g4 : G), w = g4.w ∧ St g g4 [] ∧ G.le g2 g4 ∧ k ≤ f.steps.length ∧ m = f.steps.length - k ∧ eqBy sameS (f.steps.drop k) (h.steps.drop k) = eqBy sameS f.steps h.steps ∧
   Fr 123 [] [(2, .pointer (some ⟨bx, 0, none⟩)), (3, .pointer (some ⟨by1, 0, none⟩)), (5, .int .i64 k)] a') f.steps.length (fun a' ha => ⟨0, g2, rfl, hs, G.le.refl _, Nat.zero_le _, rfl, rfl, ha.keep (by (repeat (first | exact trivial | refine ⟨rfl, ?_⟩)))⟩) ?_
 clear hs le0 rs0 rs1 rs2 rs3 ep0 ep1
 rintro m a' _ ⟨k, g4, rfl, hs, le8, hk, rfl, hno, ha'⟩
 have rs0 := rs0c.mono le8
 have rs1 := rs1c.mono le8
 have rs2 := rs2c.mono le8
 have rs3 := rs3c.mono le8
 have ep0 := ep0c.mono le8
 have ep1 := ep1c.mono le8
 revert a'
 (with_reducible refine T_wp ?_); refine W_seq ?_; refine W_seq ?_; refine W_region ?_; refine P1 T.ok rfl rfl rfl ?_; refine P1 T.ok rfl rfl rfl ?_; refine WL_o rfl rfl (OpR_loadE T.ok 2 rfl ep0 rfl rfl ?_); refine P1 T.ok rfl rfl rfl ?_; refine P1 T.ok rfl rfl rfl ?_; refine WL_nil ?_; (with_reducible refine T_then ?_)
 by_cases hlt : k < f.steps.length
 ·refine W_yes (b := _) ?_ rfl ?_
  ·simp; omega
  have hlt2 : k < h.steps.length := by omega
  rw [eqBy_drop hlt hlt2] at hno
  have hg1 : geti f.steps (k : Int) = some f.steps[k] := by simp [geti, hlt]
  have hg2 : geti h.steps (k : Int) = some h.steps[k] := by simp [geti, hlt2]
  generalize f.steps[k] = x at *
  generalize h.steps[k] = y at *
  refine W_skip ?_; (with_reducible refine T_then ?_); refine W_seq ?_; refine W_block ?_; refine W_seq ?_; refine W_region ?_; refine P1 T.ok rfl rfl rfl ?_; refine WL_o rfl rfl (OpR_loadE T.ok 2 rfl ep0 rfl rfl ?_); refine P1 T.ok rfl rfl rfl ?_
  refine WL_o rfl rfl (OpR_idx T.ok rfl rs0 (y := x) hg1 rfl rfl rfl rfl rfl rfl ?_)
  rintro bq pq ys hep ⟨xa, xn, xc, na, nn, nc, rfl, rs4, rs5⟩
  refine WL_o rfl rfl (OpR_loadE T.ok 0 rfl hep rfl rfl ?_)
  skip
  refine WL_o rfl rfl (OpR_alloc T.ok rfl hs rfl rfl ?_); clear hs; rintro b6 g1 hs hqe; replace le8 := G.le.trans le8 hqe; replace ep0 := ep0.mono hqe; replace ep1 := ep1.mono hqe; replace rs0 := rs0.mono hqe; replace rs1 := rs1.mono hqe; replace rs2 := rs2.mono hqe; replace rs3 := rs3.mono hqe; replace rs4 := rs4.mono hqe; replace rs5 := rs5.mono hqe
  skip
  refine WL_n rfl (OpR_storeO T.ok 0 rfl hs rfl rfl rfl rfl rfl rfl rfl rfl rfl ?_); replace hs := hs; rintro g1 hs hqe; replace le8 := G.le.trans le8 hqe; replace ep0 := ep0.mono hqe; replace ep1 := ep1.mono hqe; replace rs0 := rs0.mono hqe; replace rs1 := rs1.mono hqe; replace rs2 := rs2.mono hqe; replace rs3 := rs3.mono hqe; replace rs4 := rs4.mono hqe; replace rs5 := rs5.mono hqe
  refine WL_nil ?_; (with_reducible refine T_then ?_); refine W_seq ?_; refine W_region ?_; refine P1 T.ok rfl rfl rfl ?_; refine WL_o rfl rfl (OpR_loadE T.ok 2 rfl ep1 rfl rfl ?_); refine P1 T.ok rfl rfl rfl ?_
  refine WL_o rfl rfl (OpR_idx T.ok rfl rs2 (y := y) hg2 rfl rfl rfl rfl rfl rfl ?_)
  rintro bq pq ys hep ⟨ya, yn, yc, ma, mn, mc, rfl, rs6, rs7⟩
  refine WL_o rfl rfl (OpR_loadE T.ok 0 rfl hep rfl rfl ?_)
  skip
  refine WL_o rfl rfl (OpR_alloc T.ok rfl hs rfl rfl ?_); clear hs; rintro b7 g1 hs hqe; replace le8 := G.le.trans le8 hqe; replace ep0 := ep0.mono hqe; replace ep1 := ep1.mono hqe; replace rs0 := rs0.mono hqe; replace rs1 := rs1.mono hqe; replace rs2 := rs2.mono hqe; replace rs3 := rs3.mono hqe; replace rs4 := rs4.mono hqe; replace rs5 := rs5.mono hqe; replace rs6 := rs6.mono hqe; replace rs7 := rs7.mono hqe
  skip
  refine WL_n rfl (OpR_storeO T.ok 0 rfl hs rfl rfl rfl rfl rfl rfl rfl rfl rfl ?_); replace hs := hs; rintro g1 hs hqe; replace le8 := G.le.trans le8 hqe; replace ep0 := ep0.mono hqe; replace ep1 := ep1.mono hqe; replace rs0 := rs0.mono hqe; replace rs1 := rs1.mono hqe; replace rs2 := rs2.mono hqe; replace rs3 := rs3.mono hqe; replace rs4 := rs4.mono hqe; replace rs5 := rs5.mono hqe; replace rs6 := rs6.mono hqe; replace rs7 := rs7.mono hqe
  have hxs : sameS x y = _ := sameS_parts x y
  refine WL_nil ?_; (with_reducible refine T_then ?_); refine W_seq ?_; refine W_region ?_; refine P1 T.ok rfl rfl rfl ?_; refine WL_o rfl rfl (OpR_loadO T.ok 1 rfl hs rfl rfl rfl ?_); refine P1 T.ok rfl rfl rfl ?_; refine WL_o rfl rfl (OpR_loadO T.ok 0 rfl hs rfl rfl rfl ?_); refine P1 T.ok rfl rfl rfl ?_; refine P1 T.ok rfl rfl rfl ?_
  cases d1 : (x.recipe != y.recipe) with
  | true =>
   have d1' : (x.recipe == y.recipe) = false := by simpa using d1
   rw [d1'] at hxs
   simp only [Bool.false_and] at hxs
   (iterate 5 refine S1 allF rfl rfl ?_); refine P1 T.ok rfl rfl rfl ?_; refine P1 T.ok rfl rfl rfl ?_; (iterate 5 refine S1 allF rfl rfl ?_); refine P1 T.ok rfl rfl rfl ?_; refine P1 T.ok rfl rfl rfl ?_; (iterate 5 refine S1 allF rfl rfl ?_); refine P1 T.ok rfl rfl rfl ?_; refine P1 T.ok rfl rfl rfl ?_; (iterate 5 refine S1 allF rfl rfl ?_); refine P1 T.ok rfl rfl rfl ?_; refine P1 T.ok rfl rfl rfl ?_; (iterate 6 refine S1 allF rfl rfl ?_); refine P1 T.ok rfl rfl rfl ?_; refine P1 T.ok rfl rfl rfl ?_; (iterate 6 refine S1 allF rfl rfl ?_); refine P1 T.ok rfl rfl rfl ?_; refine WL_nil ?_; (with_reducible refine T_then ?_)
   refine W_yes rfl rfl ?_
   refine W_seq ?_; refine W_region ?_; refine P1 T.ok rfl rfl rfl ?_; refine WL_nil ?_; (with_reducible refine T_then ?_)
   refine W_ret (ret1 rfl rfl (hs.ret ?_))
   rw [hsame, ← hno, hxs, Bool.false_and]; simp
  | false =>
  have d1' : (x.recipe == y.recipe) = true := by simpa using d1
  refine P1 T.ok rfl rfl rfl ?_; refine WL_o rfl rfl (OpR_loadO T.ok 1 rfl hs rfl rfl rfl ?_); refine P1 T.ok rfl rfl rfl ?_; refine WL_o rfl rfl (OpR_loadO T.ok 0 rfl hs rfl rfl rfl ?_); (iterate 3 refine P1 T.ok rfl rfl rfl ?_)
  cases d2 : (x.min != y.min) with
  | true =>
   have d2' : (x.min == y.min) = false := by simpa using d2
   rw [d2'] at hxs
   simp only [Bool.false_and, Bool.and_false] at hxs
   (iterate 5 refine S1 allF rfl rfl ?_); refine P1 T.ok rfl rfl rfl ?_; refine P1 T.ok rfl rfl rfl ?_; (iterate 5 refine S1 allF rfl rfl ?_); refine P1 T.ok rfl rfl rfl ?_; refine P1 T.ok rfl rfl rfl ?_; (iterate 5 refine S1 allF rfl rfl ?_); refine P1 T.ok rfl rfl rfl ?_; refine P1 T.ok rfl rfl rfl ?_; (iterate 6 refine S1 allF rfl rfl ?_); refine P1 T.ok rfl rfl rfl ?_; refine P1 T.ok rfl rfl rfl ?_; (iterate 6 refine S1 allF rfl rfl ?_); refine P1 T.ok rfl rfl rfl ?_; refine WL_nil ?_; (with_reducible refine T_then ?_)
   refine W_yes rfl rfl ?_
   refine W_seq ?_; refine W_region ?_; refine P1 T.ok rfl rfl rfl ?_; refine WL_nil ?_; (with_reducible refine T_then ?_)
   refine W_ret (ret1 rfl rfl (hs.ret ?_))
   rw [hsame, ← hno, hxs, Bool.false_and]; simp
  | false =>
  have d2' : (x.min == y.min) = true := by simpa using d2
  refine P1 T.ok rfl rfl rfl ?_; refine WL_o rfl rfl (OpR_loadO T.ok 1 rfl hs rfl rfl rfl ?_); refine P1 T.ok rfl rfl rfl ?_; refine WL_o rfl rfl (OpR_loadO T.ok 0 rfl hs rfl rfl rfl ?_); (iterate 3 refine P1 T.ok rfl rfl rfl ?_)
  cases d3 : (x.max != y.max) with
  | true =>
   have d3' : (x.max == y.max) = false := by simpa using d3
   rw [d3'] at hxs
   simp only [Bool.false_and, Bool.and_false] at hxs
   (iterate 5 refine S1 allF rfl rfl ?_); refine P1 T.ok rfl rfl rfl ?_; refine P1 T.ok rfl rfl rfl ?_; (iterate 5 refine S1 allF rfl rfl ?_); refine P1 T.ok rfl rfl rfl ?_; refine P1 T.ok rfl rfl rfl ?_; (iterate 6 refine S1 allF rfl rfl ?_); refine P1 T.ok rfl rfl rfl ?_; refine P1 T.ok rfl rfl rfl ?_; (iterate 6 refine S1 allF rfl rfl ?_); refine P1 T.ok rfl rfl rfl ?_; refine WL_nil ?_; (with_reducible refine T_then ?_)
   refine W_yes rfl rfl ?_
   refine W_seq ?_; refine W_region ?_; refine P1 T.ok rfl rfl rfl ?_; refine WL_nil ?_; (with_reducible refine T_then ?_)
   refine W_ret (ret1 rfl rfl (hs.ret ?_))
   rw [hsame, ← hno, hxs, Bool.false_and]; simp
  | false =>
  have d3' : (x.max == y.max) = true := by simpa using d3
  refine P1 T.ok rfl rfl rfl ?_; refine WL_o rfl rfl (OpR_loadO T.ok 1 rfl hs rfl rfl rfl ?_); refine P1 T.ok rfl rfl rfl ?_; refine WL_o rfl rfl (OpR_loadO T.ok 0 rfl hs rfl rfl rfl ?_); (iterate 3 refine P1 T.ok rfl rfl rfl ?_)
  cases d4 : (x.back != y.back) with
  | true =>
   have d4' : (x.back == y.back) = false := by simpa using d4
   rw [d4'] at hxs
   simp only [Bool.false_and, Bool.and_false] at hxs
   (iterate 5 refine S1 allF rfl rfl ?_); refine P1 T.ok rfl rfl rfl ?_; refine P1 T.ok rfl rfl rfl ?_; (iterate 6 refine S1 allF rfl rfl ?_); refine P1 T.ok rfl rfl rfl ?_; refine P1 T.ok rfl rfl rfl ?_; (iterate 6 refine S1 allF rfl rfl ?_); refine P1 T.ok rfl rfl rfl ?_; refine WL_nil ?_; (with_reducible refine T_then ?_)
   refine W_yes rfl rfl ?_
   refine W_seq ?_; refine W_region ?_; refine P1 T.ok rfl rfl rfl ?_; refine WL_nil ?_; (with_reducible refine T_then ?_)
   refine W_ret (ret1 rfl rfl (hs.ret ?_))
   rw [hsame, ← hno, hxs, Bool.false_and]; simp
  | false =>
  have d4' : (x.back == y.back) = true := by simpa using d4
  refine P1 T.ok rfl rfl rfl ?_; refine WL_o rfl rfl (OpR_loadO T.ok 1 rfl hs rfl rfl rfl ?_); refine P1 T.ok rfl rfl rfl ?_; refine WL_o rfl rfl (OpR_loadO T.ok 0 rfl hs rfl rfl rfl ?_); (iterate 3 refine P1 T.ok rfl rfl rfl ?_)
  cases d5 : (x.limit != y.limit) with
  | true =>
   have d5' : (x.limit == y.limit) = false := by simpa using d5
   rw [d5'] at hxs
   simp only [Bool.false_and, Bool.and_false] at hxs
   (iterate 6 refine S1 allF rfl rfl ?_); refine P1 T.ok rfl rfl rfl ?_; refine P1 T.ok rfl rfl rfl ?_; (iterate 6 refine S1 allF rfl rfl ?_); refine P1 T.ok rfl rfl rfl ?_; refine WL_nil ?_; (with_reducible refine T_then ?_)
   refine W_yes rfl rfl ?_
   refine W_seq ?_; refine W_region ?_; refine P1 T.ok rfl rfl rfl ?_; refine WL_nil ?_; (with_reducible refine T_then ?_)
   refine W_ret (ret1 rfl rfl (hs.ret ?_))
   rw [hsame, ← hno, hxs, Bool.false_and]; simp
  | false =>
  have d5' : (x.limit == y.limit) = true := by simpa using d5
  rw [d1', d2', d3', d4', d5'] at hxs
  simp only [Bool.true_and] at hxs
  refine P1 T.ok rfl rfl rfl ?_; refine WL_o rfl rfl (OpR_loadO T.ok 1 rfl hs rfl rfl rfl ?_); refine P1 T.ok rfl rfl rfl ?_; refine WL_o rfl rfl (OpR_loadO T.ok 0 rfl hs rfl rfl rfl ?_)
  refine WL_o rfl rfl (OpR_ret cl47 allF rfl rfl rfl rfl rfl (rsameInts_c _ _ x.tools y.tools _ rs4 rs6) ?_); rintro g1 _ hf1 rfl; replace hs := hs.call hf1; have hqe := hf1.le; replace le8 := G.le.trans le8 hqe; replace ep0 := ep0.mono hqe; replace ep1 := ep1.mono hqe; replace rs0 := rs0.mono hqe; replace rs1 := rs1.mono hqe; replace rs2 := rs2.mono hqe; replace rs3 := rs3.mono hqe; replace rs4 := rs4.mono hqe; replace rs5 := rs5.mono hqe; replace rs6 := rs6.mono hqe; replace rs7 := rs7.mono hqe
  (iterate 3 refine P1 T.ok rfl rfl rfl ?_)
  cases d6 : sameI x.tools y.tools with
  | false =>
   rw [d6, Bool.false_and] at hxs
   (iterate 6 refine S1 allF rfl rfl ?_); refine P1 T.ok rfl rfl rfl ?_; refine WL_nil ?_; (with_reducible refine T_then ?_)
   refine W_yes rfl rfl ?_
   refine W_seq ?_; refine W_region ?_; refine P1 T.ok rfl rfl rfl ?_; refine WL_nil ?_; (with_reducible refine T_then ?_)
   refine W_ret (ret1 rfl rfl (hs.ret ?_))
   rw [hsame, ← hno, hxs, Bool.false_and]; simp
  | true =>
  rw [d6, Bool.true_and] at hxs
  refine P1 T.ok rfl rfl rfl ?_; refine WL_o rfl rfl (OpR_loadO T.ok 1 rfl hs rfl rfl rfl ?_); refine P1 T.ok rfl rfl rfl ?_; refine WL_o rfl rfl (OpR_loadO T.ok 0 rfl hs rfl rfl rfl ?_)
  refine WL_o rfl rfl (OpR_ret cl47 allF rfl rfl rfl rfl rfl (rsameInts_c _ _ x.next y.next _ rs5 rs7) ?_); rintro g1 _ hf1 rfl; replace hs := hs.call hf1; have hqe := hf1.le; replace le8 := G.le.trans le8 hqe; replace ep0 := ep0.mono hqe; replace ep1 := ep1.mono hqe; replace rs0 := rs0.mono hqe; replace rs1 := rs1.mono hqe; replace rs2 := rs2.mono hqe; replace rs3 := rs3.mono hqe; replace rs4 := rs4.mono hqe; replace rs5 := rs5.mono hqe; replace rs6 := rs6.mono hqe; replace rs7 := rs7.mono hqe
  refine P1 T.ok rfl rfl rfl ?_; refine P1 T.ok rfl rfl rfl ?_; refine WL_nil ?_; (with_reducible refine T_then ?_)
  cases d7 : sameI x.next y.next with
  | false =>
   rw [d7] at hxs
   skip
   refine W_yes rfl rfl ?_
   refine W_seq ?_; refine W_region ?_; refine P1 T.ok rfl rfl rfl ?_; refine WL_nil ?_; (with_reducible refine T_then ?_)
   refine W_ret (ret1 rfl rfl (hs.ret ?_))
   rw [hsame, ← hno, hxs, Bool.false_and]; simp
  | true =>
  rw [d7] at hxs
  rw [hxs, Bool.true_and] at hno
  refine W_no rfl rfl ?_
  replace hs := hs.tail (M := [_, _])
  refine W_skip ?_; (with_reducible refine T_bn ?_); (with_reducible refine T_then ?_); refine W_region ?_; (iterate 3 refine P1 T.ok rfl rfl rfl ?_); refine WL_nil ?_
  exact fun a ha => ⟨f.steps.length - (k + 1), by omega, k + 1, _, rfl, hs, le8, by omega, rfl, hno, ha.keep ⟨rfl, rfl, kI rfl (by rw [wr (by omega) (by omega)]; omega), trivial⟩⟩
 ·refine W_no (b := _) ?_ rfl ?_
  ·simp; omega
  rw [eqBy_end (by omega) (by omega)] at hno
  rw [← hno, Bool.true_and] at hsame
  clear hno
  refine W_exit ?_; (with_reducible refine T_tx ?_; with_reducible refine T_tx ?_); (with_reducible refine T_bx ?_); (with_reducible refine T_then ?_); refine W_seq ?_; refine W_seq ?_; refine W_region ?_; refine P1 T.ok rfl rfl rfl ?_; refine WL_nil ?_; (with_reducible refine T_then ?_); refine W_block ?_
  have rs1d := rs1; have rs3d := rs3; have ep0d := ep0; have ep1d := ep1
  refine W_loop (fun m a' w => ∃ (k : Nat) (g5 : G), w = g5.w ∧ St g g5 [] ∧ G.le g4 g5 ∧ k ≤ f.windows.length ∧ m = f.windows.length - k ∧ eqBy sameW (f.windows.drop k) (h.windows.drop k) = eqBy sameW f.windows h.windows ∧
    Fr 123 [] [(2, .pointer (some ⟨bx, 0, none⟩)), (3, .pointer (some ⟨by1, 0, none⟩)), (8, .int .i64 k)] a') f.windows.length (fun a' ha => ⟨0, g4, rfl, hs, G.le.refl _, Nat.zero_le _, rfl, rfl, ha.keep (by (repeat (first | exact trivial | refine ⟨rfl, ?_⟩)))⟩) ?_
  clear hs le8 rs0 rs1 rs2 rs3 ep0 ep1 hlt hk
  rintro m a' _ ⟨k, g5, rfl, hs, le8, hk, rfl, hno, ha'⟩
  have rs1 := rs1d.mono le8
  have rs3 := rs3d.mono le8
  have ep0 := ep0d.mono le8
  have ep1 := ep1d.mono le8
  revert a'
  (with_reducible refine T_wp ?_); refine W_seq ?_; refine W_seq ?_; refine W_region ?_; refine P1 T.ok rfl rfl rfl ?_; refine P1 T.ok rfl rfl rfl ?_; refine WL_o rfl rfl (OpR_loadE T.ok 3 rfl ep0 rfl rfl ?_); refine P1 T.ok rfl rfl rfl ?_; refine P1 T.ok rfl rfl rfl ?_; refine WL_nil ?_; (with_reducible refine T_then ?_)
  by_cases hlt : k < f.windows.length
  ·refine W_yes (b := _) ?_ rfl ?_
   ·simp; omega
   have hlt2 : k < h.windows.length := by omega
   rw [eqBy_drop hlt hlt2] at hno
   have hg1 : geti f.windows (k : Int) = some f.windows[k] := by simp [geti, hlt]
   have hg2 : geti h.windows (k : Int) = some h.windows[k] := by simp [geti, hlt2]
   generalize f.windows[k] = x at *
   generalize h.windows[k] = y at *
   cases d1 : sameW x y with
   | true =>
    rw [d1, Bool.true_and] at hno
    refine W_skip ?_; (with_reducible refine T_then ?_); refine W_seq ?_; refine W_block ?_; refine W_seq ?_
    apply W_draw allF rfl (Fact.eq _ :: Fact.eq _ :: Fact.eq _ :: (winP (x)) :: Fact.eq _ :: Fact.eq _ :: Fact.eq _ :: Fact.eq _ :: (winP (y)) :: Fact.eq _ :: Fact.eq _ :: []) 11 [(10, 122)] rfl rfl
    ·refine D_s (js := []) (by kernel_rfl) (fun _ _ => QA_nil (DPu T.ok rfl rfl rfl)) ?_
     refine D_s (js := [(0, 112)]) (by kernel_rfl) (fun _ hf => QA_eq rfl (QA_nil (DLe T.ok 3 rfl rfl (ep0.mono ((G.le_dr _).trans hf.le)) rfl rfl rfl))) ?_
     refine D_s (js := []) (by kernel_rfl) (fun _ _ => QA_nil (DPu T.ok rfl rfl rfl)) ?_
     refine D_cons (D_step2 (js := [(1, 113), (2, 114)]) (by kernel_rfl) fun gd hf => ?_) ?_
     ·have hsd := hs.dr.call hf; have hfe := (G.le_dr _).trans hf.le
      refine QA_eq rfl ?_; refine QA_eq rfl ?_
      refine QA_nil ?_
      refine D_yes rfl ?_
      refine OpR_idx T.ok rfl (rs1.mono hfe) (y := x) hg1 rfl rfl rfl rfl rfl rfl ?_
      rintro b p ys hep rfl
      exact ⟨_, rfl, Fr0.refl _, b, p, rfl, hep⟩
     refine D_cons (D_step2 (js := [(3, 115)]) (by kernel_rfl) fun gd hf => ?_) ?_
     ·have hsd := hs.dr.call hf; have hfe := (G.le_dr _).trans hf.le
      refine QA_any fun v3 h3 => ?_
      refine QA_nil ?_
      obtain ⟨b, p, rfl, hep⟩ := h3
      refine D_yes rfl ?_
      refine OpR_loadE T.ok 0 rfl hep rfl rfl ?_
      refine ⟨_, rfl, Fr0.refl _, ?_⟩
      exact rfl
     refine D_s (js := []) (by kernel_rfl) (fun _ _ => QA_nil (DPu T.ok rfl rfl rfl)) ?_
     refine D_s (js := [(5, 117)]) (by kernel_rfl) (fun _ hf => QA_eq rfl (QA_nil (DLe T.ok 3 rfl rfl (ep1.mono ((G.le_dr _).trans hf.le)) rfl rfl rfl))) ?_
     refine D_s (js := []) (by kernel_rfl) (fun _ _ => QA_nil (DPu T.ok rfl rfl rfl)) ?_
     refine D_cons (D_step2 (js := [(6, 118), (7, 119)]) (by kernel_rfl) fun gd hf => ?_) ?_
     ·have hsd := hs.dr.call hf; have hfe := (G.le_dr _).trans hf.le
      refine QA_eq rfl ?_; refine QA_eq rfl ?_
      refine QA_nil ?_
      refine D_yes rfl ?_
      refine OpR_idx T.ok rfl (rs3.mono hfe) (y := y) hg2 rfl rfl rfl rfl rfl rfl ?_
      rintro b p ys hep rfl
      exact ⟨_, rfl, Fr0.refl _, b, p, rfl, hep⟩
     refine D_cons (D_step2 (js := [(8, 120)]) (by kernel_rfl) fun gd hf => ?_) ?_
     ·have hsd := hs.dr.call hf; have hfe := (G.le_dr _).trans hf.le
      refine QA_any fun v8 h8 => ?_
      refine QA_nil ?_
      obtain ⟨b, p, rfl, hep⟩ := h8
      refine D_yes rfl ?_
      refine OpR_loadE T.ok 0 rfl hep rfl rfl ?_
      refine ⟨_, rfl, Fr0.refl _, ?_⟩
      exact rfl
     refine D_cons (D_step2 (js := [(4, 116), (9, 121)]) (by kernel_rfl) fun gd hf => ?_) ?_
     ·have hsd := hs.dr.call hf; have hfe := (G.le_dr _).trans hf.le
      refine QA_eq rfl ?_; refine QA_eq rfl ?_
      refine QA_nil ?_
      refine D_yes rfl ?_
      refine OpR_eqAgg (neg := true) rfl rfl rfl (by kernel_rfl) (eqW x y _) ?_
      refine ⟨_, rfl, Fr0.refl _, ?_⟩
      exact congrArg Value.bool (show _ = false from by rw [show (x.src == y.src && x.dst == y.dst && x.limit == y.limit) = true from d1]; rfl)
     exact D_nil
    intro g1 hf1; refine QA_eq rfl ?_; refine QA_nil ?_
    replace hs := hs.dr.call hf1; have hqe := (G.le_dr _).trans hf1.le; replace le8 := G.le.trans le8 hqe; replace ep0 := ep0.mono hqe; replace ep1 := ep1.mono hqe; replace rs1 := rs1.mono hqe; replace rs3 := rs3.mono hqe
    refine WL_nil ?_; (with_reducible refine T_then ?_)
    refine W_no rfl rfl ?_
    refine W_skip ?_; (with_reducible refine T_bn ?_); (with_reducible refine T_then ?_); refine W_region ?_; (iterate 3 refine P1 T.ok rfl rfl rfl ?_); refine WL_nil ?_
    exact fun a ha => ⟨f.windows.length - (k + 1), by omega, k + 1, _, rfl, hs, le8, by omega, rfl, hno, ha.keep ⟨rfl, rfl, kI rfl (by rw [wr (by omega) (by omega)]; omega), trivial⟩⟩
   | false =>
    rw [d1, Bool.false_and] at hno
    refine W_skip ?_; (with_reducible refine T_then ?_); refine W_seq ?_; refine W_block ?_; refine W_seq ?_
    apply W_draw allF rfl (Fact.eq _ :: Fact.eq _ :: Fact.eq _ :: (winP (x)) :: Fact.eq _ :: Fact.eq _ :: Fact.eq _ :: Fact.eq _ :: (winP (y)) :: Fact.eq _ :: Fact.eq _ :: []) 11 [(10, 122)] rfl rfl
    ·refine D_s (js := []) (by kernel_rfl) (fun _ _ => QA_nil (DPu T.ok rfl rfl rfl)) ?_
     refine D_s (js := [(0, 112)]) (by kernel_rfl) (fun _ hf => QA_eq rfl (QA_nil (DLe T.ok 3 rfl rfl (ep0.mono ((G.le_dr _).trans hf.le)) rfl rfl rfl))) ?_
     refine D_s (js := []) (by kernel_rfl) (fun _ _ => QA_nil (DPu T.ok rfl rfl rfl)) ?_
     refine D_cons (D_step2 (js := [(1, 113), (2, 114)]) (by kernel_rfl) fun gd hf => ?_) ?_
     ·have hsd := hs.dr.call hf; have hfe := (G.le_dr _).trans hf.le
      refine QA_eq rfl ?_; refine QA_eq rfl ?_
      refine QA_nil ?_
      refine D_yes rfl ?_
      refine OpR_idx T.ok rfl (rs1.mono hfe) (y := x) hg1 rfl rfl rfl rfl rfl rfl ?_
      rintro b p ys hep rfl
      exact ⟨_, rfl, Fr0.refl _, b, p, rfl, hep⟩
     refine D_cons (D_step2 (js := [(3, 115)]) (by kernel_rfl) fun gd hf => ?_) ?_
     ·have hsd := hs.dr.call hf; have hfe := (G.le_dr _).trans hf.le
      refine QA_any fun v3 h3 => ?_
      refine QA_nil ?_
      obtain ⟨b, p, rfl, hep⟩ := h3
      refine D_yes rfl ?_
      refine OpR_loadE T.ok 0 rfl hep rfl rfl ?_
      refine ⟨_, rfl, Fr0.refl _, ?_⟩
      exact rfl
     refine D_s (js := []) (by kernel_rfl) (fun _ _ => QA_nil (DPu T.ok rfl rfl rfl)) ?_
     refine D_s (js := [(5, 117)]) (by kernel_rfl) (fun _ hf => QA_eq rfl (QA_nil (DLe T.ok 3 rfl rfl (ep1.mono ((G.le_dr _).trans hf.le)) rfl rfl rfl))) ?_
     refine D_s (js := []) (by kernel_rfl) (fun _ _ => QA_nil (DPu T.ok rfl rfl rfl)) ?_
     refine D_cons (D_step2 (js := [(6, 118), (7, 119)]) (by kernel_rfl) fun gd hf => ?_) ?_
     ·have hsd := hs.dr.call hf; have hfe := (G.le_dr _).trans hf.le
      refine QA_eq rfl ?_; refine QA_eq rfl ?_
      refine QA_nil ?_
      refine D_yes rfl ?_
      refine OpR_idx T.ok rfl (rs3.mono hfe) (y := y) hg2 rfl rfl rfl rfl rfl rfl ?_
      rintro b p ys hep rfl
      exact ⟨_, rfl, Fr0.refl _, b, p, rfl, hep⟩
     refine D_cons (D_step2 (js := [(8, 120)]) (by kernel_rfl) fun gd hf => ?_) ?_
     ·have hsd := hs.dr.call hf; have hfe := (G.le_dr _).trans hf.le
      refine QA_any fun v8 h8 => ?_
      refine QA_nil ?_
      obtain ⟨b, p, rfl, hep⟩ := h8
      refine D_yes rfl ?_
      refine OpR_loadE T.ok 0 rfl hep rfl rfl ?_
      refine ⟨_, rfl, Fr0.refl _, ?_⟩
      exact rfl
     refine D_cons (D_step2 (js := [(4, 116), (9, 121)]) (by kernel_rfl) fun gd hf => ?_) ?_
     ·have hsd := hs.dr.call hf; have hfe := (G.le_dr _).trans hf.le
      refine QA_eq rfl ?_; refine QA_eq rfl ?_
      refine QA_nil ?_
      refine D_yes rfl ?_
      refine OpR_eqAgg (neg := true) rfl rfl rfl (by kernel_rfl) (eqW x y _) ?_
      refine ⟨_, rfl, Fr0.refl _, ?_⟩
      exact congrArg Value.bool (show _ = true from by rw [show (x.src == y.src && x.dst == y.dst && x.limit == y.limit) = false from d1]; rfl)
     exact D_nil
    intro g1 hf1; refine QA_eq rfl ?_; refine QA_nil ?_
    replace hs := hs.dr.call hf1; have hqe := (G.le_dr _).trans hf1.le; replace le8 := G.le.trans le8 hqe; replace ep0 := ep0.mono hqe; replace ep1 := ep1.mono hqe; replace rs1 := rs1.mono hqe; replace rs3 := rs3.mono hqe
    refine WL_nil ?_; (with_reducible refine T_then ?_)
    refine W_yes rfl rfl ?_
    refine W_seq ?_; refine W_region ?_; refine P1 T.ok rfl rfl rfl ?_; refine WL_nil ?_; (with_reducible refine T_then ?_)
    refine W_ret (ret1 rfl rfl (hs.ret ?_))
    rw [hsame, ← hno]
  ·refine W_no (b := _) ?_ rfl ?_
   ·simp; omega
   refine W_exit ?_; (with_reducible refine T_tx ?_; with_reducible refine T_tx ?_); (with_reducible refine T_bx ?_); (with_reducible refine T_then ?_); refine W_seq ?_; refine W_region ?_; refine P1 T.ok rfl rfl rfl ?_; refine WL_nil ?_; (with_reducible refine T_then ?_)
   refine W_ret (ret1 rfl rfl (hs.ret ?_))
   rw [hsame, ← hno, eqBy_end (by omega) (by omega)]
end Go.Proofs.YtnaeopehmdcplaaGreatDoor

/- The reference's Digits, list, StepLine, WindowLine, Print. -/
namespace Go.Proofs.YtnaeopehmdcplaaGreatDoor
open Go Go.K
set_option maxRecDepth 10000
attribute [local irreducible] W WL OpR bitAnd bitOr bitXor bitClr bitNot shlI shrI
set_option maxHeartbeats 16000000

theorem bs_ints (xs : List UInt8) : (xs.map fun b : UInt8 => (b.toNat : Int)).map (fun m => UInt8.ofNat m.toNat) = xs := by
 rw [List.map_map]
 conv => rhs; rw [← List.map_id xs]
 exact List.map_congr_left fun b _ => by simp
theorem wr8 (k : Nat) (h : k < 10) : IntKind.u8.wrap (48 + (k : Int)) = ((48 + k : Nat) : Int) := by
 have : k = 0 ∨ k = 1 ∨ k = 2 ∨ k = 3 ∨ k = 4 ∨ k = 5 ∨ k = 6 ∨ k = 7 ∨ k = 8 ∨ k = 9 := by omega
 rcases this with rfl | rfl | rfl | rfl | rfl | rfl | rfl | rfl | rfl | rfl <;> rfl
def DigI (n0 m : Nat) (s : List UInt8) : Prop := (m = 0 ∧ s ≠ [] ∧ dec n0 = s) ∨ ((0 < m ∨ s = []) ∧ dec n0 = dec m ++ s)
theorem DigI.next {n0 m : Nat} {s : List UInt8} (h : DigI n0 m s) (hc : s = [] ∨ 0 < m) : DigI n0 (m / 10) (UInt8.ofNat (48 + m % 10) :: s) := by
 have h2 : dec n0 = dec m ++ s := by
  rcases h with ⟨h1, h2, _⟩ | ⟨_, h3⟩
  ·rcases hc with h | h
   ·exact absurd h h2
   ·omega
  ·exact h3
 by_cases hm : m < 10
 ·refine .inl ⟨by omega, by simp, ?_⟩
  rw [h2, dec_small hm, show m % 10 = m by omega]; rfl
 ·refine .inr ⟨.inl (by omega), ?_⟩
  rw [h2, dec_big hm]; simp
theorem DigI.done {n0 m : Nat} {s : List UInt8} (h : DigI n0 m s) (hs : s ≠ []) (hm : ¬ 0 < m) : dec n0 = s := by
 rcases h with ⟨_, _, h⟩ | ⟨h1, h2⟩
 ·exact h
 ·rcases h1 with h | h
  ·omega
  ·exact absurd h hs
theorem DigI.len {n0 m : Nat} {s : List UInt8} (h : DigI n0 m s) : s.length ≤ (dec n0).length := by
 rcases h with ⟨_, _, h⟩ | ⟨_, h⟩
 ·rw [h]; exact Nat.le_refl _
 ·rw [h, List.length_append]; omega

theorem digits_c (n : Int) (g : G) (hn : big n) : CallsIn Wd 0 Tryz.prog 37 #[.int .i64 n] g.w (Ret g fun _ r => r = .string (bs (decI n))) := by
 obtain ⟨n0, rfl⟩ : ∃ m : Nat, n = m := ⟨n.toNat, by have := hn.1; omega⟩
 have hl7 := decI_len hn
 have hb := hn.2
 have hdec : decI (n0 : Int) = dec n0 := rfl
 rw [hdec] at hl7 ⊢
 have hs := St.start g
 refine enter Tryz.func37 rfl Tryz.ntmps37 rfl ?_
 refine W_seq ?_; refine W_region ?_; refine P1 T.ok rfl rfl rfl ?_; refine WL_nil ?_; (with_reducible refine T_then ?_); refine W_seq ?_; refine W_region ?_; refine P1 T.ok rfl rfl rfl ?_; refine WL_nil ?_; (with_reducible refine T_then ?_); refine W_seq ?_; refine W_block ?_
 refine W_loop (fun mm a' w => ∃ (m0 : Nat) (s : List UInt8) (g' : G), DigI n0 m0 s ∧ w = g'.w ∧ St g g' [] ∧ m0 ≤ 1000000 ∧ mm = m0 + (if s = [] then 1 else 0) ∧
  Fr 21 [] [(0, .int .i64 m0), (3, .string (bs s))] a') (n0 + 1) (fun a' ha => ⟨n0, [], g, .inr ⟨.inr rfl, by simp⟩, rfl, hs, by omega, rfl, ha.keep (by (repeat (first | exact trivial | refine ⟨rfl, ?_⟩)))⟩) ?_
 clear hs
 rintro mm a' _ ⟨m0, s, g', hD, rfl, hs, hm, rfl, ha'⟩
 have hsl := hD.len
 revert a'
 by_cases hse : s = []
 ·subst hse
  (with_reducible refine T_wp ?_); refine W_seq ?_; refine W_seq ?_; refine W_region ?_; (iterate 3 refine P1 T.ok rfl rfl rfl ?_)
  refine WL_know 6 (b' := true) (by simp [bs_toList]) rfl ?_
  refine S1 allF rfl rfl ?_; refine S1 allF rfl rfl ?_; refine P1 T.ok rfl rfl rfl ?_; refine WL_nil ?_; (with_reducible refine T_then ?_)
  refine W_yes (b := _) ?_ rfl ?_
  ·simp
  have hnx := hD.next (by exact .inl rfl)
  have hd8 : (UInt8.ofNat (48 + m0 % 10)).toNat = 48 + m0 % 10 := digNat (by omega)
  generalize UInt8.ofNat (48 + m0 % 10) = d at *
  refine W_skip ?_; (with_reducible refine T_then ?_); refine W_block ?_; refine W_seq ?_; refine W_region ?_; (iterate 3 refine P1 T.ok rfl rfl rfl ?_); refine P2 T.ok rfl rfl rfl ?_
  refine WL_re (.int .u8 (d.toNat : Int)) (t := 13) rfl (congrArg (Value.int .u8) (by
   show IntKind.u8.wrap (IntKind.i64.wrap (48 + ((m0 % 10 : Nat) : Int))) = _
   rw [hd8, wr (by omega) (by omega)]
   exact wr8 (m0 % 10) (by omega))) ?_
  refine WL_o rfl rfl (OpR_lit T.ok rfl hs (vs := [(0, .int .u8 (d.toNat : Int))]) (cells := [.int .u8 (d.toNat : Int)]) rfl rfl rfl rfl rfl rfl (by decide) (by decide) (by kernel_rfl) rfl ?_)
  clear hs
  rintro bl gl hs hqe
  obtain ⟨gz, hwz, hsz, hqz, rs0⟩ := hs.fzRow (α := UInt8) (xs := [d]) (i := 0) rfl (RcL.bytes _ [d])
  rw [← hwz]; replace hs := hsz; clear hsz
  replace hs : St g gz [] := hs
  obtain ⟨_, news, hnw, hsrc⟩ := Src.of_rs rs0
  obtain rfl := RcL.bytes_inv hnw
  refine WL_o rfl rfl (OpR_bytesStr T.ok (ns := [(d.toNat : Int)]) rfl rfl rfl rfl rfl rfl rfl rfl hsrc ?_)
  rw [show ([(d.toNat : Int)].map fun m => UInt8.ofNat m.toNat) = [d] from bs_ints [d]]
  clear hsrc hnw rs0
  refine P1 T.ok rfl rfl rfl ?_
  refine WL_o rfl rfl (OpR_addS (p := [d]) (q := []) rfl rfl rfl (by simp only [List.length_singleton]; omega) ?_)
  refine P1 T.ok rfl rfl rfl ?_; refine WL_nil ?_; (with_reducible refine T_then ?_); refine W_region ?_; (iterate 3 refine P1 T.ok rfl rfl rfl ?_); refine WL_nil ?_; (with_reducible refine T_bn ?_)
  exact fun a ha => ⟨m0 / 10 + 0, by simp; omega, m0 / 10, [d] ++ [], gz, hnx, rfl, hs, by omega, by simp, ha.keep ⟨kI rfl (show IntKind.i64.wrap ((m0 / 10 : Nat) : Int) = _ from wr (by omega) (by omega)), rfl, trivial⟩⟩
 ·(with_reducible refine T_wp ?_); refine W_seq ?_; refine W_seq ?_; refine W_region ?_; (iterate 3 refine P1 T.ok rfl rfl rfl ?_)
  refine WL_know 6 (b' := false) (by rw [bs_toList]; simp [hse]) rfl ?_
  by_cases hm0 : 0 < m0
  ·(iterate 3 refine P1 T.ok rfl rfl rfl ?_); refine WL_nil ?_; (with_reducible refine T_then ?_)
   refine W_yes (b := _) ?_ rfl ?_
   ·simp; omega
   have hnx := hD.next (by exact .inr hm0)
   have hd8 : (UInt8.ofNat (48 + m0 % 10)).toNat = 48 + m0 % 10 := digNat (by omega)
   generalize UInt8.ofNat (48 + m0 % 10) = d at *
   refine W_skip ?_; (with_reducible refine T_then ?_); refine W_block ?_; refine W_seq ?_; refine W_region ?_; (iterate 3 refine P1 T.ok rfl rfl rfl ?_); refine P2 T.ok rfl rfl rfl ?_
   refine WL_re (.int .u8 (d.toNat : Int)) (t := 13) rfl (congrArg (Value.int .u8) (by
    show IntKind.u8.wrap (IntKind.i64.wrap (48 + ((m0 % 10 : Nat) : Int))) = _
    rw [hd8, wr (by omega) (by omega)]
    exact wr8 (m0 % 10) (by omega))) ?_
   refine WL_o rfl rfl (OpR_lit T.ok rfl hs (vs := [(0, .int .u8 (d.toNat : Int))]) (cells := [.int .u8 (d.toNat : Int)]) rfl rfl rfl rfl rfl rfl (by decide) (by decide) (by kernel_rfl) rfl ?_)
   clear hs
   rintro bl gl hs hqe
   obtain ⟨gz, hwz, hsz, hqz, rs0⟩ := hs.fzRow (α := UInt8) (xs := [d]) (i := 0) rfl (RcL.bytes _ [d])
   rw [← hwz]; replace hs := hsz; clear hsz
   replace hs : St g gz [] := hs
   obtain ⟨_, news, hnw, hsrc⟩ := Src.of_rs rs0
   obtain rfl := RcL.bytes_inv hnw
   refine WL_o rfl rfl (OpR_bytesStr T.ok (ns := [(d.toNat : Int)]) rfl rfl rfl rfl rfl rfl rfl rfl hsrc ?_)
   rw [show ([(d.toNat : Int)].map fun m => UInt8.ofNat m.toNat) = [d] from bs_ints [d]]
   clear hsrc hnw rs0
   refine P1 T.ok rfl rfl rfl ?_
   refine WL_o rfl rfl (OpR_addS (p := [d]) (q := s) rfl rfl rfl (by simp only [List.length_singleton]; omega) ?_)
   refine P1 T.ok rfl rfl rfl ?_; refine WL_nil ?_; (with_reducible refine T_then ?_); refine W_region ?_; (iterate 3 refine P1 T.ok rfl rfl rfl ?_); refine WL_nil ?_; (with_reducible refine T_bn ?_)
   exact fun a ha => ⟨m0 / 10 + 0, by simp [hse]; omega, m0 / 10, [d] ++ s, gz, hnx, rfl, hs, by omega, by simp, ha.keep ⟨kI rfl (show IntKind.i64.wrap ((m0 / 10 : Nat) : Int) = _ from wr (by omega) (by omega)), rfl, trivial⟩⟩
  ·(iterate 3 refine P1 T.ok rfl rfl rfl ?_); refine WL_nil ?_; (with_reducible refine T_then ?_)
   refine W_no (b := _) ?_ rfl ?_
   ·simp; omega
   have hfin := hD.done hse hm0
   rw [hfin]
   refine W_exit ?_; (with_reducible refine T_tx ?_; with_reducible refine T_tx ?_); (with_reducible refine T_bx ?_); (with_reducible refine T_then ?_); refine W_seq ?_; refine W_region ?_; refine P1 T.ok rfl rfl rfl ?_; refine P1 T.ok rfl rfl rfl ?_; refine WL_nil ?_; (with_reducible refine T_then ?_)
   exact W_ret (ret1 rfl rfl (hs.ret rfl))
theorem take_map_succ {l : List Int} {k : Nat} (hk : k < l.length) : (l.take (k + 1)).map decI = (l.take k).map decI ++ [decI l[k]] := by
 rw [List.take_succ_eq_append_getElem hk, List.map_append]; rfl
theorem join_ne {ps : List (List UInt8)} (h : ps ≠ []) (hp : ∀ p ∈ ps, p ≠ []) : joinC 44 ps ≠ [] := by
 cases ps with
 | nil => exact absurd rfl h
 | cons x r =>
  cases r with
  | nil => exact hp x (List.mem_cons_self ..)
  | cons y r => rw [show joinC 44 (x :: y :: r) = x ++ 44 :: joinC 44 (y :: r) from rfl]; simp
theorem rlist_c (v : Value) (l : List Int) (g : G) (hl : Rs g v l) (hb : ∀ n ∈ l, big n) (hn : l.length ≤ 1000) : CallsIn Wd 0 Tryz.prog 54 #[v] g.w (Ret g fun _ r => r = .string (bs (numsM l))) := by
 obtain ⟨pa, pc, rfl⟩ := hl.isSlice
 have hs := St.start g
 refine enter Tryz.func54 rfl Tryz.ntmps54 rfl ?_
 refine W_seq ?_; refine W_region ?_; refine P1 T.ok rfl rfl rfl ?_; refine WL_nil ?_; (with_reducible refine T_then ?_); refine W_seq ?_; refine W_region ?_; refine P1 T.ok rfl rfl rfl ?_; refine WL_nil ?_; (with_reducible refine T_then ?_); refine W_seq ?_; refine W_seq ?_; refine W_region ?_; refine P1 T.ok rfl rfl rfl ?_; refine WL_nil ?_; (with_reducible refine T_then ?_); refine W_block ?_
 refine W_loop (fun m a' w => ∃ (k : Nat) (g' : G), w = g'.w ∧ St g g' [] ∧ G.le g g' ∧ k ≤ l.length ∧ m = l.length - k ∧
  Fr 25 [] [(0, .slice pa l.length pc), (3, .string (bs (joinC 44 ((l.take k).map decI)))), (4, .int .i64 k)] a') l.length (fun a' ha => ⟨0, g, rfl, hs, G.le.refl _, Nat.zero_le _, rfl, ha.keep (by (repeat (first | exact trivial | refine ⟨rfl, ?_⟩)))⟩) ?_
 clear hs
 rintro m a' _ ⟨k, g', rfl, hs, le0, hk, rfl, ha'⟩
 have rs0 := hl.mono le0
 have hjl : (joinC 44 ((l.take k).map decI)).length ≤ 8000 := by
  have h1 := joinC_len' (c := 44) (k := 7) (l := (l.take k).map decI) fun x hx => by
   obtain ⟨n, hn, rfl⟩ := List.mem_map.1 hx
   exact decI_len (hb n (List.mem_of_mem_take hn))
  rw [List.length_map, List.length_take] at h1
  omega
 revert a'
 (with_reducible refine T_wp ?_); refine W_seq ?_; refine W_seq ?_; refine W_region ?_; (iterate 4 refine P1 T.ok rfl rfl rfl ?_); refine WL_nil ?_; (with_reducible refine T_then ?_)
 by_cases hlt : k < l.length
 ·refine W_yes (b := decide ((k : Int) < (l.length : Int))) (by simp; omega) rfl ?_
  have hgi : geti l (k : Int) = some l[k] := by simp [geti, hlt]
  have hbk := hb _ (List.getElem_mem hlt)
  have hnl := decI_len hbk
  have hst := take_map_succ hlt
  generalize l[k] = x at *
  by_cases hk0 : k = 0
  ·subst hk0
   refine W_skip ?_; (with_reducible refine T_then ?_); refine W_seq ?_; refine W_block ?_; refine W_seq ?_; refine W_seq ?_; refine W_region ?_; refine P1 T.ok rfl rfl rfl ?_; refine P1 T.ok rfl rfl rfl ?_; refine WL_nil ?_; (with_reducible refine T_then ?_)
   refine W_no rfl rfl ?_
   refine W_skip ?_; (with_reducible refine T_then ?_); refine W_region ?_; (iterate 3 refine P1 T.ok rfl rfl rfl ?_)
   refine WL_o rfl rfl (OpR_idx T.ok rfl rs0 (y := x) hgi rfl rfl rfl rfl rfl rfl ?_)
   rintro b p ys hep rfl
   refine WL_o rfl rfl (OpR_loadE T.ok 0 rfl hep rfl rfl ?_)
   refine WL_o rfl rfl (OpR_ret cl37 allF rfl rfl rfl rfl rfl (digits_c x _ hbk) ?_); rintro g1 _ hf1 rfl; replace hs := hs.call hf1; have hqe := hf1.le; replace le0 := G.le.trans le0 hqe; replace rs0 := rs0.mono hqe
   refine WL_o rfl rfl (OpR_addS (p := []) (q := decI x) rfl rfl rfl (by simp; omega) ?_)
   refine P1 T.ok rfl rfl rfl ?_; refine WL_nil ?_; (with_reducible refine T_bn ?_); (with_reducible refine T_then ?_); refine W_region ?_; (iterate 3 refine P1 T.ok rfl rfl rfl ?_); refine WL_nil ?_
   exact fun a ha => ⟨l.length - 1, by omega, 1, _, rfl, hs, le0, by omega, rfl, ha.keep ⟨rfl, kV rfl (by rw [hst]; rfl), rfl, trivial⟩⟩
  ·refine W_skip ?_; (with_reducible refine T_then ?_); refine W_seq ?_; refine W_block ?_; refine W_seq ?_; refine W_seq ?_; refine W_region ?_; refine P1 T.ok rfl rfl rfl ?_; refine P1 T.ok rfl rfl rfl ?_; refine WL_nil ?_; (with_reducible refine T_then ?_)
   refine W_yes (b := _) ?_ rfl ?_
   ·simp; omega
   refine W_region ?_; refine P1 T.ok rfl rfl rfl ?_
   refine WL_o rfl rfl (OpR_addS (p := joinC 44 ((l.take k).map decI)) (q := [44]) rfl rfl rfl (by simp only [List.length_singleton]; omega) ?_)
   refine P1 T.ok rfl rfl rfl ?_; refine WL_nil ?_; (with_reducible refine T_then ?_); refine W_region ?_; (iterate 3 refine P1 T.ok rfl rfl rfl ?_)
   refine WL_o rfl rfl (OpR_idx T.ok rfl rs0 (y := x) hgi rfl rfl rfl rfl rfl rfl ?_)
   rintro b p ys hep rfl
   refine WL_o rfl rfl (OpR_loadE T.ok 0 rfl hep rfl rfl ?_)
   refine WL_o rfl rfl (OpR_ret cl37 allF rfl rfl rfl rfl rfl (digits_c x _ hbk) ?_); rintro g1 _ hf1 rfl; replace hs := hs.call hf1; have hqe := hf1.le; replace le0 := G.le.trans le0 hqe; replace rs0 := rs0.mono hqe
   refine WL_o rfl rfl (OpR_addS (p := joinC 44 ((l.take k).map decI) ++ [44]) (q := decI x) rfl rfl rfl (by rw [List.length_append, List.length_singleton]; omega) ?_)
   refine P1 T.ok rfl rfl rfl ?_; refine WL_nil ?_; (with_reducible refine T_bn ?_); (with_reducible refine T_then ?_); refine W_region ?_; (iterate 3 refine P1 T.ok rfl rfl rfl ?_); refine WL_nil ?_
   have hne : (l.take k).map decI ≠ [] := by
    intro h
    have := congrArg List.length h
    rw [List.length_map, List.length_take, List.length_nil] at this
    omega
   exact fun a ha => ⟨l.length - (k + 1), by omega, k + 1, _, rfl, hs, le0, by omega, rfl, ha.keep ⟨rfl, kV rfl (by rw [hst, join_snoc 44 _ _ hne]; simp), kI rfl (by rw [wr (by omega) (by omega)]; omega), trivial⟩⟩
 ·refine W_no (b := decide ((k : Int) < (l.length : Int))) (by simp; omega) rfl ?_
  obtain rfl : k = l.length := by omega
  rw [List.take_length] at *
  refine W_exit ?_; (with_reducible refine T_tx ?_; with_reducible refine T_tx ?_); (with_reducible refine T_bx ?_); (with_reducible refine T_then ?_); refine W_seq ?_; refine W_seq ?_; refine W_region ?_; refine P1 T.ok rfl rfl rfl ?_; refine P1 T.ok rfl rfl rfl ?_; refine WL_nil ?_; (with_reducible refine T_then ?_)
  unfold numsM
  by_cases hl0 : l = []
  ·subst hl0
   refine W_yes (b := _) ?_ rfl ?_
   ·simp [joinC, bs_toList]
   refine W_seq ?_; refine W_region ?_; refine P1 T.ok rfl rfl rfl ?_; refine WL_nil ?_; (with_reducible refine T_then ?_)
   exact W_ret (ret1 rfl rfl (hs.ret rfl))
  ·rw [if_neg hl0]
   refine W_no (b := _) ?_ rfl ?_
   ·have := join_ne (ps := l.map decI) (by simpa using hl0) fun p hp => by
     obtain ⟨n, _, rfl⟩ := List.mem_map.1 hp
     exact dec_ne _
    rw [bs_toList]; simp [this]
   refine W_skip ?_; (with_reducible refine T_then ?_); refine W_seq ?_; refine W_region ?_; refine P1 T.ok rfl rfl rfl ?_; refine P1 T.ok rfl rfl rfl ?_; refine WL_nil ?_; (with_reducible refine T_then ?_)
   exact W_ret (ret1 rfl rfl (hs.ret rfl))



theorem rwindowLine_c (w0 : Window) (g : G) (h : big w0.src ∧ big w0.dst ∧ big w0.limit) : CallsIn Wd 0 Tryz.prog 21 #[.agg (winV w0).toArray] g.w (Ret g fun _ r => r = .string (bs (windowLine w0))) := by
 have hs := St.start g
 have le0 := G.le.refl g
 have l1 := decI_len h.1; have l2 := decI_len h.2.1; have l3 := decI_len h.2.2
 rw [windowLine_eq]
 unfold winV
 refine enter Tryz.func21 rfl Tryz.ntmps21 rfl ?_
 refine W_seq ?_; refine W_region ?_
 refine WL_o rfl rfl (OpR_box rfl hs rfl rfl ?_); clear hs; rintro bx g1 hs hqe; replace le0 := G.le.trans le0 hqe
 obtain ⟨g2, hw2, hs2, hqe, hep⟩ := hs.fzObj (i := 0) rfl; replace hs := hs2; clear hs2; rw [← hw2]; replace le0 := G.le.trans le0 hqe
 have ep0 := hep
 clear hep hw2 hqe
 refine P1 T.ok rfl rfl rfl ?_; refine WL_nil ?_; (with_reducible refine T_then ?_); refine W_seq ?_
 apply W_draw allF rfl (Fact.eq _ :: Fact.eq _ :: Fact.eq _ :: Fact.eq _ :: Fact.eq _ :: Fact.eq _ :: Fact.eq _ :: Fact.eq _ :: Fact.eq _ :: Fact.eq _ :: Fact.eq _ :: Fact.eq _ :: Fact.eq _ :: Fact.eq _ :: []) 14 [(13, 16)] rfl rfl
 ·refine D_s (js := []) (by kernel_rfl) (fun _ _ => QA_nil (DPu T.ok rfl rfl rfl)) ?_
  refine D_s (js := [(0, 3)]) (by kernel_rfl) (fun _ hf => QA_eq rfl (QA_nil (DLe T.ok 0 rfl rfl (ep0.mono ((G.le_dr _).trans hf.le)) rfl rfl rfl))) ?_
  refine D_cons (D_step2 (js := [(1, 4)]) (by kernel_rfl) fun gd hf => ?_) ?_
  ·have hsd := hs.dr.call hf; have hfe := (G.le_dr _).trans hf.le
   refine QA_eq rfl ?_
   refine QA_nil ?_
   refine D_yes rfl ?_
   refine OpR_ret cl37 allF rfl rfl rfl rfl rfl (digits_c (w0.src) _ h.1) fun g' v h1 h2 => ⟨g', rfl, h1, ?_⟩
   exact h2
  refine D_cons (D_step2 (js := [(2, 5)]) (by kernel_rfl) fun gd hf => ?_) ?_
  ·have hsd := hs.dr.call hf; have hfe := (G.le_dr _).trans hf.le
   refine QA_eq rfl ?_
   refine QA_nil ?_
   refine D_yes rfl ?_
   refine OpR_addS (p := tWindow) (q := decI w0.src) rfl rfl rfl (by simp only [List.length_cons, List.length_nil, tWindow]; omega) ?_
   exact ⟨_, rfl, Fr0.refl _, rfl⟩
  refine D_cons (D_step2 (js := [(3, 6)]) (by kernel_rfl) fun gd hf => ?_) ?_
  ·have hsd := hs.dr.call hf; have hfe := (G.le_dr _).trans hf.le
   refine QA_eq rfl ?_
   refine QA_nil ?_
   refine D_yes rfl ?_
   refine OpR_addS (p := tWindow ++ decI w0.src) (q := [32]) rfl rfl rfl (by simp only [List.length_append, List.length_cons, List.length_nil, tWindow]; omega) ?_
   exact ⟨_, rfl, Fr0.refl _, rfl⟩
  refine D_s (js := []) (by kernel_rfl) (fun _ _ => QA_nil (DPu T.ok rfl rfl rfl)) ?_
  refine D_s (js := [(5, 8)]) (by kernel_rfl) (fun _ hf => QA_eq rfl (QA_nil (DLe T.ok 1 rfl rfl (ep0.mono ((G.le_dr _).trans hf.le)) rfl rfl rfl))) ?_
  refine D_cons (D_step2 (js := [(6, 9)]) (by kernel_rfl) fun gd hf => ?_) ?_
  ·have hsd := hs.dr.call hf; have hfe := (G.le_dr _).trans hf.le
   refine QA_eq rfl ?_
   refine QA_nil ?_
   refine D_yes rfl ?_
   refine OpR_ret cl37 allF rfl rfl rfl rfl rfl (digits_c (w0.dst) _ h.2.1) fun g' v h1 h2 => ⟨g', rfl, h1, ?_⟩
   exact h2
  refine D_cons (D_step2 (js := [(4, 7), (7, 10)]) (by kernel_rfl) fun gd hf => ?_) ?_
  ·have hsd := hs.dr.call hf; have hfe := (G.le_dr _).trans hf.le
   refine QA_eq rfl ?_; refine QA_eq rfl ?_
   refine QA_nil ?_
   refine D_yes rfl ?_
   refine OpR_addS (p := tWindow ++ decI w0.src ++ [32]) (q := decI w0.dst) rfl rfl rfl (by simp only [List.length_append, List.length_cons, List.length_nil, tWindow]; omega) ?_
   exact ⟨_, rfl, Fr0.refl _, rfl⟩
  refine D_cons (D_step2 (js := [(8, 11)]) (by kernel_rfl) fun gd hf => ?_) ?_
  ·have hsd := hs.dr.call hf; have hfe := (G.le_dr _).trans hf.le
   refine QA_eq rfl ?_
   refine QA_nil ?_
   refine D_yes rfl ?_
   refine OpR_addS (p := tWindow ++ decI w0.src ++ [32] ++ decI w0.dst) (q := [32]) rfl rfl rfl (by simp only [List.length_append, List.length_cons, List.length_nil, tWindow]; omega) ?_
   exact ⟨_, rfl, Fr0.refl _, rfl⟩
  refine D_s (js := []) (by kernel_rfl) (fun _ _ => QA_nil (DPu T.ok rfl rfl rfl)) ?_
  refine D_s (js := [(10, 13)]) (by kernel_rfl) (fun _ hf => QA_eq rfl (QA_nil (DLe T.ok 2 rfl rfl (ep0.mono ((G.le_dr _).trans hf.le)) rfl rfl rfl))) ?_
  refine D_cons (D_step2 (js := [(11, 14)]) (by kernel_rfl) fun gd hf => ?_) ?_
  ·have hsd := hs.dr.call hf; have hfe := (G.le_dr _).trans hf.le
   refine QA_eq rfl ?_
   refine QA_nil ?_
   refine D_yes rfl ?_
   refine OpR_ret cl37 allF rfl rfl rfl rfl rfl (digits_c (w0.limit) _ h.2.2) fun g' v h1 h2 => ⟨g', rfl, h1, ?_⟩
   exact h2
  refine D_cons (D_step2 (js := [(9, 12), (12, 15)]) (by kernel_rfl) fun gd hf => ?_) ?_
  ·have hsd := hs.dr.call hf; have hfe := (G.le_dr _).trans hf.le
   refine QA_eq rfl ?_; refine QA_eq rfl ?_
   refine QA_nil ?_
   refine D_yes rfl ?_
   refine OpR_addS (p := tWindow ++ decI w0.src ++ [32] ++ decI w0.dst ++ [32]) (q := decI w0.limit) rfl rfl rfl (by simp only [List.length_append, List.length_cons, List.length_nil, tWindow]; omega) ?_
   exact ⟨_, rfl, Fr0.refl _, rfl⟩
  exact D_nil
 intro g1 hf1; refine QA_eq rfl ?_; refine QA_nil ?_
 replace hs := hs.dr.call hf1; have hqe := (G.le_dr _).trans hf1.le; replace le0 := G.le.trans le0 hqe; replace ep0 := ep0.mono hqe
 refine P1 T.ok rfl rfl rfl ?_; refine WL_nil ?_; (with_reducible refine T_then ?_)
 exact W_ret (ret1 rfl rfl (hs.ret rfl))
theorem rstepLine_c (i : Nat) (v : Value) (s : Step) (g : G) (hv : RStepV g v s) (hi : i ≤ 1000000) (hB : StepB s) : CallsIn Wd 0 Tryz.prog 20 #[.int .i64 i, v] g.w (Ret g fun _ r => r = .string (bs (stepLine i s))) := by
 obtain ⟨cs, rfl, a1, n1, c1, a2, n2, c2, rfl, rs0, rs1⟩ := hv
 have hs := St.start g
 have le0 := G.le.refl g
 have hbi : big (i : Int) := ⟨by omega, by omega⟩
 have l0 := decI_len hbi
 have l1 := decI_len hB.n.recipe; have l2 := decI_len hB.n.min; have l3 := decI_len hB.n.max
 have l4 := numsM_len hB.n.toolsN; have l5 := numsM_len hB.n.next
 have l6 := hB.tools; have l7 := hB.next
 have hdi : decI (i : Int) = dec i := rfl
 refine enter Tryz.func20 rfl Tryz.ntmps20 rfl ?_
 refine W_seq ?_; refine W_region ?_
 refine WL_o rfl rfl (OpR_box rfl hs rfl rfl ?_); clear hs; rintro bx g1 hs hqe; replace le0 := G.le.trans le0 hqe; replace rs0 := rs0.mono hqe; replace rs1 := rs1.mono hqe
 obtain ⟨g2, hw2, hs2, hqe, hep⟩ := hs.fzObj (i := 0) rfl; replace hs := hs2; clear hs2; rw [← hw2]; replace le0 := G.le.trans le0 hqe; replace rs0 := rs0.mono hqe; replace rs1 := rs1.mono hqe
 have ep0 := hep
 clear hep hw2 hqe
 refine P1 T.ok rfl rfl rfl ?_; refine WL_nil ?_; (with_reducible refine T_then ?_); refine W_seq ?_
 apply W_draw allF rfl (Fact.eq _ :: Fact.eq _ :: Fact.eq _ :: Fact.eq _ :: Fact.eq _ :: Fact.eq _ :: Fact.eq _ :: Fact.eq _ :: Fact.eq _ :: Fact.eq _ :: Fact.eq _ :: Fact.eq _ :: Fact.eq _ :: Fact.eq _ :: Fact.eq _ :: Fact.eq _ :: Fact.eq _ :: Fact.eq _ :: Fact.eq _ :: Fact.eq _ :: Fact.eq _ :: Fact.eq _ :: Fact.eq _ :: Fact.eq _ :: Fact.eq _ :: Fact.eq _ :: Fact.eq _ :: Fact.eq _ :: Fact.eq _ :: []) 29 [(28, 5)] rfl rfl
 ·refine D_s (js := []) (by kernel_rfl) (fun _ _ => QA_nil (DPu T.ok rfl rfl rfl)) ?_
  refine D_cons (D_step2 (js := [(0, 6)]) (by kernel_rfl) fun gd hf => ?_) ?_
  ·have hsd := hs.dr.call hf; have hfe := (G.le_dr _).trans hf.le
   refine QA_eq rfl ?_
   refine QA_nil ?_
   refine D_yes rfl ?_
   refine OpR_ret cl37 allF rfl rfl rfl rfl rfl (digits_c ((i : Int)) _ hbi) fun g' v h1 h2 => ⟨g', rfl, h1, ?_⟩
   exact h2
  refine D_cons (D_step2 (js := [(1, 7)]) (by kernel_rfl) fun gd hf => ?_) ?_
  ·have hsd := hs.dr.call hf; have hfe := (G.le_dr _).trans hf.le
   refine QA_eq rfl ?_
   refine QA_nil ?_
   refine D_yes rfl ?_
   refine OpR_addS (p := tStep) (q := decI i) rfl rfl rfl (by simp only [List.length_cons, List.length_nil, tStep]; omega) ?_
   exact ⟨_, rfl, Fr0.refl _, rfl⟩
  refine D_cons (D_step2 (js := [(2, 8)]) (by kernel_rfl) fun gd hf => ?_) ?_
  ·have hsd := hs.dr.call hf; have hfe := (G.le_dr _).trans hf.le
   refine QA_eq rfl ?_
   refine QA_nil ?_
   refine D_yes rfl ?_
   refine OpR_addS (p := tStep ++ decI i) (q := tRecipe) rfl rfl rfl (by simp only [List.length_append, List.length_cons, List.length_nil, tStep, tRecipe]; omega) ?_
   exact ⟨_, rfl, Fr0.refl _, rfl⟩
  refine D_s (js := []) (by kernel_rfl) (fun _ _ => QA_nil (DPu T.ok rfl rfl rfl)) ?_
  refine D_s (js := [(4, 10)]) (by kernel_rfl) (fun _ hf => QA_eq rfl (QA_nil (DLe T.ok 0 rfl rfl (ep0.mono ((G.le_dr _).trans hf.le)) rfl rfl rfl))) ?_
  refine D_cons (D_step2 (js := [(5, 11)]) (by kernel_rfl) fun gd hf => ?_) ?_
  ·have hsd := hs.dr.call hf; have hfe := (G.le_dr _).trans hf.le
   refine QA_eq rfl ?_
   refine QA_nil ?_
   refine D_yes rfl ?_
   refine OpR_ret cl37 allF rfl rfl rfl rfl rfl (digits_c (s.recipe) _ hB.n.recipe) fun g' v h1 h2 => ⟨g', rfl, h1, ?_⟩
   exact h2
  refine D_cons (D_step2 (js := [(3, 9), (6, 12)]) (by kernel_rfl) fun gd hf => ?_) ?_
  ·have hsd := hs.dr.call hf; have hfe := (G.le_dr _).trans hf.le
   refine QA_eq rfl ?_; refine QA_eq rfl ?_
   refine QA_nil ?_
   refine D_yes rfl ?_
   refine OpR_addS (p := tStep ++ decI i ++ tRecipe) (q := decI s.recipe) rfl rfl rfl (by simp only [List.length_append, List.length_cons, List.length_nil, tStep, tRecipe]; omega) ?_
   exact ⟨_, rfl, Fr0.refl _, rfl⟩
  refine D_cons (D_step2 (js := [(7, 13)]) (by kernel_rfl) fun gd hf => ?_) ?_
  ·have hsd := hs.dr.call hf; have hfe := (G.le_dr _).trans hf.le
   refine QA_eq rfl ?_
   refine QA_nil ?_
   refine D_yes rfl ?_
   refine OpR_addS (p := tStep ++ decI i ++ tRecipe ++ decI s.recipe) (q := tTools) rfl rfl rfl (by simp only [List.length_append, List.length_cons, List.length_nil, tStep, tRecipe, tTools]; omega) ?_
   exact ⟨_, rfl, Fr0.refl _, rfl⟩
  refine D_s (js := []) (by kernel_rfl) (fun _ _ => QA_nil (DPu T.ok rfl rfl rfl)) ?_
  refine D_s (js := [(9, 15)]) (by kernel_rfl) (fun _ hf => QA_eq rfl (QA_nil (DLe T.ok 1 rfl rfl (ep0.mono ((G.le_dr _).trans hf.le)) rfl rfl rfl))) ?_
  refine D_cons (D_step2 (js := [(10, 16)]) (by kernel_rfl) fun gd hf => ?_) ?_
  ·have hsd := hs.dr.call hf; have hfe := (G.le_dr _).trans hf.le
   refine QA_eq rfl ?_
   refine QA_nil ?_
   refine D_yes rfl ?_
   refine OpR_ret cl54 allF rfl rfl rfl rfl rfl (rlist_c _ (s.tools) _ (rs0.mono hfe) hB.n.toolsN (by omega)) fun g' v h1 h2 => ⟨g', rfl, h1, ?_⟩
   exact h2
  refine D_cons (D_step2 (js := [(8, 14), (11, 17)]) (by kernel_rfl) fun gd hf => ?_) ?_
  ·have hsd := hs.dr.call hf; have hfe := (G.le_dr _).trans hf.le
   refine QA_eq rfl ?_; refine QA_eq rfl ?_
   refine QA_nil ?_
   refine D_yes rfl ?_
   refine OpR_addS (p := tStep ++ decI i ++ tRecipe ++ decI s.recipe ++ tTools) (q := numsM s.tools) rfl rfl rfl (by simp only [List.length_append, List.length_cons, List.length_nil, tStep, tRecipe, tTools]; omega) ?_
   exact ⟨_, rfl, Fr0.refl _, rfl⟩
  refine D_cons (D_step2 (js := [(12, 18)]) (by kernel_rfl) fun gd hf => ?_) ?_
  ·have hsd := hs.dr.call hf; have hfe := (G.le_dr _).trans hf.le
   refine QA_eq rfl ?_
   refine QA_nil ?_
   refine D_yes rfl ?_
   refine OpR_addS (p := tStep ++ decI i ++ tRecipe ++ decI s.recipe ++ tTools ++ numsM s.tools) (q := tTime) rfl rfl rfl (by simp only [List.length_append, List.length_cons, List.length_nil, tStep, tRecipe, tTools, tTime]; omega) ?_
   exact ⟨_, rfl, Fr0.refl _, rfl⟩
  refine D_s (js := []) (by kernel_rfl) (fun _ _ => QA_nil (DPu T.ok rfl rfl rfl)) ?_
  refine D_s (js := [(14, 20)]) (by kernel_rfl) (fun _ hf => QA_eq rfl (QA_nil (DLe T.ok 2 rfl rfl (ep0.mono ((G.le_dr _).trans hf.le)) rfl rfl rfl))) ?_
  refine D_cons (D_step2 (js := [(15, 21)]) (by kernel_rfl) fun gd hf => ?_) ?_
  ·have hsd := hs.dr.call hf; have hfe := (G.le_dr _).trans hf.le
   refine QA_eq rfl ?_
   refine QA_nil ?_
   refine D_yes rfl ?_
   refine OpR_ret cl37 allF rfl rfl rfl rfl rfl (digits_c (s.min) _ hB.n.min) fun g' v h1 h2 => ⟨g', rfl, h1, ?_⟩
   exact h2
  refine D_cons (D_step2 (js := [(13, 19), (16, 22)]) (by kernel_rfl) fun gd hf => ?_) ?_
  ·have hsd := hs.dr.call hf; have hfe := (G.le_dr _).trans hf.le
   refine QA_eq rfl ?_; refine QA_eq rfl ?_
   refine QA_nil ?_
   refine D_yes rfl ?_
   refine OpR_addS (p := tStep ++ decI i ++ tRecipe ++ decI s.recipe ++ tTools ++ numsM s.tools ++ tTime) (q := decI s.min) rfl rfl rfl (by simp only [List.length_append, List.length_cons, List.length_nil, tStep, tRecipe, tTools, tTime]; omega) ?_
   exact ⟨_, rfl, Fr0.refl _, rfl⟩
  refine D_cons (D_step2 (js := [(17, 23)]) (by kernel_rfl) fun gd hf => ?_) ?_
  ·have hsd := hs.dr.call hf; have hfe := (G.le_dr _).trans hf.le
   refine QA_eq rfl ?_
   refine QA_nil ?_
   refine D_yes rfl ?_
   refine OpR_addS (p := tStep ++ decI i ++ tRecipe ++ decI s.recipe ++ tTools ++ numsM s.tools ++ tTime ++ decI s.min) (q := [46, 46]) rfl rfl rfl (by simp only [List.length_append, List.length_cons, List.length_nil, tStep, tRecipe, tTools, tTime]; omega) ?_
   exact ⟨_, rfl, Fr0.refl _, rfl⟩
  refine D_s (js := []) (by kernel_rfl) (fun _ _ => QA_nil (DPu T.ok rfl rfl rfl)) ?_
  refine D_s (js := [(19, 25)]) (by kernel_rfl) (fun _ hf => QA_eq rfl (QA_nil (DLe T.ok 3 rfl rfl (ep0.mono ((G.le_dr _).trans hf.le)) rfl rfl rfl))) ?_
  refine D_cons (D_step2 (js := [(20, 26)]) (by kernel_rfl) fun gd hf => ?_) ?_
  ·have hsd := hs.dr.call hf; have hfe := (G.le_dr _).trans hf.le
   refine QA_eq rfl ?_
   refine QA_nil ?_
   refine D_yes rfl ?_
   refine OpR_ret cl37 allF rfl rfl rfl rfl rfl (digits_c (s.max) _ hB.n.max) fun g' v h1 h2 => ⟨g', rfl, h1, ?_⟩
   exact h2
  refine D_cons (D_step2 (js := [(18, 24), (21, 27)]) (by kernel_rfl) fun gd hf => ?_) ?_
  ·have hsd := hs.dr.call hf; have hfe := (G.le_dr _).trans hf.le
   refine QA_eq rfl ?_; refine QA_eq rfl ?_
   refine QA_nil ?_
   refine D_yes rfl ?_
   refine OpR_addS (p := tStep ++ decI i ++ tRecipe ++ decI s.recipe ++ tTools ++ numsM s.tools ++ tTime ++ decI s.min ++ [46, 46]) (q := decI s.max) rfl rfl rfl (by simp only [List.length_append, List.length_cons, List.length_nil, tStep, tRecipe, tTools, tTime]; omega) ?_
   exact ⟨_, rfl, Fr0.refl _, rfl⟩
  refine D_cons (D_step2 (js := [(22, 28)]) (by kernel_rfl) fun gd hf => ?_) ?_
  ·have hsd := hs.dr.call hf; have hfe := (G.le_dr _).trans hf.le
   refine QA_eq rfl ?_
   refine QA_nil ?_
   refine D_yes rfl ?_
   refine OpR_addS (p := tStep ++ decI i ++ tRecipe ++ decI s.recipe ++ tTools ++ numsM s.tools ++ tTime ++ decI s.min ++ [46, 46] ++ decI s.max) (q := tNext) rfl rfl rfl (by simp only [List.length_append, List.length_cons, List.length_nil, tStep, tRecipe, tTools, tTime, tNext]; omega) ?_
   exact ⟨_, rfl, Fr0.refl _, rfl⟩
  refine D_s (js := []) (by kernel_rfl) (fun _ _ => QA_nil (DPu T.ok rfl rfl rfl)) ?_
  refine D_s (js := [(24, 30)]) (by kernel_rfl) (fun _ hf => QA_eq rfl (QA_nil (DLe T.ok 4 rfl rfl (ep0.mono ((G.le_dr _).trans hf.le)) rfl rfl rfl))) ?_
  refine D_cons (D_step2 (js := [(25, 31)]) (by kernel_rfl) fun gd hf => ?_) ?_
  ·have hsd := hs.dr.call hf; have hfe := (G.le_dr _).trans hf.le
   refine QA_eq rfl ?_
   refine QA_nil ?_
   refine D_yes rfl ?_
   refine OpR_ret cl54 allF rfl rfl rfl rfl rfl (rlist_c _ (s.next) _ (rs1.mono hfe) hB.n.next (by omega)) fun g' v h1 h2 => ⟨g', rfl, h1, ?_⟩
   exact h2
  refine D_cons (D_step2 (js := [(23, 29), (26, 32)]) (by kernel_rfl) fun gd hf => ?_) ?_
  ·have hsd := hs.dr.call hf; have hfe := (G.le_dr _).trans hf.le
   refine QA_eq rfl ?_; refine QA_eq rfl ?_
   refine QA_nil ?_
   refine D_yes rfl ?_
   refine OpR_addS (p := tStep ++ decI i ++ tRecipe ++ decI s.recipe ++ tTools ++ numsM s.tools ++ tTime ++ decI s.min ++ [46, 46] ++ decI s.max ++ tNext) (q := numsM s.next) rfl rfl rfl (by simp only [List.length_append, List.length_cons, List.length_nil, tStep, tRecipe, tTools, tTime, tNext]; omega) ?_
   exact ⟨_, rfl, Fr0.refl _, rfl⟩
  refine D_s (js := [(27, 33), (27, 33)]) (by kernel_rfl) (fun _ _ => QA_eq rfl (QA_eq rfl (QA_nil (DPu T.ok rfl rfl rfl)))) ?_
  exact D_nil
 intro g1 hf1; refine QA_eq rfl ?_; refine QA_nil ?_
 replace hs := hs.dr.call hf1; have hqe := (G.le_dr _).trans hf1.le; replace le0 := G.le.trans le0 hqe; replace ep0 := ep0.mono hqe; replace rs0 := rs0.mono hqe; replace rs1 := rs1.mono hqe
 have hh : tStep ++ decI i ++ tRecipe ++ decI s.recipe ++ tTools ++ numsM s.tools ++ tTime ++ decI s.min ++ [46, 46] ++ decI s.max ++ tNext ++ numsM s.next = headT i s := by
  unfold headT rangeM
  rw [hdi]; simp [List.append_assoc]
 rw [hh]
 rw [stepLine_eq]
 have hhl := headT_len hi hB
 unfold tailT
 generalize headT i s = H at *
 refine WL_nil ?_; (with_reducible refine T_then ?_); refine W_seq ?_; refine W_seq ?_; refine W_region ?_; refine P1 T.ok rfl rfl rfl ?_; refine WL_o rfl rfl (OpR_loadE T.ok 5 rfl ep0 rfl rfl ?_); refine P1 T.ok rfl rfl rfl ?_; refine WL_nil ?_; (with_reducible refine T_then ?_)
 by_cases hbk : 0 ≤ s.back
 ·rw [if_pos hbk]
  have hbb : big s.back ∧ big s.limit := by
   rcases hB.n.back with h | h
   ·omega
   ·exact h
  have l8 := decI_len hbb.1; have l9 := decI_len hbb.2
  refine W_yes (b := _) ?_ rfl ?_
  ·simp [hbk]
  skip
  apply W_draw allF rfl (Fact.eq _ :: Fact.eq _ :: Fact.eq _ :: Fact.eq _ :: Fact.eq _ :: Fact.eq _ :: Fact.eq _ :: Fact.eq _ :: Fact.eq _ :: Fact.eq _ :: Fact.eq _ :: []) 11 [(10, 47)] rfl rfl
  ·refine D_s (js := []) (by kernel_rfl) (fun _ _ => QA_nil (DPu T.ok rfl rfl rfl)) ?_
   refine D_cons (D_step2 (js := [(0, 37)]) (by kernel_rfl) fun gd hf => ?_) ?_
   ·have hsd := hs.dr.call hf; have hfe := (G.le_dr _).trans hf.le
    refine QA_eq rfl ?_
    refine QA_nil ?_
    refine D_yes rfl ?_
    refine OpR_addS (p := H) (q := tBack) rfl rfl rfl (by simp only [List.length_cons, List.length_nil, tBack]; omega) ?_
    exact ⟨_, rfl, Fr0.refl _, rfl⟩
   refine D_s (js := []) (by kernel_rfl) (fun _ _ => QA_nil (DPu T.ok rfl rfl rfl)) ?_
   refine D_s (js := [(2, 39)]) (by kernel_rfl) (fun _ hf => QA_eq rfl (QA_nil (DLe T.ok 5 rfl rfl (ep0.mono ((G.le_dr _).trans hf.le)) rfl rfl rfl))) ?_
   refine D_cons (D_step2 (js := [(3, 40)]) (by kernel_rfl) fun gd hf => ?_) ?_
   ·have hsd := hs.dr.call hf; have hfe := (G.le_dr _).trans hf.le
    refine QA_eq rfl ?_
    refine QA_nil ?_
    refine D_yes rfl ?_
    refine OpR_ret cl37 allF rfl rfl rfl rfl rfl (digits_c (s.back) _ hbb.1) fun g' v h1 h2 => ⟨g', rfl, h1, ?_⟩
    exact h2
   refine D_cons (D_step2 (js := [(1, 38), (4, 41)]) (by kernel_rfl) fun gd hf => ?_) ?_
   ·have hsd := hs.dr.call hf; have hfe := (G.le_dr _).trans hf.le
    refine QA_eq rfl ?_; refine QA_eq rfl ?_
    refine QA_nil ?_
    refine D_yes rfl ?_
    refine OpR_addS (p := H ++ tBack) (q := decI s.back) rfl rfl rfl (by simp only [List.length_append, List.length_cons, List.length_nil, tBack]; omega) ?_
    exact ⟨_, rfl, Fr0.refl _, rfl⟩
   refine D_cons (D_step2 (js := [(5, 42)]) (by kernel_rfl) fun gd hf => ?_) ?_
   ·have hsd := hs.dr.call hf; have hfe := (G.le_dr _).trans hf.le
    refine QA_eq rfl ?_
    refine QA_nil ?_
    refine D_yes rfl ?_
    refine OpR_addS (p := H ++ tBack ++ decI s.back) (q := tLimit) rfl rfl rfl (by simp only [List.length_append, List.length_cons, List.length_nil, tBack, tLimit]; omega) ?_
    exact ⟨_, rfl, Fr0.refl _, rfl⟩
   refine D_s (js := []) (by kernel_rfl) (fun _ _ => QA_nil (DPu T.ok rfl rfl rfl)) ?_
   refine D_s (js := [(7, 44)]) (by kernel_rfl) (fun _ hf => QA_eq rfl (QA_nil (DLe T.ok 6 rfl rfl (ep0.mono ((G.le_dr _).trans hf.le)) rfl rfl rfl))) ?_
   refine D_cons (D_step2 (js := [(8, 45)]) (by kernel_rfl) fun gd hf => ?_) ?_
   ·have hsd := hs.dr.call hf; have hfe := (G.le_dr _).trans hf.le
    refine QA_eq rfl ?_
    refine QA_nil ?_
    refine D_yes rfl ?_
    refine OpR_ret cl37 allF rfl rfl rfl rfl rfl (digits_c (s.limit) _ hbb.2) fun g' v h1 h2 => ⟨g', rfl, h1, ?_⟩
    exact h2
   refine D_cons (D_step2 (js := [(6, 43), (9, 46)]) (by kernel_rfl) fun gd hf => ?_) ?_
   ·have hsd := hs.dr.call hf; have hfe := (G.le_dr _).trans hf.le
    refine QA_eq rfl ?_; refine QA_eq rfl ?_
    refine QA_nil ?_
    refine D_yes rfl ?_
    refine OpR_addS (p := H ++ tBack ++ decI s.back ++ tLimit) (q := decI s.limit) rfl rfl rfl (by simp only [List.length_append, List.length_cons, List.length_nil, tBack, tLimit]; omega) ?_
    exact ⟨_, rfl, Fr0.refl _, rfl⟩
   exact D_nil
  intro g1 hf1; refine QA_eq rfl ?_; refine QA_nil ?_
  replace hs := hs.dr.call hf1; have hqe := (G.le_dr _).trans hf1.le; replace le0 := G.le.trans le0 hqe; replace ep0 := ep0.mono hqe; replace rs0 := rs0.mono hqe; replace rs1 := rs1.mono hqe
  refine P1 T.ok rfl rfl rfl ?_; refine WL_nil ?_; (with_reducible refine T_then ?_); refine W_seq ?_; refine W_region ?_; refine P1 T.ok rfl rfl rfl ?_; refine P1 T.ok rfl rfl rfl ?_; refine WL_nil ?_; (with_reducible refine T_then ?_)
  refine W_ret (ret1 rfl rfl (hs.ret ?_))
  simp [List.append_assoc]
 ·rw [if_neg hbk, List.append_nil]
  refine W_no (b := _) ?_ rfl ?_
  ·simp; omega
  refine W_skip ?_; (with_reducible refine T_then ?_); refine W_seq ?_; refine W_region ?_; refine P1 T.ok rfl rfl rfl ?_; refine P1 T.ok rfl rfl rfl ?_; refine WL_nil ?_; (with_reducible refine T_then ?_)
  exact W_ret (ret1 rfl rfl (hs.ret rfl))
theorem stepsT_take {l : List Step} {k : Nat} (hk : k < l.length) : stepsT 0 (l.take (k + 1)) = stepsT 0 (l.take k) ++ stepLine k l[k] ++ [10] := by
 rw [List.take_succ_eq_append_getElem hk, stepsT_snoc, List.length_take, Nat.zero_add, Nat.min_eq_left (by omega)]
 simp
theorem winsT_take {l : List Window} {k : Nat} (hk : k < l.length) : winsT (l.take (k + 1)) = winsT (l.take k) ++ windowLine l[k] ++ [10] := by
 rw [List.take_succ_eq_append_getElem hk, winsT_snoc]
 simp
theorem rprint_c (v : Value) (f : Flow) (g : G) (fl0 : RFlow g v f) : CallsIn Wd 0 Tryz.prog 12 #[v] g.w (Ret g fun _ r => r = printRes f) := by
 obtain ⟨a1, n1, c1, a2, n2, c2, rfl, rs0, rs1⟩ := id fl0
 obtain ⟨_, _, e⟩ := rs0.isSlice; obtain ⟨rfl, rfl, rfl⟩ := Value.slice.inj e; clear e
 obtain ⟨_, _, e⟩ := rs1.isSlice; obtain ⟨rfl, rfl, rfl⟩ := Value.slice.inj e; clear e
 clear fl0
 have hs := St.start g
 have le0 := G.le.refl g
 refine enter Tryz.func12 rfl Tryz.ntmps12 rfl ?_
 refine W_seq ?_; refine W_region ?_
 refine WL_o rfl rfl (OpR_box rfl hs rfl rfl ?_); clear hs; rintro bx g1 hs hqe; replace le0 := G.le.trans le0 hqe; replace rs0 := rs0.mono hqe; replace rs1 := rs1.mono hqe
 obtain ⟨g2, hw2, hs2, hqe, hep⟩ := hs.fzObj (i := 0) rfl; replace hs := hs2; clear hs2; rw [← hw2]; replace le0 := G.le.trans le0 hqe; replace rs0 := rs0.mono hqe; replace rs1 := rs1.mono hqe
 have ep0 := hep
 clear hep hw2 hqe
 refine P1 T.ok rfl rfl rfl ?_; refine P1 T.ok rfl rfl rfl ?_; refine WL_nil ?_; (with_reducible refine T_then ?_); refine W_seq ?_; refine W_seq ?_; refine W_region ?_; refine WL_o rfl rfl (OpR_loadE T.ok 0 rfl ep0 rfl rfl ?_)
 refine WL_o rfl rfl (OpR_ret cl13 allF rfl rfl rfl rfl rfl (rvalid_c _ f _ ⟨_, _, _, _, _, _, rfl, rs0, rs1⟩) ?_); rintro g1 _ hf1 rfl; replace hs := hs.call hf1; have hqe := hf1.le; replace le0 := G.le.trans le0 hqe; replace ep0 := ep0.mono hqe; replace rs0 := rs0.mono hqe; replace rs1 := rs1.mono hqe
 refine P1 T.ok rfl rfl rfl ?_; refine WL_nil ?_; (with_reducible refine T_then ?_)
 cases hv : valid f with
 | false =>
  rw [printRes_no hv]
  refine W_yes rfl rfl ?_
  refine W_seq ?_; refine W_region ?_; refine P1 T.ok rfl rfl rfl ?_; refine P1 T.ok rfl rfl rfl ?_; refine WL_nil ?_; (with_reducible refine T_then ?_)
  exact W_ret (ret2 rfl rfl rfl (hs.ret rfl))
 | true =>
 rw [printRes_yes hv]
 have hB := valid_N hv
 have h40 := hB.n40; have h20 := hB.w20
 refine W_no rfl rfl ?_
 have l1 := decI_len hB.min; have l2 := decI_len hB.max
 have hbmin := hB.min; have hbmax := hB.max
 refine W_skip ?_; (with_reducible refine T_then ?_); refine W_seq ?_
 apply W_draw allF rfl (Fact.eq _ :: Fact.eq _ :: Fact.eq _ :: Fact.eq _ :: Fact.eq _ :: Fact.eq _ :: Fact.eq _ :: Fact.eq _ :: Fact.eq _ :: Fact.eq _ :: Fact.eq _ :: []) 11 [(10, 4)] rfl rfl
 ·refine D_s (js := []) (by kernel_rfl) (fun _ _ => QA_nil (DPu T.ok rfl rfl rfl)) ?_
  refine D_s (js := [(0, 10)]) (by kernel_rfl) (fun _ hf => QA_eq rfl (QA_nil (DLe T.ok 0 rfl rfl (ep0.mono ((G.le_dr _).trans hf.le)) rfl rfl rfl))) ?_
  refine D_cons (D_step2 (js := [(1, 11)]) (by kernel_rfl) fun gd hf => ?_) ?_
  ·have hsd := hs.dr.call hf; have hfe := (G.le_dr _).trans hf.le
   refine QA_eq rfl ?_
   refine QA_nil ?_
   refine D_yes rfl ?_
   refine OpR_ret cl37 allF rfl rfl rfl rfl rfl (digits_c (f.moveMin) _ hbmin) fun g' v h1 h2 => ⟨g', rfl, h1, ?_⟩
   exact h2
  refine D_cons (D_step2 (js := [(2, 12)]) (by kernel_rfl) fun gd hf => ?_) ?_
  ·have hsd := hs.dr.call hf; have hfe := (G.le_dr _).trans hf.le
   refine QA_eq rfl ?_
   refine QA_nil ?_
   refine D_yes rfl ?_
   refine OpR_addS (p := tMove) (q := decI f.moveMin) rfl rfl rfl (by simp only [List.length_cons, List.length_nil, tMove]; omega) ?_
   exact ⟨_, rfl, Fr0.refl _, rfl⟩
  refine D_cons (D_step2 (js := [(3, 13)]) (by kernel_rfl) fun gd hf => ?_) ?_
  ·have hsd := hs.dr.call hf; have hfe := (G.le_dr _).trans hf.le
   refine QA_eq rfl ?_
   refine QA_nil ?_
   refine D_yes rfl ?_
   refine OpR_addS (p := tMove ++ decI f.moveMin) (q := [46, 46]) rfl rfl rfl (by simp only [List.length_append, List.length_cons, List.length_nil, tMove]; omega) ?_
   exact ⟨_, rfl, Fr0.refl _, rfl⟩
  refine D_s (js := []) (by kernel_rfl) (fun _ _ => QA_nil (DPu T.ok rfl rfl rfl)) ?_
  refine D_s (js := [(5, 15)]) (by kernel_rfl) (fun _ hf => QA_eq rfl (QA_nil (DLe T.ok 1 rfl rfl (ep0.mono ((G.le_dr _).trans hf.le)) rfl rfl rfl))) ?_
  refine D_cons (D_step2 (js := [(6, 16)]) (by kernel_rfl) fun gd hf => ?_) ?_
  ·have hsd := hs.dr.call hf; have hfe := (G.le_dr _).trans hf.le
   refine QA_eq rfl ?_
   refine QA_nil ?_
   refine D_yes rfl ?_
   refine OpR_ret cl37 allF rfl rfl rfl rfl rfl (digits_c (f.moveMax) _ hbmax) fun g' v h1 h2 => ⟨g', rfl, h1, ?_⟩
   exact h2
  refine D_cons (D_step2 (js := [(4, 14), (7, 17)]) (by kernel_rfl) fun gd hf => ?_) ?_
  ·have hsd := hs.dr.call hf; have hfe := (G.le_dr _).trans hf.le
   refine QA_eq rfl ?_; refine QA_eq rfl ?_
   refine QA_nil ?_
   refine D_yes rfl ?_
   refine OpR_addS (p := tMove ++ decI f.moveMin ++ [46, 46]) (q := decI f.moveMax) rfl rfl rfl (by simp only [List.length_append, List.length_cons, List.length_nil, tMove]; omega) ?_
   exact ⟨_, rfl, Fr0.refl _, rfl⟩
  refine D_cons (D_step2 (js := [(8, 18)]) (by kernel_rfl) fun gd hf => ?_) ?_
  ·have hsd := hs.dr.call hf; have hfe := (G.le_dr _).trans hf.le
   refine QA_eq rfl ?_
   refine QA_nil ?_
   refine D_yes rfl ?_
   refine OpR_addS (p := tMove ++ decI f.moveMin ++ [46, 46] ++ decI f.moveMax) (q := [10]) rfl rfl rfl (by simp only [List.length_append, List.length_cons, List.length_nil, tMove]; omega) ?_
   exact ⟨_, rfl, Fr0.refl _, rfl⟩
  refine D_s (js := [(9, 19), (9, 19)]) (by kernel_rfl) (fun _ _ => QA_eq rfl (QA_eq rfl (QA_nil (DPu T.ok rfl rfl rfl)))) ?_
  exact D_nil
 intro g1 hf1; refine QA_eq rfl ?_; refine QA_nil ?_
 replace hs := hs.dr.call hf1; have hqe := (G.le_dr _).trans hf1.le; replace le0 := G.le.trans le0 hqe; replace ep0 := ep0.mono hqe; replace rs0 := rs0.mono hqe; replace rs1 := rs1.mono hqe
 have hmv : tMove ++ decI f.moveMin ++ [46, 46] ++ decI f.moveMax ++ [10] = moveLine f.moveMin f.moveMax ++ [10] := by
  rw [moveLine_eq]; unfold rangeM; simp
 have hml := moveLine_len hB.min hB.max
 have hpr : printM f = moveLine f.moveMin f.moveMax ++ [10] ++ stepsT 0 f.steps ++ winsT f.windows := by unfold printM; simp
 rw [hmv]
 generalize moveLine f.moveMin f.moveMax = M0 at *
 refine WL_nil ?_; (with_reducible refine T_then ?_); refine W_seq ?_; refine W_seq ?_; refine W_region ?_; refine P1 T.ok rfl rfl rfl ?_; refine WL_nil ?_; (with_reducible refine T_then ?_); refine W_block ?_
 have rs0c := rs0; have rs1c := rs1; have ep0c := ep0
 refine W_loop (fun m a' w => ∃ (k : Nat) (g4 : G), w = g4.w ∧ St g g4 [] ∧ G.le g1 g4 ∧ k ≤ f.steps.length ∧ m = f.steps.length - k ∧
   Fr 54 [] [(1, .pointer (some ⟨bx, 0, none⟩)), (4, .string (bs (M0 ++ [10] ++ stepsT 0 (f.steps.take k)))), (5, .int .i64 k)] a') f.steps.length (fun a' ha => ⟨0, g1, rfl, hs, G.le.refl _, Nat.zero_le _, rfl, ha.keep ⟨rfl, kV rfl (by simp [stepsT]), rfl, trivial⟩⟩) ?_
 clear hs le0 rs0 rs1 ep0
 rintro m a' _ ⟨k, g4, rfl, hs, le8, hk, rfl, ha'⟩
 have rs0 := rs0c.mono le8
 have rs1 := rs1c.mono le8
 have ep0 := ep0c.mono le8
 have hsl := stepsT_len (l := f.steps.take k) (k := 0) (by rw [List.length_take]; omega) fun s hs => hB.steps s (List.mem_of_mem_take hs)
 rw [List.length_take] at hsl
 have hsl2 : (stepsT 0 (f.steps.take k)).length ≤ 8000 := by omega
 revert a'
 (with_reducible refine T_wp ?_); refine W_seq ?_; refine W_seq ?_; refine W_region ?_; refine P1 T.ok rfl rfl rfl ?_; refine P1 T.ok rfl rfl rfl ?_; refine WL_o rfl rfl (OpR_loadE T.ok 2 rfl ep0 rfl rfl ?_); refine P1 T.ok rfl rfl rfl ?_; refine P1 T.ok rfl rfl rfl ?_; refine WL_nil ?_; (with_reducible refine T_then ?_)
 by_cases hlt : k < f.steps.length
 ·refine W_yes (b := _) ?_ rfl ?_
  ·simp; omega
  have hg1 : geti f.steps (k : Int) = some f.steps[k] := by simp [geti, hlt]
  have hst := stepsT_take hlt
  have hsB := hB.steps _ (List.getElem_mem hlt)
  have hh1 := headT_len (i := k) (by omega) hsB
  have hh2 := tailT_len hsB
  have hle := stepLine_eq k f.steps[k]
  generalize f.steps[k] = s at *
  have hsll : (stepLine k s).length ≤ 200 := by rw [hle, List.length_append]; omega
  refine W_skip ?_; (with_reducible refine T_then ?_); refine W_seq ?_; refine W_block ?_; refine W_region ?_; (iterate 3 refine P1 T.ok rfl rfl rfl ?_); refine WL_o rfl rfl (OpR_loadE T.ok 2 rfl ep0 rfl rfl ?_); refine P1 T.ok rfl rfl rfl ?_
  refine WL_o rfl rfl (OpR_idx T.ok rfl rs0 (y := s) hg1 rfl rfl rfl rfl rfl rfl ?_)
  rintro bq pq ys hep ⟨xa, xn, xc, na, nn, nc, rfl, rs4, rs5⟩
  refine WL_o rfl rfl (OpR_loadE T.ok 0 rfl hep rfl rfl ?_)
  refine WL_o rfl rfl (OpR_ret cl20 allF rfl rfl rfl rfl rfl (rstepLine_c k _ s _ ⟨_, rfl, _, _, _, _, _, _, rfl, rs4, rs5⟩ (by omega) hsB) ?_); rintro g1 _ hf1 rfl; replace hs := hs.call hf1; have hqe := hf1.le; replace le8 := G.le.trans le8 hqe; replace ep0 := ep0.mono hqe; replace rs0 := rs0.mono hqe; replace rs1 := rs1.mono hqe; replace rs4 := rs4.mono hqe; replace rs5 := rs5.mono hqe
  refine WL_o rfl rfl (OpR_addS (p := M0 ++ [10] ++ stepsT 0 (f.steps.take k)) (q := stepLine k s) rfl rfl rfl (by simp only [List.length_append, List.length_singleton]; omega) ?_)
  refine WL_o rfl rfl (OpR_addS (p := M0 ++ [10] ++ stepsT 0 (f.steps.take k) ++ stepLine k s) (q := [10]) rfl rfl rfl (by simp only [List.length_append, List.length_singleton]; omega) ?_)
  refine P1 T.ok rfl rfl rfl ?_; refine WL_nil ?_; (with_reducible refine T_bn ?_); (with_reducible refine T_then ?_); refine W_region ?_; (iterate 3 refine P1 T.ok rfl rfl rfl ?_); refine WL_nil ?_
  exact fun a ha => ⟨f.steps.length - (k + 1), by omega, k + 1, _, rfl, hs, le8, by omega, rfl, ha.keep ⟨rfl, kV rfl (by rw [hst]; simp [List.append_assoc]), kI rfl (by rw [wr (by omega) (by omega)]; omega), trivial⟩⟩
 ·refine W_no (b := _) ?_ rfl ?_
  ·simp; omega
  obtain rfl : k = f.steps.length := by omega
  rw [List.take_length] at hsl2 ⊢
  refine W_exit ?_; (with_reducible refine T_tx ?_; with_reducible refine T_tx ?_); (with_reducible refine T_bx ?_); (with_reducible refine T_then ?_); refine W_seq ?_; refine W_seq ?_; refine W_region ?_; refine P1 T.ok rfl rfl rfl ?_; refine WL_nil ?_; (with_reducible refine T_then ?_); refine W_block ?_
  have rs1d := rs1; have ep0d := ep0
  refine W_loop (fun m a' w => ∃ (k : Nat) (g5 : G), w = g5.w ∧ St g g5 [] ∧ G.le g4 g5 ∧ k ≤ f.windows.length ∧ m = f.windows.length - k ∧
    Fr 54 [] [(1, .pointer (some ⟨bx, 0, none⟩)), (4, .string (bs (M0 ++ [10] ++ stepsT 0 f.steps ++ winsT (f.windows.take k)))), (6, .int .i64 k)] a') f.windows.length (fun a' ha => ⟨0, g4, rfl, hs, G.le.refl _, Nat.zero_le _, rfl, ha.keep ⟨rfl, kV rfl (by simp [winsT]), rfl, trivial⟩⟩) ?_
  clear hs le8 rs0 rs1 ep0 hlt hk
  rintro m a' _ ⟨k, g5, rfl, hs, le8, hk, rfl, ha'⟩
  have rs1 := rs1d.mono le8
  have ep0 := ep0d.mono le8
  have hwl := winsT_len (l := f.windows.take k) fun w hw => hB.wins w (List.mem_of_mem_take hw)
  rw [List.length_take] at hwl
  have hwl2 : (winsT (f.windows.take k)).length ≤ 1000 := by omega
  revert a'
  (with_reducible refine T_wp ?_); refine W_seq ?_; refine W_seq ?_; refine W_region ?_; refine P1 T.ok rfl rfl rfl ?_; refine P1 T.ok rfl rfl rfl ?_; refine WL_o rfl rfl (OpR_loadE T.ok 3 rfl ep0 rfl rfl ?_); refine P1 T.ok rfl rfl rfl ?_; refine P1 T.ok rfl rfl rfl ?_; refine WL_nil ?_; (with_reducible refine T_then ?_)
  by_cases hlt : k < f.windows.length
  ·refine W_yes (b := _) ?_ rfl ?_
   ·simp; omega
   have hg1 : geti f.windows (k : Int) = some f.windows[k] := by simp [geti, hlt]
   have hst := winsT_take hlt
   have hwB := hB.wins _ (List.getElem_mem hlt)
   have hh1 := windowLine_len hwB
   generalize f.windows[k] = w0 at *
   refine W_skip ?_; (with_reducible refine T_then ?_); refine W_seq ?_; refine W_block ?_; refine W_region ?_; refine P1 T.ok rfl rfl rfl ?_; refine P1 T.ok rfl rfl rfl ?_; refine WL_o rfl rfl (OpR_loadE T.ok 3 rfl ep0 rfl rfl ?_); refine P1 T.ok rfl rfl rfl ?_
   refine WL_o rfl rfl (OpR_idx T.ok rfl rs1 (y := w0) hg1 rfl rfl rfl rfl rfl rfl ?_)
   rintro bq pq ys hep rfl
   refine WL_o rfl rfl (OpR_loadE T.ok 0 rfl hep rfl rfl ?_)
   refine WL_o rfl rfl (OpR_ret cl21 allF rfl rfl rfl rfl rfl (rwindowLine_c w0 _ hwB) ?_); rintro g1 _ hf1 rfl; replace hs := hs.call hf1; have hqe := hf1.le; replace le8 := G.le.trans le8 hqe; replace ep0 := ep0.mono hqe; replace rs1 := rs1.mono hqe
   refine WL_o rfl rfl (OpR_addS (p := M0 ++ [10] ++ stepsT 0 f.steps ++ winsT (f.windows.take k)) (q := windowLine w0) rfl rfl rfl (by simp only [List.length_append, List.length_singleton]; omega) ?_)
   refine WL_o rfl rfl (OpR_addS (p := M0 ++ [10] ++ stepsT 0 f.steps ++ winsT (f.windows.take k) ++ windowLine w0) (q := [10]) rfl rfl rfl (by simp only [List.length_append, List.length_singleton]; omega) ?_)
   refine P1 T.ok rfl rfl rfl ?_; refine WL_nil ?_; (with_reducible refine T_bn ?_); (with_reducible refine T_then ?_); refine W_region ?_; (iterate 3 refine P1 T.ok rfl rfl rfl ?_); refine WL_nil ?_
   exact fun a ha => ⟨f.windows.length - (k + 1), by omega, k + 1, _, rfl, hs, le8, by omega, rfl, ha.keep ⟨rfl, kV rfl (by rw [hst]; simp [List.append_assoc]), kI rfl (by rw [wr (by omega) (by omega)]; omega), trivial⟩⟩
  ·refine W_no (b := _) ?_ rfl ?_
   ·simp; omega
   obtain rfl : k = f.windows.length := by omega
   rw [List.take_length]
   refine W_exit ?_; (with_reducible refine T_tx ?_; with_reducible refine T_tx ?_); (with_reducible refine T_bx ?_); (with_reducible refine T_then ?_); refine W_seq ?_; refine W_region ?_; (iterate 3 refine P1 T.ok rfl rfl rfl ?_); refine WL_nil ?_; (with_reducible refine T_then ?_)
   rw [← hpr]
   exact W_ret (ret2 rfl rfl rfl (hs.ret rfl))
end Go.Proofs.YtnaeopehmdcplaaGreatDoor
