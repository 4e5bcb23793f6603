/- The reference's words and numbers. -/
import Derived.Test.YtnaeopehmdcplaaGreatDoorYs

/- The reference's Text: word, begins, number, numbers. -/
namespace Go.Proofs.YtnaeopehmdcplaaGreatDoor
open Go Go.K
set_option maxRecDepth 10000
attribute [local irreducible] W WL OpR bitAnd bitOr bitXor bitClr bitNot shlI shrI
set_option maxHeartbeats 16000000

/-- A text that is read: the whole, from where on, whether all was well. -/
def txO (b : Nat) (s : List UInt8) (at' : Nat) (ok : Bool) : Ent := .obj b (.cells [.string (bs s), .int .i64 at', .bool ok].toArray 100 (0, 0))
/-- The state behind a reading: what is left, and whether all was well. -/
def TxPost (b : Nat) (s : List UInt8) (L : List Ent) (g0 g' : G) (ok : Bool) (r : List UInt8) : Prop := ∃ at' : Nat, at' ≤ s.length ∧ s.drop at' = r ∧ St g0 g' (txO b s at' ok :: L)
theorem prefix_take {w r : List UInt8} : w.isPrefixOf r = (decide (w.length ≤ r.length) && (r.take w.length == w)) := by
 by_cases h : w.isPrefixOf r = true
 ·obtain ⟨t, rfl⟩ := List.isPrefixOf_iff_prefix.1 h
  rw [h]; simp
 ·have h0 : w.isPrefixOf r = false := Bool.eq_false_iff.2 h
  rw [h0]
  cases hq : (r.take w.length == w) with
  | false => simp
  | true =>
   have e : r.take w.length = w := by simpa using hq
   exact absurd (List.isPrefixOf_iff_prefix.2 ⟨r.drop w.length, by conv => rhs; rw [← List.take_append_drop w.length r, e]⟩) h





theorem word_c {b : Nat} {s w : List UInt8} {at' : Nat} {ok : Bool} {g0 g : G} {L : List Ent} (hat : at' ≤ s.length) (hsl : s.length ≤ 1000000) (hwl : w.length ≤ 1000000) (hs : St g0 g (txO b s at' ok :: L)) :
  CallsIn Wd 0 Tryz.prog 68 #[.pointer (some ⟨b, 0, none⟩), .string (bs w)] g.w (RetS g fun g' r => r = .tuple #[] ∧ TxPost b s L g0 g' (wordR w ok (s.drop at')).1 (wordR w ok (s.drop at')).2) := by
 have le0 := G.le.refl g
 unfold TxPost txO at *
 refine enter Tryz.func68 rfl Tryz.ntmps68 rfl ?_
 have hpt : w.isPrefixOf (s.drop at') = (decide (w.length ≤ s.length - at') && ((s.take (at' + w.length)).drop at' == w)) := by
  rw [prefix_take, List.length_drop, List.drop_take, Nat.add_sub_cancel_left]
 cases ok with
 | false =>
  have hw : wordR w false (s.drop at') = (false, s.drop at') := by unfold wordR; rw [if_neg (by simp)]
  rw [hw]
  refine W_seq ?_; refine W_seq ?_
  apply W_draw allF rfl (Fact.eq _ :: Fact.eq _ :: Fact.eq _ :: Fact.eq _ :: Fact.eq _ :: Fact.eq _ :: Fact.eq _ :: Fact.eq _ :: Fact.eq _ :: Fact.eq _ :: Fact.eq _ :: Fact.eq _ :: Fact.eq _ :: Fact.eq _ :: Fact.eq _ :: Fact.eq _ :: Fact.eq _ :: Fact.eq _ :: Fact.eq _ :: Fact.eq _ :: Fact.eq _ :: Fact.eq _ :: Fact.eq _ :: Fact.eq _ :: Fact.eq _ :: Fact.eq _ :: Fact.eq _ :: Fact.eq _ :: Fact.eq _ :: Fact.eq _ :: Fact.eq _ :: Fact.eq _ :: Fact.eq _ :: Fact.eq _ :: Fact.eq _ :: Fact.eq _ :: Fact.eq _ :: Fact.eq _ :: Fact.eq _ :: Fact.eq _ :: []) 40 [(39, 43)] rfl rfl
  ·refine D_s (js := []) (by kernel_rfl) (fun _ _ => QA_nil (DPu T.ok rfl rfl rfl)) ?_
   refine D_s (js := [(0, 4)]) (by kernel_rfl) (fun _ _ => QA_eq rfl (QA_nil (DPu T.ok rfl rfl rfl))) ?_
   refine D_s (js := [(1, 5)]) (by kernel_rfl) (fun _ _ => QA_eq rfl (QA_nil (DPu T.ok rfl rfl rfl))) ?_
   refine D_s (js := [(2, 6)]) (by kernel_rfl) (fun _ hf => QA_eq rfl (QA_nil (DLo T.ok 0 rfl rfl (hs.dr.call hf) rfl rfl rfl rfl))) ?_
   refine D_s (js := [(3, 7)]) (by kernel_rfl) (fun _ _ => QA_eq rfl (QA_nil (DPu T.ok rfl rfl rfl))) ?_
   refine D_s (js := [(4, 8)]) (by kernel_rfl) (fun _ _ => QA_eq rfl (QA_nil (DPu T.ok rfl rfl rfl))) ?_
   refine D_s (js := [(5, 9)]) (by kernel_rfl) (fun _ _ => QA_eq rfl (QA_nil (DNo rfl rfl))) ?_
   refine D_s (js := [(6, 10), (5, 9)]) (by kernel_rfl) (fun _ _ => QA_eq rfl (QA_eq rfl (QA_nil (DNo rfl rfl)))) ?_
   refine D_s (js := [(7, 11), (5, 9)]) (by kernel_rfl) (fun _ _ => QA_eq rfl (QA_eq rfl (QA_nil (DNo rfl rfl)))) ?_
   refine D_s (js := [(8, 12), (5, 9)]) (by kernel_rfl) (fun _ _ => QA_eq rfl (QA_eq rfl (QA_nil (DNo rfl rfl)))) ?_
   refine D_s (js := [(9, 13), (5, 9)]) (by kernel_rfl) (fun _ _ => QA_eq rfl (QA_eq rfl (QA_nil (DNo rfl rfl)))) ?_
   refine D_s (js := [(5, 9)]) (by kernel_rfl) (fun _ _ => QA_eq rfl (QA_nil (DNo rfl rfl))) ?_
   refine D_s (js := [(11, 15), (5, 9)]) (by kernel_rfl) (fun _ _ => QA_eq rfl (QA_eq rfl (QA_nil (DNo rfl rfl)))) ?_
   refine D_s (js := [(12, 16), (5, 9)]) (by kernel_rfl) (fun _ _ => QA_eq rfl (QA_eq rfl (QA_nil (DNo rfl rfl)))) ?_
   refine D_s (js := [(13, 17), (5, 9)]) (by kernel_rfl) (fun _ _ => QA_eq rfl (QA_eq rfl (QA_nil (DNo rfl rfl)))) ?_
   refine D_s (js := [(10, 14), (14, 18), (5, 9)]) (by kernel_rfl) (fun _ _ => QA_eq rfl (QA_eq rfl (QA_eq rfl (QA_nil (DNo rfl rfl))))) ?_
   refine D_s (js := [(5, 9)]) (by kernel_rfl) (fun _ _ => QA_eq rfl (QA_nil (DNo rfl rfl))) ?_
   refine D_s (js := [(16, 20), (5, 9)]) (by kernel_rfl) (fun _ _ => QA_eq rfl (QA_eq rfl (QA_nil (DNo rfl rfl)))) ?_
   refine D_s (js := [(15, 19), (17, 21), (5, 9)]) (by kernel_rfl) (fun _ _ => QA_eq rfl (QA_eq rfl (QA_eq rfl (QA_nil (DNo rfl rfl))))) ?_
   refine D_s (js := [(5, 9), (18, 22)]) (by kernel_rfl) (fun _ _ => QA_eq rfl (QA_eq rfl (QA_nil (DPu T.ok rfl rfl rfl)))) ?_
   refine D_s (js := [(19, 23)]) (by kernel_rfl) (fun _ _ => QA_eq rfl (QA_nil (DPu T.ok rfl rfl rfl))) ?_
   refine D_s (js := [(20, 24)]) (by kernel_rfl) (fun _ _ => QA_eq rfl (QA_nil (DNo rfl rfl))) ?_
   refine D_s (js := [(21, 25), (20, 24)]) (by kernel_rfl) (fun _ _ => QA_eq rfl (QA_eq rfl (QA_nil (DNo rfl rfl)))) ?_
   refine D_s (js := [(22, 26), (20, 24)]) (by kernel_rfl) (fun _ _ => QA_eq rfl (QA_eq rfl (QA_nil (DNo rfl rfl)))) ?_
   refine D_s (js := [(23, 27), (20, 24)]) (by kernel_rfl) (fun _ _ => QA_eq rfl (QA_eq rfl (QA_nil (DNo rfl rfl)))) ?_
   refine D_s (js := [(20, 24)]) (by kernel_rfl) (fun _ _ => QA_eq rfl (QA_nil (DNo rfl rfl))) ?_
   refine D_s (js := [(25, 29), (20, 24)]) (by kernel_rfl) (fun _ _ => QA_eq rfl (QA_eq rfl (QA_nil (DNo rfl rfl)))) ?_
   refine D_s (js := [(26, 30), (20, 24)]) (by kernel_rfl) (fun _ _ => QA_eq rfl (QA_eq rfl (QA_nil (DNo rfl rfl)))) ?_
   refine D_s (js := [(27, 31), (20, 24)]) (by kernel_rfl) (fun _ _ => QA_eq rfl (QA_eq rfl (QA_nil (DNo rfl rfl)))) ?_
   refine D_s (js := [(20, 24)]) (by kernel_rfl) (fun _ _ => QA_eq rfl (QA_nil (DNo rfl rfl))) ?_
   refine D_s (js := [(29, 33), (20, 24)]) (by kernel_rfl) (fun _ _ => QA_eq rfl (QA_eq rfl (QA_nil (DNo rfl rfl)))) ?_
   refine D_s (js := [(30, 34), (20, 24)]) (by kernel_rfl) (fun _ _ => QA_eq rfl (QA_eq rfl (QA_nil (DNo rfl rfl)))) ?_
   refine D_s (js := [(31, 35), (20, 24)]) (by kernel_rfl) (fun _ _ => QA_eq rfl (QA_eq rfl (QA_nil (DNo rfl rfl)))) ?_
   refine D_s (js := [(20, 24)]) (by kernel_rfl) (fun _ _ => QA_eq rfl (QA_nil (DNo rfl rfl))) ?_
   refine D_s (js := [(33, 37), (20, 24)]) (by kernel_rfl) (fun _ _ => QA_eq rfl (QA_eq rfl (QA_nil (DNo rfl rfl)))) ?_
   refine D_s (js := [(32, 36), (34, 38), (20, 24)]) (by kernel_rfl) (fun _ _ => QA_eq rfl (QA_eq rfl (QA_eq rfl (QA_nil (DNo rfl rfl))))) ?_
   refine D_s (js := [(24, 28), (28, 32), (35, 39), (20, 24)]) (by kernel_rfl) (fun _ _ => QA_eq rfl (QA_eq rfl (QA_eq rfl (QA_eq rfl (QA_nil (DNo rfl rfl)))))) ?_
   refine D_s (js := [(20, 24)]) (by kernel_rfl) (fun _ _ => QA_eq rfl (QA_nil (DNo rfl rfl))) ?_
   refine D_s (js := [(36, 40), (37, 41), (20, 24)]) (by kernel_rfl) (fun _ _ => QA_eq rfl (QA_eq rfl (QA_eq rfl (QA_nil (DNo rfl rfl))))) ?_
   refine D_s (js := [(20, 24), (38, 42)]) (by kernel_rfl) (fun _ _ => QA_eq rfl (QA_eq rfl (QA_nil (DPu T.ok rfl rfl rfl)))) ?_
   exact D_nil
  intro g1 hf1; refine QA_eq rfl ?_; refine QA_nil ?_
  replace hs := hs.dr.call hf1; have hqe := (G.le_dr _).trans hf1.le; replace le0 := G.le.trans le0 hqe
  refine WL_nil ?_; (with_reducible refine T_then ?_)
  refine W_yes rfl rfl ?_
  refine W_seq ?_; refine W_region ?_; (iterate 3 refine P1 T.ok rfl rfl rfl ?_)
  refine WL_n rfl (OpR_storeO T.ok 0 rfl hs rfl rfl rfl rfl rfl rfl rfl rfl rfl ?_); replace hs := hs; rintro g1 hs hqe; replace le0 := G.le.trans le0 hqe
  refine WL_nil ?_; (with_reducible refine T_then ?_)
  refine W_ret ?_
  (with_reducible refine T_tr ?_)
  exact ret0 rfl (RetS.intro le0 ⟨rfl, at', hat, rfl, hs⟩)
 | true =>
  cases e1 : decide (((s.length - at' : Nat) : Int) < (w.length : Int)) with
  | true =>
   have hlt : ¬ w.length ≤ s.length - at' := by simp at e1; omega
   have hw : wordR w true (s.drop at') = (false, s.drop at') := by
    unfold wordR; rw [if_neg]; rw [hpt, decide_eq_false hlt]; simp
   rw [hw]
   refine W_seq ?_; refine W_seq ?_
   apply W_draw allF rfl (Fact.eq _ :: Fact.eq _ :: Fact.eq _ :: Fact.eq _ :: Fact.eq _ :: Fact.eq _ :: Fact.eq _ :: Fact.eq _ :: Fact.eq _ :: Fact.eq _ :: Fact.eq _ :: Fact.eq _ :: Fact.eq _ :: Fact.eq _ :: Fact.eq _ :: Fact.eq _ :: Fact.eq _ :: Fact.eq _ :: Fact.eq _ :: Fact.eq _ :: Fact.eq _ :: Fact.eq _ :: Fact.eq _ :: Fact.eq _ :: Fact.eq _ :: Fact.eq _ :: Fact.eq _ :: Fact.eq _ :: Fact.eq _ :: Fact.eq _ :: Fact.eq _ :: Fact.eq _ :: Fact.eq _ :: Fact.eq _ :: Fact.eq _ :: Fact.eq _ :: Fact.eq _ :: Fact.eq _ :: Fact.eq _ :: Fact.eq _ :: []) 40 [(39, 43)] rfl rfl
   ·refine D_s (js := []) (by kernel_rfl) (fun _ _ => QA_nil (DPu T.ok rfl rfl rfl)) ?_
    refine D_s (js := [(0, 4)]) (by kernel_rfl) (fun _ _ => QA_eq rfl (QA_nil (DPu T.ok rfl rfl rfl))) ?_
    refine D_s (js := [(1, 5)]) (by kernel_rfl) (fun _ _ => QA_eq rfl (QA_nil (DPu T.ok rfl rfl rfl))) ?_
    refine D_s (js := [(2, 6)]) (by kernel_rfl) (fun _ hf => QA_eq rfl (QA_nil (DLo T.ok 0 rfl rfl (hs.dr.call hf) rfl rfl rfl rfl))) ?_
    refine D_s (js := [(3, 7)]) (by kernel_rfl) (fun _ _ => QA_eq rfl (QA_nil (DPu T.ok rfl rfl rfl))) ?_
    refine D_s (js := [(4, 8)]) (by kernel_rfl) (fun _ _ => QA_eq rfl (QA_nil (DPu T.ok rfl rfl rfl))) ?_
    refine D_s (js := [(5, 9)]) (by kernel_rfl) (fun _ _ => QA_eq rfl (QA_nil (DPu T.ok rfl rfl rfl))) ?_
    refine D_s (js := [(6, 10), (5, 9)]) (by kernel_rfl) (fun _ _ => QA_eq rfl (QA_eq rfl (QA_nil (DPu T.ok rfl rfl rfl)))) ?_
    refine D_s (js := [(7, 11), (5, 9)]) (by kernel_rfl) (fun _ _ => QA_eq rfl (QA_eq rfl (QA_nil (DPu T.ok rfl rfl rfl)))) ?_
    refine D_s (js := [(8, 12), (5, 9)]) (by kernel_rfl) (fun _ hf => QA_eq rfl (QA_eq rfl (QA_nil (DLo T.ok 0 rfl rfl (hs.dr.call hf) rfl rfl rfl rfl)))) ?_
    refine D_s (js := [(9, 13), (5, 9)]) (by kernel_rfl) (fun _ _ => QA_eq rfl (QA_eq rfl (QA_nil (DPu T.ok rfl rfl rfl)))) ?_
    refine D_s (js := [(5, 9)]) (by kernel_rfl) (fun _ _ => QA_eq rfl (QA_nil (DPu T.ok rfl rfl rfl))) ?_
    refine D_s (js := [(11, 15), (5, 9)]) (by kernel_rfl) (fun _ _ => QA_eq rfl (QA_eq rfl (QA_nil (DPu T.ok rfl rfl rfl)))) ?_
    refine D_s (js := [(12, 16), (5, 9)]) (by kernel_rfl) (fun _ _ => QA_eq rfl (QA_eq rfl (QA_nil (DPu T.ok rfl rfl rfl)))) ?_
    refine D_s (js := [(13, 17), (5, 9)]) (by kernel_rfl) (fun _ hf => QA_eq rfl (QA_eq rfl (QA_nil (DLo T.ok 0 rfl rfl (hs.dr.call hf) rfl rfl rfl rfl)))) ?_
    refine D_cons (D_step2 (js := [(10, 14), (14, 18), (5, 9)]) (by kernel_rfl) fun gd hf => ?_) ?_
    ·have hsd := hs.dr.call hf; have hfe := (G.le_dr _).trans hf.le
     refine QA_eq rfl ?_; refine QA_eq rfl ?_; refine QA_eq rfl ?_
     refine QA_nil ?_
     refine D_yes rfl ?_
     refine OpR_pure _ T.ok rfl ?_
     refine ⟨_, rfl, Fr0.refl _, ?_⟩
     exact congrArg (Value.int .i64) (show _ = ((s.length - at' : Nat) : Int) from by rw [bs_size, wr (by omega) (by omega)]; omega)
    refine D_s (js := [(5, 9)]) (by kernel_rfl) (fun _ _ => QA_eq rfl (QA_nil (DPu T.ok rfl rfl rfl))) ?_
    refine D_s (js := [(16, 20), (5, 9)]) (by kernel_rfl) (fun _ _ => QA_eq rfl (QA_eq rfl (QA_nil (DPu T.ok rfl rfl rfl)))) ?_
    refine D_cons (D_step2 (js := [(15, 19), (17, 21), (5, 9)]) (by kernel_rfl) fun gd hf => ?_) ?_
    ·have hsd := hs.dr.call hf; have hfe := (G.le_dr _).trans hf.le
     refine QA_eq rfl ?_; refine QA_eq rfl ?_; refine QA_eq rfl ?_
     refine QA_nil ?_
     refine D_yes rfl ?_
     refine OpR_pure _ T.ok rfl ?_
     exact ⟨_, rfl, Fr0.refl _, congrArg Value.bool (show _ = true from by rw [bs_size]; exact e1)⟩
    refine D_s (js := [(5, 9), (18, 22)]) (by kernel_rfl) (fun _ _ => QA_eq rfl (QA_eq rfl (QA_nil (DPu T.ok rfl rfl rfl)))) ?_
    refine D_s (js := [(19, 23)]) (by kernel_rfl) (fun _ _ => QA_eq rfl (QA_nil (DPu T.ok rfl rfl rfl))) ?_
    refine D_s (js := [(20, 24)]) (by kernel_rfl) (fun _ _ => QA_eq rfl (QA_nil (DNo rfl rfl))) ?_
    refine D_s (js := [(21, 25), (20, 24)]) (by kernel_rfl) (fun _ _ => QA_eq rfl (QA_eq rfl (QA_nil (DNo rfl rfl)))) ?_
    refine D_s (js := [(22, 26), (20, 24)]) (by kernel_rfl) (fun _ _ => QA_eq rfl (QA_eq rfl (QA_nil (DNo rfl rfl)))) ?_
    refine D_s (js := [(23, 27), (20, 24)]) (by kernel_rfl) (fun _ _ => QA_eq rfl (QA_eq rfl (QA_nil (DNo rfl rfl)))) ?_
    refine D_s (js := [(20, 24)]) (by kernel_rfl) (fun _ _ => QA_eq rfl (QA_nil (DNo rfl rfl))) ?_
    refine D_s (js := [(25, 29), (20, 24)]) (by kernel_rfl) (fun _ _ => QA_eq rfl (QA_eq rfl (QA_nil (DNo rfl rfl)))) ?_
    refine D_s (js := [(26, 30), (20, 24)]) (by kernel_rfl) (fun _ _ => QA_eq rfl (QA_eq rfl (QA_nil (DNo rfl rfl)))) ?_
    refine D_s (js := [(27, 31), (20, 24)]) (by kernel_rfl) (fun _ _ => QA_eq rfl (QA_eq rfl (QA_nil (DNo rfl rfl)))) ?_
    refine D_s (js := [(20, 24)]) (by kernel_rfl) (fun _ _ => QA_eq rfl (QA_nil (DNo rfl rfl))) ?_
    refine D_s (js := [(29, 33), (20, 24)]) (by kernel_rfl) (fun _ _ => QA_eq rfl (QA_eq rfl (QA_nil (DNo rfl rfl)))) ?_
    refine D_s (js := [(30, 34), (20, 24)]) (by kernel_rfl) (fun _ _ => QA_eq rfl (QA_eq rfl (QA_nil (DNo rfl rfl)))) ?_
    refine D_s (js := [(31, 35), (20, 24)]) (by kernel_rfl) (fun _ _ => QA_eq rfl (QA_eq rfl (QA_nil (DNo rfl rfl)))) ?_
    refine D_s (js := [(20, 24)]) (by kernel_rfl) (fun _ _ => QA_eq rfl (QA_nil (DNo rfl rfl))) ?_
    refine D_s (js := [(33, 37), (20, 24)]) (by kernel_rfl) (fun _ _ => QA_eq rfl (QA_eq rfl (QA_nil (DNo rfl rfl)))) ?_
    refine D_s (js := [(32, 36), (34, 38), (20, 24)]) (by kernel_rfl) (fun _ _ => QA_eq rfl (QA_eq rfl (QA_eq rfl (QA_nil (DNo rfl rfl))))) ?_
    refine D_s (js := [(24, 28), (28, 32), (35, 39), (20, 24)]) (by kernel_rfl) (fun _ _ => QA_eq rfl (QA_eq rfl (QA_eq rfl (QA_eq rfl (QA_nil (DNo rfl rfl)))))) ?_
    refine D_s (js := [(20, 24)]) (by kernel_rfl) (fun _ _ => QA_eq rfl (QA_nil (DNo rfl rfl))) ?_
    refine D_s (js := [(36, 40), (37, 41), (20, 24)]) (by kernel_rfl) (fun _ _ => QA_eq rfl (QA_eq rfl (QA_eq rfl (QA_nil (DNo rfl rfl))))) ?_
    refine D_s (js := [(20, 24), (38, 42)]) (by kernel_rfl) (fun _ _ => QA_eq rfl (QA_eq rfl (QA_nil (DPu T.ok rfl rfl rfl)))) ?_
    exact D_nil
   intro g1 hf1; refine QA_eq rfl ?_; refine QA_nil ?_
   replace hs := hs.dr.call hf1; have hqe := (G.le_dr _).trans hf1.le; replace le0 := G.le.trans le0 hqe
   refine WL_nil ?_; (with_reducible refine T_then ?_)
   refine W_yes rfl rfl ?_
   refine W_seq ?_; refine W_region ?_; (iterate 3 refine P1 T.ok rfl rfl rfl ?_)
   refine WL_n rfl (OpR_storeO T.ok 0 rfl hs rfl rfl rfl rfl rfl rfl rfl rfl rfl ?_); replace hs := hs; rintro g1 hs hqe; replace le0 := G.le.trans le0 hqe
   refine WL_nil ?_; (with_reducible refine T_then ?_)
   refine W_ret ?_
   (with_reducible refine T_tr ?_)
   exact ret0 rfl (RetS.intro le0 ⟨rfl, at', hat, rfl, hs⟩)
  | false =>
   have hle : w.length ≤ s.length - at' := by simp at e1; omega
   cases e2 : ((s.take (at' + w.length)).drop at' == w) with
   | false =>
    have hw : wordR w true (s.drop at') = (false, s.drop at') := by
     unfold wordR; rw [if_neg]; rw [hpt, e2]; simp
    rw [hw]
    refine W_seq ?_; refine W_seq ?_
    apply W_draw allF rfl (Fact.eq _ :: Fact.eq _ :: Fact.eq _ :: Fact.eq _ :: Fact.eq _ :: Fact.eq _ :: Fact.eq _ :: Fact.eq _ :: Fact.eq _ :: Fact.eq _ :: Fact.eq _ :: Fact.eq _ :: Fact.eq _ :: Fact.eq _ :: Fact.eq _ :: Fact.eq _ :: Fact.eq _ :: Fact.eq _ :: Fact.eq _ :: Fact.eq _ :: Fact.eq _ :: Fact.eq _ :: Fact.eq _ :: Fact.eq _ :: Fact.eq _ :: Fact.eq _ :: Fact.eq _ :: Fact.eq _ :: Fact.eq _ :: Fact.eq _ :: Fact.eq _ :: Fact.eq _ :: Fact.eq _ :: Fact.eq _ :: Fact.eq _ :: Fact.eq _ :: Fact.eq _ :: Fact.eq _ :: Fact.eq _ :: Fact.eq _ :: []) 40 [(39, 43)] rfl rfl
    ·refine D_s (js := []) (by kernel_rfl) (fun _ _ => QA_nil (DPu T.ok rfl rfl rfl)) ?_
     refine D_s (js := [(0, 4)]) (by kernel_rfl) (fun _ _ => QA_eq rfl (QA_nil (DPu T.ok rfl rfl rfl))) ?_
     refine D_s (js := [(1, 5)]) (by kernel_rfl) (fun _ _ => QA_eq rfl (QA_nil (DPu T.ok rfl rfl rfl))) ?_
     refine D_s (js := [(2, 6)]) (by kernel_rfl) (fun _ hf => QA_eq rfl (QA_nil (DLo T.ok 0 rfl rfl (hs.dr.call hf) rfl rfl rfl rfl))) ?_
     refine D_s (js := [(3, 7)]) (by kernel_rfl) (fun _ _ => QA_eq rfl (QA_nil (DPu T.ok rfl rfl rfl))) ?_
     refine D_s (js := [(4, 8)]) (by kernel_rfl) (fun _ _ => QA_eq rfl (QA_nil (DPu T.ok rfl rfl rfl))) ?_
     refine D_s (js := [(5, 9)]) (by kernel_rfl) (fun _ _ => QA_eq rfl (QA_nil (DPu T.ok rfl rfl rfl))) ?_
     refine D_s (js := [(6, 10), (5, 9)]) (by kernel_rfl) (fun _ _ => QA_eq rfl (QA_eq rfl (QA_nil (DPu T.ok rfl rfl rfl)))) ?_
     refine D_s (js := [(7, 11), (5, 9)]) (by kernel_rfl) (fun _ _ => QA_eq rfl (QA_eq rfl (QA_nil (DPu T.ok rfl rfl rfl)))) ?_
     refine D_s (js := [(8, 12), (5, 9)]) (by kernel_rfl) (fun _ hf => QA_eq rfl (QA_eq rfl (QA_nil (DLo T.ok 0 rfl rfl (hs.dr.call hf) rfl rfl rfl rfl)))) ?_
     refine D_s (js := [(9, 13), (5, 9)]) (by kernel_rfl) (fun _ _ => QA_eq rfl (QA_eq rfl (QA_nil (DPu T.ok rfl rfl rfl)))) ?_
     refine D_s (js := [(5, 9)]) (by kernel_rfl) (fun _ _ => QA_eq rfl (QA_nil (DPu T.ok rfl rfl rfl))) ?_
     refine D_s (js := [(11, 15), (5, 9)]) (by kernel_rfl) (fun _ _ => QA_eq rfl (QA_eq rfl (QA_nil (DPu T.ok rfl rfl rfl)))) ?_
     refine D_s (js := [(12, 16), (5, 9)]) (by kernel_rfl) (fun _ _ => QA_eq rfl (QA_eq rfl (QA_nil (DPu T.ok rfl rfl rfl)))) ?_
     refine D_s (js := [(13, 17), (5, 9)]) (by kernel_rfl) (fun _ hf => QA_eq rfl (QA_eq rfl (QA_nil (DLo T.ok 0 rfl rfl (hs.dr.call hf) rfl rfl rfl rfl)))) ?_
     refine D_cons (D_step2 (js := [(10, 14), (14, 18), (5, 9)]) (by kernel_rfl) fun gd hf => ?_) ?_
     ·have hsd := hs.dr.call hf; have hfe := (G.le_dr _).trans hf.le
      refine QA_eq rfl ?_; refine QA_eq rfl ?_; refine QA_eq rfl ?_
      refine QA_nil ?_
      refine D_yes rfl ?_
      refine OpR_pure _ T.ok rfl ?_
      refine ⟨_, rfl, Fr0.refl _, ?_⟩
      exact congrArg (Value.int .i64) (show _ = ((s.length - at' : Nat) : Int) from by rw [bs_size, wr (by omega) (by omega)]; omega)
     refine D_s (js := [(5, 9)]) (by kernel_rfl) (fun _ _ => QA_eq rfl (QA_nil (DPu T.ok rfl rfl rfl))) ?_
     refine D_s (js := [(16, 20), (5, 9)]) (by kernel_rfl) (fun _ _ => QA_eq rfl (QA_eq rfl (QA_nil (DPu T.ok rfl rfl rfl)))) ?_
     refine D_cons (D_step2 (js := [(15, 19), (17, 21), (5, 9)]) (by kernel_rfl) fun gd hf => ?_) ?_
     ·have hsd := hs.dr.call hf; have hfe := (G.le_dr _).trans hf.le
      refine QA_eq rfl ?_; refine QA_eq rfl ?_; refine QA_eq rfl ?_
      refine QA_nil ?_
      refine D_yes rfl ?_
      refine OpR_pure _ T.ok rfl ?_
      exact ⟨_, rfl, Fr0.refl _, congrArg Value.bool (show _ = false from by rw [bs_size]; exact e1)⟩
     refine D_s (js := [(5, 9), (18, 22)]) (by kernel_rfl) (fun _ _ => QA_eq rfl (QA_eq rfl (QA_nil (DPu T.ok rfl rfl rfl)))) ?_
     refine D_s (js := [(19, 23)]) (by kernel_rfl) (fun _ _ => QA_eq rfl (QA_nil (DPu T.ok rfl rfl rfl))) ?_
     refine D_s (js := [(20, 24)]) (by kernel_rfl) (fun _ _ => QA_eq rfl (QA_nil (DPu T.ok rfl rfl rfl))) ?_
     refine D_s (js := [(21, 25), (20, 24)]) (by kernel_rfl) (fun _ _ => QA_eq rfl (QA_eq rfl (QA_nil (DPu T.ok rfl rfl rfl)))) ?_
     refine D_s (js := [(22, 26), (20, 24)]) (by kernel_rfl) (fun _ _ => QA_eq rfl (QA_eq rfl (QA_nil (DPu T.ok rfl rfl rfl)))) ?_
     refine D_s (js := [(23, 27), (20, 24)]) (by kernel_rfl) (fun _ hf => QA_eq rfl (QA_eq rfl (QA_nil (DLo T.ok 0 rfl rfl (hs.dr.call hf) rfl rfl rfl rfl)))) ?_
     refine D_s (js := [(20, 24)]) (by kernel_rfl) (fun _ _ => QA_eq rfl (QA_nil (DPu T.ok rfl rfl rfl))) ?_
     refine D_s (js := [(25, 29), (20, 24)]) (by kernel_rfl) (fun _ _ => QA_eq rfl (QA_eq rfl (QA_nil (DPu T.ok rfl rfl rfl)))) ?_
     refine D_s (js := [(26, 30), (20, 24)]) (by kernel_rfl) (fun _ _ => QA_eq rfl (QA_eq rfl (QA_nil (DPu T.ok rfl rfl rfl)))) ?_
     refine D_s (js := [(27, 31), (20, 24)]) (by kernel_rfl) (fun _ hf => QA_eq rfl (QA_eq rfl (QA_nil (DLo T.ok 0 rfl rfl (hs.dr.call hf) rfl rfl rfl rfl)))) ?_
     refine D_s (js := [(20, 24)]) (by kernel_rfl) (fun _ _ => QA_eq rfl (QA_nil (DPu T.ok rfl rfl rfl))) ?_
     refine D_s (js := [(29, 33), (20, 24)]) (by kernel_rfl) (fun _ _ => QA_eq rfl (QA_eq rfl (QA_nil (DPu T.ok rfl rfl rfl)))) ?_
     refine D_s (js := [(30, 34), (20, 24)]) (by kernel_rfl) (fun _ _ => QA_eq rfl (QA_eq rfl (QA_nil (DPu T.ok rfl rfl rfl)))) ?_
     refine D_s (js := [(31, 35), (20, 24)]) (by kernel_rfl) (fun _ hf => QA_eq rfl (QA_eq rfl (QA_nil (DLo T.ok 0 rfl rfl (hs.dr.call hf) rfl rfl rfl rfl)))) ?_
     refine D_s (js := [(20, 24)]) (by kernel_rfl) (fun _ _ => QA_eq rfl (QA_nil (DPu T.ok rfl rfl rfl))) ?_
     refine D_s (js := [(33, 37), (20, 24)]) (by kernel_rfl) (fun _ _ => QA_eq rfl (QA_eq rfl (QA_nil (DPu T.ok rfl rfl rfl)))) ?_
     refine D_cons (D_step2 (js := [(32, 36), (34, 38), (20, 24)]) (by kernel_rfl) fun gd hf => ?_) ?_
     ·have hsd := hs.dr.call hf; have hfe := (G.le_dr _).trans hf.le
      refine QA_eq rfl ?_; refine QA_eq rfl ?_; refine QA_eq rfl ?_
      refine QA_nil ?_
      refine D_yes rfl ?_
      refine OpR_pure _ T.ok rfl ?_
      refine ⟨_, rfl, Fr0.refl _, ?_⟩
      exact congrArg (Value.int .i64) (show _ = ((at' + w.length : Nat) : Int) from by rw [bs_size, wr (by omega) (by omega)]; omega)
     refine D_cons (D_step2 (js := [(24, 28), (28, 32), (35, 39), (20, 24)]) (by kernel_rfl) fun gd hf => ?_) ?_
     ·have hsd := hs.dr.call hf; have hfe := (G.le_dr _).trans hf.le
      refine QA_eq rfl ?_; refine QA_eq rfl ?_; refine QA_eq rfl ?_; refine QA_eq rfl ?_
      refine QA_nil ?_
      refine D_yes rfl ?_
      refine OpR_cutS T.ok (s := s) (a := at') (b := at' + w.length) rfl rfl rfl rfl ⟨_, rfl⟩ ⟨_, rfl⟩ (by omega) (by omega) ?_
      exact ⟨_, rfl, Fr0.refl _, rfl⟩
     refine D_s (js := [(20, 24)]) (by kernel_rfl) (fun _ _ => QA_eq rfl (QA_nil (DPu T.ok rfl rfl rfl))) ?_
     refine D_cons (D_step2 (js := [(36, 40), (37, 41), (20, 24)]) (by kernel_rfl) fun gd hf => ?_) ?_
     ·have hsd := hs.dr.call hf; have hfe := (G.le_dr _).trans hf.le
      refine QA_eq rfl ?_; refine QA_eq rfl ?_; refine QA_eq rfl ?_
      refine QA_nil ?_
      refine D_yes rfl ?_
      refine OpR_eqS (neg := true) (p := (s.take (at' + w.length)).drop at') (q := w) rfl rfl rfl ?_
      exact ⟨_, rfl, Fr0.refl _, congrArg Value.bool (show (true != _) = true from by rw [e2]; rfl)⟩
     refine D_s (js := [(20, 24), (38, 42)]) (by kernel_rfl) (fun _ _ => QA_eq rfl (QA_eq rfl (QA_nil (DPu T.ok rfl rfl rfl)))) ?_
     exact D_nil
    intro g1 hf1; refine QA_eq rfl ?_; refine QA_nil ?_
    replace hs := hs.dr.call hf1; have hqe := (G.le_dr _).trans hf1.le; replace le0 := G.le.trans le0 hqe
    refine WL_nil ?_; (with_reducible refine T_then ?_)
    refine W_yes rfl rfl ?_
    refine W_seq ?_; refine W_region ?_; (iterate 3 refine P1 T.ok rfl rfl rfl ?_)
    refine WL_n rfl (OpR_storeO T.ok 0 rfl hs rfl rfl rfl rfl rfl rfl rfl rfl rfl ?_); replace hs := hs; rintro g1 hs hqe; replace le0 := G.le.trans le0 hqe
    refine WL_nil ?_; (with_reducible refine T_then ?_)
    refine W_ret ?_
    (with_reducible refine T_tr ?_)
    exact ret0 rfl (RetS.intro le0 ⟨rfl, at', hat, rfl, hs⟩)
   | true =>
    have hw : wordR w true (s.drop at') = (true, s.drop (at' + w.length)) := by
     unfold wordR; rw [if_pos ⟨rfl, by rw [hpt, e2, decide_eq_true hle]; rfl⟩, List.drop_drop]
    rw [hw]
    refine W_seq ?_; refine W_seq ?_
    apply W_draw allF rfl (Fact.eq _ :: Fact.eq _ :: Fact.eq _ :: Fact.eq _ :: Fact.eq _ :: Fact.eq _ :: Fact.eq _ :: Fact.eq _ :: Fact.eq _ :: Fact.eq _ :: Fact.eq _ :: Fact.eq _ :: Fact.eq _ :: Fact.eq _ :: Fact.eq _ :: Fact.eq _ :: Fact.eq _ :: Fact.eq _ :: Fact.eq _ :: Fact.eq _ :: Fact.eq _ :: Fact.eq _ :: Fact.eq _ :: Fact.eq _ :: Fact.eq _ :: Fact.eq _ :: Fact.eq _ :: Fact.eq _ :: Fact.eq _ :: Fact.eq _ :: Fact.eq _ :: Fact.eq _ :: Fact.eq _ :: Fact.eq _ :: Fact.eq _ :: Fact.eq _ :: Fact.eq _ :: Fact.eq _ :: Fact.eq _ :: Fact.eq _ :: []) 40 [(39, 43)] rfl rfl
    ·refine D_s (js := []) (by kernel_rfl) (fun _ _ => QA_nil (DPu T.ok rfl rfl rfl)) ?_
     refine D_s (js := [(0, 4)]) (by kernel_rfl) (fun _ _ => QA_eq rfl (QA_nil (DPu T.ok rfl rfl rfl))) ?_
     refine D_s (js := [(1, 5)]) (by kernel_rfl) (fun _ _ => QA_eq rfl (QA_nil (DPu T.ok rfl rfl rfl))) ?_
     refine D_s (js := [(2, 6)]) (by kernel_rfl) (fun _ hf => QA_eq rfl (QA_nil (DLo T.ok 0 rfl rfl (hs.dr.call hf) rfl rfl rfl rfl))) ?_
     refine D_s (js := [(3, 7)]) (by kernel_rfl) (fun _ _ => QA_eq rfl (QA_nil (DPu T.ok rfl rfl rfl))) ?_
     refine D_s (js := [(4, 8)]) (by kernel_rfl) (fun _ _ => QA_eq rfl (QA_nil (DPu T.ok rfl rfl rfl))) ?_
     refine D_s (js := [(5, 9)]) (by kernel_rfl) (fun _ _ => QA_eq rfl (QA_nil (DPu T.ok rfl rfl rfl))) ?_
     refine D_s (js := [(6, 10), (5, 9)]) (by kernel_rfl) (fun _ _ => QA_eq rfl (QA_eq rfl (QA_nil (DPu T.ok rfl rfl rfl)))) ?_
     refine D_s (js := [(7, 11), (5, 9)]) (by kernel_rfl) (fun _ _ => QA_eq rfl (QA_eq rfl (QA_nil (DPu T.ok rfl rfl rfl)))) ?_
     refine D_s (js := [(8, 12), (5, 9)]) (by kernel_rfl) (fun _ hf => QA_eq rfl (QA_eq rfl (QA_nil (DLo T.ok 0 rfl rfl (hs.dr.call hf) rfl rfl rfl rfl)))) ?_
     refine D_s (js := [(9, 13), (5, 9)]) (by kernel_rfl) (fun _ _ => QA_eq rfl (QA_eq rfl (QA_nil (DPu T.ok rfl rfl rfl)))) ?_
     refine D_s (js := [(5, 9)]) (by kernel_rfl) (fun _ _ => QA_eq rfl (QA_nil (DPu T.ok rfl rfl rfl))) ?_
     refine D_s (js := [(11, 15), (5, 9)]) (by kernel_rfl) (fun _ _ => QA_eq rfl (QA_eq rfl (QA_nil (DPu T.ok rfl rfl rfl)))) ?_
     refine D_s (js := [(12, 16), (5, 9)]) (by kernel_rfl) (fun _ _ => QA_eq rfl (QA_eq rfl (QA_nil (DPu T.ok rfl rfl rfl)))) ?_
     refine D_s (js := [(13, 17), (5, 9)]) (by kernel_rfl) (fun _ hf => QA_eq rfl (QA_eq rfl (QA_nil (DLo T.ok 0 rfl rfl (hs.dr.call hf) rfl rfl rfl rfl)))) ?_
     refine D_cons (D_step2 (js := [(10, 14), (14, 18), (5, 9)]) (by kernel_rfl) fun gd hf => ?_) ?_
     ·have hsd := hs.dr.call hf; have hfe := (G.le_dr _).trans hf.le
      refine QA_eq rfl ?_; refine QA_eq rfl ?_; refine QA_eq rfl ?_
      refine QA_nil ?_
      refine D_yes rfl ?_
      refine OpR_pure _ T.ok rfl ?_
      refine ⟨_, rfl, Fr0.refl _, ?_⟩
      exact congrArg (Value.int .i64) (show _ = ((s.length - at' : Nat) : Int) from by rw [bs_size, wr (by omega) (by omega)]; omega)
     refine D_s (js := [(5, 9)]) (by kernel_rfl) (fun _ _ => QA_eq rfl (QA_nil (DPu T.ok rfl rfl rfl))) ?_
     refine D_s (js := [(16, 20), (5, 9)]) (by kernel_rfl) (fun _ _ => QA_eq rfl (QA_eq rfl (QA_nil (DPu T.ok rfl rfl rfl)))) ?_
     refine D_cons (D_step2 (js := [(15, 19), (17, 21), (5, 9)]) (by kernel_rfl) fun gd hf => ?_) ?_
     ·have hsd := hs.dr.call hf; have hfe := (G.le_dr _).trans hf.le
      refine QA_eq rfl ?_; refine QA_eq rfl ?_; refine QA_eq rfl ?_
      refine QA_nil ?_
      refine D_yes rfl ?_
      refine OpR_pure _ T.ok rfl ?_
      exact ⟨_, rfl, Fr0.refl _, congrArg Value.bool (show _ = false from by rw [bs_size]; exact e1)⟩
     refine D_s (js := [(5, 9), (18, 22)]) (by kernel_rfl) (fun _ _ => QA_eq rfl (QA_eq rfl (QA_nil (DPu T.ok rfl rfl rfl)))) ?_
     refine D_s (js := [(19, 23)]) (by kernel_rfl) (fun _ _ => QA_eq rfl (QA_nil (DPu T.ok rfl rfl rfl))) ?_
     refine D_s (js := [(20, 24)]) (by kernel_rfl) (fun _ _ => QA_eq rfl (QA_nil (DPu T.ok rfl rfl rfl))) ?_
     refine D_s (js := [(21, 25), (20, 24)]) (by kernel_rfl) (fun _ _ => QA_eq rfl (QA_eq rfl (QA_nil (DPu T.ok rfl rfl rfl)))) ?_
     refine D_s (js := [(22, 26), (20, 24)]) (by kernel_rfl) (fun _ _ => QA_eq rfl (QA_eq rfl (QA_nil (DPu T.ok rfl rfl rfl)))) ?_
     refine D_s (js := [(23, 27), (20, 24)]) (by kernel_rfl) (fun _ hf => QA_eq rfl (QA_eq rfl (QA_nil (DLo T.ok 0 rfl rfl (hs.dr.call hf) rfl rfl rfl rfl)))) ?_
     refine D_s (js := [(20, 24)]) (by kernel_rfl) (fun _ _ => QA_eq rfl (QA_nil (DPu T.ok rfl rfl rfl))) ?_
     refine D_s (js := [(25, 29), (20, 24)]) (by kernel_rfl) (fun _ _ => QA_eq rfl (QA_eq rfl (QA_nil (DPu T.ok rfl rfl rfl)))) ?_
     refine D_s (js := [(26, 30), (20, 24)]) (by kernel_rfl) (fun _ _ => QA_eq rfl (QA_eq rfl (QA_nil (DPu T.ok rfl rfl rfl)))) ?_
     refine D_s (js := [(27, 31), (20, 24)]) (by kernel_rfl) (fun _ hf => QA_eq rfl (QA_eq rfl (QA_nil (DLo T.ok 0 rfl rfl (hs.dr.call hf) rfl rfl rfl rfl)))) ?_
     refine D_s (js := [(20, 24)]) (by kernel_rfl) (fun _ _ => QA_eq rfl (QA_nil (DPu T.ok rfl rfl rfl))) ?_
     refine D_s (js := [(29, 33), (20, 24)]) (by kernel_rfl) (fun _ _ => QA_eq rfl (QA_eq rfl (QA_nil (DPu T.ok rfl rfl rfl)))) ?_
     refine D_s (js := [(30, 34), (20, 24)]) (by kernel_rfl) (fun _ _ => QA_eq rfl (QA_eq rfl (QA_nil (DPu T.ok rfl rfl rfl)))) ?_
     refine D_s (js := [(31, 35), (20, 24)]) (by kernel_rfl) (fun _ hf => QA_eq rfl (QA_eq rfl (QA_nil (DLo T.ok 0 rfl rfl (hs.dr.call hf) rfl rfl rfl rfl)))) ?_
     refine D_s (js := [(20, 24)]) (by kernel_rfl) (fun _ _ => QA_eq rfl (QA_nil (DPu T.ok rfl rfl rfl))) ?_
     refine D_s (js := [(33, 37), (20, 24)]) (by kernel_rfl) (fun _ _ => QA_eq rfl (QA_eq rfl (QA_nil (DPu T.ok rfl rfl rfl)))) ?_
     refine D_cons (D_step2 (js := [(32, 36), (34, 38), (20, 24)]) (by kernel_rfl) fun gd hf => ?_) ?_
     ·have hsd := hs.dr.call hf; have hfe := (G.le_dr _).trans hf.le
      refine QA_eq rfl ?_; refine QA_eq rfl ?_; refine QA_eq rfl ?_
      refine QA_nil ?_
      refine D_yes rfl ?_
      refine OpR_pure _ T.ok rfl ?_
      refine ⟨_, rfl, Fr0.refl _, ?_⟩
      exact congrArg (Value.int .i64) (show _ = ((at' + w.length : Nat) : Int) from by rw [bs_size, wr (by omega) (by omega)]; omega)
     refine D_cons (D_step2 (js := [(24, 28), (28, 32), (35, 39), (20, 24)]) (by kernel_rfl) fun gd hf => ?_) ?_
     ·have hsd := hs.dr.call hf; have hfe := (G.le_dr _).trans hf.le
      refine QA_eq rfl ?_; refine QA_eq rfl ?_; refine QA_eq rfl ?_; refine QA_eq rfl ?_
      refine QA_nil ?_
      refine D_yes rfl ?_
      refine OpR_cutS T.ok (s := s) (a := at') (b := at' + w.length) rfl rfl rfl rfl ⟨_, rfl⟩ ⟨_, rfl⟩ (by omega) (by omega) ?_
      exact ⟨_, rfl, Fr0.refl _, rfl⟩
     refine D_s (js := [(20, 24)]) (by kernel_rfl) (fun _ _ => QA_eq rfl (QA_nil (DPu T.ok rfl rfl rfl))) ?_
     refine D_cons (D_step2 (js := [(36, 40), (37, 41), (20, 24)]) (by kernel_rfl) fun gd hf => ?_) ?_
     ·have hsd := hs.dr.call hf; have hfe := (G.le_dr _).trans hf.le
      refine QA_eq rfl ?_; refine QA_eq rfl ?_; refine QA_eq rfl ?_
      refine QA_nil ?_
      refine D_yes rfl ?_
      refine OpR_eqS (neg := true) (p := (s.take (at' + w.length)).drop at') (q := w) rfl rfl rfl ?_
      exact ⟨_, rfl, Fr0.refl _, congrArg Value.bool (show (true != _) = false from by rw [e2]; rfl)⟩
     refine D_s (js := [(20, 24), (38, 42)]) (by kernel_rfl) (fun _ _ => QA_eq rfl (QA_eq rfl (QA_nil (DPu T.ok rfl rfl rfl)))) ?_
     exact D_nil
    intro g1 hf1; refine QA_eq rfl ?_; refine QA_nil ?_
    replace hs := hs.dr.call hf1; have hqe := (G.le_dr _).trans hf1.le; replace le0 := G.le.trans le0 hqe
    refine WL_nil ?_; (with_reducible refine T_then ?_)
    refine W_no rfl rfl ?_
    refine W_skip ?_; (with_reducible refine T_then ?_); refine W_region ?_; (iterate 4 refine P1 T.ok rfl rfl rfl ?_); refine WL_o rfl rfl (OpR_loadO T.ok 0 rfl hs rfl rfl rfl ?_); (iterate 5 refine P1 T.ok rfl rfl rfl ?_)
    refine WL_re (.int .i64 ((at' + w.length : Nat) : Int)) (t := 54) rfl (congrArg (Value.int .i64) (by rw [bs_size, wr (by omega) (by omega)]; omega)) ?_
    refine WL_n rfl (OpR_storeO T.ok 0 rfl hs rfl rfl rfl rfl rfl rfl rfl rfl rfl ?_); replace hs := hs; rintro g1 hs hqe; replace le0 := G.le.trans le0 hqe
    refine WL_nil ?_
    exact end0 rfl (RetS.intro le0 ⟨rfl, at' + w.length, by omega, rfl, hs⟩)
theorem begins_c {b : Nat} {s w : List UInt8} {at' : Nat} {ok : Bool} {g0 g : G} {L : List Ent} (hat : at' ≤ s.length) (hsl : s.length ≤ 1000000) (hwl : w.length ≤ 1000000) (hs : St g0 g (txO b s at' ok :: L)) :
  CallsIn Wd 0 Tryz.prog 71 #[.pointer (some ⟨b, 0, none⟩), .string (bs w)] g.w (RetS g fun g' r => r = .bool (tBegins w ok (s.drop at')) ∧ St g0 g' (txO b s at' ok :: L)) := by
 have le0 := G.le.refl g
 unfold txO at *
 refine enter Tryz.func71 rfl Tryz.ntmps71 rfl ?_
 have hpt : w.isPrefixOf (s.drop at') = (decide (w.length ≤ s.length - at') && ((s.take (at' + w.length)).drop at' == w)) := by
  rw [prefix_take, List.length_drop, List.drop_take, Nat.add_sub_cancel_left]
 unfold tBegins
 rw [hpt]
 cases ok with
 | false =>
  refine W_seq ?_; refine W_region ?_; refine P1 T.ok rfl rfl rfl ?_; refine WL_nil ?_; (with_reducible refine T_then ?_); refine W_seq ?_
  apply W_draw allF rfl (Fact.eq _ :: Fact.eq _ :: Fact.eq _ :: Fact.eq _ :: Fact.eq _ :: Fact.eq _ :: Fact.eq _ :: Fact.eq _ :: Fact.eq _ :: Fact.eq _ :: Fact.eq _ :: Fact.eq _ :: Fact.eq _ :: Fact.eq _ :: Fact.eq _ :: Fact.eq _ :: Fact.eq _ :: Fact.eq _ :: Fact.eq _ :: Fact.eq _ :: Fact.eq _ :: Fact.eq _ :: Fact.eq _ :: Fact.eq _ :: Fact.eq _ :: Fact.eq _ :: Fact.eq _ :: Fact.eq _ :: Fact.eq _ :: Fact.eq _ :: Fact.eq _ :: Fact.eq _ :: Fact.eq _ :: Fact.eq _ :: Fact.eq _ :: Fact.eq _ :: Fact.eq _ :: Fact.eq _ :: Fact.eq _ :: []) 39 [(38, 43)] rfl rfl
  ·refine D_s (js := []) (by kernel_rfl) (fun _ _ => QA_nil (DPu T.ok rfl rfl rfl)) ?_
   refine D_s (js := [(0, 5)]) (by kernel_rfl) (fun _ _ => QA_eq rfl (QA_nil (DPu T.ok rfl rfl rfl))) ?_
   refine D_s (js := [(1, 6)]) (by kernel_rfl) (fun _ _ => QA_eq rfl (QA_nil (DPu T.ok rfl rfl rfl))) ?_
   refine D_s (js := [(2, 7)]) (by kernel_rfl) (fun _ hf => QA_eq rfl (QA_nil (DLo T.ok 0 rfl rfl (hs.dr.call hf) rfl rfl rfl rfl))) ?_
   refine D_s (js := [(3, 8)]) (by kernel_rfl) (fun _ _ => QA_eq rfl (QA_nil (DPu T.ok rfl rfl rfl))) ?_
   refine D_s (js := [(4, 9)]) (by kernel_rfl) (fun _ _ => QA_eq rfl (QA_nil (DNo rfl rfl))) ?_
   refine D_s (js := [(5, 10), (4, 9)]) (by kernel_rfl) (fun _ _ => QA_eq rfl (QA_eq rfl (QA_nil (DNo rfl rfl)))) ?_
   refine D_s (js := [(6, 11), (4, 9)]) (by kernel_rfl) (fun _ _ => QA_eq rfl (QA_eq rfl (QA_nil (DNo rfl rfl)))) ?_
   refine D_s (js := [(7, 12), (4, 9)]) (by kernel_rfl) (fun _ _ => QA_eq rfl (QA_eq rfl (QA_nil (DNo rfl rfl)))) ?_
   refine D_s (js := [(8, 13), (4, 9)]) (by kernel_rfl) (fun _ _ => QA_eq rfl (QA_eq rfl (QA_nil (DNo rfl rfl)))) ?_
   refine D_s (js := [(4, 9)]) (by kernel_rfl) (fun _ _ => QA_eq rfl (QA_nil (DNo rfl rfl))) ?_
   refine D_s (js := [(10, 15), (4, 9)]) (by kernel_rfl) (fun _ _ => QA_eq rfl (QA_eq rfl (QA_nil (DNo rfl rfl)))) ?_
   refine D_s (js := [(11, 16), (4, 9)]) (by kernel_rfl) (fun _ _ => QA_eq rfl (QA_eq rfl (QA_nil (DNo rfl rfl)))) ?_
   refine D_s (js := [(12, 17), (4, 9)]) (by kernel_rfl) (fun _ _ => QA_eq rfl (QA_eq rfl (QA_nil (DNo rfl rfl)))) ?_
   refine D_s (js := [(9, 14), (13, 18), (4, 9)]) (by kernel_rfl) (fun _ _ => QA_eq rfl (QA_eq rfl (QA_eq rfl (QA_nil (DNo rfl rfl))))) ?_
   refine D_s (js := [(4, 9)]) (by kernel_rfl) (fun _ _ => QA_eq rfl (QA_nil (DNo rfl rfl))) ?_
   refine D_s (js := [(15, 20), (4, 9)]) (by kernel_rfl) (fun _ _ => QA_eq rfl (QA_eq rfl (QA_nil (DNo rfl rfl)))) ?_
   refine D_s (js := [(14, 19), (16, 21), (4, 9)]) (by kernel_rfl) (fun _ _ => QA_eq rfl (QA_eq rfl (QA_eq rfl (QA_nil (DNo rfl rfl))))) ?_
   refine D_s (js := [(4, 9), (17, 22)]) (by kernel_rfl) (fun _ _ => QA_eq rfl (QA_eq rfl (QA_nil (DPu T.ok rfl rfl rfl)))) ?_
   refine D_s (js := [(18, 23)]) (by kernel_rfl) (fun _ _ => QA_eq rfl (QA_nil (DPu T.ok rfl rfl rfl))) ?_
   refine D_s (js := [(19, 24)]) (by kernel_rfl) (fun _ _ => QA_eq rfl (QA_nil (DNo rfl rfl))) ?_
   refine D_s (js := [(20, 25), (19, 24)]) (by kernel_rfl) (fun _ _ => QA_eq rfl (QA_eq rfl (QA_nil (DNo rfl rfl)))) ?_
   refine D_s (js := [(21, 26), (19, 24)]) (by kernel_rfl) (fun _ _ => QA_eq rfl (QA_eq rfl (QA_nil (DNo rfl rfl)))) ?_
   refine D_s (js := [(22, 27), (19, 24)]) (by kernel_rfl) (fun _ _ => QA_eq rfl (QA_eq rfl (QA_nil (DNo rfl rfl)))) ?_
   refine D_s (js := [(19, 24)]) (by kernel_rfl) (fun _ _ => QA_eq rfl (QA_nil (DNo rfl rfl))) ?_
   refine D_s (js := [(24, 29), (19, 24)]) (by kernel_rfl) (fun _ _ => QA_eq rfl (QA_eq rfl (QA_nil (DNo rfl rfl)))) ?_
   refine D_s (js := [(25, 30), (19, 24)]) (by kernel_rfl) (fun _ _ => QA_eq rfl (QA_eq rfl (QA_nil (DNo rfl rfl)))) ?_
   refine D_s (js := [(26, 31), (19, 24)]) (by kernel_rfl) (fun _ _ => QA_eq rfl (QA_eq rfl (QA_nil (DNo rfl rfl)))) ?_
   refine D_s (js := [(19, 24)]) (by kernel_rfl) (fun _ _ => QA_eq rfl (QA_nil (DNo rfl rfl))) ?_
   refine D_s (js := [(28, 33), (19, 24)]) (by kernel_rfl) (fun _ _ => QA_eq rfl (QA_eq rfl (QA_nil (DNo rfl rfl)))) ?_
   refine D_s (js := [(29, 34), (19, 24)]) (by kernel_rfl) (fun _ _ => QA_eq rfl (QA_eq rfl (QA_nil (DNo rfl rfl)))) ?_
   refine D_s (js := [(30, 35), (19, 24)]) (by kernel_rfl) (fun _ _ => QA_eq rfl (QA_eq rfl (QA_nil (DNo rfl rfl)))) ?_
   refine D_s (js := [(19, 24)]) (by kernel_rfl) (fun _ _ => QA_eq rfl (QA_nil (DNo rfl rfl))) ?_
   refine D_s (js := [(32, 37), (19, 24)]) (by kernel_rfl) (fun _ _ => QA_eq rfl (QA_eq rfl (QA_nil (DNo rfl rfl)))) ?_
   refine D_s (js := [(31, 36), (33, 38), (19, 24)]) (by kernel_rfl) (fun _ _ => QA_eq rfl (QA_eq rfl (QA_eq rfl (QA_nil (DNo rfl rfl))))) ?_
   refine D_s (js := [(23, 28), (27, 32), (34, 39), (19, 24)]) (by kernel_rfl) (fun _ _ => QA_eq rfl (QA_eq rfl (QA_eq rfl (QA_eq rfl (QA_nil (DNo rfl rfl)))))) ?_
   refine D_s (js := [(19, 24)]) (by kernel_rfl) (fun _ _ => QA_eq rfl (QA_nil (DNo rfl rfl))) ?_
   refine D_s (js := [(35, 40), (36, 41), (19, 24)]) (by kernel_rfl) (fun _ _ => QA_eq rfl (QA_eq rfl (QA_eq rfl (QA_nil (DNo rfl rfl))))) ?_
   refine D_s (js := [(19, 24), (37, 42)]) (by kernel_rfl) (fun _ _ => QA_eq rfl (QA_eq rfl (QA_nil (DPu T.ok rfl rfl rfl)))) ?_
   exact D_nil
  intro g1 hf1; refine QA_eq rfl ?_; refine QA_nil ?_
  replace hs := hs.dr.call hf1; have hqe := (G.le_dr _).trans hf1.le; replace le0 := G.le.trans le0 hqe
  refine P1 T.ok rfl rfl rfl ?_; refine WL_nil ?_; (with_reducible refine T_then ?_)
  exact W_ret (ret1 rfl rfl (RetS.intro le0 ⟨rfl, hs⟩))
 | true =>
  cases e1 : decide (((w.length : Nat) : Int) ≤ ((s.length - at' : Nat) : Int)) with
  | false =>
   have hlt : ¬ w.length ≤ s.length - at' := by simp at e1; omega
   rw [decide_eq_false hlt]
   refine W_seq ?_; refine W_region ?_; refine P1 T.ok rfl rfl rfl ?_; refine WL_nil ?_; (with_reducible refine T_then ?_); refine W_seq ?_
   apply W_draw allF rfl (Fact.eq _ :: Fact.eq _ :: Fact.eq _ :: Fact.eq _ :: Fact.eq _ :: Fact.eq _ :: Fact.eq _ :: Fact.eq _ :: Fact.eq _ :: Fact.eq _ :: Fact.eq _ :: Fact.eq _ :: Fact.eq _ :: Fact.eq _ :: Fact.eq _ :: Fact.eq _ :: Fact.eq _ :: Fact.eq _ :: Fact.eq _ :: Fact.eq _ :: Fact.eq _ :: Fact.eq _ :: Fact.eq _ :: Fact.eq _ :: Fact.eq _ :: Fact.eq _ :: Fact.eq _ :: Fact.eq _ :: Fact.eq _ :: Fact.eq _ :: Fact.eq _ :: Fact.eq _ :: Fact.eq _ :: Fact.eq _ :: Fact.eq _ :: Fact.eq _ :: Fact.eq _ :: Fact.eq _ :: Fact.eq _ :: []) 39 [(38, 43)] rfl rfl
   ·refine D_s (js := []) (by kernel_rfl) (fun _ _ => QA_nil (DPu T.ok rfl rfl rfl)) ?_
    refine D_s (js := [(0, 5)]) (by kernel_rfl) (fun _ _ => QA_eq rfl (QA_nil (DPu T.ok rfl rfl rfl))) ?_
    refine D_s (js := [(1, 6)]) (by kernel_rfl) (fun _ _ => QA_eq rfl (QA_nil (DPu T.ok rfl rfl rfl))) ?_
    refine D_s (js := [(2, 7)]) (by kernel_rfl) (fun _ hf => QA_eq rfl (QA_nil (DLo T.ok 0 rfl rfl (hs.dr.call hf) rfl rfl rfl rfl))) ?_
    refine D_s (js := [(3, 8)]) (by kernel_rfl) (fun _ _ => QA_eq rfl (QA_nil (DPu T.ok rfl rfl rfl))) ?_
    refine D_s (js := [(4, 9)]) (by kernel_rfl) (fun _ _ => QA_eq rfl (QA_nil (DPu T.ok rfl rfl rfl))) ?_
    refine D_s (js := [(5, 10), (4, 9)]) (by kernel_rfl) (fun _ _ => QA_eq rfl (QA_eq rfl (QA_nil (DPu T.ok rfl rfl rfl)))) ?_
    refine D_s (js := [(6, 11), (4, 9)]) (by kernel_rfl) (fun _ _ => QA_eq rfl (QA_eq rfl (QA_nil (DPu T.ok rfl rfl rfl)))) ?_
    refine D_s (js := [(7, 12), (4, 9)]) (by kernel_rfl) (fun _ hf => QA_eq rfl (QA_eq rfl (QA_nil (DLo T.ok 0 rfl rfl (hs.dr.call hf) rfl rfl rfl rfl)))) ?_
    refine D_s (js := [(8, 13), (4, 9)]) (by kernel_rfl) (fun _ _ => QA_eq rfl (QA_eq rfl (QA_nil (DPu T.ok rfl rfl rfl)))) ?_
    refine D_s (js := [(4, 9)]) (by kernel_rfl) (fun _ _ => QA_eq rfl (QA_nil (DPu T.ok rfl rfl rfl))) ?_
    refine D_s (js := [(10, 15), (4, 9)]) (by kernel_rfl) (fun _ _ => QA_eq rfl (QA_eq rfl (QA_nil (DPu T.ok rfl rfl rfl)))) ?_
    refine D_s (js := [(11, 16), (4, 9)]) (by kernel_rfl) (fun _ _ => QA_eq rfl (QA_eq rfl (QA_nil (DPu T.ok rfl rfl rfl)))) ?_
    refine D_s (js := [(12, 17), (4, 9)]) (by kernel_rfl) (fun _ hf => QA_eq rfl (QA_eq rfl (QA_nil (DLo T.ok 0 rfl rfl (hs.dr.call hf) rfl rfl rfl rfl)))) ?_
    refine D_cons (D_step2 (js := [(9, 14), (13, 18), (4, 9)]) (by kernel_rfl) fun gd hf => ?_) ?_
    ·have hsd := hs.dr.call hf; have hfe := (G.le_dr _).trans hf.le
     refine QA_eq rfl ?_; refine QA_eq rfl ?_; refine QA_eq rfl ?_
     refine QA_nil ?_
     refine D_yes rfl ?_
     refine OpR_pure _ T.ok rfl ?_
     refine ⟨_, rfl, Fr0.refl _, ?_⟩
     exact congrArg (Value.int .i64) (show _ = ((s.length - at' : Nat) : Int) from by rw [bs_size, wr (by omega) (by omega)]; omega)
    refine D_s (js := [(4, 9)]) (by kernel_rfl) (fun _ _ => QA_eq rfl (QA_nil (DPu T.ok rfl rfl rfl))) ?_
    refine D_s (js := [(15, 20), (4, 9)]) (by kernel_rfl) (fun _ _ => QA_eq rfl (QA_eq rfl (QA_nil (DPu T.ok rfl rfl rfl)))) ?_
    refine D_cons (D_step2 (js := [(14, 19), (16, 21), (4, 9)]) (by kernel_rfl) fun gd hf => ?_) ?_
    ·have hsd := hs.dr.call hf; have hfe := (G.le_dr _).trans hf.le
     refine QA_eq rfl ?_; refine QA_eq rfl ?_; refine QA_eq rfl ?_
     refine QA_nil ?_
     refine D_yes rfl ?_
     refine OpR_pure _ T.ok rfl ?_
     exact ⟨_, rfl, Fr0.refl _, congrArg Value.bool (show _ = false from by rw [bs_size]; exact e1)⟩
    refine D_s (js := [(4, 9), (17, 22)]) (by kernel_rfl) (fun _ _ => QA_eq rfl (QA_eq rfl (QA_nil (DPu T.ok rfl rfl rfl)))) ?_
    refine D_s (js := [(18, 23)]) (by kernel_rfl) (fun _ _ => QA_eq rfl (QA_nil (DPu T.ok rfl rfl rfl))) ?_
    refine D_s (js := [(19, 24)]) (by kernel_rfl) (fun _ _ => QA_eq rfl (QA_nil (DNo rfl rfl))) ?_
    refine D_s (js := [(20, 25), (19, 24)]) (by kernel_rfl) (fun _ _ => QA_eq rfl (QA_eq rfl (QA_nil (DNo rfl rfl)))) ?_
    refine D_s (js := [(21, 26), (19, 24)]) (by kernel_rfl) (fun _ _ => QA_eq rfl (QA_eq rfl (QA_nil (DNo rfl rfl)))) ?_
    refine D_s (js := [(22, 27), (19, 24)]) (by kernel_rfl) (fun _ _ => QA_eq rfl (QA_eq rfl (QA_nil (DNo rfl rfl)))) ?_
    refine D_s (js := [(19, 24)]) (by kernel_rfl) (fun _ _ => QA_eq rfl (QA_nil (DNo rfl rfl))) ?_
    refine D_s (js := [(24, 29), (19, 24)]) (by kernel_rfl) (fun _ _ => QA_eq rfl (QA_eq rfl (QA_nil (DNo rfl rfl)))) ?_
    refine D_s (js := [(25, 30), (19, 24)]) (by kernel_rfl) (fun _ _ => QA_eq rfl (QA_eq rfl (QA_nil (DNo rfl rfl)))) ?_
    refine D_s (js := [(26, 31), (19, 24)]) (by kernel_rfl) (fun _ _ => QA_eq rfl (QA_eq rfl (QA_nil (DNo rfl rfl)))) ?_
    refine D_s (js := [(19, 24)]) (by kernel_rfl) (fun _ _ => QA_eq rfl (QA_nil (DNo rfl rfl))) ?_
    refine D_s (js := [(28, 33), (19, 24)]) (by kernel_rfl) (fun _ _ => QA_eq rfl (QA_eq rfl (QA_nil (DNo rfl rfl)))) ?_
    refine D_s (js := [(29, 34), (19, 24)]) (by kernel_rfl) (fun _ _ => QA_eq rfl (QA_eq rfl (QA_nil (DNo rfl rfl)))) ?_
    refine D_s (js := [(30, 35), (19, 24)]) (by kernel_rfl) (fun _ _ => QA_eq rfl (QA_eq rfl (QA_nil (DNo rfl rfl)))) ?_
    refine D_s (js := [(19, 24)]) (by kernel_rfl) (fun _ _ => QA_eq rfl (QA_nil (DNo rfl rfl))) ?_
    refine D_s (js := [(32, 37), (19, 24)]) (by kernel_rfl) (fun _ _ => QA_eq rfl (QA_eq rfl (QA_nil (DNo rfl rfl)))) ?_
    refine D_s (js := [(31, 36), (33, 38), (19, 24)]) (by kernel_rfl) (fun _ _ => QA_eq rfl (QA_eq rfl (QA_eq rfl (QA_nil (DNo rfl rfl))))) ?_
    refine D_s (js := [(23, 28), (27, 32), (34, 39), (19, 24)]) (by kernel_rfl) (fun _ _ => QA_eq rfl (QA_eq rfl (QA_eq rfl (QA_eq rfl (QA_nil (DNo rfl rfl)))))) ?_
    refine D_s (js := [(19, 24)]) (by kernel_rfl) (fun _ _ => QA_eq rfl (QA_nil (DNo rfl rfl))) ?_
    refine D_s (js := [(35, 40), (36, 41), (19, 24)]) (by kernel_rfl) (fun _ _ => QA_eq rfl (QA_eq rfl (QA_eq rfl (QA_nil (DNo rfl rfl))))) ?_
    refine D_s (js := [(19, 24), (37, 42)]) (by kernel_rfl) (fun _ _ => QA_eq rfl (QA_eq rfl (QA_nil (DPu T.ok rfl rfl rfl)))) ?_
    exact D_nil
   intro g1 hf1; refine QA_eq rfl ?_; refine QA_nil ?_
   replace hs := hs.dr.call hf1; have hqe := (G.le_dr _).trans hf1.le; replace le0 := G.le.trans le0 hqe
   refine P1 T.ok rfl rfl rfl ?_; refine WL_nil ?_; (with_reducible refine T_then ?_)
   exact W_ret (ret1 rfl rfl (RetS.intro le0 ⟨rfl, hs⟩))
  | true =>
   have hle : w.length ≤ s.length - at' := by simp at e1; omega
   rw [decide_eq_true hle]
   refine W_seq ?_; refine W_region ?_; refine P1 T.ok rfl rfl rfl ?_; refine WL_nil ?_; (with_reducible refine T_then ?_); refine W_seq ?_
   apply W_draw allF rfl (Fact.eq _ :: Fact.eq _ :: Fact.eq _ :: Fact.eq _ :: Fact.eq _ :: Fact.eq _ :: Fact.eq _ :: Fact.eq _ :: Fact.eq _ :: Fact.eq _ :: Fact.eq _ :: Fact.eq _ :: Fact.eq _ :: Fact.eq _ :: Fact.eq _ :: Fact.eq _ :: Fact.eq _ :: Fact.eq _ :: Fact.eq _ :: Fact.eq _ :: Fact.eq _ :: Fact.eq _ :: Fact.eq _ :: Fact.eq _ :: Fact.eq _ :: Fact.eq _ :: Fact.eq _ :: Fact.eq _ :: Fact.eq _ :: Fact.eq _ :: Fact.eq _ :: Fact.eq _ :: Fact.eq _ :: Fact.eq _ :: Fact.eq _ :: Fact.eq _ :: Fact.eq _ :: Fact.eq _ :: Fact.eq _ :: []) 39 [(38, 43)] rfl rfl
   ·refine D_s (js := []) (by kernel_rfl) (fun _ _ => QA_nil (DPu T.ok rfl rfl rfl)) ?_
    refine D_s (js := [(0, 5)]) (by kernel_rfl) (fun _ _ => QA_eq rfl (QA_nil (DPu T.ok rfl rfl rfl))) ?_
    refine D_s (js := [(1, 6)]) (by kernel_rfl) (fun _ _ => QA_eq rfl (QA_nil (DPu T.ok rfl rfl rfl))) ?_
    refine D_s (js := [(2, 7)]) (by kernel_rfl) (fun _ hf => QA_eq rfl (QA_nil (DLo T.ok 0 rfl rfl (hs.dr.call hf) rfl rfl rfl rfl))) ?_
    refine D_s (js := [(3, 8)]) (by kernel_rfl) (fun _ _ => QA_eq rfl (QA_nil (DPu T.ok rfl rfl rfl))) ?_
    refine D_s (js := [(4, 9)]) (by kernel_rfl) (fun _ _ => QA_eq rfl (QA_nil (DPu T.ok rfl rfl rfl))) ?_
    refine D_s (js := [(5, 10), (4, 9)]) (by kernel_rfl) (fun _ _ => QA_eq rfl (QA_eq rfl (QA_nil (DPu T.ok rfl rfl rfl)))) ?_
    refine D_s (js := [(6, 11), (4, 9)]) (by kernel_rfl) (fun _ _ => QA_eq rfl (QA_eq rfl (QA_nil (DPu T.ok rfl rfl rfl)))) ?_
    refine D_s (js := [(7, 12), (4, 9)]) (by kernel_rfl) (fun _ hf => QA_eq rfl (QA_eq rfl (QA_nil (DLo T.ok 0 rfl rfl (hs.dr.call hf) rfl rfl rfl rfl)))) ?_
    refine D_s (js := [(8, 13), (4, 9)]) (by kernel_rfl) (fun _ _ => QA_eq rfl (QA_eq rfl (QA_nil (DPu T.ok rfl rfl rfl)))) ?_
    refine D_s (js := [(4, 9)]) (by kernel_rfl) (fun _ _ => QA_eq rfl (QA_nil (DPu T.ok rfl rfl rfl))) ?_
    refine D_s (js := [(10, 15), (4, 9)]) (by kernel_rfl) (fun _ _ => QA_eq rfl (QA_eq rfl (QA_nil (DPu T.ok rfl rfl rfl)))) ?_
    refine D_s (js := [(11, 16), (4, 9)]) (by kernel_rfl) (fun _ _ => QA_eq rfl (QA_eq rfl (QA_nil (DPu T.ok rfl rfl rfl)))) ?_
    refine D_s (js := [(12, 17), (4, 9)]) (by kernel_rfl) (fun _ hf => QA_eq rfl (QA_eq rfl (QA_nil (DLo T.ok 0 rfl rfl (hs.dr.call hf) rfl rfl rfl rfl)))) ?_
    refine D_cons (D_step2 (js := [(9, 14), (13, 18), (4, 9)]) (by kernel_rfl) fun gd hf => ?_) ?_
    ·have hsd := hs.dr.call hf; have hfe := (G.le_dr _).trans hf.le
     refine QA_eq rfl ?_; refine QA_eq rfl ?_; refine QA_eq rfl ?_
     refine QA_nil ?_
     refine D_yes rfl ?_
     refine OpR_pure _ T.ok rfl ?_
     refine ⟨_, rfl, Fr0.refl _, ?_⟩
     exact congrArg (Value.int .i64) (show _ = ((s.length - at' : Nat) : Int) from by rw [bs_size, wr (by omega) (by omega)]; omega)
    refine D_s (js := [(4, 9)]) (by kernel_rfl) (fun _ _ => QA_eq rfl (QA_nil (DPu T.ok rfl rfl rfl))) ?_
    refine D_s (js := [(15, 20), (4, 9)]) (by kernel_rfl) (fun _ _ => QA_eq rfl (QA_eq rfl (QA_nil (DPu T.ok rfl rfl rfl)))) ?_
    refine D_cons (D_step2 (js := [(14, 19), (16, 21), (4, 9)]) (by kernel_rfl) fun gd hf => ?_) ?_
    ·have hsd := hs.dr.call hf; have hfe := (G.le_dr _).trans hf.le
     refine QA_eq rfl ?_; refine QA_eq rfl ?_; refine QA_eq rfl ?_
     refine QA_nil ?_
     refine D_yes rfl ?_
     refine OpR_pure _ T.ok rfl ?_
     exact ⟨_, rfl, Fr0.refl _, congrArg Value.bool (show _ = true from by rw [bs_size]; exact e1)⟩
    refine D_s (js := [(4, 9), (17, 22)]) (by kernel_rfl) (fun _ _ => QA_eq rfl (QA_eq rfl (QA_nil (DPu T.ok rfl rfl rfl)))) ?_
    refine D_s (js := [(18, 23)]) (by kernel_rfl) (fun _ _ => QA_eq rfl (QA_nil (DPu T.ok rfl rfl rfl))) ?_
    refine D_s (js := [(19, 24)]) (by kernel_rfl) (fun _ _ => QA_eq rfl (QA_nil (DPu T.ok rfl rfl rfl))) ?_
    refine D_s (js := [(20, 25), (19, 24)]) (by kernel_rfl) (fun _ _ => QA_eq rfl (QA_eq rfl (QA_nil (DPu T.ok rfl rfl rfl)))) ?_
    refine D_s (js := [(21, 26), (19, 24)]) (by kernel_rfl) (fun _ _ => QA_eq rfl (QA_eq rfl (QA_nil (DPu T.ok rfl rfl rfl)))) ?_
    refine D_s (js := [(22, 27), (19, 24)]) (by kernel_rfl) (fun _ hf => QA_eq rfl (QA_eq rfl (QA_nil (DLo T.ok 0 rfl rfl (hs.dr.call hf) rfl rfl rfl rfl)))) ?_
    refine D_s (js := [(19, 24)]) (by kernel_rfl) (fun _ _ => QA_eq rfl (QA_nil (DPu T.ok rfl rfl rfl))) ?_
    refine D_s (js := [(24, 29), (19, 24)]) (by kernel_rfl) (fun _ _ => QA_eq rfl (QA_eq rfl (QA_nil (DPu T.ok rfl rfl rfl)))) ?_
    refine D_s (js := [(25, 30), (19, 24)]) (by kernel_rfl) (fun _ _ => QA_eq rfl (QA_eq rfl (QA_nil (DPu T.ok rfl rfl rfl)))) ?_
    refine D_s (js := [(26, 31), (19, 24)]) (by kernel_rfl) (fun _ hf => QA_eq rfl (QA_eq rfl (QA_nil (DLo T.ok 0 rfl rfl (hs.dr.call hf) rfl rfl rfl rfl)))) ?_
    refine D_s (js := [(19, 24)]) (by kernel_rfl) (fun _ _ => QA_eq rfl (QA_nil (DPu T.ok rfl rfl rfl))) ?_
    refine D_s (js := [(28, 33), (19, 24)]) (by kernel_rfl) (fun _ _ => QA_eq rfl (QA_eq rfl (QA_nil (DPu T.ok rfl rfl rfl)))) ?_
    refine D_s (js := [(29, 34), (19, 24)]) (by kernel_rfl) (fun _ _ => QA_eq rfl (QA_eq rfl (QA_nil (DPu T.ok rfl rfl rfl)))) ?_
    refine D_s (js := [(30, 35), (19, 24)]) (by kernel_rfl) (fun _ hf => QA_eq rfl (QA_eq rfl (QA_nil (DLo T.ok 0 rfl rfl (hs.dr.call hf) rfl rfl rfl rfl)))) ?_
    refine D_s (js := [(19, 24)]) (by kernel_rfl) (fun _ _ => QA_eq rfl (QA_nil (DPu T.ok rfl rfl rfl))) ?_
    refine D_s (js := [(32, 37), (19, 24)]) (by kernel_rfl) (fun _ _ => QA_eq rfl (QA_eq rfl (QA_nil (DPu T.ok rfl rfl rfl)))) ?_
    refine D_cons (D_step2 (js := [(31, 36), (33, 38), (19, 24)]) (by kernel_rfl) fun gd hf => ?_) ?_
    ·have hsd := hs.dr.call hf; have hfe := (G.le_dr _).trans hf.le
     refine QA_eq rfl ?_; refine QA_eq rfl ?_; refine QA_eq rfl ?_
     refine QA_nil ?_
     refine D_yes rfl ?_
     refine OpR_pure _ T.ok rfl ?_
     refine ⟨_, rfl, Fr0.refl _, ?_⟩
     exact congrArg (Value.int .i64) (show _ = ((at' + w.length : Nat) : Int) from by rw [bs_size, wr (by omega) (by omega)]; omega)
    refine D_cons (D_step2 (js := [(23, 28), (27, 32), (34, 39), (19, 24)]) (by kernel_rfl) fun gd hf => ?_) ?_
    ·have hsd := hs.dr.call hf; have hfe := (G.le_dr _).trans hf.le
     refine QA_eq rfl ?_; refine QA_eq rfl ?_; refine QA_eq rfl ?_; refine QA_eq rfl ?_
     refine QA_nil ?_
     refine D_yes rfl ?_
     refine OpR_cutS T.ok (s := s) (a := at') (b := at' + w.length) rfl rfl rfl rfl ⟨_, rfl⟩ ⟨_, rfl⟩ (by omega) (by omega) ?_
     exact ⟨_, rfl, Fr0.refl _, rfl⟩
    refine D_s (js := [(19, 24)]) (by kernel_rfl) (fun _ _ => QA_eq rfl (QA_nil (DPu T.ok rfl rfl rfl))) ?_
    refine D_cons (D_step2 (js := [(35, 40), (36, 41), (19, 24)]) (by kernel_rfl) fun gd hf => ?_) ?_
    ·have hsd := hs.dr.call hf; have hfe := (G.le_dr _).trans hf.le
     refine QA_eq rfl ?_; refine QA_eq rfl ?_; refine QA_eq rfl ?_
     refine QA_nil ?_
     refine D_yes rfl ?_
     refine OpR_eqS (neg := false) (p := (s.take (at' + w.length)).drop at') (q := w) rfl rfl rfl ?_
     refine ⟨_, rfl, Fr0.refl _, ?_⟩
     exact congrArg Value.bool (show (false != _) = ((s.take (at' + w.length)).drop at' == w) from by simp)
    refine D_s (js := [(19, 24), (37, 42)]) (by kernel_rfl) (fun _ _ => QA_eq rfl (QA_eq rfl (QA_nil (DPu T.ok rfl rfl rfl)))) ?_
    exact D_nil
   intro g1 hf1; refine QA_eq rfl ?_; refine QA_nil ?_
   replace hs := hs.dr.call hf1; have hqe := (G.le_dr _).trans hf1.le; replace le0 := G.le.trans le0 hqe
   refine P1 T.ok rfl rfl rfl ?_; refine WL_nil ?_; (with_reducible refine T_then ?_)
   exact W_ret (ret1 rfl rfl (RetS.intro le0 ⟨rfl, hs⟩))
end Go.Proofs.YtnaeopehmdcplaaGreatDoor

/- The reference's Text.number. -/
namespace Go.Proofs.YtnaeopehmdcplaaGreatDoor
open Go Go.K
set_option maxRecDepth 10000
attribute [local irreducible] W WL OpR bitAnd bitOr bitXor bitClr bitNot shlI shrI
set_option maxHeartbeats 16000000

theorem wrapU8 {n : Int} (h : 0 ≤ n) (h2 : n < 256) : IntKind.u8.wrap n = n := by
 unfold IntKind.wrap; simp [IntKind.signed, IntKind.bits]; omega
theorem wr8s (c : UInt8) (h : 48 ≤ c.toNat) : IntKind.u8.wrap ((c.toNat : Int) - 48) = ((c.toNat - 48 : Nat) : Int) := by
 have h2 : c.toNat < 256 := c.toNat_lt
 have e : (c.toNat : Int) - 48 = ((c.toNat - 48 : Nat) : Int) := by omega
 rw [e]
 exact wrapU8 (by omega) (by omega)
theorem digGo_end (n : Nat) : digGo n [] = (n, []) := rfl
theorem digGo_stop {n : Nat} {c : UInt8} {t : List UInt8} (h : ¬ (n ≤ 1000000 ∧ isDig c = true)) : digGo n (c :: t) = (n, c :: t) := by
 rw [digGo, if_neg h]
theorem digGo_go {n : Nat} {c : UInt8} {t : List UInt8} (h : n ≤ 1000000 ∧ isDig c = true) : digGo n (c :: t) = digGo (10 * n + (c.toNat - 48)) t := by
 rw [digGo, if_pos h]
theorem isDig_iff (c : UInt8) : isDig c = true ↔ 48 ≤ c.toNat ∧ c.toNat ≤ 57 := by
 unfold isDig; simp
/-- What the checks behind the digits say. -/
theorem numBad_eq {s : List UInt8} {a0 a1 n : Nat} (h : digGo 0 (s.drop a0) = (n, s.drop a1)) (h0 : a0 ≤ a1) (h1 : a1 ≤ s.length) :
  numBad (s.drop a0) = (decide (a1 = a0) || (decide (1 < a1 - a0) && s[a0]? == some 48) || decide (1000000 < n)) := by
 unfold numBad
 rw [h]
 dsimp only
 rw [List.length_drop, List.length_drop, List.head?_drop]
 have e1 : (s.length - a1 == s.length - a0) = decide (a1 = a0) := by
  by_cases hh : a1 = a0
  ·subst hh; simp
  ·rw [decide_eq_false hh, beq_eq_false_iff_ne]; omega
 have e2 : s.length - a0 - (s.length - a1) = a1 - a0 := by omega
 rw [e1, e2]






theorem tnumber_c {b : Nat} {s : List UInt8} {a0 : Nat} {ok : Bool} {g0 g : G} {L : List Ent} (hat : a0 ≤ s.length) (hsl : s.length ≤ 1000000) (hs : St g0 g (txO b s a0 ok :: L)) :
  CallsIn Wd 0 Tryz.prog 69 #[.pointer (some ⟨b, 0, none⟩)] g.w (RetS g fun g' r => r = .int .i64 ((numR ok (s.drop a0)).1 : Nat) ∧ TxPost b s L g0 g' (numR ok (s.drop a0)).2.1 (numR ok (s.drop a0)).2.2) := by
 have le0 := G.le.refl g
 unfold TxPost txO at *
 refine enter Tryz.func69 rfl Tryz.ntmps69 rfl ?_
 cases ok with
 | false =>
  have hnr : numR false (s.drop a0) = (0, false, s.drop a0) := rfl
  rw [hnr]
  refine W_seq ?_; refine W_region ?_; refine P1 T.ok rfl rfl rfl ?_; refine WL_nil ?_; (with_reducible refine T_then ?_); refine W_seq ?_; refine W_region ?_; refine P1 T.ok rfl rfl rfl ?_; refine WL_nil ?_; (with_reducible refine T_then ?_); refine W_seq ?_; refine W_region ?_; (iterate 3 refine P1 T.ok rfl rfl rfl ?_); refine WL_o rfl rfl (OpR_loadO T.ok 0 rfl hs rfl rfl rfl ?_); refine P1 T.ok rfl rfl rfl ?_; refine WL_nil ?_; (with_reducible refine T_then ?_); refine W_seq ?_; refine W_block ?_
  refine W_loop (fun m a' w => ∃ (g' : G), w = g'.w ∧ St g0 g' (.obj b (.cells [.string (bs s), .int .i64 a0, .bool false].toArray 100 (0, 0)) :: L) ∧ G.le g g' ∧ m = 0 ∧ Fr 106 [] [(0, .pointer (some ⟨b, 0, none⟩)), (3, .int .i64 0), (4, .int .i64 a0)] a') 0 (fun a' ha => ⟨g, rfl, hs, le0, rfl, ha.keep (by (repeat (first | exact trivial | refine ⟨rfl, ?_⟩)))⟩) ?_
  clear hs le0
  rintro m a' _ ⟨g', rfl, hs, le0, rfl, ha'⟩
  revert a'
  (with_reducible refine T_wp ?_); refine W_seq ?_; refine W_seq ?_
  apply W_draw allF rfl (Fact.eq _ :: Fact.eq _ :: Fact.eq _ :: Fact.eq _ :: Fact.eq _ :: Fact.eq _ :: Fact.eq _ :: Fact.eq _ :: Fact.eq _ :: Fact.eq _ :: Fact.eq _ :: Fact.eq _ :: Fact.eq _ :: Fact.eq _ :: Fact.eq _ :: Fact.eq _ :: Fact.eq _ :: Fact.eq _ :: Fact.eq _ :: Fact.eq _ :: Fact.eq _ :: Fact.eq _ :: Fact.eq _ :: Fact.eq _ :: Fact.eq _ :: Fact.eq _ :: Fact.eq _ :: Fact.eq _ :: Fact.eq _ :: Fact.eq _ :: Fact.eq _ :: Fact.eq _ :: Fact.eq _ :: Fact.eq _ :: Fact.eq _ :: Fact.eq _ :: Fact.eq _ :: Fact.eq _ :: Fact.eq _ :: Fact.eq _ :: Fact.eq _ :: Fact.eq _ :: Fact.eq _ :: Fact.eq _ :: []) 44 [(43, 52)] rfl rfl
  ·refine D_s (js := []) (by kernel_rfl) (fun _ _ => QA_nil (DPu T.ok rfl rfl rfl)) ?_
   refine D_s (js := [(0, 9)]) (by kernel_rfl) (fun _ _ => QA_eq rfl (QA_nil (DPu T.ok rfl rfl rfl))) ?_
   refine D_s (js := [(1, 10)]) (by kernel_rfl) (fun _ _ => QA_eq rfl (QA_nil (DPu T.ok rfl rfl rfl))) ?_
   refine D_s (js := [(2, 11)]) (by kernel_rfl) (fun _ hf => QA_eq rfl (QA_nil (DLo T.ok 0 rfl rfl (hs.dr.call hf) rfl rfl rfl rfl))) ?_
   refine D_s (js := [(3, 12)]) (by kernel_rfl) (fun _ _ => QA_eq rfl (QA_nil (DPu T.ok rfl rfl rfl))) ?_
   refine D_s (js := [(4, 13)]) (by kernel_rfl) (fun _ _ => QA_eq rfl (QA_nil (DNo rfl rfl))) ?_
   refine D_s (js := [(5, 14), (4, 13)]) (by kernel_rfl) (fun _ _ => QA_eq rfl (QA_eq rfl (QA_nil (DNo rfl rfl)))) ?_
   refine D_s (js := [(6, 15), (4, 13)]) (by kernel_rfl) (fun _ _ => QA_eq rfl (QA_eq rfl (QA_nil (DNo rfl rfl)))) ?_
   refine D_s (js := [(7, 16), (4, 13)]) (by kernel_rfl) (fun _ _ => QA_eq rfl (QA_eq rfl (QA_nil (DNo rfl rfl)))) ?_
   refine D_s (js := [(4, 13)]) (by kernel_rfl) (fun _ _ => QA_eq rfl (QA_nil (DNo rfl rfl))) ?_
   refine D_s (js := [(9, 18), (4, 13)]) (by kernel_rfl) (fun _ _ => QA_eq rfl (QA_eq rfl (QA_nil (DNo rfl rfl)))) ?_
   refine D_s (js := [(10, 19), (4, 13)]) (by kernel_rfl) (fun _ _ => QA_eq rfl (QA_eq rfl (QA_nil (DNo rfl rfl)))) ?_
   refine D_s (js := [(11, 20), (4, 13)]) (by kernel_rfl) (fun _ _ => QA_eq rfl (QA_eq rfl (QA_nil (DNo rfl rfl)))) ?_
   refine D_s (js := [(12, 21), (4, 13)]) (by kernel_rfl) (fun _ _ => QA_eq rfl (QA_eq rfl (QA_nil (DNo rfl rfl)))) ?_
   refine D_s (js := [(8, 17), (13, 22), (4, 13)]) (by kernel_rfl) (fun _ _ => QA_eq rfl (QA_eq rfl (QA_eq rfl (QA_nil (DNo rfl rfl))))) ?_
   refine D_s (js := [(4, 13), (14, 23)]) (by kernel_rfl) (fun _ _ => QA_eq rfl (QA_eq rfl (QA_nil (DPu T.ok rfl rfl rfl)))) ?_
   refine D_s (js := [(15, 24)]) (by kernel_rfl) (fun _ _ => QA_eq rfl (QA_nil (DPu T.ok rfl rfl rfl))) ?_
   refine D_s (js := [(16, 25)]) (by kernel_rfl) (fun _ _ => QA_eq rfl (QA_nil (DNo rfl rfl))) ?_
   refine D_s (js := [(17, 26), (16, 25)]) (by kernel_rfl) (fun _ _ => QA_eq rfl (QA_eq rfl (QA_nil (DNo rfl rfl)))) ?_
   refine D_s (js := [(18, 27), (16, 25)]) (by kernel_rfl) (fun _ _ => QA_eq rfl (QA_eq rfl (QA_nil (DNo rfl rfl)))) ?_
   refine D_s (js := [(19, 28), (16, 25)]) (by kernel_rfl) (fun _ _ => QA_eq rfl (QA_eq rfl (QA_nil (DNo rfl rfl)))) ?_
   refine D_s (js := [(16, 25)]) (by kernel_rfl) (fun _ _ => QA_eq rfl (QA_nil (DNo rfl rfl))) ?_
   refine D_s (js := [(21, 30), (16, 25)]) (by kernel_rfl) (fun _ _ => QA_eq rfl (QA_eq rfl (QA_nil (DNo rfl rfl)))) ?_
   refine D_s (js := [(22, 31), (16, 25)]) (by kernel_rfl) (fun _ _ => QA_eq rfl (QA_eq rfl (QA_nil (DNo rfl rfl)))) ?_
   refine D_s (js := [(23, 32), (16, 25)]) (by kernel_rfl) (fun _ _ => QA_eq rfl (QA_eq rfl (QA_nil (DNo rfl rfl)))) ?_
   refine D_s (js := [(20, 29), (24, 33), (16, 25)]) (by kernel_rfl) (fun _ _ => QA_eq rfl (QA_eq rfl (QA_eq rfl (QA_nil (DNo rfl rfl))))) ?_
   refine D_s (js := [(25, 34), (16, 25)]) (by kernel_rfl) (fun _ _ => QA_eq rfl (QA_eq rfl (QA_nil (DNo rfl rfl)))) ?_
   refine D_s (js := [(16, 25), (26, 35)]) (by kernel_rfl) (fun _ _ => QA_eq rfl (QA_eq rfl (QA_nil (DPu T.ok rfl rfl rfl)))) ?_
   refine D_s (js := [(27, 36)]) (by kernel_rfl) (fun _ _ => QA_eq rfl (QA_nil (DPu T.ok rfl rfl rfl))) ?_
   refine D_s (js := [(28, 37)]) (by kernel_rfl) (fun _ _ => QA_eq rfl (QA_nil (DNo rfl rfl))) ?_
   refine D_s (js := [(29, 38), (28, 37)]) (by kernel_rfl) (fun _ _ => QA_eq rfl (QA_eq rfl (QA_nil (DNo rfl rfl)))) ?_
   refine D_s (js := [(30, 39), (28, 37)]) (by kernel_rfl) (fun _ _ => QA_eq rfl (QA_eq rfl (QA_nil (DNo rfl rfl)))) ?_
   refine D_s (js := [(31, 40), (28, 37)]) (by kernel_rfl) (fun _ _ => QA_eq rfl (QA_eq rfl (QA_nil (DNo rfl rfl)))) ?_
   refine D_s (js := [(28, 37)]) (by kernel_rfl) (fun _ _ => QA_eq rfl (QA_nil (DNo rfl rfl))) ?_
   refine D_s (js := [(33, 42), (28, 37)]) (by kernel_rfl) (fun _ _ => QA_eq rfl (QA_eq rfl (QA_nil (DNo rfl rfl)))) ?_
   refine D_s (js := [(34, 43), (28, 37)]) (by kernel_rfl) (fun _ _ => QA_eq rfl (QA_eq rfl (QA_nil (DNo rfl rfl)))) ?_
   refine D_s (js := [(35, 44), (28, 37)]) (by kernel_rfl) (fun _ _ => QA_eq rfl (QA_eq rfl (QA_nil (DNo rfl rfl)))) ?_
   refine D_s (js := [(32, 41), (36, 45), (28, 37)]) (by kernel_rfl) (fun _ _ => QA_eq rfl (QA_eq rfl (QA_eq rfl (QA_nil (DNo rfl rfl))))) ?_
   refine D_s (js := [(37, 46), (28, 37)]) (by kernel_rfl) (fun _ _ => QA_eq rfl (QA_eq rfl (QA_nil (DNo rfl rfl)))) ?_
   refine D_s (js := [(28, 37), (38, 47)]) (by kernel_rfl) (fun _ _ => QA_eq rfl (QA_eq rfl (QA_nil (DPu T.ok rfl rfl rfl)))) ?_
   refine D_s (js := [(39, 48)]) (by kernel_rfl) (fun _ _ => QA_eq rfl (QA_nil (DPu T.ok rfl rfl rfl))) ?_
   refine D_s (js := [(40, 49)]) (by kernel_rfl) (fun _ _ => QA_eq rfl (QA_nil (DNo rfl rfl))) ?_
   refine D_s (js := [(41, 50), (40, 49)]) (by kernel_rfl) (fun _ _ => QA_eq rfl (QA_eq rfl (QA_nil (DNo rfl rfl)))) ?_
   refine D_s (js := [(40, 49), (42, 51)]) (by kernel_rfl) (fun _ _ => QA_eq rfl (QA_eq rfl (QA_nil (DPu T.ok rfl rfl rfl)))) ?_
   exact D_nil
  intro g1 hf1; refine QA_eq rfl ?_; refine QA_nil ?_
  replace hs := hs.dr.call hf1; have hqe := (G.le_dr _).trans hf1.le; replace le0 := G.le.trans le0 hqe
  refine WL_nil ?_; (with_reducible refine T_then ?_)
  refine W_no rfl rfl ?_
  refine W_exit ?_; (with_reducible refine T_tx ?_; with_reducible refine T_tx ?_); (with_reducible refine T_bx ?_); (with_reducible refine T_then ?_); refine W_seq ?_; refine W_seq ?_; refine W_region ?_; (iterate 3 refine P1 T.ok rfl rfl rfl ?_); refine WL_o rfl rfl (OpR_loadO T.ok 0 rfl hs rfl rfl rfl ?_); (iterate 3 refine P1 T.ok rfl rfl rfl ?_)
  refine WL_know 80 (b' := true) (by simp) rfl ?_
  (iterate 16 refine S1 allF rfl rfl ?_); refine P1 T.ok rfl rfl rfl ?_; refine P1 T.ok rfl rfl rfl ?_; refine S1 allF rfl rfl ?_; refine S1 allF rfl rfl ?_; refine P1 T.ok rfl rfl rfl ?_; refine WL_nil ?_; (with_reducible refine T_then ?_)
  refine W_yes rfl rfl ?_
  refine W_region ?_; (iterate 3 refine P1 T.ok rfl rfl rfl ?_)
  refine WL_n rfl (OpR_storeO T.ok 0 rfl hs rfl rfl rfl rfl rfl rfl rfl rfl rfl ?_); replace hs := hs; rintro g1 hs hqe; replace le0 := G.le.trans le0 hqe
  refine WL_nil ?_; (with_reducible refine T_then ?_); refine W_seq ?_; refine W_region ?_; refine P1 T.ok rfl rfl rfl ?_; refine P1 T.ok rfl rfl rfl ?_; refine WL_nil ?_; (with_reducible refine T_then ?_)
  exact W_ret (ret1 rfl rfl (RetS.intro le0 ⟨rfl, a0, hat, rfl, hs⟩))
 | true =>
  refine W_seq ?_; refine W_region ?_; refine P1 T.ok rfl rfl rfl ?_; refine WL_nil ?_; (with_reducible refine T_then ?_); refine W_seq ?_; refine W_region ?_; refine P1 T.ok rfl rfl rfl ?_; refine WL_nil ?_; (with_reducible refine T_then ?_); refine W_seq ?_; refine W_region ?_; (iterate 3 refine P1 T.ok rfl rfl rfl ?_); refine WL_o rfl rfl (OpR_loadO T.ok 0 rfl hs rfl rfl rfl ?_); refine P1 T.ok rfl rfl rfl ?_; refine WL_nil ?_; (with_reducible refine T_then ?_); refine W_seq ?_; refine W_block ?_
  refine W_loop (fun m a' w => ∃ (n a1 : Nat) (g' : G), digGo n (s.drop a1) = digGo 0 (s.drop a0) ∧ w = g'.w ∧ St g0 g' (.obj b (.cells [.string (bs s), .int .i64 a1, .bool true].toArray 100 (0, 0)) :: L) ∧ G.le g g' ∧ a0 ≤ a1 ∧ a1 ≤ s.length ∧ n ≤ 10000009 ∧ m = s.length - a1 ∧
   Fr 106 [] [(0, .pointer (some ⟨b, 0, none⟩)), (3, .int .i64 n), (4, .int .i64 a0)] a') (s.length - a0) (fun a' ha => ⟨0, a0, g, rfl, rfl, hs, le0, Nat.le_refl _, hat, by omega, rfl, ha.keep (by (repeat (first | exact trivial | refine ⟨rfl, ?_⟩)))⟩) ?_
  clear hs le0
  rintro m a' _ ⟨n, a1, g', hdg, rfl, hs, le0, h0, h1, hn, rfl, ha'⟩
  revert a'
  by_cases hlt : a1 < s.length
  ·obtain ⟨c, hc⟩ : ∃ c, s[a1] = c := ⟨_, rfl⟩
   have hdr : s.drop a1 = c :: s.drop (a1 + 1) := by rw [List.drop_eq_getElem_cons hlt, hc]
   have e1 : decide ((a1 : Int) < (s.length : Int)) = true := by simp; omega
   cases e2 : decide ((48 : Int) ≤ (c.toNat : Int)) with
   | false =>
    have hd : digGo 0 (s.drop a0) = (n, s.drop a1) := by
     rw [← hdg, hdr, digGo_stop]
     rintro ⟨_, h⟩
     have := ((isDig_iff c).1 h).1
     simp at e2; omega
    (with_reducible refine T_wp ?_); refine W_seq ?_; refine W_seq ?_
    apply W_draw allF rfl (Fact.eq _ :: Fact.eq _ :: Fact.eq _ :: Fact.eq _ :: Fact.eq _ :: Fact.eq _ :: Fact.eq _ :: Fact.eq _ :: Fact.eq _ :: Fact.eq _ :: Fact.eq _ :: Fact.eq _ :: Fact.eq _ :: Fact.eq _ :: Fact.eq _ :: Fact.eq _ :: Fact.eq _ :: Fact.eq _ :: Fact.eq _ :: Fact.eq _ :: Fact.eq _ :: Fact.eq _ :: Fact.eq _ :: Fact.eq _ :: Fact.eq _ :: Fact.eq _ :: Fact.eq _ :: Fact.eq _ :: Fact.eq _ :: Fact.eq _ :: Fact.eq _ :: Fact.eq _ :: Fact.eq _ :: Fact.eq _ :: Fact.eq _ :: Fact.eq _ :: Fact.eq _ :: Fact.eq _ :: Fact.eq _ :: Fact.eq _ :: Fact.eq _ :: Fact.eq _ :: Fact.eq _ :: Fact.eq _ :: []) 44 [(43, 52)] rfl rfl
    ·refine D_s (js := []) (by kernel_rfl) (fun _ _ => QA_nil (DPu T.ok rfl rfl rfl)) ?_
     refine D_s (js := [(0, 9)]) (by kernel_rfl) (fun _ _ => QA_eq rfl (QA_nil (DPu T.ok rfl rfl rfl))) ?_
     refine D_s (js := [(1, 10)]) (by kernel_rfl) (fun _ _ => QA_eq rfl (QA_nil (DPu T.ok rfl rfl rfl))) ?_
     refine D_s (js := [(2, 11)]) (by kernel_rfl) (fun _ hf => QA_eq rfl (QA_nil (DLo T.ok 0 rfl rfl (hs.dr.call hf) rfl rfl rfl rfl))) ?_
     refine D_s (js := [(3, 12)]) (by kernel_rfl) (fun _ _ => QA_eq rfl (QA_nil (DPu T.ok rfl rfl rfl))) ?_
     refine D_s (js := [(4, 13)]) (by kernel_rfl) (fun _ _ => QA_eq rfl (QA_nil (DPu T.ok rfl rfl rfl))) ?_
     refine D_s (js := [(5, 14), (4, 13)]) (by kernel_rfl) (fun _ _ => QA_eq rfl (QA_eq rfl (QA_nil (DPu T.ok rfl rfl rfl)))) ?_
     refine D_s (js := [(6, 15), (4, 13)]) (by kernel_rfl) (fun _ _ => QA_eq rfl (QA_eq rfl (QA_nil (DPu T.ok rfl rfl rfl)))) ?_
     refine D_s (js := [(7, 16), (4, 13)]) (by kernel_rfl) (fun _ hf => QA_eq rfl (QA_eq rfl (QA_nil (DLo T.ok 0 rfl rfl (hs.dr.call hf) rfl rfl rfl rfl)))) ?_
     refine D_s (js := [(4, 13)]) (by kernel_rfl) (fun _ _ => QA_eq rfl (QA_nil (DPu T.ok rfl rfl rfl))) ?_
     refine D_s (js := [(9, 18), (4, 13)]) (by kernel_rfl) (fun _ _ => QA_eq rfl (QA_eq rfl (QA_nil (DPu T.ok rfl rfl rfl)))) ?_
     refine D_s (js := [(10, 19), (4, 13)]) (by kernel_rfl) (fun _ _ => QA_eq rfl (QA_eq rfl (QA_nil (DPu T.ok rfl rfl rfl)))) ?_
     refine D_s (js := [(11, 20), (4, 13)]) (by kernel_rfl) (fun _ hf => QA_eq rfl (QA_eq rfl (QA_nil (DLo T.ok 0 rfl rfl (hs.dr.call hf) rfl rfl rfl rfl)))) ?_
     refine D_s (js := [(12, 21), (4, 13)]) (by kernel_rfl) (fun _ _ => QA_eq rfl (QA_eq rfl (QA_nil (DPu T.ok rfl rfl rfl)))) ?_
     refine D_cons (D_step2 (js := [(8, 17), (13, 22), (4, 13)]) (by kernel_rfl) fun gd hf => ?_) ?_
     ·have hsd := hs.dr.call hf; have hfe := (G.le_dr _).trans hf.le
      refine QA_eq rfl ?_; refine QA_eq rfl ?_; refine QA_eq rfl ?_
      refine QA_nil ?_
      refine D_yes rfl ?_
      refine OpR_pure _ T.ok rfl ?_
      exact ⟨_, rfl, Fr0.refl _, congrArg Value.bool (show _ = true from by rw [bs_size]; exact e1)⟩
     refine D_s (js := [(4, 13), (14, 23)]) (by kernel_rfl) (fun _ _ => QA_eq rfl (QA_eq rfl (QA_nil (DPu T.ok rfl rfl rfl)))) ?_
     refine D_s (js := [(15, 24)]) (by kernel_rfl) (fun _ _ => QA_eq rfl (QA_nil (DPu T.ok rfl rfl rfl))) ?_
     refine D_s (js := [(16, 25)]) (by kernel_rfl) (fun _ _ => QA_eq rfl (QA_nil (DPu T.ok rfl rfl rfl))) ?_
     refine D_s (js := [(17, 26), (16, 25)]) (by kernel_rfl) (fun _ _ => QA_eq rfl (QA_eq rfl (QA_nil (DPu T.ok rfl rfl rfl)))) ?_
     refine D_s (js := [(18, 27), (16, 25)]) (by kernel_rfl) (fun _ _ => QA_eq rfl (QA_eq rfl (QA_nil (DPu T.ok rfl rfl rfl)))) ?_
     refine D_s (js := [(19, 28), (16, 25)]) (by kernel_rfl) (fun _ hf => QA_eq rfl (QA_eq rfl (QA_nil (DLo T.ok 0 rfl rfl (hs.dr.call hf) rfl rfl rfl rfl)))) ?_
     refine D_s (js := [(16, 25)]) (by kernel_rfl) (fun _ _ => QA_eq rfl (QA_nil (DPu T.ok rfl rfl rfl))) ?_
     refine D_s (js := [(21, 30), (16, 25)]) (by kernel_rfl) (fun _ _ => QA_eq rfl (QA_eq rfl (QA_nil (DPu T.ok rfl rfl rfl)))) ?_
     refine D_s (js := [(22, 31), (16, 25)]) (by kernel_rfl) (fun _ _ => QA_eq rfl (QA_eq rfl (QA_nil (DPu T.ok rfl rfl rfl)))) ?_
     refine D_s (js := [(23, 32), (16, 25)]) (by kernel_rfl) (fun _ hf => QA_eq rfl (QA_eq rfl (QA_nil (DLo T.ok 0 rfl rfl (hs.dr.call hf) rfl rfl rfl rfl)))) ?_
     refine D_cons (D_step2 (js := [(20, 29), (24, 33), (16, 25)]) (by kernel_rfl) fun gd hf => ?_) ?_
     ·have hsd := hs.dr.call hf; have hfe := (G.le_dr _).trans hf.le
      refine QA_eq rfl ?_; refine QA_eq rfl ?_; refine QA_eq rfl ?_
      refine QA_nil ?_
      refine D_yes rfl ?_
      refine OpR_idxS T.ok (s := s) (n := (a1 : Int)) rfl rfl rfl rfl rfl (by omega) (by simpa using hlt) ?_
      refine ⟨_, rfl, Fr0.refl _, ?_⟩
      exact congrArg (fun z : UInt8 => Value.int .u8 (z.toNat : Int)) hc
     refine D_cons (D_step2 (js := [(25, 34), (16, 25)]) (by kernel_rfl) fun gd hf => ?_) ?_
     ·have hsd := hs.dr.call hf; have hfe := (G.le_dr _).trans hf.le
      refine QA_eq rfl ?_; refine QA_eq rfl ?_
      refine QA_nil ?_
      refine D_yes rfl ?_
      refine OpR_pure _ T.ok rfl ?_
      exact ⟨_, rfl, Fr0.refl _, congrArg Value.bool (show _ = false from by exact e2)⟩
     refine D_s (js := [(16, 25), (26, 35)]) (by kernel_rfl) (fun _ _ => QA_eq rfl (QA_eq rfl (QA_nil (DPu T.ok rfl rfl rfl)))) ?_
     refine D_s (js := [(27, 36)]) (by kernel_rfl) (fun _ _ => QA_eq rfl (QA_nil (DPu T.ok rfl rfl rfl))) ?_
     refine D_s (js := [(28, 37)]) (by kernel_rfl) (fun _ _ => QA_eq rfl (QA_nil (DNo rfl rfl))) ?_
     refine D_s (js := [(29, 38), (28, 37)]) (by kernel_rfl) (fun _ _ => QA_eq rfl (QA_eq rfl (QA_nil (DNo rfl rfl)))) ?_
     refine D_s (js := [(30, 39), (28, 37)]) (by kernel_rfl) (fun _ _ => QA_eq rfl (QA_eq rfl (QA_nil (DNo rfl rfl)))) ?_
     refine D_s (js := [(31, 40), (28, 37)]) (by kernel_rfl) (fun _ _ => QA_eq rfl (QA_eq rfl (QA_nil (DNo rfl rfl)))) ?_
     refine D_s (js := [(28, 37)]) (by kernel_rfl) (fun _ _ => QA_eq rfl (QA_nil (DNo rfl rfl))) ?_
     refine D_s (js := [(33, 42), (28, 37)]) (by kernel_rfl) (fun _ _ => QA_eq rfl (QA_eq rfl (QA_nil (DNo rfl rfl)))) ?_
     refine D_s (js := [(34, 43), (28, 37)]) (by kernel_rfl) (fun _ _ => QA_eq rfl (QA_eq rfl (QA_nil (DNo rfl rfl)))) ?_
     refine D_s (js := [(35, 44), (28, 37)]) (by kernel_rfl) (fun _ _ => QA_eq rfl (QA_eq rfl (QA_nil (DNo rfl rfl)))) ?_
     refine D_s (js := [(32, 41), (36, 45), (28, 37)]) (by kernel_rfl) (fun _ _ => QA_eq rfl (QA_eq rfl (QA_eq rfl (QA_nil (DNo rfl rfl))))) ?_
     refine D_s (js := [(37, 46), (28, 37)]) (by kernel_rfl) (fun _ _ => QA_eq rfl (QA_eq rfl (QA_nil (DNo rfl rfl)))) ?_
     refine D_s (js := [(28, 37), (38, 47)]) (by kernel_rfl) (fun _ _ => QA_eq rfl (QA_eq rfl (QA_nil (DPu T.ok rfl rfl rfl)))) ?_
     refine D_s (js := [(39, 48)]) (by kernel_rfl) (fun _ _ => QA_eq rfl (QA_nil (DPu T.ok rfl rfl rfl))) ?_
     refine D_s (js := [(40, 49)]) (by kernel_rfl) (fun _ _ => QA_eq rfl (QA_nil (DNo rfl rfl))) ?_
     refine D_s (js := [(41, 50), (40, 49)]) (by kernel_rfl) (fun _ _ => QA_eq rfl (QA_eq rfl (QA_nil (DNo rfl rfl)))) ?_
     refine D_s (js := [(40, 49), (42, 51)]) (by kernel_rfl) (fun _ _ => QA_eq rfl (QA_eq rfl (QA_nil (DPu T.ok rfl rfl rfl)))) ?_
     exact D_nil
    intro g1 hf1; refine QA_eq rfl ?_; refine QA_nil ?_
    replace hs := hs.dr.call hf1; have hqe := (G.le_dr _).trans hf1.le; replace le0 := G.le.trans le0 hqe
    refine WL_nil ?_; (with_reducible refine T_then ?_)
    refine W_no rfl rfl ?_
    have hnr : numR true (s.drop a0) = (n, !numBad (s.drop a0), s.drop a1) := by unfold numR; rw [if_pos rfl, hd]
    rw [hnr, numBad_eq hd h0 h1]
    dsimp only
    clear hnr
    by_cases hfr : a1 = a0
    ·subst hfr
     rw [decide_eq_true (rfl : a1 = a1), Bool.true_or, Bool.true_or]
     refine W_exit ?_; (with_reducible refine T_tx ?_; with_reducible refine T_tx ?_); (with_reducible refine T_bx ?_); (with_reducible refine T_then ?_); refine W_seq ?_; refine W_seq ?_; refine W_region ?_; (iterate 3 refine P1 T.ok rfl rfl rfl ?_); refine WL_o rfl rfl (OpR_loadO T.ok 0 rfl hs rfl rfl rfl ?_); (iterate 3 refine P1 T.ok rfl rfl rfl ?_)
     refine WL_know 80 (b' := true) (by simp) rfl ?_
     (iterate 16 refine S1 allF rfl rfl ?_); refine P1 T.ok rfl rfl rfl ?_; refine P1 T.ok rfl rfl rfl ?_; refine S1 allF rfl rfl ?_; refine S1 allF rfl rfl ?_; refine P1 T.ok rfl rfl rfl ?_; refine WL_nil ?_; (with_reducible refine T_then ?_)
     refine W_yes rfl rfl ?_
     refine W_region ?_; (iterate 3 refine P1 T.ok rfl rfl rfl ?_)
     refine WL_n rfl (OpR_storeO T.ok 0 rfl hs rfl rfl rfl rfl rfl rfl rfl rfl rfl ?_); replace hs := hs; rintro g1 hs hqe; replace le0 := G.le.trans le0 hqe
     refine WL_nil ?_; (with_reducible refine T_then ?_); refine W_seq ?_; refine W_region ?_; refine P1 T.ok rfl rfl rfl ?_; refine P1 T.ok rfl rfl rfl ?_; refine WL_nil ?_; (with_reducible refine T_then ?_)
     exact W_ret (ret1 rfl rfl (RetS.intro le0 ⟨rfl, a1, h1, rfl, hs⟩))
    ·rw [decide_eq_false hfr, Bool.false_or]
     refine W_exit ?_; (with_reducible refine T_tx ?_; with_reducible refine T_tx ?_); (with_reducible refine T_bx ?_); (with_reducible refine T_then ?_); refine W_seq ?_; refine W_seq ?_; refine W_region ?_; (iterate 3 refine P1 T.ok rfl rfl rfl ?_); refine WL_o rfl rfl (OpR_loadO T.ok 0 rfl hs rfl rfl rfl ?_); (iterate 3 refine P1 T.ok rfl rfl rfl ?_)
     refine WL_know 80 (b' := false) (by simp; omega) rfl ?_
     (iterate 3 refine P1 T.ok rfl rfl rfl ?_); refine WL_o rfl rfl (OpR_loadO T.ok 0 rfl hs rfl rfl rfl ?_); (iterate 4 refine P1 T.ok rfl rfl rfl ?_)
     by_cases hgt : 1 < a1 - a0
     ·refine WL_know 88 (b' := true) (by rw [wr (by omega) (by omega)]; simp; omega) rfl ?_
      have hlt0 : a0 < s.length := by omega
      rw [decide_eq_true hgt, Bool.true_and, List.getElem?_eq_getElem hlt0]
      obtain ⟨c0, hc0⟩ : ∃ c0, s[a0] = c0 := ⟨_, rfl⟩
      (iterate 3 refine P1 T.ok rfl rfl rfl ?_); refine WL_o rfl rfl (OpR_loadO T.ok 0 rfl hs rfl rfl rfl ?_); refine P1 T.ok rfl rfl rfl ?_
      refine WL_o rfl rfl (OpR_idxS T.ok (s := s) (n := (a0 : Int)) rfl rfl rfl rfl rfl (by omega) (by simpa using hlt0) ?_)
      refine WL_re (.int .u8 (c0.toNat : Int)) (t := 94) rfl (congrArg (fun z : UInt8 => Value.int .u8 (z.toNat : Int)) hc0) ?_
      rw [hc0]
      by_cases h48 : c0 = 48
      ·subst h48
       rw [show ((some (48 : UInt8)) == some 48) = true from rfl, Bool.true_or]
       (iterate 4 refine P1 T.ok rfl rfl rfl ?_); refine S1 allF rfl rfl ?_; refine S1 allF rfl rfl ?_; refine P1 T.ok rfl rfl rfl ?_; refine WL_nil ?_; (with_reducible refine T_then ?_)
       skip
       refine W_yes rfl rfl ?_
       refine W_region ?_; (iterate 3 refine P1 T.ok rfl rfl rfl ?_)
       refine WL_n rfl (OpR_storeO T.ok 0 rfl hs rfl rfl rfl rfl rfl rfl rfl rfl rfl ?_); replace hs := hs; rintro g1 hs hqe; replace le0 := G.le.trans le0 hqe
       refine WL_nil ?_; (with_reducible refine T_then ?_); refine W_seq ?_; refine W_region ?_; refine P1 T.ok rfl rfl rfl ?_; refine P1 T.ok rfl rfl rfl ?_; refine WL_nil ?_; (with_reducible refine T_then ?_)
       exact W_ret (ret1 rfl rfl (RetS.intro le0 ⟨rfl, a1, h1, rfl, hs⟩))
      ·have hne : (c0.toNat : Int) ≠ 48 := fun h => h48 (UInt8.toNat_inj.1 (show c0.toNat = 48 by omega))
       rw [show (some c0 == some 48) = false from by simpa using h48, Bool.false_or]
       (iterate 4 refine P1 T.ok rfl rfl rfl ?_)
       refine WL_know 98 (b' := false) (by simp; omega) rfl ?_
       by_cases hbig : 1000000 < n
       ·rw [decide_eq_true hbig]
        (iterate 3 refine P1 T.ok rfl rfl rfl ?_); refine WL_nil ?_; (with_reducible refine T_then ?_)
        refine W_yes (b := _) ?_ rfl ?_
        ·simp; omega
        refine W_region ?_; (iterate 3 refine P1 T.ok rfl rfl rfl ?_)
        refine WL_n rfl (OpR_storeO T.ok 0 rfl hs rfl rfl rfl rfl rfl rfl rfl rfl rfl ?_); replace hs := hs; rintro g1 hs hqe; replace le0 := G.le.trans le0 hqe
        refine WL_nil ?_; (with_reducible refine T_then ?_); refine W_seq ?_; refine W_region ?_; refine P1 T.ok rfl rfl rfl ?_; refine P1 T.ok rfl rfl rfl ?_; refine WL_nil ?_; (with_reducible refine T_then ?_)
        exact W_ret (ret1 rfl rfl (RetS.intro le0 ⟨rfl, a1, h1, rfl, hs⟩))
       ·rw [decide_eq_false hbig]
        (iterate 3 refine P1 T.ok rfl rfl rfl ?_); refine WL_nil ?_; (with_reducible refine T_then ?_)
        refine W_no (b := _) ?_ rfl ?_
        ·simp; omega
        refine W_skip ?_; (with_reducible refine T_then ?_); refine W_seq ?_; refine W_region ?_; refine P1 T.ok rfl rfl rfl ?_; refine P1 T.ok rfl rfl rfl ?_; refine WL_nil ?_; (with_reducible refine T_then ?_)
        exact W_ret (ret1 rfl rfl (RetS.intro le0 ⟨rfl, a1, h1, rfl, hs⟩))
     ·refine WL_know 88 (b' := false) (by rw [wr (by omega) (by omega)]; simp; omega) rfl ?_
      rw [decide_eq_false hgt, Bool.false_and, Bool.false_or]
      (iterate 7 refine S1 allF rfl rfl ?_); (iterate 6 refine P1 T.ok rfl rfl rfl ?_); refine WL_nil ?_; (with_reducible refine T_then ?_)
      by_cases hbig : 1000000 < n
      ·rw [decide_eq_true hbig]
       skip
       refine W_yes (b := _) ?_ rfl ?_
       ·simp; omega
       refine W_region ?_; (iterate 3 refine P1 T.ok rfl rfl rfl ?_)
       refine WL_n rfl (OpR_storeO T.ok 0 rfl hs rfl rfl rfl rfl rfl rfl rfl rfl rfl ?_); replace hs := hs; rintro g1 hs hqe; replace le0 := G.le.trans le0 hqe
       refine WL_nil ?_; (with_reducible refine T_then ?_); refine W_seq ?_; refine W_region ?_; refine P1 T.ok rfl rfl rfl ?_; refine P1 T.ok rfl rfl rfl ?_; refine WL_nil ?_; (with_reducible refine T_then ?_)
       exact W_ret (ret1 rfl rfl (RetS.intro le0 ⟨rfl, a1, h1, rfl, hs⟩))
      ·rw [decide_eq_false hbig]
       skip
       refine W_no (b := _) ?_ rfl ?_
       ·simp; omega
       refine W_skip ?_; (with_reducible refine T_then ?_); refine W_seq ?_; refine W_region ?_; refine P1 T.ok rfl rfl rfl ?_; refine P1 T.ok rfl rfl rfl ?_; refine WL_nil ?_; (with_reducible refine T_then ?_)
       exact W_ret (ret1 rfl rfl (RetS.intro le0 ⟨rfl, a1, h1, rfl, hs⟩))
   | true =>
   cases e3 : decide ((c.toNat : Int) ≤ 57) with
   | false =>
    have hd : digGo 0 (s.drop a0) = (n, s.drop a1) := by
     rw [← hdg, hdr, digGo_stop]
     rintro ⟨_, h⟩
     have := ((isDig_iff c).1 h).2
     simp at e3; omega
    (with_reducible refine T_wp ?_); refine W_seq ?_; refine W_seq ?_
    apply W_draw allF rfl (Fact.eq _ :: Fact.eq _ :: Fact.eq _ :: Fact.eq _ :: Fact.eq _ :: Fact.eq _ :: Fact.eq _ :: Fact.eq _ :: Fact.eq _ :: Fact.eq _ :: Fact.eq _ :: Fact.eq _ :: Fact.eq _ :: Fact.eq _ :: Fact.eq _ :: Fact.eq _ :: Fact.eq _ :: Fact.eq _ :: Fact.eq _ :: Fact.eq _ :: Fact.eq _ :: Fact.eq _ :: Fact.eq _ :: Fact.eq _ :: Fact.eq _ :: Fact.eq _ :: Fact.eq _ :: Fact.eq _ :: Fact.eq _ :: Fact.eq _ :: Fact.eq _ :: Fact.eq _ :: Fact.eq _ :: Fact.eq _ :: Fact.eq _ :: Fact.eq _ :: Fact.eq _ :: Fact.eq _ :: Fact.eq _ :: Fact.eq _ :: Fact.eq _ :: Fact.eq _ :: Fact.eq _ :: Fact.eq _ :: []) 44 [(43, 52)] rfl rfl
    ·refine D_s (js := []) (by kernel_rfl) (fun _ _ => QA_nil (DPu T.ok rfl rfl rfl)) ?_
     refine D_s (js := [(0, 9)]) (by kernel_rfl) (fun _ _ => QA_eq rfl (QA_nil (DPu T.ok rfl rfl rfl))) ?_
     refine D_s (js := [(1, 10)]) (by kernel_rfl) (fun _ _ => QA_eq rfl (QA_nil (DPu T.ok rfl rfl rfl))) ?_
     refine D_s (js := [(2, 11)]) (by kernel_rfl) (fun _ hf => QA_eq rfl (QA_nil (DLo T.ok 0 rfl rfl (hs.dr.call hf) rfl rfl rfl rfl))) ?_
     refine D_s (js := [(3, 12)]) (by kernel_rfl) (fun _ _ => QA_eq rfl (QA_nil (DPu T.ok rfl rfl rfl))) ?_
     refine D_s (js := [(4, 13)]) (by kernel_rfl) (fun _ _ => QA_eq rfl (QA_nil (DPu T.ok rfl rfl rfl))) ?_
     refine D_s (js := [(5, 14), (4, 13)]) (by kernel_rfl) (fun _ _ => QA_eq rfl (QA_eq rfl (QA_nil (DPu T.ok rfl rfl rfl)))) ?_
     refine D_s (js := [(6, 15), (4, 13)]) (by kernel_rfl) (fun _ _ => QA_eq rfl (QA_eq rfl (QA_nil (DPu T.ok rfl rfl rfl)))) ?_
     refine D_s (js := [(7, 16), (4, 13)]) (by kernel_rfl) (fun _ hf => QA_eq rfl (QA_eq rfl (QA_nil (DLo T.ok 0 rfl rfl (hs.dr.call hf) rfl rfl rfl rfl)))) ?_
     refine D_s (js := [(4, 13)]) (by kernel_rfl) (fun _ _ => QA_eq rfl (QA_nil (DPu T.ok rfl rfl rfl))) ?_
     refine D_s (js := [(9, 18), (4, 13)]) (by kernel_rfl) (fun _ _ => QA_eq rfl (QA_eq rfl (QA_nil (DPu T.ok rfl rfl rfl)))) ?_
     refine D_s (js := [(10, 19), (4, 13)]) (by kernel_rfl) (fun _ _ => QA_eq rfl (QA_eq rfl (QA_nil (DPu T.ok rfl rfl rfl)))) ?_
     refine D_s (js := [(11, 20), (4, 13)]) (by kernel_rfl) (fun _ hf => QA_eq rfl (QA_eq rfl (QA_nil (DLo T.ok 0 rfl rfl (hs.dr.call hf) rfl rfl rfl rfl)))) ?_
     refine D_s (js := [(12, 21), (4, 13)]) (by kernel_rfl) (fun _ _ => QA_eq rfl (QA_eq rfl (QA_nil (DPu T.ok rfl rfl rfl)))) ?_
     refine D_cons (D_step2 (js := [(8, 17), (13, 22), (4, 13)]) (by kernel_rfl) fun gd hf => ?_) ?_
     ·have hsd := hs.dr.call hf; have hfe := (G.le_dr _).trans hf.le
      refine QA_eq rfl ?_; refine QA_eq rfl ?_; refine QA_eq rfl ?_
      refine QA_nil ?_
      refine D_yes rfl ?_
      refine OpR_pure _ T.ok rfl ?_
      exact ⟨_, rfl, Fr0.refl _, congrArg Value.bool (show _ = true from by rw [bs_size]; exact e1)⟩
     refine D_s (js := [(4, 13), (14, 23)]) (by kernel_rfl) (fun _ _ => QA_eq rfl (QA_eq rfl (QA_nil (DPu T.ok rfl rfl rfl)))) ?_
     refine D_s (js := [(15, 24)]) (by kernel_rfl) (fun _ _ => QA_eq rfl (QA_nil (DPu T.ok rfl rfl rfl))) ?_
     refine D_s (js := [(16, 25)]) (by kernel_rfl) (fun _ _ => QA_eq rfl (QA_nil (DPu T.ok rfl rfl rfl))) ?_
     refine D_s (js := [(17, 26), (16, 25)]) (by kernel_rfl) (fun _ _ => QA_eq rfl (QA_eq rfl (QA_nil (DPu T.ok rfl rfl rfl)))) ?_
     refine D_s (js := [(18, 27), (16, 25)]) (by kernel_rfl) (fun _ _ => QA_eq rfl (QA_eq rfl (QA_nil (DPu T.ok rfl rfl rfl)))) ?_
     refine D_s (js := [(19, 28), (16, 25)]) (by kernel_rfl) (fun _ hf => QA_eq rfl (QA_eq rfl (QA_nil (DLo T.ok 0 rfl rfl (hs.dr.call hf) rfl rfl rfl rfl)))) ?_
     refine D_s (js := [(16, 25)]) (by kernel_rfl) (fun _ _ => QA_eq rfl (QA_nil (DPu T.ok rfl rfl rfl))) ?_
     refine D_s (js := [(21, 30), (16, 25)]) (by kernel_rfl) (fun _ _ => QA_eq rfl (QA_eq rfl (QA_nil (DPu T.ok rfl rfl rfl)))) ?_
     refine D_s (js := [(22, 31), (16, 25)]) (by kernel_rfl) (fun _ _ => QA_eq rfl (QA_eq rfl (QA_nil (DPu T.ok rfl rfl rfl)))) ?_
     refine D_s (js := [(23, 32), (16, 25)]) (by kernel_rfl) (fun _ hf => QA_eq rfl (QA_eq rfl (QA_nil (DLo T.ok 0 rfl rfl (hs.dr.call hf) rfl rfl rfl rfl)))) ?_
     refine D_cons (D_step2 (js := [(20, 29), (24, 33), (16, 25)]) (by kernel_rfl) fun gd hf => ?_) ?_
     ·have hsd := hs.dr.call hf; have hfe := (G.le_dr _).trans hf.le
      refine QA_eq rfl ?_; refine QA_eq rfl ?_; refine QA_eq rfl ?_
      refine QA_nil ?_
      refine D_yes rfl ?_
      refine OpR_idxS T.ok (s := s) (n := (a1 : Int)) rfl rfl rfl rfl rfl (by omega) (by simpa using hlt) ?_
      refine ⟨_, rfl, Fr0.refl _, ?_⟩
      exact congrArg (fun z : UInt8 => Value.int .u8 (z.toNat : Int)) hc
     refine D_cons (D_step2 (js := [(25, 34), (16, 25)]) (by kernel_rfl) fun gd hf => ?_) ?_
     ·have hsd := hs.dr.call hf; have hfe := (G.le_dr _).trans hf.le
      refine QA_eq rfl ?_; refine QA_eq rfl ?_
      refine QA_nil ?_
      refine D_yes rfl ?_
      refine OpR_pure _ T.ok rfl ?_
      exact ⟨_, rfl, Fr0.refl _, congrArg Value.bool (show _ = true from by exact e2)⟩
     refine D_s (js := [(16, 25), (26, 35)]) (by kernel_rfl) (fun _ _ => QA_eq rfl (QA_eq rfl (QA_nil (DPu T.ok rfl rfl rfl)))) ?_
     refine D_s (js := [(27, 36)]) (by kernel_rfl) (fun _ _ => QA_eq rfl (QA_nil (DPu T.ok rfl rfl rfl))) ?_
     refine D_s (js := [(28, 37)]) (by kernel_rfl) (fun _ _ => QA_eq rfl (QA_nil (DPu T.ok rfl rfl rfl))) ?_
     refine D_s (js := [(29, 38), (28, 37)]) (by kernel_rfl) (fun _ _ => QA_eq rfl (QA_eq rfl (QA_nil (DPu T.ok rfl rfl rfl)))) ?_
     refine D_s (js := [(30, 39), (28, 37)]) (by kernel_rfl) (fun _ _ => QA_eq rfl (QA_eq rfl (QA_nil (DPu T.ok rfl rfl rfl)))) ?_
     refine D_s (js := [(31, 40), (28, 37)]) (by kernel_rfl) (fun _ hf => QA_eq rfl (QA_eq rfl (QA_nil (DLo T.ok 0 rfl rfl (hs.dr.call hf) rfl rfl rfl rfl)))) ?_
     refine D_s (js := [(28, 37)]) (by kernel_rfl) (fun _ _ => QA_eq rfl (QA_nil (DPu T.ok rfl rfl rfl))) ?_
     refine D_s (js := [(33, 42), (28, 37)]) (by kernel_rfl) (fun _ _ => QA_eq rfl (QA_eq rfl (QA_nil (DPu T.ok rfl rfl rfl)))) ?_
     refine D_s (js := [(34, 43), (28, 37)]) (by kernel_rfl) (fun _ _ => QA_eq rfl (QA_eq rfl (QA_nil (DPu T.ok rfl rfl rfl)))) ?_
     refine D_s (js := [(35, 44), (28, 37)]) (by kernel_rfl) (fun _ hf => QA_eq rfl (QA_eq rfl (QA_nil (DLo T.ok 0 rfl rfl (hs.dr.call hf) rfl rfl rfl rfl)))) ?_
     refine D_cons (D_step2 (js := [(32, 41), (36, 45), (28, 37)]) (by kernel_rfl) fun gd hf => ?_) ?_
     ·have hsd := hs.dr.call hf; have hfe := (G.le_dr _).trans hf.le
      refine QA_eq rfl ?_; refine QA_eq rfl ?_; refine QA_eq rfl ?_
      refine QA_nil ?_
      refine D_yes rfl ?_
      refine OpR_idxS T.ok (s := s) (n := (a1 : Int)) rfl rfl rfl rfl rfl (by omega) (by simpa using hlt) ?_
      refine ⟨_, rfl, Fr0.refl _, ?_⟩
      exact congrArg (fun z : UInt8 => Value.int .u8 (z.toNat : Int)) hc
     refine D_cons (D_step2 (js := [(37, 46), (28, 37)]) (by kernel_rfl) fun gd hf => ?_) ?_
     ·have hsd := hs.dr.call hf; have hfe := (G.le_dr _).trans hf.le
      refine QA_eq rfl ?_; refine QA_eq rfl ?_
      refine QA_nil ?_
      refine D_yes rfl ?_
      refine OpR_pure _ T.ok rfl ?_
      exact ⟨_, rfl, Fr0.refl _, congrArg Value.bool (show _ = false from by exact e3)⟩
     refine D_s (js := [(28, 37), (38, 47)]) (by kernel_rfl) (fun _ _ => QA_eq rfl (QA_eq rfl (QA_nil (DPu T.ok rfl rfl rfl)))) ?_
     refine D_s (js := [(39, 48)]) (by kernel_rfl) (fun _ _ => QA_eq rfl (QA_nil (DPu T.ok rfl rfl rfl))) ?_
     refine D_s (js := [(40, 49)]) (by kernel_rfl) (fun _ _ => QA_eq rfl (QA_nil (DNo rfl rfl))) ?_
     refine D_s (js := [(41, 50), (40, 49)]) (by kernel_rfl) (fun _ _ => QA_eq rfl (QA_eq rfl (QA_nil (DNo rfl rfl)))) ?_
     refine D_s (js := [(40, 49), (42, 51)]) (by kernel_rfl) (fun _ _ => QA_eq rfl (QA_eq rfl (QA_nil (DPu T.ok rfl rfl rfl)))) ?_
     exact D_nil
    intro g1 hf1; refine QA_eq rfl ?_; refine QA_nil ?_
    replace hs := hs.dr.call hf1; have hqe := (G.le_dr _).trans hf1.le; replace le0 := G.le.trans le0 hqe
    refine WL_nil ?_; (with_reducible refine T_then ?_)
    refine W_no rfl rfl ?_
    have hnr : numR true (s.drop a0) = (n, !numBad (s.drop a0), s.drop a1) := by unfold numR; rw [if_pos rfl, hd]
    rw [hnr, numBad_eq hd h0 h1]
    dsimp only
    clear hnr
    by_cases hfr : a1 = a0
    ·subst hfr
     rw [decide_eq_true (rfl : a1 = a1), Bool.true_or, Bool.true_or]
     refine W_exit ?_; (with_reducible refine T_tx ?_; with_reducible refine T_tx ?_); (with_reducible refine T_bx ?_); (with_reducible refine T_then ?_); refine W_seq ?_; refine W_seq ?_; refine W_region ?_; (iterate 3 refine P1 T.ok rfl rfl rfl ?_); refine WL_o rfl rfl (OpR_loadO T.ok 0 rfl hs rfl rfl rfl ?_); (iterate 3 refine P1 T.ok rfl rfl rfl ?_)
     refine WL_know 80 (b' := true) (by simp) rfl ?_
     (iterate 16 refine S1 allF rfl rfl ?_); refine P1 T.ok rfl rfl rfl ?_; refine P1 T.ok rfl rfl rfl ?_; refine S1 allF rfl rfl ?_; refine S1 allF rfl rfl ?_; refine P1 T.ok rfl rfl rfl ?_; refine WL_nil ?_; (with_reducible refine T_then ?_)
     refine W_yes rfl rfl ?_
     refine W_region ?_; (iterate 3 refine P1 T.ok rfl rfl rfl ?_)
     refine WL_n rfl (OpR_storeO T.ok 0 rfl hs rfl rfl rfl rfl rfl rfl rfl rfl rfl ?_); replace hs := hs; rintro g1 hs hqe; replace le0 := G.le.trans le0 hqe
     refine WL_nil ?_; (with_reducible refine T_then ?_); refine W_seq ?_; refine W_region ?_; refine P1 T.ok rfl rfl rfl ?_; refine P1 T.ok rfl rfl rfl ?_; refine WL_nil ?_; (with_reducible refine T_then ?_)
     exact W_ret (ret1 rfl rfl (RetS.intro le0 ⟨rfl, a1, h1, rfl, hs⟩))
    ·rw [decide_eq_false hfr, Bool.false_or]
     refine W_exit ?_; (with_reducible refine T_tx ?_; with_reducible refine T_tx ?_); (with_reducible refine T_bx ?_); (with_reducible refine T_then ?_); refine W_seq ?_; refine W_seq ?_; refine W_region ?_; (iterate 3 refine P1 T.ok rfl rfl rfl ?_); refine WL_o rfl rfl (OpR_loadO T.ok 0 rfl hs rfl rfl rfl ?_); (iterate 3 refine P1 T.ok rfl rfl rfl ?_)
     refine WL_know 80 (b' := false) (by simp; omega) rfl ?_
     (iterate 3 refine P1 T.ok rfl rfl rfl ?_); refine WL_o rfl rfl (OpR_loadO T.ok 0 rfl hs rfl rfl rfl ?_); (iterate 4 refine P1 T.ok rfl rfl rfl ?_)
     by_cases hgt : 1 < a1 - a0
     ·refine WL_know 88 (b' := true) (by rw [wr (by omega) (by omega)]; simp; omega) rfl ?_
      have hlt0 : a0 < s.length := by omega
      rw [decide_eq_true hgt, Bool.true_and, List.getElem?_eq_getElem hlt0]
      obtain ⟨c0, hc0⟩ : ∃ c0, s[a0] = c0 := ⟨_, rfl⟩
      (iterate 3 refine P1 T.ok rfl rfl rfl ?_); refine WL_o rfl rfl (OpR_loadO T.ok 0 rfl hs rfl rfl rfl ?_); refine P1 T.ok rfl rfl rfl ?_
      refine WL_o rfl rfl (OpR_idxS T.ok (s := s) (n := (a0 : Int)) rfl rfl rfl rfl rfl (by omega) (by simpa using hlt0) ?_)
      refine WL_re (.int .u8 (c0.toNat : Int)) (t := 94) rfl (congrArg (fun z : UInt8 => Value.int .u8 (z.toNat : Int)) hc0) ?_
      rw [hc0]
      by_cases h48 : c0 = 48
      ·subst h48
       rw [show ((some (48 : UInt8)) == some 48) = true from rfl, Bool.true_or]
       (iterate 4 refine P1 T.ok rfl rfl rfl ?_); refine S1 allF rfl rfl ?_; refine S1 allF rfl rfl ?_; refine P1 T.ok rfl rfl rfl ?_; refine WL_nil ?_; (with_reducible refine T_then ?_)
       skip
       refine W_yes rfl rfl ?_
       refine W_region ?_; (iterate 3 refine P1 T.ok rfl rfl rfl ?_)
       refine WL_n rfl (OpR_storeO T.ok 0 rfl hs rfl rfl rfl rfl rfl rfl rfl rfl rfl ?_); replace hs := hs; rintro g1 hs hqe; replace le0 := G.le.trans le0 hqe
       refine WL_nil ?_; (with_reducible refine T_then ?_); refine W_seq ?_; refine W_region ?_; refine P1 T.ok rfl rfl rfl ?_; refine P1 T.ok rfl rfl rfl ?_; refine WL_nil ?_; (with_reducible refine T_then ?_)
       exact W_ret (ret1 rfl rfl (RetS.intro le0 ⟨rfl, a1, h1, rfl, hs⟩))
      ·have hne : (c0.toNat : Int) ≠ 48 := fun h => h48 (UInt8.toNat_inj.1 (show c0.toNat = 48 by omega))
       rw [show (some c0 == some 48) = false from by simpa using h48, Bool.false_or]
       (iterate 4 refine P1 T.ok rfl rfl rfl ?_)
       refine WL_know 98 (b' := false) (by simp; omega) rfl ?_
       by_cases hbig : 1000000 < n
       ·rw [decide_eq_true hbig]
        (iterate 3 refine P1 T.ok rfl rfl rfl ?_); refine WL_nil ?_; (with_reducible refine T_then ?_)
        refine W_yes (b := _) ?_ rfl ?_
        ·simp; omega
        refine W_region ?_; (iterate 3 refine P1 T.ok rfl rfl rfl ?_)
        refine WL_n rfl (OpR_storeO T.ok 0 rfl hs rfl rfl rfl rfl rfl rfl rfl rfl rfl ?_); replace hs := hs; rintro g1 hs hqe; replace le0 := G.le.trans le0 hqe
        refine WL_nil ?_; (with_reducible refine T_then ?_); refine W_seq ?_; refine W_region ?_; refine P1 T.ok rfl rfl rfl ?_; refine P1 T.ok rfl rfl rfl ?_; refine WL_nil ?_; (with_reducible refine T_then ?_)
        exact W_ret (ret1 rfl rfl (RetS.intro le0 ⟨rfl, a1, h1, rfl, hs⟩))
       ·rw [decide_eq_false hbig]
        (iterate 3 refine P1 T.ok rfl rfl rfl ?_); refine WL_nil ?_; (with_reducible refine T_then ?_)
        refine W_no (b := _) ?_ rfl ?_
        ·simp; omega
        refine W_skip ?_; (with_reducible refine T_then ?_); refine W_seq ?_; refine W_region ?_; refine P1 T.ok rfl rfl rfl ?_; refine P1 T.ok rfl rfl rfl ?_; refine WL_nil ?_; (with_reducible refine T_then ?_)
        exact W_ret (ret1 rfl rfl (RetS.intro le0 ⟨rfl, a1, h1, rfl, hs⟩))
     ·refine WL_know 88 (b' := false) (by rw [wr (by omega) (by omega)]; simp; omega) rfl ?_
      rw [decide_eq_false hgt, Bool.false_and, Bool.false_or]
      (iterate 7 refine S1 allF rfl rfl ?_); (iterate 6 refine P1 T.ok rfl rfl rfl ?_); refine WL_nil ?_; (with_reducible refine T_then ?_)
      by_cases hbig : 1000000 < n
      ·rw [decide_eq_true hbig]
       skip
       refine W_yes (b := _) ?_ rfl ?_
       ·simp; omega
       refine W_region ?_; (iterate 3 refine P1 T.ok rfl rfl rfl ?_)
       refine WL_n rfl (OpR_storeO T.ok 0 rfl hs rfl rfl rfl rfl rfl rfl rfl rfl rfl ?_); replace hs := hs; rintro g1 hs hqe; replace le0 := G.le.trans le0 hqe
       refine WL_nil ?_; (with_reducible refine T_then ?_); refine W_seq ?_; refine W_region ?_; refine P1 T.ok rfl rfl rfl ?_; refine P1 T.ok rfl rfl rfl ?_; refine WL_nil ?_; (with_reducible refine T_then ?_)
       exact W_ret (ret1 rfl rfl (RetS.intro le0 ⟨rfl, a1, h1, rfl, hs⟩))
      ·rw [decide_eq_false hbig]
       skip
       refine W_no (b := _) ?_ rfl ?_
       ·simp; omega
       refine W_skip ?_; (with_reducible refine T_then ?_); refine W_seq ?_; refine W_region ?_; refine P1 T.ok rfl rfl rfl ?_; refine P1 T.ok rfl rfl rfl ?_; refine WL_nil ?_; (with_reducible refine T_then ?_)
       exact W_ret (ret1 rfl rfl (RetS.intro le0 ⟨rfl, a1, h1, rfl, hs⟩))
   | true =>
   have hdig : isDig c = true := (isDig_iff c).2 ⟨by simp at e2; omega, by simp at e3; omega⟩
   have hc57 := (isDig_iff c).1 hdig
   cases e4 : decide ((n : Int) ≤ 1000000) with
   | false =>
    have hd : digGo 0 (s.drop a0) = (n, s.drop a1) := by
     rw [← hdg, hdr, digGo_stop]
     rintro ⟨h, _⟩
     simp at e4; omega
    (with_reducible refine T_wp ?_); refine W_seq ?_; refine W_seq ?_
    apply W_draw allF rfl (Fact.eq _ :: Fact.eq _ :: Fact.eq _ :: Fact.eq _ :: Fact.eq _ :: Fact.eq _ :: Fact.eq _ :: Fact.eq _ :: Fact.eq _ :: Fact.eq _ :: Fact.eq _ :: Fact.eq _ :: Fact.eq _ :: Fact.eq _ :: Fact.eq _ :: Fact.eq _ :: Fact.eq _ :: Fact.eq _ :: Fact.eq _ :: Fact.eq _ :: Fact.eq _ :: Fact.eq _ :: Fact.eq _ :: Fact.eq _ :: Fact.eq _ :: Fact.eq _ :: Fact.eq _ :: Fact.eq _ :: Fact.eq _ :: Fact.eq _ :: Fact.eq _ :: Fact.eq _ :: Fact.eq _ :: Fact.eq _ :: Fact.eq _ :: Fact.eq _ :: Fact.eq _ :: Fact.eq _ :: Fact.eq _ :: Fact.eq _ :: Fact.eq _ :: Fact.eq _ :: Fact.eq _ :: Fact.eq _ :: []) 44 [(43, 52)] rfl rfl
    ·refine D_s (js := []) (by kernel_rfl) (fun _ _ => QA_nil (DPu T.ok rfl rfl rfl)) ?_
     refine D_s (js := [(0, 9)]) (by kernel_rfl) (fun _ _ => QA_eq rfl (QA_nil (DPu T.ok rfl rfl rfl))) ?_
     refine D_s (js := [(1, 10)]) (by kernel_rfl) (fun _ _ => QA_eq rfl (QA_nil (DPu T.ok rfl rfl rfl))) ?_
     refine D_s (js := [(2, 11)]) (by kernel_rfl) (fun _ hf => QA_eq rfl (QA_nil (DLo T.ok 0 rfl rfl (hs.dr.call hf) rfl rfl rfl rfl))) ?_
     refine D_s (js := [(3, 12)]) (by kernel_rfl) (fun _ _ => QA_eq rfl (QA_nil (DPu T.ok rfl rfl rfl))) ?_
     refine D_s (js := [(4, 13)]) (by kernel_rfl) (fun _ _ => QA_eq rfl (QA_nil (DPu T.ok rfl rfl rfl))) ?_
     refine D_s (js := [(5, 14), (4, 13)]) (by kernel_rfl) (fun _ _ => QA_eq rfl (QA_eq rfl (QA_nil (DPu T.ok rfl rfl rfl)))) ?_
     refine D_s (js := [(6, 15), (4, 13)]) (by kernel_rfl) (fun _ _ => QA_eq rfl (QA_eq rfl (QA_nil (DPu T.ok rfl rfl rfl)))) ?_
     refine D_s (js := [(7, 16), (4, 13)]) (by kernel_rfl) (fun _ hf => QA_eq rfl (QA_eq rfl (QA_nil (DLo T.ok 0 rfl rfl (hs.dr.call hf) rfl rfl rfl rfl)))) ?_
     refine D_s (js := [(4, 13)]) (by kernel_rfl) (fun _ _ => QA_eq rfl (QA_nil (DPu T.ok rfl rfl rfl))) ?_
     refine D_s (js := [(9, 18), (4, 13)]) (by kernel_rfl) (fun _ _ => QA_eq rfl (QA_eq rfl (QA_nil (DPu T.ok rfl rfl rfl)))) ?_
     refine D_s (js := [(10, 19), (4, 13)]) (by kernel_rfl) (fun _ _ => QA_eq rfl (QA_eq rfl (QA_nil (DPu T.ok rfl rfl rfl)))) ?_
     refine D_s (js := [(11, 20), (4, 13)]) (by kernel_rfl) (fun _ hf => QA_eq rfl (QA_eq rfl (QA_nil (DLo T.ok 0 rfl rfl (hs.dr.call hf) rfl rfl rfl rfl)))) ?_
     refine D_s (js := [(12, 21), (4, 13)]) (by kernel_rfl) (fun _ _ => QA_eq rfl (QA_eq rfl (QA_nil (DPu T.ok rfl rfl rfl)))) ?_
     refine D_cons (D_step2 (js := [(8, 17), (13, 22), (4, 13)]) (by kernel_rfl) fun gd hf => ?_) ?_
     ·have hsd := hs.dr.call hf; have hfe := (G.le_dr _).trans hf.le
      refine QA_eq rfl ?_; refine QA_eq rfl ?_; refine QA_eq rfl ?_
      refine QA_nil ?_
      refine D_yes rfl ?_
      refine OpR_pure _ T.ok rfl ?_
      exact ⟨_, rfl, Fr0.refl _, congrArg Value.bool (show _ = true from by rw [bs_size]; exact e1)⟩
     refine D_s (js := [(4, 13), (14, 23)]) (by kernel_rfl) (fun _ _ => QA_eq rfl (QA_eq rfl (QA_nil (DPu T.ok rfl rfl rfl)))) ?_
     refine D_s (js := [(15, 24)]) (by kernel_rfl) (fun _ _ => QA_eq rfl (QA_nil (DPu T.ok rfl rfl rfl))) ?_
     refine D_s (js := [(16, 25)]) (by kernel_rfl) (fun _ _ => QA_eq rfl (QA_nil (DPu T.ok rfl rfl rfl))) ?_
     refine D_s (js := [(17, 26), (16, 25)]) (by kernel_rfl) (fun _ _ => QA_eq rfl (QA_eq rfl (QA_nil (DPu T.ok rfl rfl rfl)))) ?_
     refine D_s (js := [(18, 27), (16, 25)]) (by kernel_rfl) (fun _ _ => QA_eq rfl (QA_eq rfl (QA_nil (DPu T.ok rfl rfl rfl)))) ?_
     refine D_s (js := [(19, 28), (16, 25)]) (by kernel_rfl) (fun _ hf => QA_eq rfl (QA_eq rfl (QA_nil (DLo T.ok 0 rfl rfl (hs.dr.call hf) rfl rfl rfl rfl)))) ?_
     refine D_s (js := [(16, 25)]) (by kernel_rfl) (fun _ _ => QA_eq rfl (QA_nil (DPu T.ok rfl rfl rfl))) ?_
     refine D_s (js := [(21, 30), (16, 25)]) (by kernel_rfl) (fun _ _ => QA_eq rfl (QA_eq rfl (QA_nil (DPu T.ok rfl rfl rfl)))) ?_
     refine D_s (js := [(22, 31), (16, 25)]) (by kernel_rfl) (fun _ _ => QA_eq rfl (QA_eq rfl (QA_nil (DPu T.ok rfl rfl rfl)))) ?_
     refine D_s (js := [(23, 32), (16, 25)]) (by kernel_rfl) (fun _ hf => QA_eq rfl (QA_eq rfl (QA_nil (DLo T.ok 0 rfl rfl (hs.dr.call hf) rfl rfl rfl rfl)))) ?_
     refine D_cons (D_step2 (js := [(20, 29), (24, 33), (16, 25)]) (by kernel_rfl) fun gd hf => ?_) ?_
     ·have hsd := hs.dr.call hf; have hfe := (G.le_dr _).trans hf.le
      refine QA_eq rfl ?_; refine QA_eq rfl ?_; refine QA_eq rfl ?_
      refine QA_nil ?_
      refine D_yes rfl ?_
      refine OpR_idxS T.ok (s := s) (n := (a1 : Int)) rfl rfl rfl rfl rfl (by omega) (by simpa using hlt) ?_
      refine ⟨_, rfl, Fr0.refl _, ?_⟩
      exact congrArg (fun z : UInt8 => Value.int .u8 (z.toNat : Int)) hc
     refine D_cons (D_step2 (js := [(25, 34), (16, 25)]) (by kernel_rfl) fun gd hf => ?_) ?_
     ·have hsd := hs.dr.call hf; have hfe := (G.le_dr _).trans hf.le
      refine QA_eq rfl ?_; refine QA_eq rfl ?_
      refine QA_nil ?_
      refine D_yes rfl ?_
      refine OpR_pure _ T.ok rfl ?_
      exact ⟨_, rfl, Fr0.refl _, congrArg Value.bool (show _ = true from by exact e2)⟩
     refine D_s (js := [(16, 25), (26, 35)]) (by kernel_rfl) (fun _ _ => QA_eq rfl (QA_eq rfl (QA_nil (DPu T.ok rfl rfl rfl)))) ?_
     refine D_s (js := [(27, 36)]) (by kernel_rfl) (fun _ _ => QA_eq rfl (QA_nil (DPu T.ok rfl rfl rfl))) ?_
     refine D_s (js := [(28, 37)]) (by kernel_rfl) (fun _ _ => QA_eq rfl (QA_nil (DPu T.ok rfl rfl rfl))) ?_
     refine D_s (js := [(29, 38), (28, 37)]) (by kernel_rfl) (fun _ _ => QA_eq rfl (QA_eq rfl (QA_nil (DPu T.ok rfl rfl rfl)))) ?_
     refine D_s (js := [(30, 39), (28, 37)]) (by kernel_rfl) (fun _ _ => QA_eq rfl (QA_eq rfl (QA_nil (DPu T.ok rfl rfl rfl)))) ?_
     refine D_s (js := [(31, 40), (28, 37)]) (by kernel_rfl) (fun _ hf => QA_eq rfl (QA_eq rfl (QA_nil (DLo T.ok 0 rfl rfl (hs.dr.call hf) rfl rfl rfl rfl)))) ?_
     refine D_s (js := [(28, 37)]) (by kernel_rfl) (fun _ _ => QA_eq rfl (QA_nil (DPu T.ok rfl rfl rfl))) ?_
     refine D_s (js := [(33, 42), (28, 37)]) (by kernel_rfl) (fun _ _ => QA_eq rfl (QA_eq rfl (QA_nil (DPu T.ok rfl rfl rfl)))) ?_
     refine D_s (js := [(34, 43), (28, 37)]) (by kernel_rfl) (fun _ _ => QA_eq rfl (QA_eq rfl (QA_nil (DPu T.ok rfl rfl rfl)))) ?_
     refine D_s (js := [(35, 44), (28, 37)]) (by kernel_rfl) (fun _ hf => QA_eq rfl (QA_eq rfl (QA_nil (DLo T.ok 0 rfl rfl (hs.dr.call hf) rfl rfl rfl rfl)))) ?_
     refine D_cons (D_step2 (js := [(32, 41), (36, 45), (28, 37)]) (by kernel_rfl) fun gd hf => ?_) ?_
     ·have hsd := hs.dr.call hf; have hfe := (G.le_dr _).trans hf.le
      refine QA_eq rfl ?_; refine QA_eq rfl ?_; refine QA_eq rfl ?_
      refine QA_nil ?_
      refine D_yes rfl ?_
      refine OpR_idxS T.ok (s := s) (n := (a1 : Int)) rfl rfl rfl rfl rfl (by omega) (by simpa using hlt) ?_
      refine ⟨_, rfl, Fr0.refl _, ?_⟩
      exact congrArg (fun z : UInt8 => Value.int .u8 (z.toNat : Int)) hc
     refine D_cons (D_step2 (js := [(37, 46), (28, 37)]) (by kernel_rfl) fun gd hf => ?_) ?_
     ·have hsd := hs.dr.call hf; have hfe := (G.le_dr _).trans hf.le
      refine QA_eq rfl ?_; refine QA_eq rfl ?_
      refine QA_nil ?_
      refine D_yes rfl ?_
      refine OpR_pure _ T.ok rfl ?_
      exact ⟨_, rfl, Fr0.refl _, congrArg Value.bool (show _ = true from by exact e3)⟩
     refine D_s (js := [(28, 37), (38, 47)]) (by kernel_rfl) (fun _ _ => QA_eq rfl (QA_eq rfl (QA_nil (DPu T.ok rfl rfl rfl)))) ?_
     refine D_s (js := [(39, 48)]) (by kernel_rfl) (fun _ _ => QA_eq rfl (QA_nil (DPu T.ok rfl rfl rfl))) ?_
     refine D_s (js := [(40, 49)]) (by kernel_rfl) (fun _ _ => QA_eq rfl (QA_nil (DPu T.ok rfl rfl rfl))) ?_
     refine D_cons (D_step2 (js := [(41, 50), (40, 49)]) (by kernel_rfl) fun gd hf => ?_) ?_
     ·have hsd := hs.dr.call hf; have hfe := (G.le_dr _).trans hf.le
      refine QA_eq rfl ?_; refine QA_eq rfl ?_
      refine QA_nil ?_
      refine D_yes rfl ?_
      refine OpR_pure _ T.ok rfl ?_
      exact ⟨_, rfl, Fr0.refl _, congrArg Value.bool (show _ = false from by exact e4)⟩
     refine D_s (js := [(40, 49), (42, 51)]) (by kernel_rfl) (fun _ _ => QA_eq rfl (QA_eq rfl (QA_nil (DPu T.ok rfl rfl rfl)))) ?_
     exact D_nil
    intro g1 hf1; refine QA_eq rfl ?_; refine QA_nil ?_
    replace hs := hs.dr.call hf1; have hqe := (G.le_dr _).trans hf1.le; replace le0 := G.le.trans le0 hqe
    refine WL_nil ?_; (with_reducible refine T_then ?_)
    refine W_no rfl rfl ?_
    have hnr : numR true (s.drop a0) = (n, !numBad (s.drop a0), s.drop a1) := by unfold numR; rw [if_pos rfl, hd]
    rw [hnr, numBad_eq hd h0 h1]
    dsimp only
    clear hnr
    by_cases hfr : a1 = a0
    ·subst hfr
     rw [decide_eq_true (rfl : a1 = a1), Bool.true_or, Bool.true_or]
     refine W_exit ?_; (with_reducible refine T_tx ?_; with_reducible refine T_tx ?_); (with_reducible refine T_bx ?_); (with_reducible refine T_then ?_); refine W_seq ?_; refine W_seq ?_; refine W_region ?_; (iterate 3 refine P1 T.ok rfl rfl rfl ?_); refine WL_o rfl rfl (OpR_loadO T.ok 0 rfl hs rfl rfl rfl ?_); (iterate 3 refine P1 T.ok rfl rfl rfl ?_)
     refine WL_know 80 (b' := true) (by simp) rfl ?_
     (iterate 16 refine S1 allF rfl rfl ?_); refine P1 T.ok rfl rfl rfl ?_; refine P1 T.ok rfl rfl rfl ?_; refine S1 allF rfl rfl ?_; refine S1 allF rfl rfl ?_; refine P1 T.ok rfl rfl rfl ?_; refine WL_nil ?_; (with_reducible refine T_then ?_)
     refine W_yes rfl rfl ?_
     refine W_region ?_; (iterate 3 refine P1 T.ok rfl rfl rfl ?_)
     refine WL_n rfl (OpR_storeO T.ok 0 rfl hs rfl rfl rfl rfl rfl rfl rfl rfl rfl ?_); replace hs := hs; rintro g1 hs hqe; replace le0 := G.le.trans le0 hqe
     refine WL_nil ?_; (with_reducible refine T_then ?_); refine W_seq ?_; refine W_region ?_; refine P1 T.ok rfl rfl rfl ?_; refine P1 T.ok rfl rfl rfl ?_; refine WL_nil ?_; (with_reducible refine T_then ?_)
     exact W_ret (ret1 rfl rfl (RetS.intro le0 ⟨rfl, a1, h1, rfl, hs⟩))
    ·rw [decide_eq_false hfr, Bool.false_or]
     refine W_exit ?_; (with_reducible refine T_tx ?_; with_reducible refine T_tx ?_); (with_reducible refine T_bx ?_); (with_reducible refine T_then ?_); refine W_seq ?_; refine W_seq ?_; refine W_region ?_; (iterate 3 refine P1 T.ok rfl rfl rfl ?_); refine WL_o rfl rfl (OpR_loadO T.ok 0 rfl hs rfl rfl rfl ?_); (iterate 3 refine P1 T.ok rfl rfl rfl ?_)
     refine WL_know 80 (b' := false) (by simp; omega) rfl ?_
     (iterate 3 refine P1 T.ok rfl rfl rfl ?_); refine WL_o rfl rfl (OpR_loadO T.ok 0 rfl hs rfl rfl rfl ?_); (iterate 4 refine P1 T.ok rfl rfl rfl ?_)
     by_cases hgt : 1 < a1 - a0
     ·refine WL_know 88 (b' := true) (by rw [wr (by omega) (by omega)]; simp; omega) rfl ?_
      have hlt0 : a0 < s.length := by omega
      rw [decide_eq_true hgt, Bool.true_and, List.getElem?_eq_getElem hlt0]
      obtain ⟨c0, hc0⟩ : ∃ c0, s[a0] = c0 := ⟨_, rfl⟩
      (iterate 3 refine P1 T.ok rfl rfl rfl ?_); refine WL_o rfl rfl (OpR_loadO T.ok 0 rfl hs rfl rfl rfl ?_); refine P1 T.ok rfl rfl rfl ?_
      refine WL_o rfl rfl (OpR_idxS T.ok (s := s) (n := (a0 : Int)) rfl rfl rfl rfl rfl (by omega) (by simpa using hlt0) ?_)
      refine WL_re (.int .u8 (c0.toNat : Int)) (t := 94) rfl (congrArg (fun z : UInt8 => Value.int .u8 (z.toNat : Int)) hc0) ?_
      rw [hc0]
      by_cases h48 : c0 = 48
      ·subst h48
       rw [show ((some (48 : UInt8)) == some 48) = true from rfl, Bool.true_or]
       (iterate 4 refine P1 T.ok rfl rfl rfl ?_); refine S1 allF rfl rfl ?_; refine S1 allF rfl rfl ?_; refine P1 T.ok rfl rfl rfl ?_; refine WL_nil ?_; (with_reducible refine T_then ?_)
       skip
       refine W_yes rfl rfl ?_
       refine W_region ?_; (iterate 3 refine P1 T.ok rfl rfl rfl ?_)
       refine WL_n rfl (OpR_storeO T.ok 0 rfl hs rfl rfl rfl rfl rfl rfl rfl rfl rfl ?_); replace hs := hs; rintro g1 hs hqe; replace le0 := G.le.trans le0 hqe
       refine WL_nil ?_; (with_reducible refine T_then ?_); refine W_seq ?_; refine W_region ?_; refine P1 T.ok rfl rfl rfl ?_; refine P1 T.ok rfl rfl rfl ?_; refine WL_nil ?_; (with_reducible refine T_then ?_)
       exact W_ret (ret1 rfl rfl (RetS.intro le0 ⟨rfl, a1, h1, rfl, hs⟩))
      ·have hne : (c0.toNat : Int) ≠ 48 := fun h => h48 (UInt8.toNat_inj.1 (show c0.toNat = 48 by omega))
       rw [show (some c0 == some 48) = false from by simpa using h48, Bool.false_or]
       (iterate 4 refine P1 T.ok rfl rfl rfl ?_)
       refine WL_know 98 (b' := false) (by simp; omega) rfl ?_
       by_cases hbig : 1000000 < n
       ·rw [decide_eq_true hbig]
        (iterate 3 refine P1 T.ok rfl rfl rfl ?_); refine WL_nil ?_; (with_reducible refine T_then ?_)
        refine W_yes (b := _) ?_ rfl ?_
        ·simp; omega
        refine W_region ?_; (iterate 3 refine P1 T.ok rfl rfl rfl ?_)
        refine WL_n rfl (OpR_storeO T.ok 0 rfl hs rfl rfl rfl rfl rfl rfl rfl rfl rfl ?_); replace hs := hs; rintro g1 hs hqe; replace le0 := G.le.trans le0 hqe
        refine WL_nil ?_; (with_reducible refine T_then ?_); refine W_seq ?_; refine W_region ?_; refine P1 T.ok rfl rfl rfl ?_; refine P1 T.ok rfl rfl rfl ?_; refine WL_nil ?_; (with_reducible refine T_then ?_)
        exact W_ret (ret1 rfl rfl (RetS.intro le0 ⟨rfl, a1, h1, rfl, hs⟩))
       ·rw [decide_eq_false hbig]
        (iterate 3 refine P1 T.ok rfl rfl rfl ?_); refine WL_nil ?_; (with_reducible refine T_then ?_)
        refine W_no (b := _) ?_ rfl ?_
        ·simp; omega
        refine W_skip ?_; (with_reducible refine T_then ?_); refine W_seq ?_; refine W_region ?_; refine P1 T.ok rfl rfl rfl ?_; refine P1 T.ok rfl rfl rfl ?_; refine WL_nil ?_; (with_reducible refine T_then ?_)
        exact W_ret (ret1 rfl rfl (RetS.intro le0 ⟨rfl, a1, h1, rfl, hs⟩))
     ·refine WL_know 88 (b' := false) (by rw [wr (by omega) (by omega)]; simp; omega) rfl ?_
      rw [decide_eq_false hgt, Bool.false_and, Bool.false_or]
      (iterate 7 refine S1 allF rfl rfl ?_); (iterate 6 refine P1 T.ok rfl rfl rfl ?_); refine WL_nil ?_; (with_reducible refine T_then ?_)
      by_cases hbig : 1000000 < n
      ·rw [decide_eq_true hbig]
       skip
       refine W_yes (b := _) ?_ rfl ?_
       ·simp; omega
       refine W_region ?_; (iterate 3 refine P1 T.ok rfl rfl rfl ?_)
       refine WL_n rfl (OpR_storeO T.ok 0 rfl hs rfl rfl rfl rfl rfl rfl rfl rfl rfl ?_); replace hs := hs; rintro g1 hs hqe; replace le0 := G.le.trans le0 hqe
       refine WL_nil ?_; (with_reducible refine T_then ?_); refine W_seq ?_; refine W_region ?_; refine P1 T.ok rfl rfl rfl ?_; refine P1 T.ok rfl rfl rfl ?_; refine WL_nil ?_; (with_reducible refine T_then ?_)
       exact W_ret (ret1 rfl rfl (RetS.intro le0 ⟨rfl, a1, h1, rfl, hs⟩))
      ·rw [decide_eq_false hbig]
       skip
       refine W_no (b := _) ?_ rfl ?_
       ·simp; omega
       refine W_skip ?_; (with_reducible refine T_then ?_); refine W_seq ?_; refine W_region ?_; refine P1 T.ok rfl rfl rfl ?_; refine P1 T.ok rfl rfl rfl ?_; refine WL_nil ?_; (with_reducible refine T_then ?_)
       exact W_ret (ret1 rfl rfl (RetS.intro le0 ⟨rfl, a1, h1, rfl, hs⟩))
   | true =>
    have hnm : n ≤ 1000000 := by simp at e4; omega
    have hgo : digGo (10 * n + (c.toNat - 48)) (s.drop (a1 + 1)) = digGo 0 (s.drop a0) := by
     rw [← hdg, hdr, digGo_go ⟨hnm, hdig⟩]
    (with_reducible refine T_wp ?_); refine W_seq ?_; refine W_seq ?_
    apply W_draw allF rfl (Fact.eq _ :: Fact.eq _ :: Fact.eq _ :: Fact.eq _ :: Fact.eq _ :: Fact.eq _ :: Fact.eq _ :: Fact.eq _ :: Fact.eq _ :: Fact.eq _ :: Fact.eq _ :: Fact.eq _ :: Fact.eq _ :: Fact.eq _ :: Fact.eq _ :: Fact.eq _ :: Fact.eq _ :: Fact.eq _ :: Fact.eq _ :: Fact.eq _ :: Fact.eq _ :: Fact.eq _ :: Fact.eq _ :: Fact.eq _ :: Fact.eq _ :: Fact.eq _ :: Fact.eq _ :: Fact.eq _ :: Fact.eq _ :: Fact.eq _ :: Fact.eq _ :: Fact.eq _ :: Fact.eq _ :: Fact.eq _ :: Fact.eq _ :: Fact.eq _ :: Fact.eq _ :: Fact.eq _ :: Fact.eq _ :: Fact.eq _ :: Fact.eq _ :: Fact.eq _ :: Fact.eq _ :: Fact.eq _ :: []) 44 [(43, 52)] rfl rfl
    ·refine D_s (js := []) (by kernel_rfl) (fun _ _ => QA_nil (DPu T.ok rfl rfl rfl)) ?_
     refine D_s (js := [(0, 9)]) (by kernel_rfl) (fun _ _ => QA_eq rfl (QA_nil (DPu T.ok rfl rfl rfl))) ?_
     refine D_s (js := [(1, 10)]) (by kernel_rfl) (fun _ _ => QA_eq rfl (QA_nil (DPu T.ok rfl rfl rfl))) ?_
     refine D_s (js := [(2, 11)]) (by kernel_rfl) (fun _ hf => QA_eq rfl (QA_nil (DLo T.ok 0 rfl rfl (hs.dr.call hf) rfl rfl rfl rfl))) ?_
     refine D_s (js := [(3, 12)]) (by kernel_rfl) (fun _ _ => QA_eq rfl (QA_nil (DPu T.ok rfl rfl rfl))) ?_
     refine D_s (js := [(4, 13)]) (by kernel_rfl) (fun _ _ => QA_eq rfl (QA_nil (DPu T.ok rfl rfl rfl))) ?_
     refine D_s (js := [(5, 14), (4, 13)]) (by kernel_rfl) (fun _ _ => QA_eq rfl (QA_eq rfl (QA_nil (DPu T.ok rfl rfl rfl)))) ?_
     refine D_s (js := [(6, 15), (4, 13)]) (by kernel_rfl) (fun _ _ => QA_eq rfl (QA_eq rfl (QA_nil (DPu T.ok rfl rfl rfl)))) ?_
     refine D_s (js := [(7, 16), (4, 13)]) (by kernel_rfl) (fun _ hf => QA_eq rfl (QA_eq rfl (QA_nil (DLo T.ok 0 rfl rfl (hs.dr.call hf) rfl rfl rfl rfl)))) ?_
     refine D_s (js := [(4, 13)]) (by kernel_rfl) (fun _ _ => QA_eq rfl (QA_nil (DPu T.ok rfl rfl rfl))) ?_
     refine D_s (js := [(9, 18), (4, 13)]) (by kernel_rfl) (fun _ _ => QA_eq rfl (QA_eq rfl (QA_nil (DPu T.ok rfl rfl rfl)))) ?_
     refine D_s (js := [(10, 19), (4, 13)]) (by kernel_rfl) (fun _ _ => QA_eq rfl (QA_eq rfl (QA_nil (DPu T.ok rfl rfl rfl)))) ?_
     refine D_s (js := [(11, 20), (4, 13)]) (by kernel_rfl) (fun _ hf => QA_eq rfl (QA_eq rfl (QA_nil (DLo T.ok 0 rfl rfl (hs.dr.call hf) rfl rfl rfl rfl)))) ?_
     refine D_s (js := [(12, 21), (4, 13)]) (by kernel_rfl) (fun _ _ => QA_eq rfl (QA_eq rfl (QA_nil (DPu T.ok rfl rfl rfl)))) ?_
     refine D_cons (D_step2 (js := [(8, 17), (13, 22), (4, 13)]) (by kernel_rfl) fun gd hf => ?_) ?_
     ·have hsd := hs.dr.call hf; have hfe := (G.le_dr _).trans hf.le
      refine QA_eq rfl ?_; refine QA_eq rfl ?_; refine QA_eq rfl ?_
      refine QA_nil ?_
      refine D_yes rfl ?_
      refine OpR_pure _ T.ok rfl ?_
      exact ⟨_, rfl, Fr0.refl _, congrArg Value.bool (show _ = true from by rw [bs_size]; exact e1)⟩
     refine D_s (js := [(4, 13), (14, 23)]) (by kernel_rfl) (fun _ _ => QA_eq rfl (QA_eq rfl (QA_nil (DPu T.ok rfl rfl rfl)))) ?_
     refine D_s (js := [(15, 24)]) (by kernel_rfl) (fun _ _ => QA_eq rfl (QA_nil (DPu T.ok rfl rfl rfl))) ?_
     refine D_s (js := [(16, 25)]) (by kernel_rfl) (fun _ _ => QA_eq rfl (QA_nil (DPu T.ok rfl rfl rfl))) ?_
     refine D_s (js := [(17, 26), (16, 25)]) (by kernel_rfl) (fun _ _ => QA_eq rfl (QA_eq rfl (QA_nil (DPu T.ok rfl rfl rfl)))) ?_
     refine D_s (js := [(18, 27), (16, 25)]) (by kernel_rfl) (fun _ _ => QA_eq rfl (QA_eq rfl (QA_nil (DPu T.ok rfl rfl rfl)))) ?_
     refine D_s (js := [(19, 28), (16, 25)]) (by kernel_rfl) (fun _ hf => QA_eq rfl (QA_eq rfl (QA_nil (DLo T.ok 0 rfl rfl (hs.dr.call hf) rfl rfl rfl rfl)))) ?_
     refine D_s (js := [(16, 25)]) (by kernel_rfl) (fun _ _ => QA_eq rfl (QA_nil (DPu T.ok rfl rfl rfl))) ?_
     refine D_s (js := [(21, 30), (16, 25)]) (by kernel_rfl) (fun _ _ => QA_eq rfl (QA_eq rfl (QA_nil (DPu T.ok rfl rfl rfl)))) ?_
     refine D_s (js := [(22, 31), (16, 25)]) (by kernel_rfl) (fun _ _ => QA_eq rfl (QA_eq rfl (QA_nil (DPu T.ok rfl rfl rfl)))) ?_
     refine D_s (js := [(23, 32), (16, 25)]) (by kernel_rfl) (fun _ hf => QA_eq rfl (QA_eq rfl (QA_nil (DLo T.ok 0 rfl rfl (hs.dr.call hf) rfl rfl rfl rfl)))) ?_
     refine D_cons (D_step2 (js := [(20, 29), (24, 33), (16, 25)]) (by kernel_rfl) fun gd hf => ?_) ?_
     ·have hsd := hs.dr.call hf; have hfe := (G.le_dr _).trans hf.le
      refine QA_eq rfl ?_; refine QA_eq rfl ?_; refine QA_eq rfl ?_
      refine QA_nil ?_
      refine D_yes rfl ?_
      refine OpR_idxS T.ok (s := s) (n := (a1 : Int)) rfl rfl rfl rfl rfl (by omega) (by simpa using hlt) ?_
      refine ⟨_, rfl, Fr0.refl _, ?_⟩
      exact congrArg (fun z : UInt8 => Value.int .u8 (z.toNat : Int)) hc
     refine D_cons (D_step2 (js := [(25, 34), (16, 25)]) (by kernel_rfl) fun gd hf => ?_) ?_
     ·have hsd := hs.dr.call hf; have hfe := (G.le_dr _).trans hf.le
      refine QA_eq rfl ?_; refine QA_eq rfl ?_
      refine QA_nil ?_
      refine D_yes rfl ?_
      refine OpR_pure _ T.ok rfl ?_
      exact ⟨_, rfl, Fr0.refl _, congrArg Value.bool (show _ = true from by exact e2)⟩
     refine D_s (js := [(16, 25), (26, 35)]) (by kernel_rfl) (fun _ _ => QA_eq rfl (QA_eq rfl (QA_nil (DPu T.ok rfl rfl rfl)))) ?_
     refine D_s (js := [(27, 36)]) (by kernel_rfl) (fun _ _ => QA_eq rfl (QA_nil (DPu T.ok rfl rfl rfl))) ?_
     refine D_s (js := [(28, 37)]) (by kernel_rfl) (fun _ _ => QA_eq rfl (QA_nil (DPu T.ok rfl rfl rfl))) ?_
     refine D_s (js := [(29, 38), (28, 37)]) (by kernel_rfl) (fun _ _ => QA_eq rfl (QA_eq rfl (QA_nil (DPu T.ok rfl rfl rfl)))) ?_
     refine D_s (js := [(30, 39), (28, 37)]) (by kernel_rfl) (fun _ _ => QA_eq rfl (QA_eq rfl (QA_nil (DPu T.ok rfl rfl rfl)))) ?_
     refine D_s (js := [(31, 40), (28, 37)]) (by kernel_rfl) (fun _ hf => QA_eq rfl (QA_eq rfl (QA_nil (DLo T.ok 0 rfl rfl (hs.dr.call hf) rfl rfl rfl rfl)))) ?_
     refine D_s (js := [(28, 37)]) (by kernel_rfl) (fun _ _ => QA_eq rfl (QA_nil (DPu T.ok rfl rfl rfl))) ?_
     refine D_s (js := [(33, 42), (28, 37)]) (by kernel_rfl) (fun _ _ => QA_eq rfl (QA_eq rfl (QA_nil (DPu T.ok rfl rfl rfl)))) ?_
     refine D_s (js := [(34, 43), (28, 37)]) (by kernel_rfl) (fun _ _ => QA_eq rfl (QA_eq rfl (QA_nil (DPu T.ok rfl rfl rfl)))) ?_
     refine D_s (js := [(35, 44), (28, 37)]) (by kernel_rfl) (fun _ hf => QA_eq rfl (QA_eq rfl (QA_nil (DLo T.ok 0 rfl rfl (hs.dr.call hf) rfl rfl rfl rfl)))) ?_
     refine D_cons (D_step2 (js := [(32, 41), (36, 45), (28, 37)]) (by kernel_rfl) fun gd hf => ?_) ?_
     ·have hsd := hs.dr.call hf; have hfe := (G.le_dr _).trans hf.le
      refine QA_eq rfl ?_; refine QA_eq rfl ?_; refine QA_eq rfl ?_
      refine QA_nil ?_
      refine D_yes rfl ?_
      refine OpR_idxS T.ok (s := s) (n := (a1 : Int)) rfl rfl rfl rfl rfl (by omega) (by simpa using hlt) ?_
      refine ⟨_, rfl, Fr0.refl _, ?_⟩
      exact congrArg (fun z : UInt8 => Value.int .u8 (z.toNat : Int)) hc
     refine D_cons (D_step2 (js := [(37, 46), (28, 37)]) (by kernel_rfl) fun gd hf => ?_) ?_
     ·have hsd := hs.dr.call hf; have hfe := (G.le_dr _).trans hf.le
      refine QA_eq rfl ?_; refine QA_eq rfl ?_
      refine QA_nil ?_
      refine D_yes rfl ?_
      refine OpR_pure _ T.ok rfl ?_
      exact ⟨_, rfl, Fr0.refl _, congrArg Value.bool (show _ = true from by exact e3)⟩
     refine D_s (js := [(28, 37), (38, 47)]) (by kernel_rfl) (fun _ _ => QA_eq rfl (QA_eq rfl (QA_nil (DPu T.ok rfl rfl rfl)))) ?_
     refine D_s (js := [(39, 48)]) (by kernel_rfl) (fun _ _ => QA_eq rfl (QA_nil (DPu T.ok rfl rfl rfl))) ?_
     refine D_s (js := [(40, 49)]) (by kernel_rfl) (fun _ _ => QA_eq rfl (QA_nil (DPu T.ok rfl rfl rfl))) ?_
     refine D_cons (D_step2 (js := [(41, 50), (40, 49)]) (by kernel_rfl) fun gd hf => ?_) ?_
     ·have hsd := hs.dr.call hf; have hfe := (G.le_dr _).trans hf.le
      refine QA_eq rfl ?_; refine QA_eq rfl ?_
      refine QA_nil ?_
      refine D_yes rfl ?_
      refine OpR_pure _ T.ok rfl ?_
      exact ⟨_, rfl, Fr0.refl _, congrArg Value.bool (show _ = true from by exact e4)⟩
     refine D_s (js := [(40, 49), (42, 51)]) (by kernel_rfl) (fun _ _ => QA_eq rfl (QA_eq rfl (QA_nil (DPu T.ok rfl rfl rfl)))) ?_
     exact D_nil
    intro g1 hf1; refine QA_eq rfl ?_; refine QA_nil ?_
    replace hs := hs.dr.call hf1; have hqe := (G.le_dr _).trans hf1.le; replace le0 := G.le.trans le0 hqe
    refine WL_nil ?_; (with_reducible refine T_then ?_)
    refine W_yes rfl rfl ?_
    refine W_skip ?_; (with_reducible refine T_then ?_); refine W_block ?_; refine W_seq ?_
    apply W_draw allF rfl (Fact.eq _ :: Fact.eq _ :: Fact.eq _ :: Fact.eq _ :: Fact.eq _ :: Fact.eq _ :: Fact.eq _ :: Fact.eq _ :: Fact.eq _ :: Fact.eq _ :: Fact.eq _ :: Fact.eq _ :: Fact.eq _ :: Fact.eq _ :: []) 14 [(13, 66)] rfl rfl
    ·refine D_s (js := []) (by kernel_rfl) (fun _ _ => QA_nil (DPu T.ok rfl rfl rfl)) ?_
     refine D_cons (D_step2 (js := [(0, 53)]) (by kernel_rfl) fun gd hf => ?_) ?_
     ·have hsd := hs.dr.call hf; have hfe := (G.le_dr _).trans hf.le
      refine QA_eq rfl ?_
      refine QA_nil ?_
      refine D_yes rfl ?_
      refine OpR_pure _ T.ok rfl ?_
      refine ⟨_, rfl, Fr0.refl _, ?_⟩
      exact congrArg (Value.int .i64) (show _ = ((10 * n : Nat) : Int) from by rw [wr (by omega) (by omega)]; omega)
     refine D_s (js := []) (by kernel_rfl) (fun _ _ => QA_nil (DPu T.ok rfl rfl rfl)) ?_
     refine D_s (js := [(2, 55)]) (by kernel_rfl) (fun _ _ => QA_eq rfl (QA_nil (DPu T.ok rfl rfl rfl))) ?_
     refine D_s (js := [(3, 56)]) (by kernel_rfl) (fun _ _ => QA_eq rfl (QA_nil (DPu T.ok rfl rfl rfl))) ?_
     refine D_s (js := [(4, 57)]) (by kernel_rfl) (fun _ hf => QA_eq rfl (QA_nil (DLo T.ok 0 rfl rfl (hs.dr.call hf) rfl rfl rfl rfl))) ?_
     refine D_s (js := []) (by kernel_rfl) (fun _ _ => QA_nil (DPu T.ok rfl rfl rfl)) ?_
     refine D_s (js := [(6, 59)]) (by kernel_rfl) (fun _ _ => QA_eq rfl (QA_nil (DPu T.ok rfl rfl rfl))) ?_
     refine D_s (js := [(7, 60)]) (by kernel_rfl) (fun _ _ => QA_eq rfl (QA_nil (DPu T.ok rfl rfl rfl))) ?_
     refine D_s (js := [(8, 61)]) (by kernel_rfl) (fun _ hf => QA_eq rfl (QA_nil (DLo T.ok 0 rfl rfl (hs.dr.call hf) rfl rfl rfl rfl))) ?_
     refine D_cons (D_step2 (js := [(5, 58), (9, 62)]) (by kernel_rfl) fun gd hf => ?_) ?_
     ·have hsd := hs.dr.call hf; have hfe := (G.le_dr _).trans hf.le
      refine QA_eq rfl ?_; refine QA_eq rfl ?_
      refine QA_nil ?_
      refine D_yes rfl ?_
      refine OpR_idxS T.ok (s := s) (n := (a1 : Int)) rfl rfl rfl rfl rfl (by omega) (by simpa using hlt) ?_
      refine ⟨_, rfl, Fr0.refl _, ?_⟩
      exact congrArg (fun z : UInt8 => Value.int .u8 (z.toNat : Int)) hc
     refine D_cons (D_step2 (js := [(10, 63)]) (by kernel_rfl) fun gd hf => ?_) ?_
     ·have hsd := hs.dr.call hf; have hfe := (G.le_dr _).trans hf.le
      refine QA_eq rfl ?_
      refine QA_nil ?_
      refine D_yes rfl ?_
      refine OpR_pure _ T.ok rfl ?_
      refine ⟨_, rfl, Fr0.refl _, ?_⟩
      exact congrArg (Value.int .u8) (show _ = ((c.toNat - 48 : Nat) : Int) from wr8s c hc57.1)
     refine D_cons (D_step2 (js := [(11, 64)]) (by kernel_rfl) fun gd hf => ?_) ?_
     ·have hsd := hs.dr.call hf; have hfe := (G.le_dr _).trans hf.le
      refine QA_eq rfl ?_
      refine QA_nil ?_
      refine D_yes rfl ?_
      refine OpR_pure2 _ T.ok rfl ?_
      refine ⟨_, rfl, Fr0.refl _, ?_⟩
      exact congrArg (Value.int .i64) (show _ = ((c.toNat - 48 : Nat) : Int) from wr (by omega) (by omega))
     refine D_cons (D_step2 (js := [(1, 54), (12, 65)]) (by kernel_rfl) fun gd hf => ?_) ?_
     ·have hsd := hs.dr.call hf; have hfe := (G.le_dr _).trans hf.le
      refine QA_eq rfl ?_; refine QA_eq rfl ?_
      refine QA_nil ?_
      refine D_yes rfl ?_
      refine OpR_pure _ T.ok rfl ?_
      refine ⟨_, rfl, Fr0.refl _, ?_⟩
      exact congrArg (Value.int .i64) (show _ = ((10 * n + (c.toNat - 48) : Nat) : Int) from by rw [wr (by omega) (by omega)]; omega)
     exact D_nil
    intro g1 hf1; refine QA_eq rfl ?_; refine QA_nil ?_
    replace hs := hs.dr.call hf1; have hqe := (G.le_dr _).trans hf1.le; replace le0 := G.le.trans le0 hqe
    refine P1 T.ok rfl rfl rfl ?_; refine WL_nil ?_; (with_reducible refine T_then ?_); refine W_region ?_; (iterate 3 refine P1 T.ok rfl rfl rfl ?_); refine WL_o rfl rfl (OpR_loadO T.ok 0 rfl hs rfl rfl rfl ?_); (iterate 3 refine P1 T.ok rfl rfl rfl ?_)
    refine WL_re (.int .i64 ((a1 + 1 : Nat) : Int)) (t := 71) rfl (congrArg (Value.int .i64) (by rw [wr (by omega) (by omega)]; omega)) ?_
    refine WL_n rfl (OpR_storeO T.ok 0 rfl hs rfl rfl rfl rfl rfl rfl rfl rfl rfl ?_); replace hs := hs; rintro g5 hs hqe; replace le0 := G.le.trans le0 hqe
    refine WL_nil ?_; (with_reducible refine T_bn ?_)
    exact fun a ha => ⟨s.length - (a1 + 1), by omega, 10 * n + (c.toNat - 48), a1 + 1, g5, hgo, rfl, hs, le0, by omega, by omega, by omega, rfl, ha.keep (by (repeat (first | exact trivial | refine ⟨rfl, ?_⟩)))⟩
  ·have hnil : s.drop a1 = [] := List.drop_of_length_le (by omega)
   have hd : digGo 0 (s.drop a0) = (n, s.drop a1) := by
    rw [← hdg, hnil, digGo_end]
   have e1 : decide ((a1 : Int) < (s.length : Int)) = false := by simp; omega
   (with_reducible refine T_wp ?_); refine W_seq ?_; refine W_seq ?_
   apply W_draw allF rfl (Fact.eq _ :: Fact.eq _ :: Fact.eq _ :: Fact.eq _ :: Fact.eq _ :: Fact.eq _ :: Fact.eq _ :: Fact.eq _ :: Fact.eq _ :: Fact.eq _ :: Fact.eq _ :: Fact.eq _ :: Fact.eq _ :: Fact.eq _ :: Fact.eq _ :: Fact.eq _ :: Fact.eq _ :: Fact.eq _ :: Fact.eq _ :: Fact.eq _ :: Fact.eq _ :: Fact.eq _ :: Fact.eq _ :: Fact.eq _ :: Fact.eq _ :: Fact.eq _ :: Fact.eq _ :: Fact.eq _ :: Fact.eq _ :: Fact.eq _ :: Fact.eq _ :: Fact.eq _ :: Fact.eq _ :: Fact.eq _ :: Fact.eq _ :: Fact.eq _ :: Fact.eq _ :: Fact.eq _ :: Fact.eq _ :: Fact.eq _ :: Fact.eq _ :: Fact.eq _ :: Fact.eq _ :: Fact.eq _ :: []) 44 [(43, 52)] rfl rfl
   ·refine D_s (js := []) (by kernel_rfl) (fun _ _ => QA_nil (DPu T.ok rfl rfl rfl)) ?_
    refine D_s (js := [(0, 9)]) (by kernel_rfl) (fun _ _ => QA_eq rfl (QA_nil (DPu T.ok rfl rfl rfl))) ?_
    refine D_s (js := [(1, 10)]) (by kernel_rfl) (fun _ _ => QA_eq rfl (QA_nil (DPu T.ok rfl rfl rfl))) ?_
    refine D_s (js := [(2, 11)]) (by kernel_rfl) (fun _ hf => QA_eq rfl (QA_nil (DLo T.ok 0 rfl rfl (hs.dr.call hf) rfl rfl rfl rfl))) ?_
    refine D_s (js := [(3, 12)]) (by kernel_rfl) (fun _ _ => QA_eq rfl (QA_nil (DPu T.ok rfl rfl rfl))) ?_
    refine D_s (js := [(4, 13)]) (by kernel_rfl) (fun _ _ => QA_eq rfl (QA_nil (DPu T.ok rfl rfl rfl))) ?_
    refine D_s (js := [(5, 14), (4, 13)]) (by kernel_rfl) (fun _ _ => QA_eq rfl (QA_eq rfl (QA_nil (DPu T.ok rfl rfl rfl)))) ?_
    refine D_s (js := [(6, 15), (4, 13)]) (by kernel_rfl) (fun _ _ => QA_eq rfl (QA_eq rfl (QA_nil (DPu T.ok rfl rfl rfl)))) ?_
    refine D_s (js := [(7, 16), (4, 13)]) (by kernel_rfl) (fun _ hf => QA_eq rfl (QA_eq rfl (QA_nil (DLo T.ok 0 rfl rfl (hs.dr.call hf) rfl rfl rfl rfl)))) ?_
    refine D_s (js := [(4, 13)]) (by kernel_rfl) (fun _ _ => QA_eq rfl (QA_nil (DPu T.ok rfl rfl rfl))) ?_
    refine D_s (js := [(9, 18), (4, 13)]) (by kernel_rfl) (fun _ _ => QA_eq rfl (QA_eq rfl (QA_nil (DPu T.ok rfl rfl rfl)))) ?_
    refine D_s (js := [(10, 19), (4, 13)]) (by kernel_rfl) (fun _ _ => QA_eq rfl (QA_eq rfl (QA_nil (DPu T.ok rfl rfl rfl)))) ?_
    refine D_s (js := [(11, 20), (4, 13)]) (by kernel_rfl) (fun _ hf => QA_eq rfl (QA_eq rfl (QA_nil (DLo T.ok 0 rfl rfl (hs.dr.call hf) rfl rfl rfl rfl)))) ?_
    refine D_s (js := [(12, 21), (4, 13)]) (by kernel_rfl) (fun _ _ => QA_eq rfl (QA_eq rfl (QA_nil (DPu T.ok rfl rfl rfl)))) ?_
    refine D_cons (D_step2 (js := [(8, 17), (13, 22), (4, 13)]) (by kernel_rfl) fun gd hf => ?_) ?_
    ·have hsd := hs.dr.call hf; have hfe := (G.le_dr _).trans hf.le
     refine QA_eq rfl ?_; refine QA_eq rfl ?_; refine QA_eq rfl ?_
     refine QA_nil ?_
     refine D_yes rfl ?_
     refine OpR_pure _ T.ok rfl ?_
     exact ⟨_, rfl, Fr0.refl _, congrArg Value.bool (show _ = false from by rw [bs_size]; exact e1)⟩
    refine D_s (js := [(4, 13), (14, 23)]) (by kernel_rfl) (fun _ _ => QA_eq rfl (QA_eq rfl (QA_nil (DPu T.ok rfl rfl rfl)))) ?_
    refine D_s (js := [(15, 24)]) (by kernel_rfl) (fun _ _ => QA_eq rfl (QA_nil (DPu T.ok rfl rfl rfl))) ?_
    refine D_s (js := [(16, 25)]) (by kernel_rfl) (fun _ _ => QA_eq rfl (QA_nil (DNo rfl rfl))) ?_
    refine D_s (js := [(17, 26), (16, 25)]) (by kernel_rfl) (fun _ _ => QA_eq rfl (QA_eq rfl (QA_nil (DNo rfl rfl)))) ?_
    refine D_s (js := [(18, 27), (16, 25)]) (by kernel_rfl) (fun _ _ => QA_eq rfl (QA_eq rfl (QA_nil (DNo rfl rfl)))) ?_
    refine D_s (js := [(19, 28), (16, 25)]) (by kernel_rfl) (fun _ _ => QA_eq rfl (QA_eq rfl (QA_nil (DNo rfl rfl)))) ?_
    refine D_s (js := [(16, 25)]) (by kernel_rfl) (fun _ _ => QA_eq rfl (QA_nil (DNo rfl rfl))) ?_
    refine D_s (js := [(21, 30), (16, 25)]) (by kernel_rfl) (fun _ _ => QA_eq rfl (QA_eq rfl (QA_nil (DNo rfl rfl)))) ?_
    refine D_s (js := [(22, 31), (16, 25)]) (by kernel_rfl) (fun _ _ => QA_eq rfl (QA_eq rfl (QA_nil (DNo rfl rfl)))) ?_
    refine D_s (js := [(23, 32), (16, 25)]) (by kernel_rfl) (fun _ _ => QA_eq rfl (QA_eq rfl (QA_nil (DNo rfl rfl)))) ?_
    refine D_s (js := [(20, 29), (24, 33), (16, 25)]) (by kernel_rfl) (fun _ _ => QA_eq rfl (QA_eq rfl (QA_eq rfl (QA_nil (DNo rfl rfl))))) ?_
    refine D_s (js := [(25, 34), (16, 25)]) (by kernel_rfl) (fun _ _ => QA_eq rfl (QA_eq rfl (QA_nil (DNo rfl rfl)))) ?_
    refine D_s (js := [(16, 25), (26, 35)]) (by kernel_rfl) (fun _ _ => QA_eq rfl (QA_eq rfl (QA_nil (DPu T.ok rfl rfl rfl)))) ?_
    refine D_s (js := [(27, 36)]) (by kernel_rfl) (fun _ _ => QA_eq rfl (QA_nil (DPu T.ok rfl rfl rfl))) ?_
    refine D_s (js := [(28, 37)]) (by kernel_rfl) (fun _ _ => QA_eq rfl (QA_nil (DNo rfl rfl))) ?_
    refine D_s (js := [(29, 38), (28, 37)]) (by kernel_rfl) (fun _ _ => QA_eq rfl (QA_eq rfl (QA_nil (DNo rfl rfl)))) ?_
    refine D_s (js := [(30, 39), (28, 37)]) (by kernel_rfl) (fun _ _ => QA_eq rfl (QA_eq rfl (QA_nil (DNo rfl rfl)))) ?_
    refine D_s (js := [(31, 40), (28, 37)]) (by kernel_rfl) (fun _ _ => QA_eq rfl (QA_eq rfl (QA_nil (DNo rfl rfl)))) ?_
    refine D_s (js := [(28, 37)]) (by kernel_rfl) (fun _ _ => QA_eq rfl (QA_nil (DNo rfl rfl))) ?_
    refine D_s (js := [(33, 42), (28, 37)]) (by kernel_rfl) (fun _ _ => QA_eq rfl (QA_eq rfl (QA_nil (DNo rfl rfl)))) ?_
    refine D_s (js := [(34, 43), (28, 37)]) (by kernel_rfl) (fun _ _ => QA_eq rfl (QA_eq rfl (QA_nil (DNo rfl rfl)))) ?_
    refine D_s (js := [(35, 44), (28, 37)]) (by kernel_rfl) (fun _ _ => QA_eq rfl (QA_eq rfl (QA_nil (DNo rfl rfl)))) ?_
    refine D_s (js := [(32, 41), (36, 45), (28, 37)]) (by kernel_rfl) (fun _ _ => QA_eq rfl (QA_eq rfl (QA_eq rfl (QA_nil (DNo rfl rfl))))) ?_
    refine D_s (js := [(37, 46), (28, 37)]) (by kernel_rfl) (fun _ _ => QA_eq rfl (QA_eq rfl (QA_nil (DNo rfl rfl)))) ?_
    refine D_s (js := [(28, 37), (38, 47)]) (by kernel_rfl) (fun _ _ => QA_eq rfl (QA_eq rfl (QA_nil (DPu T.ok rfl rfl rfl)))) ?_
    refine D_s (js := [(39, 48)]) (by kernel_rfl) (fun _ _ => QA_eq rfl (QA_nil (DPu T.ok rfl rfl rfl))) ?_
    refine D_s (js := [(40, 49)]) (by kernel_rfl) (fun _ _ => QA_eq rfl (QA_nil (DNo rfl rfl))) ?_
    refine D_s (js := [(41, 50), (40, 49)]) (by kernel_rfl) (fun _ _ => QA_eq rfl (QA_eq rfl (QA_nil (DNo rfl rfl)))) ?_
    refine D_s (js := [(40, 49), (42, 51)]) (by kernel_rfl) (fun _ _ => QA_eq rfl (QA_eq rfl (QA_nil (DPu T.ok rfl rfl rfl)))) ?_
    exact D_nil
   intro g1 hf1; refine QA_eq rfl ?_; refine QA_nil ?_
   replace hs := hs.dr.call hf1; have hqe := (G.le_dr _).trans hf1.le; replace le0 := G.le.trans le0 hqe
   refine WL_nil ?_; (with_reducible refine T_then ?_)
   refine W_no rfl rfl ?_
   have hnr : numR true (s.drop a0) = (n, !numBad (s.drop a0), s.drop a1) := by unfold numR; rw [if_pos rfl, hd]
   rw [hnr, numBad_eq hd h0 h1]
   dsimp only
   clear hnr
   by_cases hfr : a1 = a0
   ·subst hfr
    rw [decide_eq_true (rfl : a1 = a1), Bool.true_or, Bool.true_or]
    refine W_exit ?_; (with_reducible refine T_tx ?_; with_reducible refine T_tx ?_); (with_reducible refine T_bx ?_); (with_reducible refine T_then ?_); refine W_seq ?_; refine W_seq ?_; refine W_region ?_; (iterate 3 refine P1 T.ok rfl rfl rfl ?_); refine WL_o rfl rfl (OpR_loadO T.ok 0 rfl hs rfl rfl rfl ?_); (iterate 3 refine P1 T.ok rfl rfl rfl ?_)
    refine WL_know 80 (b' := true) (by simp) rfl ?_
    (iterate 16 refine S1 allF rfl rfl ?_); refine P1 T.ok rfl rfl rfl ?_; refine P1 T.ok rfl rfl rfl ?_; refine S1 allF rfl rfl ?_; refine S1 allF rfl rfl ?_; refine P1 T.ok rfl rfl rfl ?_; refine WL_nil ?_; (with_reducible refine T_then ?_)
    refine W_yes rfl rfl ?_
    refine W_region ?_; (iterate 3 refine P1 T.ok rfl rfl rfl ?_)
    refine WL_n rfl (OpR_storeO T.ok 0 rfl hs rfl rfl rfl rfl rfl rfl rfl rfl rfl ?_); replace hs := hs; rintro g1 hs hqe; replace le0 := G.le.trans le0 hqe
    refine WL_nil ?_; (with_reducible refine T_then ?_); refine W_seq ?_; refine W_region ?_; refine P1 T.ok rfl rfl rfl ?_; refine P1 T.ok rfl rfl rfl ?_; refine WL_nil ?_; (with_reducible refine T_then ?_)
    exact W_ret (ret1 rfl rfl (RetS.intro le0 ⟨rfl, a1, h1, rfl, hs⟩))
   ·rw [decide_eq_false hfr, Bool.false_or]
    refine W_exit ?_; (with_reducible refine T_tx ?_; with_reducible refine T_tx ?_); (with_reducible refine T_bx ?_); (with_reducible refine T_then ?_); refine W_seq ?_; refine W_seq ?_; refine W_region ?_; (iterate 3 refine P1 T.ok rfl rfl rfl ?_); refine WL_o rfl rfl (OpR_loadO T.ok 0 rfl hs rfl rfl rfl ?_); (iterate 3 refine P1 T.ok rfl rfl rfl ?_)
    refine WL_know 80 (b' := false) (by simp; omega) rfl ?_
    (iterate 3 refine P1 T.ok rfl rfl rfl ?_); refine WL_o rfl rfl (OpR_loadO T.ok 0 rfl hs rfl rfl rfl ?_); (iterate 4 refine P1 T.ok rfl rfl rfl ?_)
    by_cases hgt : 1 < a1 - a0
    ·refine WL_know 88 (b' := true) (by rw [wr (by omega) (by omega)]; simp; omega) rfl ?_
     have hlt0 : a0 < s.length := by omega
     rw [decide_eq_true hgt, Bool.true_and, List.getElem?_eq_getElem hlt0]
     obtain ⟨c0, hc0⟩ : ∃ c0, s[a0] = c0 := ⟨_, rfl⟩
     (iterate 3 refine P1 T.ok rfl rfl rfl ?_); refine WL_o rfl rfl (OpR_loadO T.ok 0 rfl hs rfl rfl rfl ?_); refine P1 T.ok rfl rfl rfl ?_
     refine WL_o rfl rfl (OpR_idxS T.ok (s := s) (n := (a0 : Int)) rfl rfl rfl rfl rfl (by omega) (by simpa using hlt0) ?_)
     refine WL_re (.int .u8 (c0.toNat : Int)) (t := 94) rfl (congrArg (fun z : UInt8 => Value.int .u8 (z.toNat : Int)) hc0) ?_
     rw [hc0]
     by_cases h48 : c0 = 48
     ·subst h48
      rw [show ((some (48 : UInt8)) == some 48) = true from rfl, Bool.true_or]
      (iterate 4 refine P1 T.ok rfl rfl rfl ?_); refine S1 allF rfl rfl ?_; refine S1 allF rfl rfl ?_; refine P1 T.ok rfl rfl rfl ?_; refine WL_nil ?_; (with_reducible refine T_then ?_)
      skip
      refine W_yes rfl rfl ?_
      refine W_region ?_; (iterate 3 refine P1 T.ok rfl rfl rfl ?_)
      refine WL_n rfl (OpR_storeO T.ok 0 rfl hs rfl rfl rfl rfl rfl rfl rfl rfl rfl ?_); replace hs := hs; rintro g1 hs hqe; replace le0 := G.le.trans le0 hqe
      refine WL_nil ?_; (with_reducible refine T_then ?_); refine W_seq ?_; refine W_region ?_; refine P1 T.ok rfl rfl rfl ?_; refine P1 T.ok rfl rfl rfl ?_; refine WL_nil ?_; (with_reducible refine T_then ?_)
      exact W_ret (ret1 rfl rfl (RetS.intro le0 ⟨rfl, a1, h1, rfl, hs⟩))
     ·have hne : (c0.toNat : Int) ≠ 48 := fun h => h48 (UInt8.toNat_inj.1 (show c0.toNat = 48 by omega))
      rw [show (some c0 == some 48) = false from by simpa using h48, Bool.false_or]
      (iterate 4 refine P1 T.ok rfl rfl rfl ?_)
      refine WL_know 98 (b' := false) (by simp; omega) rfl ?_
      by_cases hbig : 1000000 < n
      ·rw [decide_eq_true hbig]
       (iterate 3 refine P1 T.ok rfl rfl rfl ?_); refine WL_nil ?_; (with_reducible refine T_then ?_)
       refine W_yes (b := _) ?_ rfl ?_
       ·simp; omega
       refine W_region ?_; (iterate 3 refine P1 T.ok rfl rfl rfl ?_)
       refine WL_n rfl (OpR_storeO T.ok 0 rfl hs rfl rfl rfl rfl rfl rfl rfl rfl rfl ?_); replace hs := hs; rintro g1 hs hqe; replace le0 := G.le.trans le0 hqe
       refine WL_nil ?_; (with_reducible refine T_then ?_); refine W_seq ?_; refine W_region ?_; refine P1 T.ok rfl rfl rfl ?_; refine P1 T.ok rfl rfl rfl ?_; refine WL_nil ?_; (with_reducible refine T_then ?_)
       exact W_ret (ret1 rfl rfl (RetS.intro le0 ⟨rfl, a1, h1, rfl, hs⟩))
      ·rw [decide_eq_false hbig]
       (iterate 3 refine P1 T.ok rfl rfl rfl ?_); refine WL_nil ?_; (with_reducible refine T_then ?_)
       refine W_no (b := _) ?_ rfl ?_
       ·simp; omega
       refine W_skip ?_; (with_reducible refine T_then ?_); refine W_seq ?_; refine W_region ?_; refine P1 T.ok rfl rfl rfl ?_; refine P1 T.ok rfl rfl rfl ?_; refine WL_nil ?_; (with_reducible refine T_then ?_)
       exact W_ret (ret1 rfl rfl (RetS.intro le0 ⟨rfl, a1, h1, rfl, hs⟩))
    ·refine WL_know 88 (b' := false) (by rw [wr (by omega) (by omega)]; simp; omega) rfl ?_
     rw [decide_eq_false hgt, Bool.false_and, Bool.false_or]
     (iterate 7 refine S1 allF rfl rfl ?_); (iterate 6 refine P1 T.ok rfl rfl rfl ?_); refine WL_nil ?_; (with_reducible refine T_then ?_)
     by_cases hbig : 1000000 < n
     ·rw [decide_eq_true hbig]
      skip
      refine W_yes (b := _) ?_ rfl ?_
      ·simp; omega
      refine W_region ?_; (iterate 3 refine P1 T.ok rfl rfl rfl ?_)
      refine WL_n rfl (OpR_storeO T.ok 0 rfl hs rfl rfl rfl rfl rfl rfl rfl rfl rfl ?_); replace hs := hs; rintro g1 hs hqe; replace le0 := G.le.trans le0 hqe
      refine WL_nil ?_; (with_reducible refine T_then ?_); refine W_seq ?_; refine W_region ?_; refine P1 T.ok rfl rfl rfl ?_; refine P1 T.ok rfl rfl rfl ?_; refine WL_nil ?_; (with_reducible refine T_then ?_)
      exact W_ret (ret1 rfl rfl (RetS.intro le0 ⟨rfl, a1, h1, rfl, hs⟩))
     ·rw [decide_eq_false hbig]
      skip
      refine W_no (b := _) ?_ rfl ?_
      ·simp; omega
      refine W_skip ?_; (with_reducible refine T_then ?_); refine W_seq ?_; refine W_region ?_; refine P1 T.ok rfl rfl rfl ?_; refine P1 T.ok rfl rfl rfl ?_; refine WL_nil ?_; (with_reducible refine T_then ?_)
      exact W_ret (ret1 rfl rfl (RetS.intro le0 ⟨rfl, a1, h1, rfl, hs⟩))
end Go.Proofs.YtnaeopehmdcplaaGreatDoor

/- The reference's Text.numbers; readMove, readWindow. -/
namespace Go.Proofs.YtnaeopehmdcplaaGreatDoor
open Go Go.K
set_option maxRecDepth 10000
attribute [local irreducible] W WL OpR bitAnd bitOr bitXor bitClr bitNot shlI shrI
set_option maxHeartbeats 16000000

theorem numsGo_stop {f : Nat} {l : List Nat} {ok : Bool} {r : List UInt8} (h : ¬ (ok = true ∧ r.head? = some 44)) : numsGo f l ok r = (l, ok, r) := by
 cases f with
 | zero => rfl
 | succ k => rw [numsGo, if_neg h]
theorem numsGo_go {f : Nat} {l : List Nat} {t : List UInt8} (hf : t.length < f) : ∃ k, f = k + 1 ∧ numsGo f l true (44 :: t) = numsGo k (l ++ [(numR true t).1]) (numR true t).2.1 (numR true t).2.2 := by
 cases f with
 | zero => omega
 | succ k => exact ⟨k, rfl, by rw [numsGo, if_pos ⟨rfl, rfl⟩]; rfl⟩



theorem tnumbers_c {b : Nat} {s : List UInt8} {a0 : Nat} {ok : Bool} {g0 g : G} {L : List Ent} (hat : a0 ≤ s.length) (hsl : s.length ≤ 1000000) (hs : St g0 g (txO b s a0 ok :: L)) :
  CallsIn Wd 0 Tryz.prog 70 #[.pointer (some ⟨b, 0, none⟩)] g.w (RetS g fun g' r => Rs g' r (ints (numsR ok (s.drop a0)).1) ∧ TxPost b s L g0 g' (numsR ok (s.drop a0)).2.1 (numsR ok (s.drop a0)).2.2) := by
 have le0 := G.le.refl g
 refine enter Tryz.func70 rfl Tryz.ntmps70 rfl ?_
 refine W_seq ?_; refine W_region ?_; refine P1 T.ok rfl rfl rfl ?_; refine WL_nil ?_; (with_reducible refine T_then ?_); refine W_seq ?_; refine W_region ?_; refine P1 T.ok rfl rfl rfl ?_
 refine WL_o rfl rfl (OpR_st cl69 allF rfl rfl rfl rfl rfl (tnumber_c hat hsl hs) ?_)
 clear hs
 rintro g1 _ hqe ⟨rfl, a1, h1, hdr, hs⟩; replace le0 := G.le.trans le0 hqe
 have hR : numsGo (s.drop a0).length [(numR ok (s.drop a0)).1] (numR ok (s.drop a0)).2.1 (numR ok (s.drop a0)).2.2 = numsR ok (s.drop a0) := rfl
 have hlen := numR_len ok (s.drop a0)
 have hlen0 : a0 ≤ a1 := by
  rw [← hdr, List.length_drop, List.length_drop] at hlen; omega
 rw [← hdr] at hR hlen
 generalize (numR ok (s.drop a0)).1 = n0 at *
 generalize (numR ok (s.drop a0)).2.1 = ok1 at *
 generalize numsR ok (s.drop a0) = R0 at *
 clear hdr
 skip
 refine WL_o rfl rfl (OpR_lit T.ok rfl hs (vs := [(0, .int .i64 (n0 : Nat))]) (cells := [.int .i64 (n0 : Nat)]) rfl rfl rfl rfl rfl rfl (by decide) (by decide) (by kernel_rfl) rfl ?_)
 clear hs
 rintro bl gl hs hqe; replace le0 := G.le.trans le0 hqe
 replace hs := hs.front (i := 1) rfl
 unfold txO at hs
 have hfu : (s.drop a1).length ≤ (s.drop a0).length := hlen
 generalize (s.drop a0).length = fu at *
 clear hlen
 refine P1 T.ok rfl rfl rfl ?_; refine WL_nil ?_; (with_reducible refine T_then ?_); refine W_seq ?_; refine W_block ?_
 refine W_loop (fun m a' w => ∃ (f : Nat) (ns : List Nat) (okk : Bool) (a1 : Nat) (ra : Option Addr) (rc : Nat) (g' : G), numsGo f ns okk (s.drop a1) = R0 ∧ (s.drop a1).length ≤ f ∧ w = g'.w ∧ St g0 g' (.obj b (.cells [.string (bs s), .int .i64 a1, .bool okk].toArray 100 (0, 0)) :: .row 3 1 (.slice ra ns.length rc) ns.length ((ints ns).map (Value.int .i64)) :: L) ∧ G.le g g' ∧ a1 ≤ s.length ∧ m = s.length - a1 ∧ ns.length ≤ a1 + 1 ∧
   Fr 48 [] [(0, .pointer (some ⟨b, 0, none⟩)), (3, .slice ra ns.length rc)] a') (s.length - a1) (fun a' ha => ⟨fu, [n0], ok1, a1, _, _, gl, hR, hfu, rfl, hs, le0, h1, rfl, by simp, ha.keep (by (repeat (first | exact trivial | refine ⟨rfl, ?_⟩)))⟩) ?_
 clear hs le0 hR hfu h1 hlen0
 rintro m a' _ ⟨f, ns, okk, a1, ra, rc, g', hR, hfu, rfl, hs, le0, h1, rfl, hnl, ha'⟩
 revert a'
 cases okk with
 | false =>
  (with_reducible refine T_wp ?_); refine W_seq ?_; refine W_seq ?_
  apply W_draw allF rfl (Fact.eq _ :: Fact.eq _ :: Fact.eq _ :: Fact.eq _ :: Fact.eq _ :: Fact.eq _ :: Fact.eq _ :: Fact.eq _ :: Fact.eq _ :: Fact.eq _ :: Fact.eq _ :: Fact.eq _ :: Fact.eq _ :: Fact.eq _ :: Fact.eq _ :: Fact.eq _ :: Fact.eq _ :: Fact.eq _ :: Fact.eq _ :: Fact.eq _ :: Fact.eq _ :: Fact.eq _ :: Fact.eq _ :: Fact.eq _ :: Fact.eq _ :: Fact.eq _ :: Fact.eq _ :: Fact.eq _ :: []) 28 [(27, 34)] rfl rfl
  ·refine D_s (js := []) (by kernel_rfl) (fun _ _ => QA_nil (DPu T.ok rfl rfl rfl)) ?_
   refine D_s (js := [(0, 7)]) (by kernel_rfl) (fun _ _ => QA_eq rfl (QA_nil (DPu T.ok rfl rfl rfl))) ?_
   refine D_s (js := [(1, 8)]) (by kernel_rfl) (fun _ _ => QA_eq rfl (QA_nil (DPu T.ok rfl rfl rfl))) ?_
   refine D_s (js := [(2, 9)]) (by kernel_rfl) (fun _ hf => QA_eq rfl (QA_nil (DLo T.ok 0 rfl rfl (hs.dr.call hf) rfl rfl rfl rfl))) ?_
   refine D_s (js := [(3, 10)]) (by kernel_rfl) (fun _ _ => QA_eq rfl (QA_nil (DPu T.ok rfl rfl rfl))) ?_
   refine D_s (js := [(4, 11)]) (by kernel_rfl) (fun _ _ => QA_eq rfl (QA_nil (DNo rfl rfl))) ?_
   refine D_s (js := [(5, 12), (4, 11)]) (by kernel_rfl) (fun _ _ => QA_eq rfl (QA_eq rfl (QA_nil (DNo rfl rfl)))) ?_
   refine D_s (js := [(6, 13), (4, 11)]) (by kernel_rfl) (fun _ _ => QA_eq rfl (QA_eq rfl (QA_nil (DNo rfl rfl)))) ?_
   refine D_s (js := [(7, 14), (4, 11)]) (by kernel_rfl) (fun _ _ => QA_eq rfl (QA_eq rfl (QA_nil (DNo rfl rfl)))) ?_
   refine D_s (js := [(4, 11)]) (by kernel_rfl) (fun _ _ => QA_eq rfl (QA_nil (DNo rfl rfl))) ?_
   refine D_s (js := [(9, 16), (4, 11)]) (by kernel_rfl) (fun _ _ => QA_eq rfl (QA_eq rfl (QA_nil (DNo rfl rfl)))) ?_
   refine D_s (js := [(10, 17), (4, 11)]) (by kernel_rfl) (fun _ _ => QA_eq rfl (QA_eq rfl (QA_nil (DNo rfl rfl)))) ?_
   refine D_s (js := [(11, 18), (4, 11)]) (by kernel_rfl) (fun _ _ => QA_eq rfl (QA_eq rfl (QA_nil (DNo rfl rfl)))) ?_
   refine D_s (js := [(12, 19), (4, 11)]) (by kernel_rfl) (fun _ _ => QA_eq rfl (QA_eq rfl (QA_nil (DNo rfl rfl)))) ?_
   refine D_s (js := [(8, 15), (13, 20), (4, 11)]) (by kernel_rfl) (fun _ _ => QA_eq rfl (QA_eq rfl (QA_eq rfl (QA_nil (DNo rfl rfl))))) ?_
   refine D_s (js := [(4, 11), (14, 21)]) (by kernel_rfl) (fun _ _ => QA_eq rfl (QA_eq rfl (QA_nil (DPu T.ok rfl rfl rfl)))) ?_
   refine D_s (js := [(15, 22)]) (by kernel_rfl) (fun _ _ => QA_eq rfl (QA_nil (DPu T.ok rfl rfl rfl))) ?_
   refine D_s (js := [(16, 23)]) (by kernel_rfl) (fun _ _ => QA_eq rfl (QA_nil (DNo rfl rfl))) ?_
   refine D_s (js := [(17, 24), (16, 23)]) (by kernel_rfl) (fun _ _ => QA_eq rfl (QA_eq rfl (QA_nil (DNo rfl rfl)))) ?_
   refine D_s (js := [(18, 25), (16, 23)]) (by kernel_rfl) (fun _ _ => QA_eq rfl (QA_eq rfl (QA_nil (DNo rfl rfl)))) ?_
   refine D_s (js := [(19, 26), (16, 23)]) (by kernel_rfl) (fun _ _ => QA_eq rfl (QA_eq rfl (QA_nil (DNo rfl rfl)))) ?_
   refine D_s (js := [(16, 23)]) (by kernel_rfl) (fun _ _ => QA_eq rfl (QA_nil (DNo rfl rfl))) ?_
   refine D_s (js := [(21, 28), (16, 23)]) (by kernel_rfl) (fun _ _ => QA_eq rfl (QA_eq rfl (QA_nil (DNo rfl rfl)))) ?_
   refine D_s (js := [(22, 29), (16, 23)]) (by kernel_rfl) (fun _ _ => QA_eq rfl (QA_eq rfl (QA_nil (DNo rfl rfl)))) ?_
   refine D_s (js := [(23, 30), (16, 23)]) (by kernel_rfl) (fun _ _ => QA_eq rfl (QA_eq rfl (QA_nil (DNo rfl rfl)))) ?_
   refine D_s (js := [(20, 27), (24, 31), (16, 23)]) (by kernel_rfl) (fun _ _ => QA_eq rfl (QA_eq rfl (QA_eq rfl (QA_nil (DNo rfl rfl))))) ?_
   refine D_s (js := [(25, 32), (16, 23)]) (by kernel_rfl) (fun _ _ => QA_eq rfl (QA_eq rfl (QA_nil (DNo rfl rfl)))) ?_
   refine D_s (js := [(16, 23), (26, 33)]) (by kernel_rfl) (fun _ _ => QA_eq rfl (QA_eq rfl (QA_nil (DPu T.ok rfl rfl rfl)))) ?_
   exact D_nil
  intro g1 hf1; refine QA_eq rfl ?_; refine QA_nil ?_
  replace hs := hs.dr.call hf1; have hqe := (G.le_dr _).trans hf1.le; replace le0 := G.le.trans le0 hqe
  rw [numsGo_stop (by rintro ⟨h, _⟩; cases h)] at hR
  refine WL_nil ?_; (with_reducible refine T_then ?_)
  refine W_no rfl rfl ?_
  obtain ⟨gy, hwy, hsy, hqy, hrl⟩ := hs.fzRow (α := Int) (xs := ints ns) (i := 1) rfl (RcL.ints _ _)
  have hqe := hqy; rw [← hwy]; replace hs := hsy; clear hsy; replace le0 := G.le.trans le0 hqe
  rw [← hR]
  refine W_exit ?_; (with_reducible refine T_tx ?_; with_reducible refine T_tx ?_); (with_reducible refine T_bx ?_); (with_reducible refine T_then ?_); refine W_seq ?_; refine W_region ?_; refine P1 T.ok rfl rfl rfl ?_; refine P1 T.ok rfl rfl rfl ?_; refine WL_nil ?_; (with_reducible refine T_then ?_)
  refine W_ret (ret1 rfl rfl (RetS.intro le0 ⟨?_, a1, h1, rfl, hs⟩))
  have e : (ints ns).length = ns.length := ints_len ns
  rw [← e]; rw [← e] at hrl
  exact hrl
 | true =>
  by_cases hlt : a1 < s.length
  ·obtain ⟨c, hc⟩ : ∃ c, s[a1] = c := ⟨_, rfl⟩
   have hdr : s.drop a1 = c :: s.drop (a1 + 1) := by rw [List.drop_eq_getElem_cons hlt, hc]
   have e1 : decide ((a1 : Int) < (s.length : Int)) = true := by simp; omega
   cases e2 : ((c.toNat : Int) == 44) with
   | false =>
    (with_reducible refine T_wp ?_); refine W_seq ?_; refine W_seq ?_
    apply W_draw allF rfl (Fact.eq _ :: Fact.eq _ :: Fact.eq _ :: Fact.eq _ :: Fact.eq _ :: Fact.eq _ :: Fact.eq _ :: Fact.eq _ :: Fact.eq _ :: Fact.eq _ :: Fact.eq _ :: Fact.eq _ :: Fact.eq _ :: Fact.eq _ :: Fact.eq _ :: Fact.eq _ :: Fact.eq _ :: Fact.eq _ :: Fact.eq _ :: Fact.eq _ :: Fact.eq _ :: Fact.eq _ :: Fact.eq _ :: Fact.eq _ :: Fact.eq _ :: Fact.eq _ :: Fact.eq _ :: Fact.eq _ :: []) 28 [(27, 34)] rfl rfl
    ·refine D_s (js := []) (by kernel_rfl) (fun _ _ => QA_nil (DPu T.ok rfl rfl rfl)) ?_
     refine D_s (js := [(0, 7)]) (by kernel_rfl) (fun _ _ => QA_eq rfl (QA_nil (DPu T.ok rfl rfl rfl))) ?_
     refine D_s (js := [(1, 8)]) (by kernel_rfl) (fun _ _ => QA_eq rfl (QA_nil (DPu T.ok rfl rfl rfl))) ?_
     refine D_s (js := [(2, 9)]) (by kernel_rfl) (fun _ hf => QA_eq rfl (QA_nil (DLo T.ok 0 rfl rfl (hs.dr.call hf) rfl rfl rfl rfl))) ?_
     refine D_s (js := [(3, 10)]) (by kernel_rfl) (fun _ _ => QA_eq rfl (QA_nil (DPu T.ok rfl rfl rfl))) ?_
     refine D_s (js := [(4, 11)]) (by kernel_rfl) (fun _ _ => QA_eq rfl (QA_nil (DPu T.ok rfl rfl rfl))) ?_
     refine D_s (js := [(5, 12), (4, 11)]) (by kernel_rfl) (fun _ _ => QA_eq rfl (QA_eq rfl (QA_nil (DPu T.ok rfl rfl rfl)))) ?_
     refine D_s (js := [(6, 13), (4, 11)]) (by kernel_rfl) (fun _ _ => QA_eq rfl (QA_eq rfl (QA_nil (DPu T.ok rfl rfl rfl)))) ?_
     refine D_s (js := [(7, 14), (4, 11)]) (by kernel_rfl) (fun _ hf => QA_eq rfl (QA_eq rfl (QA_nil (DLo T.ok 0 rfl rfl (hs.dr.call hf) rfl rfl rfl rfl)))) ?_
     refine D_s (js := [(4, 11)]) (by kernel_rfl) (fun _ _ => QA_eq rfl (QA_nil (DPu T.ok rfl rfl rfl))) ?_
     refine D_s (js := [(9, 16), (4, 11)]) (by kernel_rfl) (fun _ _ => QA_eq rfl (QA_eq rfl (QA_nil (DPu T.ok rfl rfl rfl)))) ?_
     refine D_s (js := [(10, 17), (4, 11)]) (by kernel_rfl) (fun _ _ => QA_eq rfl (QA_eq rfl (QA_nil (DPu T.ok rfl rfl rfl)))) ?_
     refine D_s (js := [(11, 18), (4, 11)]) (by kernel_rfl) (fun _ hf => QA_eq rfl (QA_eq rfl (QA_nil (DLo T.ok 0 rfl rfl (hs.dr.call hf) rfl rfl rfl rfl)))) ?_
     refine D_s (js := [(12, 19), (4, 11)]) (by kernel_rfl) (fun _ _ => QA_eq rfl (QA_eq rfl (QA_nil (DPu T.ok rfl rfl rfl)))) ?_
     refine D_cons (D_step2 (js := [(8, 15), (13, 20), (4, 11)]) (by kernel_rfl) fun gd hf => ?_) ?_
     ·have hsd := hs.dr.call hf; have hfe := (G.le_dr _).trans hf.le
      refine QA_eq rfl ?_; refine QA_eq rfl ?_; refine QA_eq rfl ?_
      refine QA_nil ?_
      refine D_yes rfl ?_
      refine OpR_pure _ T.ok rfl ?_
      exact ⟨_, rfl, Fr0.refl _, congrArg Value.bool (show _ = true from by rw [bs_size]; exact e1)⟩
     refine D_s (js := [(4, 11), (14, 21)]) (by kernel_rfl) (fun _ _ => QA_eq rfl (QA_eq rfl (QA_nil (DPu T.ok rfl rfl rfl)))) ?_
     refine D_s (js := [(15, 22)]) (by kernel_rfl) (fun _ _ => QA_eq rfl (QA_nil (DPu T.ok rfl rfl rfl))) ?_
     refine D_s (js := [(16, 23)]) (by kernel_rfl) (fun _ _ => QA_eq rfl (QA_nil (DPu T.ok rfl rfl rfl))) ?_
     refine D_s (js := [(17, 24), (16, 23)]) (by kernel_rfl) (fun _ _ => QA_eq rfl (QA_eq rfl (QA_nil (DPu T.ok rfl rfl rfl)))) ?_
     refine D_s (js := [(18, 25), (16, 23)]) (by kernel_rfl) (fun _ _ => QA_eq rfl (QA_eq rfl (QA_nil (DPu T.ok rfl rfl rfl)))) ?_
     refine D_s (js := [(19, 26), (16, 23)]) (by kernel_rfl) (fun _ hf => QA_eq rfl (QA_eq rfl (QA_nil (DLo T.ok 0 rfl rfl (hs.dr.call hf) rfl rfl rfl rfl)))) ?_
     refine D_s (js := [(16, 23)]) (by kernel_rfl) (fun _ _ => QA_eq rfl (QA_nil (DPu T.ok rfl rfl rfl))) ?_
     refine D_s (js := [(21, 28), (16, 23)]) (by kernel_rfl) (fun _ _ => QA_eq rfl (QA_eq rfl (QA_nil (DPu T.ok rfl rfl rfl)))) ?_
     refine D_s (js := [(22, 29), (16, 23)]) (by kernel_rfl) (fun _ _ => QA_eq rfl (QA_eq rfl (QA_nil (DPu T.ok rfl rfl rfl)))) ?_
     refine D_s (js := [(23, 30), (16, 23)]) (by kernel_rfl) (fun _ hf => QA_eq rfl (QA_eq rfl (QA_nil (DLo T.ok 0 rfl rfl (hs.dr.call hf) rfl rfl rfl rfl)))) ?_
     refine D_cons (D_step2 (js := [(20, 27), (24, 31), (16, 23)]) (by kernel_rfl) fun gd hf => ?_) ?_
     ·have hsd := hs.dr.call hf; have hfe := (G.le_dr _).trans hf.le
      refine QA_eq rfl ?_; refine QA_eq rfl ?_; refine QA_eq rfl ?_
      refine QA_nil ?_
      refine D_yes rfl ?_
      refine OpR_idxS T.ok (s := s) (n := (a1 : Int)) rfl rfl rfl rfl rfl (by omega) (by simpa using hlt) ?_
      refine ⟨_, rfl, Fr0.refl _, ?_⟩
      exact congrArg (fun z : UInt8 => Value.int .u8 (z.toNat : Int)) hc
     refine D_cons (D_step2 (js := [(25, 32), (16, 23)]) (by kernel_rfl) fun gd hf => ?_) ?_
     ·have hsd := hs.dr.call hf; have hfe := (G.le_dr _).trans hf.le
      refine QA_eq rfl ?_; refine QA_eq rfl ?_
      refine QA_nil ?_
      refine D_yes rfl ?_
      refine OpR_pure _ T.ok rfl ?_
      exact ⟨_, rfl, Fr0.refl _, congrArg Value.bool (show _ = false from by exact e2)⟩
     refine D_s (js := [(16, 23), (26, 33)]) (by kernel_rfl) (fun _ _ => QA_eq rfl (QA_eq rfl (QA_nil (DPu T.ok rfl rfl rfl)))) ?_
     exact D_nil
    intro g1 hf1; refine QA_eq rfl ?_; refine QA_nil ?_
    replace hs := hs.dr.call hf1; have hqe := (G.le_dr _).trans hf1.le; replace le0 := G.le.trans le0 hqe
    rw [numsGo_stop (by rintro ⟨_, h⟩; rw [hdr] at h; have := Option.some.inj h; subst this; cases e2)] at hR
    refine WL_nil ?_; (with_reducible refine T_then ?_)
    refine W_no rfl rfl ?_
    obtain ⟨gy, hwy, hsy, hqy, hrl⟩ := hs.fzRow (α := Int) (xs := ints ns) (i := 1) rfl (RcL.ints _ _)
    have hqe := hqy; rw [← hwy]; replace hs := hsy; clear hsy; replace le0 := G.le.trans le0 hqe
    rw [← hR]
    refine W_exit ?_; (with_reducible refine T_tx ?_; with_reducible refine T_tx ?_); (with_reducible refine T_bx ?_); (with_reducible refine T_then ?_); refine W_seq ?_; refine W_region ?_; refine P1 T.ok rfl rfl rfl ?_; refine P1 T.ok rfl rfl rfl ?_; refine WL_nil ?_; (with_reducible refine T_then ?_)
    refine W_ret (ret1 rfl rfl (RetS.intro le0 ⟨?_, a1, h1, rfl, hs⟩))
    have e : (ints ns).length = ns.length := ints_len ns
    rw [← e]; rw [← e] at hrl
    exact hrl
   | true =>
    have hc44 : c = 44 := UInt8.toNat_inj.1 (show c.toNat = 44 by have := eq_of_beq e2; omega)
    (with_reducible refine T_wp ?_); refine W_seq ?_; refine W_seq ?_
    apply W_draw allF rfl (Fact.eq _ :: Fact.eq _ :: Fact.eq _ :: Fact.eq _ :: Fact.eq _ :: Fact.eq _ :: Fact.eq _ :: Fact.eq _ :: Fact.eq _ :: Fact.eq _ :: Fact.eq _ :: Fact.eq _ :: Fact.eq _ :: Fact.eq _ :: Fact.eq _ :: Fact.eq _ :: Fact.eq _ :: Fact.eq _ :: Fact.eq _ :: Fact.eq _ :: Fact.eq _ :: Fact.eq _ :: Fact.eq _ :: Fact.eq _ :: Fact.eq _ :: Fact.eq _ :: Fact.eq _ :: Fact.eq _ :: []) 28 [(27, 34)] rfl rfl
    ·refine D_s (js := []) (by kernel_rfl) (fun _ _ => QA_nil (DPu T.ok rfl rfl rfl)) ?_
     refine D_s (js := [(0, 7)]) (by kernel_rfl) (fun _ _ => QA_eq rfl (QA_nil (DPu T.ok rfl rfl rfl))) ?_
     refine D_s (js := [(1, 8)]) (by kernel_rfl) (fun _ _ => QA_eq rfl (QA_nil (DPu T.ok rfl rfl rfl))) ?_
     refine D_s (js := [(2, 9)]) (by kernel_rfl) (fun _ hf => QA_eq rfl (QA_nil (DLo T.ok 0 rfl rfl (hs.dr.call hf) rfl rfl rfl rfl))) ?_
     refine D_s (js := [(3, 10)]) (by kernel_rfl) (fun _ _ => QA_eq rfl (QA_nil (DPu T.ok rfl rfl rfl))) ?_
     refine D_s (js := [(4, 11)]) (by kernel_rfl) (fun _ _ => QA_eq rfl (QA_nil (DPu T.ok rfl rfl rfl))) ?_
     refine D_s (js := [(5, 12), (4, 11)]) (by kernel_rfl) (fun _ _ => QA_eq rfl (QA_eq rfl (QA_nil (DPu T.ok rfl rfl rfl)))) ?_
     refine D_s (js := [(6, 13), (4, 11)]) (by kernel_rfl) (fun _ _ => QA_eq rfl (QA_eq rfl (QA_nil (DPu T.ok rfl rfl rfl)))) ?_
     refine D_s (js := [(7, 14), (4, 11)]) (by kernel_rfl) (fun _ hf => QA_eq rfl (QA_eq rfl (QA_nil (DLo T.ok 0 rfl rfl (hs.dr.call hf) rfl rfl rfl rfl)))) ?_
     refine D_s (js := [(4, 11)]) (by kernel_rfl) (fun _ _ => QA_eq rfl (QA_nil (DPu T.ok rfl rfl rfl))) ?_
     refine D_s (js := [(9, 16), (4, 11)]) (by kernel_rfl) (fun _ _ => QA_eq rfl (QA_eq rfl (QA_nil (DPu T.ok rfl rfl rfl)))) ?_
     refine D_s (js := [(10, 17), (4, 11)]) (by kernel_rfl) (fun _ _ => QA_eq rfl (QA_eq rfl (QA_nil (DPu T.ok rfl rfl rfl)))) ?_
     refine D_s (js := [(11, 18), (4, 11)]) (by kernel_rfl) (fun _ hf => QA_eq rfl (QA_eq rfl (QA_nil (DLo T.ok 0 rfl rfl (hs.dr.call hf) rfl rfl rfl rfl)))) ?_
     refine D_s (js := [(12, 19), (4, 11)]) (by kernel_rfl) (fun _ _ => QA_eq rfl (QA_eq rfl (QA_nil (DPu T.ok rfl rfl rfl)))) ?_
     refine D_cons (D_step2 (js := [(8, 15), (13, 20), (4, 11)]) (by kernel_rfl) fun gd hf => ?_) ?_
     ·have hsd := hs.dr.call hf; have hfe := (G.le_dr _).trans hf.le
      refine QA_eq rfl ?_; refine QA_eq rfl ?_; refine QA_eq rfl ?_
      refine QA_nil ?_
      refine D_yes rfl ?_
      refine OpR_pure _ T.ok rfl ?_
      exact ⟨_, rfl, Fr0.refl _, congrArg Value.bool (show _ = true from by rw [bs_size]; exact e1)⟩
     refine D_s (js := [(4, 11), (14, 21)]) (by kernel_rfl) (fun _ _ => QA_eq rfl (QA_eq rfl (QA_nil (DPu T.ok rfl rfl rfl)))) ?_
     refine D_s (js := [(15, 22)]) (by kernel_rfl) (fun _ _ => QA_eq rfl (QA_nil (DPu T.ok rfl rfl rfl))) ?_
     refine D_s (js := [(16, 23)]) (by kernel_rfl) (fun _ _ => QA_eq rfl (QA_nil (DPu T.ok rfl rfl rfl))) ?_
     refine D_s (js := [(17, 24), (16, 23)]) (by kernel_rfl) (fun _ _ => QA_eq rfl (QA_eq rfl (QA_nil (DPu T.ok rfl rfl rfl)))) ?_
     refine D_s (js := [(18, 25), (16, 23)]) (by kernel_rfl) (fun _ _ => QA_eq rfl (QA_eq rfl (QA_nil (DPu T.ok rfl rfl rfl)))) ?_
     refine D_s (js := [(19, 26), (16, 23)]) (by kernel_rfl) (fun _ hf => QA_eq rfl (QA_eq rfl (QA_nil (DLo T.ok 0 rfl rfl (hs.dr.call hf) rfl rfl rfl rfl)))) ?_
     refine D_s (js := [(16, 23)]) (by kernel_rfl) (fun _ _ => QA_eq rfl (QA_nil (DPu T.ok rfl rfl rfl))) ?_
     refine D_s (js := [(21, 28), (16, 23)]) (by kernel_rfl) (fun _ _ => QA_eq rfl (QA_eq rfl (QA_nil (DPu T.ok rfl rfl rfl)))) ?_
     refine D_s (js := [(22, 29), (16, 23)]) (by kernel_rfl) (fun _ _ => QA_eq rfl (QA_eq rfl (QA_nil (DPu T.ok rfl rfl rfl)))) ?_
     refine D_s (js := [(23, 30), (16, 23)]) (by kernel_rfl) (fun _ hf => QA_eq rfl (QA_eq rfl (QA_nil (DLo T.ok 0 rfl rfl (hs.dr.call hf) rfl rfl rfl rfl)))) ?_
     refine D_cons (D_step2 (js := [(20, 27), (24, 31), (16, 23)]) (by kernel_rfl) fun gd hf => ?_) ?_
     ·have hsd := hs.dr.call hf; have hfe := (G.le_dr _).trans hf.le
      refine QA_eq rfl ?_; refine QA_eq rfl ?_; refine QA_eq rfl ?_
      refine QA_nil ?_
      refine D_yes rfl ?_
      refine OpR_idxS T.ok (s := s) (n := (a1 : Int)) rfl rfl rfl rfl rfl (by omega) (by simpa using hlt) ?_
      refine ⟨_, rfl, Fr0.refl _, ?_⟩
      exact congrArg (fun z : UInt8 => Value.int .u8 (z.toNat : Int)) hc
     refine D_cons (D_step2 (js := [(25, 32), (16, 23)]) (by kernel_rfl) fun gd hf => ?_) ?_
     ·have hsd := hs.dr.call hf; have hfe := (G.le_dr _).trans hf.le
      refine QA_eq rfl ?_; refine QA_eq rfl ?_
      refine QA_nil ?_
      refine D_yes rfl ?_
      refine OpR_pure _ T.ok rfl ?_
      exact ⟨_, rfl, Fr0.refl _, congrArg Value.bool (show _ = true from by exact e2)⟩
     refine D_s (js := [(16, 23), (26, 33)]) (by kernel_rfl) (fun _ _ => QA_eq rfl (QA_eq rfl (QA_nil (DPu T.ok rfl rfl rfl)))) ?_
     exact D_nil
    intro g1 hf1; refine QA_eq rfl ?_; refine QA_nil ?_
    replace hs := hs.dr.call hf1; have hqe := (G.le_dr _).trans hf1.le; replace le0 := G.le.trans le0 hqe
    subst hc44
    rw [hdr] at hR hfu
    obtain ⟨k, rfl, hgo⟩ := numsGo_go (f := f) (l := ns) (t := s.drop (a1 + 1)) (by simp only [List.length_cons] at hfu; omega)
    rw [hgo] at hR
    clear hgo hdr hc e2
    have hfu2 : (s.drop (a1 + 1)).length ≤ k := by simp only [List.length_cons] at hfu; omega
    refine WL_nil ?_; (with_reducible refine T_then ?_)
    refine W_yes rfl rfl ?_
    refine W_skip ?_; (with_reducible refine T_then ?_); refine W_block ?_; refine W_seq ?_; refine W_region ?_; (iterate 3 refine P1 T.ok rfl rfl rfl ?_); refine WL_o rfl rfl (OpR_loadO T.ok 0 rfl hs rfl rfl rfl ?_); (iterate 3 refine P1 T.ok rfl rfl rfl ?_)
    refine WL_re (.int .i64 ((a1 + 1 : Nat) : Int)) (t := 39) rfl (congrArg (Value.int .i64) (by rw [wr (by omega) (by omega)]; omega)) ?_
    refine WL_n rfl (OpR_storeO T.ok 0 rfl hs rfl rfl rfl rfl rfl rfl rfl rfl rfl ?_); replace hs := hs; rintro g5 hs hqe; replace le0 := G.le.trans le0 hqe
    replace hs : St g0 g5 (txO b s (a1 + 1) true :: .row 3 1 (.slice ra ns.length rc) ns.length ((ints ns).map (Value.int .i64)) :: L) := hs
    refine WL_nil ?_; (with_reducible refine T_then ?_); refine W_region ?_; refine P1 T.ok rfl rfl rfl ?_; refine P1 T.ok rfl rfl rfl ?_
    refine WL_o rfl rfl (OpR_st cl69 allF rfl rfl rfl rfl rfl (tnumber_c (by omega) hsl hs) ?_)
    clear hs
    rintro g6 _ hqe ⟨rfl, a2, h2, hdr, hs⟩; replace le0 := G.le.trans le0 hqe
    have hlen := numR_len true (s.drop (a1 + 1))
    rw [← hdr] at hR hlen
    have hlen2 : a1 + 1 ≤ a2 := by
     rw [List.length_drop, List.length_drop] at hlen; omega
    generalize (numR true (s.drop (a1 + 1))).1 = n2 at *
    generalize (numR true (s.drop (a1 + 1))).2.1 = ok2 at *
    unfold txO at hs
    skip
    refine WL_o rfl rfl (OpR_lit T.ok rfl hs (vs := [(0, .int .i64 (n2 : Nat))]) (cells := [.int .i64 (n2 : Nat)]) rfl rfl rfl rfl rfl rfl (by decide) (by decide) (by kernel_rfl) rfl ?_)
    clear hs
    rintro bl gl hs hqe; replace le0 := G.le.trans le0 hqe
    skip
    refine WL_o rfl rfl (OpR_append T.ok 2 rfl hs rfl rfl rfl rfl rfl rfl rfl (by decide) rfl (Src.of_row (hs.own 0 _ rfl).1).2 (by simp [Value.oneCell']) (by show (ns.length + 1) * 8 ≤ _; omega) (by unfold maxLen; show ns.length + 1 ≤ _; omega) ?_)
    clear hs
    rintro a9 c9 g9 hs hqe; replace le0 := G.le.trans le0 hqe
    have e5 : (ints ns).map (Value.int .i64) ++ [Value.int .i64 (n2 : Nat)] = (ints (ns ++ [n2])).map (Value.int .i64) := by simp [ints]
    replace hs : St g0 g9 (.obj b (.cells [.string (bs s), .int .i64 a2, .bool ok2].toArray 100 (0, 0)) :: .row 3 1 (.slice a9 (ns ++ [n2]).length c9) (ns ++ [n2]).length ((ints (ns ++ [n2])).map (Value.int .i64)) :: L) := by
     rw [← e5, List.length_append]; exact hs.drop 0
    refine P1 T.ok rfl rfl rfl ?_; refine WL_nil ?_; (with_reducible refine T_bn ?_)
    exact fun a ha => ⟨s.length - a2, by omega, k, ns ++ [n2], ok2, a2, a9, c9, g9, hR, by omega, rfl, hs, le0, h2, rfl, by rw [List.length_append, List.length_singleton]; omega, ha.keep ⟨rfl, kV rfl (by rw [List.length_append]; rfl), trivial⟩⟩
  ·have hnil : s.drop a1 = [] := List.drop_of_length_le (by omega)
   have e1 : decide ((a1 : Int) < (s.length : Int)) = false := by simp; omega
   (with_reducible refine T_wp ?_); refine W_seq ?_; refine W_seq ?_
   apply W_draw allF rfl (Fact.eq _ :: Fact.eq _ :: Fact.eq _ :: Fact.eq _ :: Fact.eq _ :: Fact.eq _ :: Fact.eq _ :: Fact.eq _ :: Fact.eq _ :: Fact.eq _ :: Fact.eq _ :: Fact.eq _ :: Fact.eq _ :: Fact.eq _ :: Fact.eq _ :: Fact.eq _ :: Fact.eq _ :: Fact.eq _ :: Fact.eq _ :: Fact.eq _ :: Fact.eq _ :: Fact.eq _ :: Fact.eq _ :: Fact.eq _ :: Fact.eq _ :: Fact.eq _ :: Fact.eq _ :: Fact.eq _ :: []) 28 [(27, 34)] rfl rfl
   ·refine D_s (js := []) (by kernel_rfl) (fun _ _ => QA_nil (DPu T.ok rfl rfl rfl)) ?_
    refine D_s (js := [(0, 7)]) (by kernel_rfl) (fun _ _ => QA_eq rfl (QA_nil (DPu T.ok rfl rfl rfl))) ?_
    refine D_s (js := [(1, 8)]) (by kernel_rfl) (fun _ _ => QA_eq rfl (QA_nil (DPu T.ok rfl rfl rfl))) ?_
    refine D_s (js := [(2, 9)]) (by kernel_rfl) (fun _ hf => QA_eq rfl (QA_nil (DLo T.ok 0 rfl rfl (hs.dr.call hf) rfl rfl rfl rfl))) ?_
    refine D_s (js := [(3, 10)]) (by kernel_rfl) (fun _ _ => QA_eq rfl (QA_nil (DPu T.ok rfl rfl rfl))) ?_
    refine D_s (js := [(4, 11)]) (by kernel_rfl) (fun _ _ => QA_eq rfl (QA_nil (DPu T.ok rfl rfl rfl))) ?_
    refine D_s (js := [(5, 12), (4, 11)]) (by kernel_rfl) (fun _ _ => QA_eq rfl (QA_eq rfl (QA_nil (DPu T.ok rfl rfl rfl)))) ?_
    refine D_s (js := [(6, 13), (4, 11)]) (by kernel_rfl) (fun _ _ => QA_eq rfl (QA_eq rfl (QA_nil (DPu T.ok rfl rfl rfl)))) ?_
    refine D_s (js := [(7, 14), (4, 11)]) (by kernel_rfl) (fun _ hf => QA_eq rfl (QA_eq rfl (QA_nil (DLo T.ok 0 rfl rfl (hs.dr.call hf) rfl rfl rfl rfl)))) ?_
    refine D_s (js := [(4, 11)]) (by kernel_rfl) (fun _ _ => QA_eq rfl (QA_nil (DPu T.ok rfl rfl rfl))) ?_
    refine D_s (js := [(9, 16), (4, 11)]) (by kernel_rfl) (fun _ _ => QA_eq rfl (QA_eq rfl (QA_nil (DPu T.ok rfl rfl rfl)))) ?_
    refine D_s (js := [(10, 17), (4, 11)]) (by kernel_rfl) (fun _ _ => QA_eq rfl (QA_eq rfl (QA_nil (DPu T.ok rfl rfl rfl)))) ?_
    refine D_s (js := [(11, 18), (4, 11)]) (by kernel_rfl) (fun _ hf => QA_eq rfl (QA_eq rfl (QA_nil (DLo T.ok 0 rfl rfl (hs.dr.call hf) rfl rfl rfl rfl)))) ?_
    refine D_s (js := [(12, 19), (4, 11)]) (by kernel_rfl) (fun _ _ => QA_eq rfl (QA_eq rfl (QA_nil (DPu T.ok rfl rfl rfl)))) ?_
    refine D_cons (D_step2 (js := [(8, 15), (13, 20), (4, 11)]) (by kernel_rfl) fun gd hf => ?_) ?_
    ·have hsd := hs.dr.call hf; have hfe := (G.le_dr _).trans hf.le
     refine QA_eq rfl ?_; refine QA_eq rfl ?_; refine QA_eq rfl ?_
     refine QA_nil ?_
     refine D_yes rfl ?_
     refine OpR_pure _ T.ok rfl ?_
     exact ⟨_, rfl, Fr0.refl _, congrArg Value.bool (show _ = false from by rw [bs_size]; exact e1)⟩
    refine D_s (js := [(4, 11), (14, 21)]) (by kernel_rfl) (fun _ _ => QA_eq rfl (QA_eq rfl (QA_nil (DPu T.ok rfl rfl rfl)))) ?_
    refine D_s (js := [(15, 22)]) (by kernel_rfl) (fun _ _ => QA_eq rfl (QA_nil (DPu T.ok rfl rfl rfl))) ?_
    refine D_s (js := [(16, 23)]) (by kernel_rfl) (fun _ _ => QA_eq rfl (QA_nil (DNo rfl rfl))) ?_
    refine D_s (js := [(17, 24), (16, 23)]) (by kernel_rfl) (fun _ _ => QA_eq rfl (QA_eq rfl (QA_nil (DNo rfl rfl)))) ?_
    refine D_s (js := [(18, 25), (16, 23)]) (by kernel_rfl) (fun _ _ => QA_eq rfl (QA_eq rfl (QA_nil (DNo rfl rfl)))) ?_
    refine D_s (js := [(19, 26), (16, 23)]) (by kernel_rfl) (fun _ _ => QA_eq rfl (QA_eq rfl (QA_nil (DNo rfl rfl)))) ?_
    refine D_s (js := [(16, 23)]) (by kernel_rfl) (fun _ _ => QA_eq rfl (QA_nil (DNo rfl rfl))) ?_
    refine D_s (js := [(21, 28), (16, 23)]) (by kernel_rfl) (fun _ _ => QA_eq rfl (QA_eq rfl (QA_nil (DNo rfl rfl)))) ?_
    refine D_s (js := [(22, 29), (16, 23)]) (by kernel_rfl) (fun _ _ => QA_eq rfl (QA_eq rfl (QA_nil (DNo rfl rfl)))) ?_
    refine D_s (js := [(23, 30), (16, 23)]) (by kernel_rfl) (fun _ _ => QA_eq rfl (QA_eq rfl (QA_nil (DNo rfl rfl)))) ?_
    refine D_s (js := [(20, 27), (24, 31), (16, 23)]) (by kernel_rfl) (fun _ _ => QA_eq rfl (QA_eq rfl (QA_eq rfl (QA_nil (DNo rfl rfl))))) ?_
    refine D_s (js := [(25, 32), (16, 23)]) (by kernel_rfl) (fun _ _ => QA_eq rfl (QA_eq rfl (QA_nil (DNo rfl rfl)))) ?_
    refine D_s (js := [(16, 23), (26, 33)]) (by kernel_rfl) (fun _ _ => QA_eq rfl (QA_eq rfl (QA_nil (DPu T.ok rfl rfl rfl)))) ?_
    exact D_nil
   intro g1 hf1; refine QA_eq rfl ?_; refine QA_nil ?_
   replace hs := hs.dr.call hf1; have hqe := (G.le_dr _).trans hf1.le; replace le0 := G.le.trans le0 hqe
   rw [numsGo_stop (by rintro ⟨_, h⟩; rw [hnil] at h; cases h)] at hR
   refine WL_nil ?_; (with_reducible refine T_then ?_)
   refine W_no rfl rfl ?_
   obtain ⟨gy, hwy, hsy, hqy, hrl⟩ := hs.fzRow (α := Int) (xs := ints ns) (i := 1) rfl (RcL.ints _ _)
   have hqe := hqy; rw [← hwy]; replace hs := hsy; clear hsy; replace le0 := G.le.trans le0 hqe
   rw [← hR]
   refine W_exit ?_; (with_reducible refine T_tx ?_; with_reducible refine T_tx ?_); (with_reducible refine T_bx ?_); (with_reducible refine T_then ?_); refine W_seq ?_; refine W_region ?_; refine P1 T.ok rfl rfl rfl ?_; refine P1 T.ok rfl rfl rfl ?_; refine WL_nil ?_; (with_reducible refine T_then ?_)
   refine W_ret (ret1 rfl rfl (RetS.intro le0 ⟨?_, a1, h1, rfl, hs⟩))
   have e : (ints ns).length = ns.length := ints_len ns
   rw [← e]; rw [← e] at hrl
   exact hrl
/-- A word of a line, then on. -/
theorem endR_at {s r : List UInt8} {a : Nat} {ok : Bool} (h : s.drop a = r) (ha : a ≤ s.length) : endR ok r = (ok && decide ((a : Int) = (s.length : Int))) := by
 subst h
 unfold endR
 congr 1
 by_cases hh : a = s.length
 ·subst hh; simp
 ·have h2 : s.drop a ≠ [] := by
   intro h
   have := congrArg List.length h
   rw [List.length_drop] at this; simp at this; omega
  cases hd : s.drop a with
  | nil => exact absurd hd h2
  | cons x y => simp; omega
end Go.Proofs.YtnaeopehmdcplaaGreatDoor
