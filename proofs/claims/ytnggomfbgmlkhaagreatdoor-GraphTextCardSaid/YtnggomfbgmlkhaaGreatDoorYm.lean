/- How flows lie in memory; the walk through Valid. -/
import Derived.Test.YtnggomfbgmlkhaaGreatDoorYk
import Derived.Test.YtnggomfbgmlkhaaGreatDoorYl
import Derived.Test.YtnggomfbgmlkhaaGreatDoorYc

/- How the structures lie in memory. -/
namespace Go.Proofs.YtnggomfbgmlkhaaGreatDoor
open Go Go.K

def RStep (g : G) (cs : List Value) (s : Step) : Prop :=
 ∃ a1 n1 c1 a2 n2 c2, cs = [.int .i64 s.recipe, .slice a1 n1 c1, .int .i64 s.min, .int .i64 s.max, .slice a2 n2 c2, .int .i64 s.back, .int .i64 s.limit] ∧ Rs g (.slice a1 n1 c1) s.tools ∧ Rs g (.slice a2 n2 c2) s.next
instance : El Step where
 k := 7
 pos := by omega
 rc := RStep
 len h := by obtain ⟨_, _, _, _, _, _, rfl, _⟩ := h; rfl
 mono hle h := by obtain ⟨a1, n1, c1, a2, n2, c2, e, h1, h2⟩ := h; exact ⟨a1, n1, c1, a2, n2, c2, e, h1.mono hle, h2.mono hle⟩
 one h := by obtain ⟨_, _, _, _, _, _, rfl, _⟩ := h; simp [Value.oneCell']

instance : El Window where
 k := 3
 pos := by omega
 rc _ cs w := cs = [.int .i64 w.src, .int .i64 w.dst, .int .i64 w.limit]
 len h := by rw [h]; rfl
 mono _ h := h
 one h := by rw [h]; simp [Value.oneCell']

/-- A flow, as a value. -/
def RFlow (g : G) (v : Value) (f : Flow) : Prop :=
 ∃ a1 n1 c1 a2 n2 c2, v = .agg #[.int .i64 f.moveMin, .int .i64 f.moveMax, .slice a1 n1 c1, .slice a2 n2 c2] ∧ Rs g (.slice a1 n1 c1) f.steps ∧ Rs g (.slice a2 n2 c2) f.windows
theorem RFlow.mono {g g' : G} {v : Value} {f : Flow} (hle : g.le g') (h : RFlow g v f) : RFlow g' v f := by
 obtain ⟨a1, n1, c1, a2, n2, c2, e, h1, h2⟩ := h
 exact ⟨a1, n1, c1, a2, n2, c2, e, h1.mono hle, h2.mono hle⟩
def RStepV (g : G) (v : Value) (s : Step) : Prop := ∃ cs, v = .agg cs.toArray ∧ RStep g cs s
theorem RStepV.mono {g g' : G} {v : Value} {s : Step} (hle : g.le g') (h : RStepV g v s) : RStepV g' v s := by
 obtain ⟨cs, e, h⟩ := h
 exact ⟨cs, e, El.mono (α := Step) hle h⟩
end Go.Proofs.YtnggomfbgmlkhaaGreatDoor

/- The walks through package flow's tests of flows. -/
namespace Go.Proofs.YtnggomfbgmlkhaaGreatDoor
open Go Go.K
set_option maxRecDepth 10000
attribute [local irreducible] W WL OpR bitAnd bitOr bitXor bitClr bitNot shlI shrI

theorem within_c (n lo hi : Int) (g : G) : CallsIn Wd 0 Tryz.prog 42 #[.int .i64 n, .int .i64 lo, .int .i64 hi] g.w (Ret g fun _ v => v = .bool (within n lo hi)) := by
 have hs := St.start g
 refine enter Tryz.func42 rfl Tryz.ntmps42 rfl ?_
 refine W_seq ?_; refine W_region ?_; refine P1 T.ok rfl rfl rfl ?_; refine WL_nil ?_; (with_reducible refine T_then ?_); refine W_seq ?_; refine W_region ?_; (iterate 4 refine P1 T.ok rfl rfl rfl ?_)
 refine WL_seg (want := true) (x := decide (n ≤ hi)) 3 allF rfl rfl rfl rfl (.inl ⟨rfl, rfl, rfl⟩) rfl rfl rfl rfl (fun hb Q' hQ' => ?_) (fun g' hf => ?_)
 ·(iterate 3 refine P1 T.ok rfl rfl rfl ?_); refine WL_nil ?_
  exact fun a ha => hQ' _ a (Fr0.refl _) (ha.keep (by (repeat (first | exact trivial | refine ⟨rfl, ?_⟩))))
 replace hs := hs.call hf
 refine P1 T.ok rfl rfl rfl ?_; refine WL_nil ?_; (with_reducible refine T_then ?_)
 exact W_ret (ret1 rfl rfl (hs.ret rfl))

theorem ascR_step (l : List Int) (lo hi : Int) (k : Nat) (h : k < l.length) :
  (if k = 0 then ascending l lo hi else ascGo lo hi (l.getD (k - 1) 0) (l.drop k)) = (within l[k] lo hi && (decide (k = 0) || decide (l.getD (k - 1) 0 < l[k])) && ascGo lo hi l[k] (l.drop (k + 1))) := by
 by_cases hk : k = 0
 ·subst hk
  cases l with
  | nil => simp at h
  | cons n r => simp [ascending]
 ·rw [if_neg hk, List.drop_eq_getElem_cons h]
  simp [ascGo, hk]

theorem ascending_c (v : Value) (l : List Int) (lo hi : Int) (g : G) (hl : Rs g v l) :
  CallsIn Wd 0 Tryz.prog 67 #[v, .int .i64 lo, .int .i64 hi] g.w (Ret g fun _ r => r = .bool (ascending l lo hi)) := by
 obtain ⟨a, c, rfl⟩ := hl.isSlice
 have hlen := hl.len_le
 unfold maxLen at hlen
 have hs := St.start g
 refine enter Tryz.func67 rfl Tryz.ntmps67 rfl ?_
 refine W_seq ?_; refine W_region ?_; refine P1 T.ok rfl rfl rfl ?_; refine WL_nil ?_; (with_reducible refine T_then ?_); refine W_seq ?_; refine W_seq ?_; refine W_region ?_; (iterate 3 refine P1 T.ok rfl rfl rfl ?_); refine WL_nil ?_; (with_reducible refine T_then ?_); refine W_block ?_
 refine W_loop (fun m a' w => ∃ (k : Nat) (g' : G), w = g'.w ∧ St g g' [] ∧ G.le g g' ∧ k ≤ l.length ∧ m = l.length - k ∧ ((if k = 0 then ascending l lo hi else ascGo lo hi (l.getD (k - 1) 0) (l.drop k)) = ascending l lo hi) ∧
  Fr 35 [] [(0, .slice a l.length c), (1, .int .i64 lo), (2, .int .i64 hi), (9, .slice a l.length c), (10, .int .i64 l.length), (11, .int .i64 k)] a') l.length (fun a' ha => ⟨0, g, rfl, hs, G.le.refl g, Nat.zero_le _, rfl, by simp, ha.keep (by (repeat (first | exact trivial | refine ⟨rfl, ?_⟩)))⟩) ?_
 clear hs
 rintro m a' _ ⟨k, g', rfl, hs, le0, hk, rfl, hno, ha'⟩
 revert a'
 (with_reducible refine T_wp ?_); refine W_seq ?_; refine W_region ?_; refine P1 T.ok rfl rfl rfl ?_; refine WL_nil ?_; (with_reducible refine T_then ?_); refine W_seq ?_
 by_cases hlt : k < l.length
 ·refine W_yes (b := decide ((k : Int) < (l.length : Int))) (by simp; omega) rfl ?_
  rw [ascR_step l lo hi k hlt] at hno
  refine W_skip ?_; (with_reducible refine T_then ?_); refine W_seq ?_; refine W_block ?_; refine W_seq ?_; refine W_region ?_; refine P1 T.ok rfl rfl rfl ?_
  refine WL_o rfl rfl (OpR_idx T.ok rfl (hl.mono le0) (y := l[k]) (by simp [geti, hlt]) rfl rfl rfl rfl rfl rfl ?_)
  rintro b p ys hep rfl
  refine WL_o rfl rfl (OpR_loadE T.ok 0 rfl hep rfl rfl ?_)
  refine P1 T.ok rfl rfl rfl ?_; refine P1 T.ok rfl rfl rfl ?_; refine WL_nil ?_; (with_reducible refine T_then ?_); refine W_seq ?_; refine W_region ?_; (iterate 3 refine P1 T.ok rfl rfl rfl ?_)
  refine WL_o rfl rfl (OpR_ret cl42 allF rfl rfl rfl rfl rfl (within_c _ _ _ _) ?_); rintro g1 _ hf1 rfl; replace hs := hs.call hf1; have hqe := hf1.le; replace le0 := G.le.trans le0 hqe
  refine P1 T.ok rfl rfl rfl ?_; refine P1 T.ok rfl rfl rfl ?_
  refine WL_seg (want := false) (x := decide (0 < (k : Int)) && decide (l[k] ≤ l.getD (k - 1) 0)) 11 allF rfl rfl rfl rfl (.inr ⟨rfl, rfl, rfl⟩) rfl rfl rfl rfl (fun hb Q' hQ' => ?_) (fun g' hf => ?_)
  ·(iterate 3 refine P1 T.ok rfl rfl rfl ?_)
   refine WL_seg (want := true) (x := decide (l[k] ≤ l.getD (k - 1) 0)) 7 allF rfl rfl rfl rfl (.inl ⟨rfl, rfl, rfl⟩) rfl rfl rfl rfl (fun hb Q' hQ' => ?_) (fun g' hf => ?_)
   ·have hk0 : 0 < k := by simpa using hb
    (iterate 4 refine P1 T.ok rfl rfl rfl ?_)
    refine WL_o rfl rfl (OpR_idx T.ok rfl (hl.mono le0) (y := l[k - 1]) (geti_of (by rw [wr (by omega) (by omega)]; omega) (by omega)) rfl rfl rfl rfl rfl rfl ?_)
    rintro b p ys hep rfl
    refine WL_o rfl rfl (OpR_loadE T.ok 0 rfl hep rfl rfl ?_)
    refine P1 T.ok rfl rfl rfl ?_; refine WL_nil ?_
    have e : l.getD (k - 1) 0 = l[k - 1] := by simp [List.getD_eq_getElem?_getD, show k - 1 < l.length from by omega]
    rw [e] at hQ'
    exact fun a ha => hQ' _ a (Fr0.refl _) (ha.keep (by (repeat (first | exact trivial | refine ⟨rfl, ?_⟩))))
   ·refine WL_nil ?_
    exact fun a ha => hQ' _ a hf (ha.keep (by (repeat (first | exact trivial | refine ⟨rfl, ?_⟩))))
  ·replace hs := hs.call hf
   have hqe := hf.le
   replace le0 := G.le.trans le0 hqe
   refine WL_nil ?_; (with_reducible refine T_then ?_)
   by_cases hbad : ((!within l[k] lo hi) || (decide (0 < (k : Int)) && decide (l[k] ≤ l.getD (k - 1) 0))) = true
   ·refine W_yes hbad rfl ?_
    refine W_seq ?_; refine W_region ?_; refine P1 T.ok rfl rfl rfl ?_; refine WL_nil ?_; (with_reducible refine T_then ?_)
    refine W_ret (ret1 rfl rfl (hs.ret ?_))
    rw [← hno]
    have : (within l[k] lo hi && (decide (k = 0) || decide (l.getD (k - 1) 0 < l[k])) && ascGo lo hi l[k] (List.drop (k + 1) l)) = false := by
     simp only [Bool.or_eq_true, Bool.not_eq_true', Bool.and_eq_true, decide_eq_true_eq] at hbad
     rcases hbad with h | ⟨h1, h2⟩
     ·simp [h]
     ·have e1 : decide (k = 0) = false := by simp; omega
      have e2 : decide (l.getD (k - 1) 0 < l[k]) = false := by simp only [decide_eq_false_iff_not]; omega
      rw [e1, e2]; simp
    rw [this]
   ·refine W_no (Bool.eq_false_iff.2 hbad) rfl ?_
    refine W_skip ?_; (with_reducible refine T_bn ?_); (with_reducible refine T_then ?_); refine W_region ?_; refine P1 T.ok rfl rfl rfl ?_; refine P1 T.ok rfl rfl rfl ?_; refine WL_nil ?_
    refine fun a ha => ⟨l.length - (k + 1), by omega, k + 1, _, rfl, hs, le0, by omega, rfl, ?_, ha.keep ⟨rfl, rfl, rfl, rfl, rfl, kI rfl (by rw [wr (by omega) (by omega)]; omega), trivial⟩⟩
    rw [← hno]
    simp only [Bool.not_eq_true, Bool.or_eq_false_iff, Bool.not_eq_false', Bool.and_eq_false_iff, decide_eq_false_iff_not] at hbad
    have e : l.getD (k + 1 - 1) 0 = l[k] := by simp [List.getD_eq_getElem?_getD, hlt]
    rw [if_neg (by omega), e, hbad.1]
    have h2 : (decide (k = 0) || decide (l.getD (k - 1) 0 < l[k])) = true := by
     simp only [Bool.or_eq_true, decide_eq_true_eq]
     rcases hbad.2 with h | h <;> omega
    rw [h2]; simp
 ·refine W_no (b := decide ((k : Int) < (l.length : Int))) (by simp; omega) rfl ?_
  refine W_exit ?_; (with_reducible refine T_tx ?_; with_reducible refine T_tx ?_); (with_reducible refine T_bx ?_); (with_reducible refine T_then ?_); refine W_seq ?_; refine W_region ?_; refine P1 T.ok rfl rfl rfl ?_; refine WL_nil ?_; (with_reducible refine T_then ?_)
  obtain rfl : k = l.length := by omega
  refine W_ret (ret1 rfl rfl (hs.ret ?_))
  rw [← hno]
  by_cases h0 : l.length = 0
  ·rw [if_pos h0, List.eq_nil_of_length_eq_zero h0]; rfl
  ·rw [if_neg h0]; simp [ascGo]

theorem rightMoves_c (v : Value) (f : Flow) (g : G) (hf : RFlow g v f) : CallsIn Wd 0 Tryz.prog 41 #[v] g.w (Ret g fun _ r => r = .bool (rightMoves f)) := by
 obtain ⟨a1, n1, c1, a2, n2, c2, rfl, h1, h2⟩ := hf
 have hs := St.start g
 have le0 := G.le.refl g
 refine enter Tryz.func41 rfl Tryz.ntmps41 rfl ?_
 refine W_seq ?_; refine W_region ?_
 refine WL_o rfl rfl (OpR_box rfl hs rfl rfl ?_); clear hs; rintro b1 g1 hs hqe; replace le0 := G.le.trans le0 hqe
 refine P1 T.ok rfl rfl rfl ?_; refine WL_nil ?_; (with_reducible refine T_then ?_); refine W_seq ?_; refine W_region ?_; refine P1 T.ok rfl rfl rfl ?_; refine WL_o rfl rfl (OpR_loadO T.ok 0 rfl hs rfl rfl rfl ?_); refine P1 T.ok rfl rfl rfl ?_; refine P1 T.ok rfl rfl rfl ?_
 refine WL_seg (want := true) (x := decide (f.moveMin ≤ f.moveMax)) 5 allF rfl rfl rfl rfl (.inl ⟨rfl, rfl, rfl⟩) rfl rfl rfl rfl (fun hb Q' hQ' => ?_) (fun g' hf => ?_)
 ·refine P1 T.ok rfl rfl rfl ?_; refine WL_o rfl rfl (OpR_loadO T.ok 0 rfl hs rfl rfl rfl ?_); refine P1 T.ok rfl rfl rfl ?_; refine WL_o rfl rfl (OpR_loadO T.ok 0 rfl hs rfl rfl rfl ?_); refine P1 T.ok rfl rfl rfl ?_; refine WL_nil ?_
  exact fun a ha => hQ' _ a (Fr0.refl _) (ha.keep (by (repeat (first | exact trivial | refine ⟨rfl, ?_⟩))))
 replace hs := hs.call hf
 refine P1 T.ok rfl rfl rfl ?_
 refine WL_seg (want := true) (x := decide (f.moveMax ≤ 10000)) 3 allF rfl rfl rfl rfl (.inl ⟨rfl, rfl, rfl⟩) rfl rfl rfl rfl (fun hb Q' hQ' => ?_) (fun g' hf => ?_)
 ·refine P1 T.ok rfl rfl rfl ?_; refine WL_o rfl rfl (OpR_loadO T.ok 0 rfl hs rfl rfl rfl ?_); refine P1 T.ok rfl rfl rfl ?_; refine WL_nil ?_
  exact fun a ha => hQ' _ a (Fr0.refl _) (ha.keep (by (repeat (first | exact trivial | refine ⟨rfl, ?_⟩))))
 replace hs := hs.call hf
 refine P1 T.ok rfl rfl rfl ?_; refine WL_nil ?_; (with_reducible refine T_then ?_)
 exact W_ret (ret1 rfl rfl (hs.ret rfl))

theorem rightWindow_c (w : Window) (n : Int) (g : G) (h1 : 0 ≤ n) (h2 : n ≤ 9223372036854775807) :
  CallsIn Wd 0 Tryz.prog 46 #[.agg #[.int .i64 w.src, .int .i64 w.dst, .int .i64 w.limit], .int .i64 n] g.w (Ret g fun _ r => r = .bool (rightWindow w n)) := by
 have hs := St.start g
 have hn : IntKind.i64.wrap (n - 1) = n - 1 := wr (by omega) (by omega)
 refine enter Tryz.func46 rfl Tryz.ntmps46 rfl ?_
 refine W_seq ?_; refine W_region ?_
 refine WL_o rfl rfl (OpR_box rfl hs rfl rfl ?_); clear hs; rintro b1 g1 hs hqe; skip
 refine P1 T.ok rfl rfl rfl ?_; refine WL_nil ?_; (with_reducible refine T_then ?_); refine W_seq ?_; refine W_region ?_; refine P1 T.ok rfl rfl rfl ?_; refine WL_o rfl rfl (OpR_loadO T.ok 0 rfl hs rfl rfl rfl ?_); refine P1 T.ok rfl rfl rfl ?_; refine P1 T.ok rfl rfl rfl ?_
 rw [hn]
 refine WL_o rfl rfl (OpR_ret cl42 allF rfl rfl rfl rfl rfl (within_c _ _ _ _) ?_); rintro g1 _ hf1 rfl; replace hs := hs.call hf1; have hqe := hf1.le; skip
 refine P1 T.ok rfl rfl rfl ?_
 refine WL_seg (want := true) (x := within w.dst 0 (n - 1)) 5 allF rfl rfl rfl rfl (.inl ⟨rfl, rfl, rfl⟩) rfl rfl rfl rfl (fun hb Q' hQ' => ?_) (fun g' hf => ?_)
 ·refine P1 T.ok rfl rfl rfl ?_; refine WL_o rfl rfl (OpR_loadO T.ok 0 rfl hs rfl rfl rfl ?_); refine P1 T.ok rfl rfl rfl ?_; refine P1 T.ok rfl rfl rfl ?_
  rw [hn]
  refine WL_o rfl rfl (OpR_ret cl42 allF rfl rfl rfl rfl rfl (within_c _ _ _ _) ?_); rintro g1 _ hf1 rfl; replace hs := hs.call hf1; have hqe := hf1.le; skip
  refine WL_nil ?_
  exact fun a ha => hQ' _ a hf1 (ha.keep (by (repeat (first | exact trivial | refine ⟨rfl, ?_⟩))))
 replace hs := hs.call hf
 refine P1 T.ok rfl rfl rfl ?_
 refine WL_seg (want := true) (x := w.src != w.dst) 5 allF rfl rfl rfl rfl (.inl ⟨rfl, rfl, rfl⟩) rfl rfl rfl rfl (fun hb Q' hQ' => ?_) (fun g' hf => ?_)
 ·refine P1 T.ok rfl rfl rfl ?_; refine WL_o rfl rfl (OpR_loadO T.ok 0 rfl hs rfl rfl rfl ?_); refine P1 T.ok rfl rfl rfl ?_; refine WL_o rfl rfl (OpR_loadO T.ok 0 rfl hs rfl rfl rfl ?_); refine P1 T.ok rfl rfl rfl ?_; refine WL_nil ?_
  exact fun a ha => hQ' _ a (Fr0.refl _) (ha.keep (by (repeat (first | exact trivial | refine ⟨rfl, ?_⟩))))
 replace hs := hs.call hf
 refine P1 T.ok rfl rfl rfl ?_
 refine WL_seg (want := true) (x := within w.limit 0 1000000) 3 allF rfl rfl rfl rfl (.inl ⟨rfl, rfl, rfl⟩) rfl rfl rfl rfl (fun hb Q' hQ' => ?_) (fun g' hf => ?_)
 ·refine P1 T.ok rfl rfl rfl ?_; refine WL_o rfl rfl (OpR_loadO T.ok 0 rfl hs rfl rfl rfl ?_)
  refine WL_o rfl rfl (OpR_ret cl42 allF rfl rfl rfl rfl rfl (within_c _ _ _ _) ?_); rintro g1 _ hf1 rfl; replace hs := hs.call hf1; have hqe := hf1.le; skip
  refine WL_nil ?_
  exact fun a ha => hQ' _ a hf1 (ha.keep (by (repeat (first | exact trivial | refine ⟨rfl, ?_⟩))))
 replace hs := hs.call hf
 refine P1 T.ok rfl rfl rfl ?_; refine WL_nil ?_; (with_reducible refine T_then ?_)
 exact W_ret (ret1 rfl rfl (hs.ret rfl))

end Go.Proofs.YtnggomfbgmlkhaaGreatDoor

/- The walks through package flow's tests of flows, second part. -/
namespace Go.Proofs.YtnggomfbgmlkhaaGreatDoor
open Go Go.K
set_option maxRecDepth 10000
attribute [local irreducible] W WL OpR bitAnd bitOr bitXor bitClr bitNot shlI shrI

theorem rightStep_c (v : Value) (s : Step) (n : Int) (g : G) (hv : RStepV g v s) (h1 : 0 ≤ n) (h2 : n ≤ 9223372036854775807) :
  CallsIn Wd 0 Tryz.prog 45 #[v, .int .i64 n] g.w (Ret g fun _ r => r = .bool (rightStep s n)) := by
 obtain ⟨cs, rfl, a1, n1, c1, a2, n2, c2, rfl, hr1, hr2⟩ := hv
 obtain ⟨_, _, e⟩ := hr1.isSlice; obtain ⟨rfl, rfl, rfl⟩ := Value.slice.inj e; clear e
 obtain ⟨_, _, e⟩ := hr2.isSlice; obtain ⟨rfl, rfl, rfl⟩ := Value.slice.inj e; clear e
 have hs := St.start g
 have le0 := G.le.refl g
 have hn : IntKind.i64.wrap (n - 1) = n - 1 := wr (by omega) (by omega)
 refine enter Tryz.func45 rfl Tryz.ntmps45 rfl ?_
 refine W_seq ?_; refine W_region ?_
 refine WL_o rfl rfl (OpR_box rfl hs rfl rfl ?_); clear hs; rintro b1 g1 hs hqe; replace le0 := G.le.trans le0 hqe
 refine P1 T.ok rfl rfl rfl ?_; refine WL_nil ?_; (with_reducible refine T_then ?_); refine W_seq ?_; refine W_region ?_; refine P1 T.ok rfl rfl rfl ?_; refine WL_o rfl rfl (OpR_loadO T.ok 0 rfl hs rfl rfl rfl ?_); refine P1 T.ok rfl rfl rfl ?_; refine P1 T.ok rfl rfl rfl ?_
 refine WL_seg (want := true) (x := s.limit == 0) 3 allF rfl rfl rfl rfl (.inl ⟨rfl, rfl, rfl⟩) rfl rfl rfl rfl (fun hb Q' hQ' => ?_) (fun g' hf => ?_)
 ·refine P1 T.ok rfl rfl rfl ?_; refine WL_o rfl rfl (OpR_loadO T.ok 0 rfl hs rfl rfl rfl ?_); refine P1 T.ok rfl rfl rfl ?_; refine WL_nil ?_
  exact fun a ha => hQ' _ a (Fr0.refl _) (ha.keep (by (repeat (first | exact trivial | refine ⟨rfl, ?_⟩))))
 replace hs := hs.call hf; have hqe := hf.le; replace le0 := G.le.trans le0 hqe
 refine P1 T.ok rfl rfl rfl ?_
 refine WL_seg (want := false) (x := within s.back 0 (n - 1) && within s.limit 1 9) 10 allF rfl rfl rfl rfl (.inr ⟨rfl, rfl, rfl⟩) rfl rfl rfl rfl (fun hb Q' hQ' => ?_) (fun g' hf => ?_)
 ·refine P1 T.ok rfl rfl rfl ?_; refine WL_o rfl rfl (OpR_loadO T.ok 0 rfl hs rfl rfl rfl ?_); refine P1 T.ok rfl rfl rfl ?_; refine P1 T.ok rfl rfl rfl ?_
  rw [hn]
  refine WL_o rfl rfl (OpR_ret cl42 allF rfl rfl rfl rfl rfl (within_c _ _ _ _) ?_); rintro g1 _ hf1 rfl; replace hs := hs.call hf1; have hqe := hf1.le; replace le0 := G.le.trans le0 hqe
  refine P1 T.ok rfl rfl rfl ?_
  refine WL_seg (want := true) (x := within s.limit 1 9) 3 allF rfl rfl rfl rfl (.inl ⟨rfl, rfl, rfl⟩) rfl rfl rfl rfl (fun hb Q' hQ' => ?_) (fun g' hf => ?_)
  ·refine P1 T.ok rfl rfl rfl ?_; refine WL_o rfl rfl (OpR_loadO T.ok 0 rfl hs rfl rfl rfl ?_)
   refine WL_o rfl rfl (OpR_ret cl42 allF rfl rfl rfl rfl rfl (within_c _ _ _ _) ?_); rintro g1 _ hf1 rfl; replace hs := hs.call hf1; have hqe := hf1.le; replace le0 := G.le.trans le0 hqe
   refine WL_nil ?_
   exact fun a ha => hQ' _ a hf1 (ha.keep (by (repeat (first | exact trivial | refine ⟨rfl, ?_⟩))))
  exact WL_nil fun a ha => hQ' _ a (hf1.trans hf) (ha.keep (by (repeat (first | exact trivial | refine ⟨rfl, ?_⟩))))
 replace hs := hs.call hf; have hqe := hf.le; replace le0 := G.le.trans le0 hqe
 refine P1 T.ok rfl rfl rfl ?_; refine WL_nil ?_; (with_reducible refine T_then ?_); refine W_seq ?_; refine W_region ?_; refine P1 T.ok rfl rfl rfl ?_; refine WL_o rfl rfl (OpR_loadO T.ok 0 rfl hs rfl rfl rfl ?_); refine P1 T.ok rfl rfl rfl ?_
 refine WL_o rfl rfl (OpR_ret cl42 allF rfl rfl rfl rfl rfl (within_c _ _ _ _) ?_); rintro g1 _ hf1 rfl; replace hs := hs.call hf1; have hqe := hf1.le; replace le0 := G.le.trans le0 hqe
 refine P1 T.ok rfl rfl rfl ?_
 refine WL_seg (want := true) (x := decide ((s.next.length : Int) ≤ 4)) 4 allF rfl rfl rfl rfl (.inl ⟨rfl, rfl, rfl⟩) rfl rfl rfl rfl (fun hb Q' hQ' => ?_) (fun g' hf => ?_)
 ·refine P1 T.ok rfl rfl rfl ?_; refine WL_o rfl rfl (OpR_loadO T.ok 0 rfl hs rfl rfl rfl ?_); refine P1 T.ok rfl rfl rfl ?_; refine P1 T.ok rfl rfl rfl ?_; refine WL_nil ?_
  exact fun a ha => hQ' _ a (Fr0.refl _) (ha.keep (by (repeat (first | exact trivial | refine ⟨rfl, ?_⟩))))
 replace hs := hs.call hf; have hqe := hf.le; replace le0 := G.le.trans le0 hqe
 refine P1 T.ok rfl rfl rfl ?_; refine WL_nil ?_; (with_reducible refine T_then ?_); refine W_seq ?_; refine W_region ?_; refine P1 T.ok rfl rfl rfl ?_; refine P1 T.ok rfl rfl rfl ?_
 refine WL_seg (want := true) (x := within (↑s.tools.length) 1 8 && decide ((s.next.length : Int) ≤ 4)) 1 allF rfl rfl rfl rfl (.inl ⟨rfl, rfl, rfl⟩) rfl rfl rfl rfl (fun hb Q' hQ' => ?_) (fun g' hf => ?_)
 ·refine P1 T.ok rfl rfl rfl ?_; refine WL_nil ?_
  exact fun a ha => hQ' _ a (Fr0.refl _) (ha.keep (by (repeat (first | exact trivial | refine ⟨rfl, ?_⟩))))
 replace hs := hs.call hf; have hqe := hf.le; replace le0 := G.le.trans le0 hqe
 refine P1 T.ok rfl rfl rfl ?_
 refine WL_seg (want := true) (x := within s.recipe 1 1000000) 3 allF rfl rfl rfl rfl (.inl ⟨rfl, rfl, rfl⟩) rfl rfl rfl rfl (fun hb Q' hQ' => ?_) (fun g' hf => ?_)
 ·refine P1 T.ok rfl rfl rfl ?_; refine WL_o rfl rfl (OpR_loadO T.ok 0 rfl hs rfl rfl rfl ?_)
  refine WL_o rfl rfl (OpR_ret cl42 allF rfl rfl rfl rfl rfl (within_c _ _ _ _) ?_); rintro g1 _ hf1 rfl; replace hs := hs.call hf1; have hqe := hf1.le; replace le0 := G.le.trans le0 hqe
  refine WL_nil ?_
  exact fun a ha => hQ' _ a hf1 (ha.keep (by (repeat (first | exact trivial | refine ⟨rfl, ?_⟩))))
 replace hs := hs.call hf; have hqe := hf.le; replace le0 := G.le.trans le0 hqe
 refine P1 T.ok rfl rfl rfl ?_
 refine WL_seg (want := true) (x := ascending s.tools 0 59) 3 allF rfl rfl rfl rfl (.inl ⟨rfl, rfl, rfl⟩) rfl rfl rfl rfl (fun hb Q' hQ' => ?_) (fun g' hf => ?_)
 ·refine P1 T.ok rfl rfl rfl ?_; refine WL_o rfl rfl (OpR_loadO T.ok 0 rfl hs rfl rfl rfl ?_)
  refine WL_o rfl rfl (OpR_ret cl67 allF rfl rfl rfl rfl rfl (ascending_c _ s.tools _ _ _ (hr1.mono le0)) ?_); rintro g1 _ hf1 rfl; replace hs := hs.call hf1; have hqe := hf1.le; replace le0 := G.le.trans le0 hqe
  refine WL_nil ?_
  exact fun a ha => hQ' _ a hf1 (ha.keep (by (repeat (first | exact trivial | refine ⟨rfl, ?_⟩))))
 replace hs := hs.call hf; have hqe := hf.le; replace le0 := G.le.trans le0 hqe
 refine P1 T.ok rfl rfl rfl ?_
 refine WL_seg (want := true) (x := ascending s.next 0 (n - 1)) 5 allF rfl rfl rfl rfl (.inl ⟨rfl, rfl, rfl⟩) rfl rfl rfl rfl (fun hb Q' hQ' => ?_) (fun g' hf => ?_)
 ·refine P1 T.ok rfl rfl rfl ?_; refine WL_o rfl rfl (OpR_loadO T.ok 0 rfl hs rfl rfl rfl ?_); refine P1 T.ok rfl rfl rfl ?_; refine P1 T.ok rfl rfl rfl ?_
  rw [hn]
  refine WL_o rfl rfl (OpR_ret cl67 allF rfl rfl rfl rfl rfl (ascending_c _ s.next _ _ _ (hr2.mono le0)) ?_); rintro g1 _ hf1 rfl; replace hs := hs.call hf1; have hqe := hf1.le; replace le0 := G.le.trans le0 hqe
  refine WL_nil ?_
  exact fun a ha => hQ' _ a hf1 (ha.keep (by (repeat (first | exact trivial | refine ⟨rfl, ?_⟩))))
 replace hs := hs.call hf; have hqe := hf.le; replace le0 := G.le.trans le0 hqe
 refine P1 T.ok rfl rfl rfl ?_
 refine WL_seg (want := true) (x := decide (1 ≤ s.min)) 3 allF rfl rfl rfl rfl (.inl ⟨rfl, rfl, rfl⟩) rfl rfl rfl rfl (fun hb Q' hQ' => ?_) (fun g' hf => ?_)
 ·refine P1 T.ok rfl rfl rfl ?_; refine WL_o rfl rfl (OpR_loadO T.ok 0 rfl hs rfl rfl rfl ?_); refine P1 T.ok rfl rfl rfl ?_; refine WL_nil ?_
  exact fun a ha => hQ' _ a (Fr0.refl _) (ha.keep (by (repeat (first | exact trivial | refine ⟨rfl, ?_⟩))))
 replace hs := hs.call hf; have hqe := hf.le; replace le0 := G.le.trans le0 hqe
 refine P1 T.ok rfl rfl rfl ?_
 refine WL_seg (want := true) (x := decide (s.min ≤ s.max)) 5 allF rfl rfl rfl rfl (.inl ⟨rfl, rfl, rfl⟩) rfl rfl rfl rfl (fun hb Q' hQ' => ?_) (fun g' hf => ?_)
 ·refine P1 T.ok rfl rfl rfl ?_; refine WL_o rfl rfl (OpR_loadO T.ok 0 rfl hs rfl rfl rfl ?_); refine P1 T.ok rfl rfl rfl ?_; refine WL_o rfl rfl (OpR_loadO T.ok 0 rfl hs rfl rfl rfl ?_); refine P1 T.ok rfl rfl rfl ?_; refine WL_nil ?_
  exact fun a ha => hQ' _ a (Fr0.refl _) (ha.keep (by (repeat (first | exact trivial | refine ⟨rfl, ?_⟩))))
 replace hs := hs.call hf; have hqe := hf.le; replace le0 := G.le.trans le0 hqe
 refine P1 T.ok rfl rfl rfl ?_
 refine WL_seg (want := true) (x := decide (s.max ≤ 10000)) 3 allF rfl rfl rfl rfl (.inl ⟨rfl, rfl, rfl⟩) rfl rfl rfl rfl (fun hb Q' hQ' => ?_) (fun g' hf => ?_)
 ·refine P1 T.ok rfl rfl rfl ?_; refine WL_o rfl rfl (OpR_loadO T.ok 0 rfl hs rfl rfl rfl ?_); refine P1 T.ok rfl rfl rfl ?_; refine WL_nil ?_
  exact fun a ha => hQ' _ a (Fr0.refl _) (ha.keep (by (repeat (first | exact trivial | refine ⟨rfl, ?_⟩))))
 replace hs := hs.call hf; have hqe := hf.le; replace le0 := G.le.trans le0 hqe
 refine P1 T.ok rfl rfl rfl ?_; refine WL_nil ?_; (with_reducible refine T_then ?_)
 exact W_ret (ret1 rfl rfl (hs.ret rfl))

theorem follows_c (v : Value) (l : List Window) (w : Window) (g : G) (hl : Rs g v l) :
  CallsIn Wd 0 Tryz.prog 47 #[v, .agg #[.int .i64 w.src, .int .i64 w.dst, .int .i64 w.limit]] g.w (Ret g fun _ r => r = .bool (follows l w)) := by
 obtain ⟨a, c, rfl⟩ := hl.isSlice
 have hlen := hl.len_le
 unfold maxLen at hlen
 have hs := St.start g
 have le0 := G.le.refl g
 refine enter Tryz.func47 rfl Tryz.ntmps47 rfl ?_
 refine W_seq ?_; refine W_region ?_
 refine WL_o rfl rfl (OpR_box rfl hs rfl rfl ?_); clear hs; rintro b1 g1 hs hqe; replace le0 := G.le.trans le0 hqe
 refine P1 T.ok rfl rfl rfl ?_; refine WL_nil ?_; (with_reducible refine T_then ?_); refine W_seq ?_; refine W_seq ?_; refine W_region ?_; (iterate 3 refine P1 T.ok rfl rfl rfl ?_); refine WL_nil ?_; (with_reducible refine T_then ?_)
 by_cases h0 : l.length = 0
 ·refine W_yes (b := (l.length : Int) == 0) (by simp [h0]) rfl ?_
  refine W_seq ?_; refine W_region ?_; refine P1 T.ok rfl rfl rfl ?_; refine WL_nil ?_; (with_reducible refine T_then ?_)
  refine W_ret (ret1 rfl rfl (hs.ret ?_))
  rw [List.eq_nil_of_length_eq_zero h0]; rfl
 ·refine W_no (b := (l.length : Int) == 0) (by simp only [beq_eq_false_iff_ne]; omega) rfl ?_
  refine W_skip ?_; (with_reducible refine T_then ?_); refine W_seq ?_; refine W_region ?_; (iterate 4 refine P1 T.ok rfl rfl rfl ?_)
  refine WL_o rfl rfl (OpR_idx T.ok rfl (hl.mono le0) (y := l[l.length - 1]) (geti_of (by rw [wr (by omega) (by omega)]; omega) (by omega)) rfl rfl rfl rfl rfl rfl ?_)
  rintro b p ys hep rfl
  refine WL_o rfl rfl (OpR_loadE T.ok 0 rfl hep rfl rfl ?_)
  skip
  refine WL_o rfl rfl (OpR_alloc T.ok rfl hs rfl rfl ?_); clear hs; rintro b1 g1 hs hqe; replace le0 := G.le.trans le0 hqe
  skip
  refine WL_n rfl (OpR_storeO T.ok 0 rfl hs rfl rfl rfl rfl rfl rfl rfl rfl rfl ?_); replace hs := hs; rintro g1 hs hqe; replace le0 := G.le.trans le0 hqe
  refine WL_nil ?_; (with_reducible refine T_then ?_); refine W_seq ?_; refine W_region ?_; refine P1 T.ok rfl rfl rfl ?_; refine WL_o rfl rfl (OpR_loadO T.ok 0 rfl hs rfl rfl rfl ?_); refine P1 T.ok rfl rfl rfl ?_; refine WL_o rfl rfl (OpR_loadO T.ok 1 rfl hs rfl rfl rfl ?_); refine P1 T.ok rfl rfl rfl ?_; refine P1 T.ok rfl rfl rfl ?_
  refine WL_seg (want := false) (x := (l[l.length - 1].src == w.src && decide (l[l.length - 1].dst < w.dst))) 12 allF rfl rfl rfl rfl (.inr ⟨rfl, rfl, rfl⟩) rfl rfl rfl rfl (fun hb Q' hQ' => ?_) (fun g' hf => ?_)
  ·refine P1 T.ok rfl rfl rfl ?_; refine WL_o rfl rfl (OpR_loadO T.ok 0 rfl hs rfl rfl rfl ?_); refine P1 T.ok rfl rfl rfl ?_; refine WL_o rfl rfl (OpR_loadO T.ok 1 rfl hs rfl rfl rfl ?_); refine P1 T.ok rfl rfl rfl ?_; refine P1 T.ok rfl rfl rfl ?_
   refine WL_seg (want := true) (x := decide (l[l.length - 1].dst < w.dst)) 5 allF rfl rfl rfl rfl (.inl ⟨rfl, rfl, rfl⟩) rfl rfl rfl rfl (fun hb Q' hQ' => ?_) (fun g' hf => ?_)
   ·refine P1 T.ok rfl rfl rfl ?_; refine WL_o rfl rfl (OpR_loadO T.ok 0 rfl hs rfl rfl rfl ?_); refine P1 T.ok rfl rfl rfl ?_; refine WL_o rfl rfl (OpR_loadO T.ok 1 rfl hs rfl rfl rfl ?_); refine P1 T.ok rfl rfl rfl ?_; refine WL_nil ?_
    exact fun a ha => hQ' _ a (Fr0.refl _) (ha.keep (by (repeat (first | exact trivial | refine ⟨rfl, ?_⟩))))
   exact WL_nil fun a ha => hQ' _ a hf (ha.keep (by (repeat (first | exact trivial | refine ⟨rfl, ?_⟩))))
  replace hs := hs.call hf; have hqe := hf.le; replace le0 := G.le.trans le0 hqe
  refine P1 T.ok rfl rfl rfl ?_; refine WL_nil ?_; (with_reducible refine T_then ?_)
  refine W_ret (ret1 rfl rfl (hs.ret ?_))
  unfold follows
  rw [List.getLast?_eq_getElem?, List.getElem?_eq_getElem (by omega)]
  rfl

end Go.Proofs.YtnggomfbgmlkhaaGreatDoor

/- The walks through package flow's tests of flows, third part: searching a list. -/
namespace Go.Proofs.YtnggomfbgmlkhaaGreatDoor
open Go Go.K
set_option maxRecDepth 10000
attribute [local irreducible] W WL OpR bitAnd bitOr bitXor bitClr bitNot shlI shrI

theorem indexStep_c (v fv : Value) (l : List Step) (p : Step → Bool) (g : G) (hl : Rs g v l)
  (hp : ∀ (g' : G) (x : Step) (u : Value), g.le g' → RStepV g' u x → CallV Tryz.prog fv [u] g'.w (Ret g' fun _ r => r = .bool (p x))) :
  CallsIn Wd 0 Tryz.prog 66 #[v, fv] g.w (Ret g fun _ r => r = .int .i64 (fidx p l)) := by
 obtain ⟨a, c, rfl⟩ := hl.isSlice
 have hlen := hl.len_le
 unfold maxLen at hlen
 have hs := St.start g
 refine enter Tryz.func66 rfl Tryz.ntmps66 rfl ?_
 refine W_seq ?_; refine W_region ?_; refine P1 T.ok rfl rfl rfl ?_; refine WL_nil ?_; (with_reducible refine T_then ?_); refine W_seq ?_; refine W_seq ?_; refine W_region ?_; (iterate 3 refine P1 T.ok rfl rfl rfl ?_); refine WL_nil ?_; (with_reducible refine T_then ?_); refine W_block ?_
 refine W_loop (fun m a' w => ∃ (k : Nat) (g' : G), w = g'.w ∧ St g g' [] ∧ G.le g g' ∧ k ≤ l.length ∧ m = l.length - k ∧ (∀ j (h : j < l.length), j < k → p l[j] = false) ∧
  Fr 19 [] [(0, .slice a l.length c), (1, fv), (7, .int .i64 l.length), (8, .int .i64 k)] a') l.length (fun a' ha => ⟨0, g, rfl, hs, G.le.refl g, Nat.zero_le _, rfl, by simp, ha.keep (by (repeat (first | exact trivial | refine ⟨rfl, ?_⟩)))⟩) ?_
 clear hs
 rintro m a' _ ⟨k, g', rfl, hs, le0, hk, rfl, hno, ha'⟩
 revert a'
 (with_reducible refine T_wp ?_); refine W_seq ?_; refine W_region ?_; refine P1 T.ok rfl rfl rfl ?_; refine WL_nil ?_; (with_reducible refine T_then ?_); refine W_seq ?_
 by_cases hlt : k < l.length
 ·refine W_yes (b := decide ((k : Int) < (l.length : Int))) (by simp; omega) rfl ?_
  refine W_skip ?_; (with_reducible refine T_then ?_); refine W_seq ?_; refine W_block ?_; refine W_seq ?_; refine W_region ?_; refine P1 T.ok rfl rfl rfl ?_; refine P1 T.ok rfl rfl rfl ?_; refine WL_nil ?_; (with_reducible refine T_then ?_); refine W_seq ?_; refine W_region ?_; (iterate 3 refine P1 T.ok rfl rfl rfl ?_)
  refine WL_o rfl rfl (OpR_idx T.ok rfl (hl.mono le0) (y := l[k]) (by simp [geti, hlt]) rfl rfl rfl rfl rfl rfl ?_)
  rintro b q ys hep hrc
  have hrv : RStepV g' (.agg ys.toArray) l[k] := ⟨ys, rfl, hrc⟩
  obtain ⟨b1, b2, b3, b4, b5, b6, rfl, _, _⟩ := hrc
  refine WL_o rfl rfl (OpR_loadE T.ok 0 rfl hep rfl rfl ?_)
  skip
  refine WL_o rfl rfl (OpR_retV rfl rfl rfl rfl rfl rfl (hp _ _ _ le0 hrv) ?_); rintro g1 _ hf1 rfl; replace hs := hs.call hf1; have hqe := hf1.le; replace le0 := G.le.trans le0 hqe
  refine WL_nil ?_; (with_reducible refine T_then ?_)
  cases hpk : p l[k] with
  | true =>
   refine W_yes rfl rfl ?_
   refine W_seq ?_; refine W_region ?_; refine P1 T.ok rfl rfl rfl ?_; refine P1 T.ok rfl rfl rfl ?_; refine WL_nil ?_; (with_reducible refine T_then ?_)
   exact W_ret (ret1 rfl rfl (hs.ret (by rw [fidx_at hlt hpk hno])))
  | false =>
   refine W_no rfl rfl ?_
   refine W_skip ?_; (with_reducible refine T_bn ?_); (with_reducible refine T_then ?_); refine W_region ?_; refine P1 T.ok rfl rfl rfl ?_; refine P1 T.ok rfl rfl rfl ?_; refine WL_nil ?_
   refine fun a ha => ⟨l.length - (k + 1), by omega, k + 1, _, rfl, hs, le0, by omega, rfl, ?_, ha.keep ⟨rfl, rfl, rfl, kI rfl (by rw [wr (by omega) (by omega)]; omega), trivial⟩⟩
   intro j hj hjk
   by_cases e : j = k
   ·subst e; exact hpk
   ·exact hno j hj (by omega)
 ·refine W_no (b := decide ((k : Int) < (l.length : Int))) (by simp; omega) rfl ?_
  refine W_exit ?_; (with_reducible refine T_tx ?_; with_reducible refine T_tx ?_); (with_reducible refine T_bx ?_); (with_reducible refine T_then ?_); refine W_seq ?_; refine W_region ?_; refine P1 T.ok rfl rfl rfl ?_; refine WL_nil ?_; (with_reducible refine T_then ?_)
  obtain rfl : k = l.length := by omega
  exact W_ret (ret1 rfl rfl (hs.ret (by rw [fidx_no fun j h => hno j h h])))

theorem containsStep_c (v fv : Value) (l : List Step) (p : Step → Bool) (g : G) (hl : Rs g v l)
  (hp : ∀ (g' : G) (x : Step) (u : Value), g.le g' → RStepV g' u x → CallV Tryz.prog fv [u] g'.w (Ret g' fun _ r => r = .bool (p x))) :
  CallsIn Wd 0 Tryz.prog 43 #[v, fv] g.w (Ret g fun _ r => r = .bool (l.any p)) := by
 have hs := St.start g
 refine enter Tryz.func43 rfl Tryz.ntmps43 rfl ?_
 refine W_seq ?_; refine W_region ?_; refine P1 T.ok rfl rfl rfl ?_; refine WL_nil ?_; (with_reducible refine T_then ?_); refine W_seq ?_; refine W_region ?_; refine P1 T.ok rfl rfl rfl ?_; refine P1 T.ok rfl rfl rfl ?_
 refine WL_o rfl rfl (OpR_ret cl66 allF rfl rfl rfl rfl rfl (indexStep_c _ _ l p g hl hp) ?_); rintro g1 _ hf1 rfl; replace hs := hs.call hf1; have hqe := hf1.le; skip
 refine P1 T.ok rfl rfl rfl ?_; refine P1 T.ok rfl rfl rfl ?_; refine WL_nil ?_; (with_reducible refine T_then ?_)
 exact W_ret (ret1 rfl rfl (hs.ret (by rw [← fidx_nonneg])))

theorem valid1_c (v : Value) (s : Step) (b : Nat) (n : Int) (g : G) (hv : RStepV g v s) (hn : EP g b 0 [.int .i64 n]) (h1 : 0 ≤ n) (h2 : n ≤ 9223372036854775807) :
  CallsIn Wd 0 Tryz.prog 44 #[v, .pointer (some ⟨b, 0, none⟩)] g.w (Ret g fun _ r => r = .bool (!rightStep s n)) := by
 have hv' := hv
 obtain ⟨cs, rfl, a1, n1, c1, a2, n2, c2, rfl, hr1, hr2⟩ := hv
 have hs := St.start g
 have le0 := G.le.refl g
 refine enter Tryz.func44 rfl Tryz.ntmps44 rfl ?_
 refine W_seq ?_; refine W_region ?_
 refine WL_o rfl rfl (OpR_box rfl hs rfl rfl ?_); clear hs; rintro b1 g1 hs hqe; replace le0 := G.le.trans le0 hqe
 refine P1 T.ok rfl rfl rfl ?_; refine WL_nil ?_; (with_reducible refine T_then ?_); refine W_seq ?_; refine W_region ?_; refine WL_o rfl rfl (OpR_loadO T.ok 0 rfl hs rfl rfl rfl ?_)
 refine WL_o rfl rfl (OpR_loadE T.ok 0 rfl (hn.mono le0) rfl rfl ?_)
 skip
 refine WL_o rfl rfl (OpR_ret cl45 allF rfl rfl rfl rfl rfl (rightStep_c _ s n _ (hv'.mono le0) h1 h2) ?_); rintro g1 _ hf1 rfl; replace hs := hs.call hf1; have hqe := hf1.le; replace le0 := G.le.trans le0 hqe
 refine P1 T.ok rfl rfl rfl ?_; refine P1 T.ok rfl rfl rfl ?_; refine WL_nil ?_; (with_reducible refine T_then ?_)
 exact W_ret (ret1 rfl rfl (hs.ret rfl))

end Go.Proofs.YtnggomfbgmlkhaaGreatDoor

/- The walk through flow.Valid. -/
namespace Go.Proofs.YtnggomfbgmlkhaaGreatDoor
open Go Go.K
set_option maxRecDepth 10000
attribute [local irreducible] W WL OpR bitAnd bitOr bitXor bitClr bitNot shlI shrI
set_option maxHeartbeats 400000

theorem valid_c (v : Value) (f : Flow) (g : G) (fl0 : RFlow g v f) : CallsIn Wd 0 Tryz.prog 20 #[v] g.w (Ret g fun _ r => r = .bool (valid f)) := by
 obtain ⟨a1, n1, c1, a2, n2, c2, rfl, rs0, rs1⟩ := id fl0
 obtain ⟨_, _, e⟩ := rs0.isSlice; obtain ⟨rfl, rfl, rfl⟩ := Value.slice.inj e; clear e
 obtain ⟨_, _, e⟩ := rs1.isSlice; obtain ⟨rfl, rfl, rfl⟩ := Value.slice.inj e; clear e
 have hlen := rs0.len_le
 have hlen2 := rs1.len_le
 unfold maxLen at hlen hlen2
 have hs := St.start g
 have le0 := G.le.refl g
 refine enter Tryz.func20 rfl Tryz.ntmps20 rfl ?_
 refine W_seq ?_; refine W_region ?_
 refine WL_o rfl rfl (OpR_box rfl hs rfl rfl ?_); clear hs; rintro b1 g1 hs hqe; replace le0 := G.le.trans le0 hqe; replace rs0 := rs0.mono hqe; replace rs1 := rs1.mono hqe; replace fl0 := fl0.mono hqe
 refine P1 T.ok rfl rfl rfl ?_; refine WL_nil ?_; (with_reducible refine T_then ?_); refine W_seq ?_; refine W_region ?_; refine P1 T.ok rfl rfl rfl ?_; refine WL_o rfl rfl (OpR_loadO T.ok 0 rfl hs rfl rfl rfl ?_); refine P1 T.ok rfl rfl rfl ?_
 rename Nat => b0
 refine WL_o rfl rfl (OpR_alloc T.ok rfl hs rfl rfl ?_); clear hs; rintro b1 g1 hs hqe; replace le0 := G.le.trans le0 hqe; replace rs0 := rs0.mono hqe; replace rs1 := rs1.mono hqe; replace fl0 := fl0.mono hqe
 skip
 refine WL_n rfl (OpR_storeO T.ok 0 rfl hs rfl rfl rfl rfl rfl rfl rfl rfl rfl ?_); replace hs := hs; rintro g1 hs hqe; replace le0 := G.le.trans le0 hqe; replace rs0 := rs0.mono hqe; replace rs1 := rs1.mono hqe; replace fl0 := fl0.mono hqe
 obtain ⟨g2, hw2, hs2, hqe, hep⟩ := hs.fzObj (i := 0) rfl; replace hs := hs2; clear hs2; rw [← hw2]; replace le0 := G.le.trans le0 hqe; replace rs0 := rs0.mono hqe; replace rs1 := rs1.mono hqe; replace fl0 := fl0.mono hqe
 have ep0 := hep
 clear hep hw2 hqe
 obtain ⟨g2, hw2, hs2, hqe, hep⟩ := hs.fzObj (i := 0) rfl; replace hs := hs2; clear hs2; rw [← hw2]; replace le0 := G.le.trans le0 hqe; replace ep0 := ep0.mono hqe; replace rs0 := rs0.mono hqe; replace rs1 := rs1.mono hqe; replace fl0 := fl0.mono hqe
 have ep1 := hep
 clear hep hw2 hqe
 have ep1c := ep1; have ep0c := ep0; have rs1c := rs1; have le4 := G.le.refl g2
 refine WL_nil ?_; (with_reducible refine T_then ?_); refine W_seq ?_; refine W_seq ?_; refine W_region ?_; refine WL_o rfl rfl (OpR_loadE T.ok 0 rfl ep1 rfl rfl ?_)
 refine WL_o rfl rfl (OpR_ret cl41 allF rfl rfl rfl rfl rfl (rightMoves_c _ f _ fl0) ?_); rintro g1 _ hf1 rfl; replace hs := hs.call hf1; have hqe := hf1.le; replace le0 := G.le.trans le0 hqe; replace le4 := G.le.trans le4 hqe; replace ep0 := ep0.mono hqe; replace ep1 := ep1.mono hqe; replace rs0 := rs0.mono hqe; replace rs1 := rs1.mono hqe; replace fl0 := fl0.mono hqe
 refine P1 T.ok rfl rfl rfl ?_; refine P1 T.ok rfl rfl rfl ?_
 refine WL_seg (want := false) (x := !within f.steps.length 1 40) 3 allF rfl rfl rfl rfl (.inr ⟨rfl, rfl, rfl⟩) rfl rfl rfl rfl (fun hb Q' hQ' => ?_) (fun g' hf => ?_)
 ·refine WL_o rfl rfl (OpR_loadE T.ok 0 rfl ep0 rfl rfl ?_)
  refine WL_o rfl rfl (OpR_ret cl42 allF rfl rfl rfl rfl rfl (within_c _ _ _ _) ?_); rintro g1 _ hf1 rfl; replace hs := hs.call hf1; have hqe := hf1.le; replace le0 := G.le.trans le0 hqe; replace le4 := G.le.trans le4 hqe; replace ep0 := ep0.mono hqe; replace ep1 := ep1.mono hqe; replace rs0 := rs0.mono hqe; replace rs1 := rs1.mono hqe; replace fl0 := fl0.mono hqe
  refine P1 T.ok rfl rfl rfl ?_; refine WL_nil ?_
  exact fun a ha => hQ' _ a hf1 (ha.keep (by (repeat (first | exact trivial | refine ⟨rfl, ?_⟩))))
 replace hs := hs.call hf; have hqe := hf.le; replace le0 := G.le.trans le0 hqe; replace le4 := G.le.trans le4 hqe; replace ep0 := ep0.mono hqe; replace ep1 := ep1.mono hqe; replace rs0 := rs0.mono hqe; replace rs1 := rs1.mono hqe; replace fl0 := fl0.mono hqe
 refine P1 T.ok rfl rfl rfl ?_
 refine WL_seg (want := false) (x := decide (20 < (f.windows.length : Int))) 4 allF rfl rfl rfl rfl (.inr ⟨rfl, rfl, rfl⟩) rfl rfl rfl rfl (fun hb Q' hQ' => ?_) (fun g' hf => ?_)
 ·refine P1 T.ok rfl rfl rfl ?_; refine WL_o rfl rfl (OpR_loadE T.ok 3 rfl ep1 rfl rfl ?_); refine P1 T.ok rfl rfl rfl ?_; refine P1 T.ok rfl rfl rfl ?_; refine WL_nil ?_
  exact fun a ha => hQ' _ a (Fr0.refl _) (ha.keep (by (repeat (first | exact trivial | refine ⟨rfl, ?_⟩))))
 replace hs := hs.call hf; have hqe := hf.le; replace le0 := G.le.trans le0 hqe; replace le4 := G.le.trans le4 hqe; replace ep0 := ep0.mono hqe; replace ep1 := ep1.mono hqe; replace rs0 := rs0.mono hqe; replace rs1 := rs1.mono hqe; replace fl0 := fl0.mono hqe
 refine WL_nil ?_; (with_reducible refine T_then ?_)
 by_cases hbad : ((!rightMoves f || !within f.steps.length 1 40) || decide (20 < (f.windows.length : Int))) = true
 ·refine W_yes hbad rfl ?_
  refine W_seq ?_; refine W_region ?_; refine P1 T.ok rfl rfl rfl ?_; refine WL_nil ?_; (with_reducible refine T_then ?_)
  refine W_ret (ret1 rfl rfl (hs.ret ?_))
  have : valid f = false := by
   simp only [Bool.or_eq_true, Bool.not_eq_true', decide_eq_true_eq] at hbad
   unfold valid
   rcases hbad with (h | h) | h
   ·rw [h]; simp
   ·rw [h]; simp
   ·rw [show decide ((f.windows.length : Int) ≤ 20) = false from by simp; omega]; simp
  rw [this]
 refine W_no (Bool.eq_false_iff.2 hbad) rfl ?_
 refine W_skip ?_; (with_reducible refine T_then ?_); refine W_seq ?_; refine W_seq ?_; refine W_region ?_; refine P1 T.ok rfl rfl rfl ?_; refine WL_o rfl rfl (OpR_loadE T.ok 2 rfl ep1 rfl rfl ?_); refine P1 T.ok rfl rfl rfl ?_
 refine WL_o rfl rfl (OpR_ret cl43 allF rfl rfl rfl rfl rfl (containsStep_c _ _ f.steps (fun s => !rightStep s f.steps.length) _ rs0 (fun g' x u hle hx => CallV_of cl44 rfl (valid1_c u x _ _ g' hx (ep0.mono hle) (by omega) (by omega)))) ?_); rintro g1 _ hf1 rfl; replace hs := hs.call hf1; have hqe := hf1.le; replace le0 := G.le.trans le0 hqe; replace le4 := G.le.trans le4 hqe; replace ep0 := ep0.mono hqe; replace ep1 := ep1.mono hqe; replace rs0 := rs0.mono hqe; replace rs1 := rs1.mono hqe; replace fl0 := fl0.mono hqe
 refine WL_nil ?_; (with_reducible refine T_then ?_)
 by_cases hbs : (f.steps.any fun s => !rightStep s f.steps.length) = true
 ·refine W_yes hbs rfl ?_
  refine W_seq ?_; refine W_region ?_; refine P1 T.ok rfl rfl rfl ?_; refine WL_nil ?_; (with_reducible refine T_then ?_)
  refine W_ret (ret1 rfl rfl (hs.ret ?_))
  have : (f.steps.all fun s => rightStep s f.steps.length) = false := by
   rw [List.any_eq_true] at hbs
   obtain ⟨x, hx, h⟩ := hbs
   rw [List.all_eq_false]
   exact ⟨x, hx, by simpa using h⟩
  unfold valid
  rw [this]; simp
 refine W_no (Bool.eq_false_iff.2 hbs) rfl ?_
 refine W_skip ?_; (with_reducible refine T_then ?_); refine W_seq ?_; refine W_seq ?_; refine W_region ?_; refine P1 T.ok rfl rfl rfl ?_; refine WL_o rfl rfl (OpR_loadE T.ok 3 rfl ep1 rfl rfl ?_); refine P1 T.ok rfl rfl rfl ?_; refine P1 T.ok rfl rfl rfl ?_; refine WL_nil ?_; (with_reducible refine T_then ?_); refine W_block ?_
 have hinv : winsOk f.steps.length [] f.windows = valid f := by
  simp only [Bool.not_eq_true, Bool.or_eq_false_iff, Bool.not_eq_false', decide_eq_false_iff_not] at hbad
  unfold valid
  rw [hbad.1.1, hbad.1.2, show decide ((f.windows.length : Int) ≤ 20) = true from by simp; omega]
  have : (f.steps.all fun s => rightStep s f.steps.length) = true := by
   rw [List.all_eq_true]
   intro x hx
   cases h : rightStep x f.steps.length with
   | true => rfl
   | false => exact absurd (List.any_eq_true.2 ⟨x, hx, by simp [h]⟩) hbs
  rw [this]; simp
 refine W_loop (fun m a' w => ∃ (k : Nat) (g' : G), w = g'.w ∧ St g g' [] ∧ G.le g2 g' ∧ k ≤ f.windows.length ∧ m = f.windows.length - k ∧ winsOk f.steps.length (f.windows.take k) (f.windows.drop k) = valid f ∧
  Fr 49 [] [(1, .pointer (some ⟨b0, 0, none⟩)), (3, .pointer (some ⟨b1, 0, none⟩)), (28, .slice a2 f.windows.length c2), (29, .int .i64 f.windows.length), (30, .int .i64 k)] a') f.windows.length
  (fun a' ha => ⟨0, _, rfl, hs, le4, Nat.zero_le _, rfl, by simpa using hinv, ha.keep (by (repeat (first | exact trivial | refine ⟨rfl, ?_⟩)))⟩) ?_
 clear hs le4 le0 ep0 ep1 rs0 rs1 fl0
 rintro m a' _ ⟨k, g', rfl, hs, le4, hk, rfl, hno, ha'⟩
 have ep0 := ep0c.mono le4; have ep1 := ep1c.mono le4; have rs1 := rs1c.mono le4
 revert a'
 (with_reducible refine T_wp ?_); refine W_seq ?_; refine W_region ?_; refine P1 T.ok rfl rfl rfl ?_; refine WL_nil ?_; (with_reducible refine T_then ?_); refine W_seq ?_
 by_cases hlt : k < f.windows.length
 ·refine W_yes (b := decide ((k : Int) < (f.windows.length : Int))) (by simp; omega) rfl ?_
  rw [List.drop_eq_getElem_cons hlt, winsOk] at hno
  refine W_skip ?_; (with_reducible refine T_then ?_); refine W_seq ?_; refine W_block ?_; refine W_seq ?_; refine W_region ?_; refine P1 T.ok rfl rfl rfl ?_
  refine WL_o rfl rfl (OpR_idx T.ok rfl rs1 (y := f.windows[k]) (by simp [geti, hlt]) rfl rfl rfl rfl rfl rfl ?_)
  rintro b q ys hep rfl
  refine WL_o rfl rfl (OpR_loadE T.ok 0 rfl hep rfl rfl ?_)
  skip
  refine WL_o rfl rfl (OpR_alloc T.ok rfl hs rfl rfl ?_); clear hs; rintro b1 g1 hs hqe; replace le4 := G.le.trans le4 hqe; replace ep0 := ep0.mono hqe; replace ep1 := ep1.mono hqe; replace rs1 := rs1.mono hqe
  refine P1 T.ok rfl rfl rfl ?_
  refine WL_n rfl (OpR_storeO T.ok 0 rfl hs rfl rfl rfl rfl rfl rfl rfl rfl rfl ?_); replace hs := hs; rintro g1 hs hqe; replace le4 := G.le.trans le4 hqe; replace ep0 := ep0.mono hqe; replace ep1 := ep1.mono hqe; replace rs1 := rs1.mono hqe
  refine WL_nil ?_; (with_reducible refine T_then ?_); refine W_seq ?_
  cases hrw : rightWindow f.windows[k] f.steps.length with
  | false =>
   apply W_draw allF rfl (Fact.eq _ :: Fact.eq _ :: Fact.eq _ :: Fact.eq _ :: Fact.eq _ :: Fact.eq _ :: Fact.eq _ :: Fact.eq _ :: Fact.eq _ :: Fact.eq _ :: Fact.eq _ :: Fact.eq _ :: Fact.eq _ :: []) 13 [(12, 47)] rfl rfl
   ·refine D_s (js := []) (by kernel_rfl) (fun _ hf => QA_nil (DLo T.ok 0 rfl rfl (hs.dr.call hf) rfl rfl rfl rfl)) ?_
    refine D_s (js := []) (by kernel_rfl) (fun _ hf => QA_nil (DLe T.ok 0 rfl rfl (ep0.mono ((G.le_dr _).trans hf.le)) rfl rfl rfl)) ?_
    refine D_cons (D_step2 (js := [(0, 35), (1, 36)]) (by kernel_rfl) fun gd hf => ?_) ?_
    ·have hsd := hs.dr.call hf; have hfe := (G.le_dr _).trans hf.le
     refine QA_eq rfl ?_; refine QA_eq rfl ?_
     refine QA_nil ?_
     refine D_yes rfl ?_; refine (OpR_ret cl46 allF rfl rfl rfl rfl rfl (rightWindow_c _ _ _ (by omega) (by omega)) fun g' v h1 h2 => ⟨g', rfl, h1, ?_⟩); exact h2.trans (congrArg Value.bool hrw)
    refine D_s (js := [(2, 37)]) (by kernel_rfl) (fun _ _ => QA_eq rfl (QA_nil (DPu T.ok rfl rfl rfl))) ?_
    refine D_s (js := [(3, 38)]) (by kernel_rfl) (fun _ _ => QA_eq rfl (QA_nil (DPu T.ok rfl rfl rfl))) ?_
    refine D_s (js := [(4, 39)]) (by kernel_rfl) (fun _ _ => QA_eq rfl (QA_nil (DNo rfl rfl))) ?_
    refine D_s (js := [(5, 40), (4, 39)]) (by kernel_rfl) (fun _ _ => QA_eq rfl (QA_eq rfl (QA_nil (DNo rfl rfl)))) ?_
    refine D_s (js := [(4, 39)]) (by kernel_rfl) (fun _ _ => QA_eq rfl (QA_nil (DNo rfl rfl))) ?_
    refine D_s (js := [(6, 41), (7, 42), (4, 39)]) (by kernel_rfl) (fun _ _ => QA_eq rfl (QA_eq rfl (QA_eq rfl (QA_nil (DNo rfl rfl))))) ?_
    refine D_s (js := [(4, 39)]) (by kernel_rfl) (fun _ _ => QA_eq rfl (QA_nil (DNo rfl rfl))) ?_
    refine D_s (js := [(8, 43), (9, 44), (4, 39), (4, 39)]) (by kernel_rfl) (fun _ _ => QA_eq rfl (QA_eq rfl (QA_eq rfl (QA_eq rfl (QA_nil (DNo rfl rfl)))))) ?_
    refine D_s (js := [(10, 45), (4, 39)]) (by kernel_rfl) (fun _ _ => QA_eq rfl (QA_eq rfl (QA_nil (DNo rfl rfl)))) ?_
    refine D_s (js := [(4, 39), (11, 46)]) (by kernel_rfl) (fun _ _ => QA_eq rfl (QA_eq rfl (QA_nil (DPu T.ok rfl rfl rfl)))) ?_
    exact D_nil
   intro g1 hf1; refine QA_eq rfl ?_; refine QA_nil ?_
   replace hs := hs.dr.call hf1; have hqe := (G.le_dr _).trans hf1.le; replace le4 := G.le.trans le4 hqe; replace ep0 := ep0.mono hqe; replace ep1 := ep1.mono hqe; replace rs1 := rs1.mono hqe
   refine WL_nil ?_; (with_reducible refine T_then ?_)
   refine W_yes rfl rfl ?_
   refine W_seq ?_; refine W_region ?_; refine P1 T.ok rfl rfl rfl ?_; refine WL_nil ?_; (with_reducible refine T_then ?_)
   refine W_ret (ret1 rfl rfl (hs.ret ?_))
   rw [← hno, hrw]; rfl
  | true =>
   have hcut := rs1.cut (a := 0) (b := k) (Nat.zero_le _) (by omega)
   apply W_draw allF rfl (Fact.eq _ :: Fact.eq _ :: Fact.eq _ :: Fact.eq _ :: Fact.eq _ :: Fact.eq _ :: Fact.eq _ :: Fact.eq _ :: Fact.eq _ :: Fact.eq _ :: Fact.eq _ :: Fact.eq _ :: Fact.eq _ :: []) 13 [(12, 47)] rfl rfl
   ·refine D_s (js := []) (by kernel_rfl) (fun _ hf => QA_nil (DLo T.ok 0 rfl rfl (hs.dr.call hf) rfl rfl rfl rfl)) ?_
    refine D_s (js := []) (by kernel_rfl) (fun _ hf => QA_nil (DLe T.ok 0 rfl rfl (ep0.mono ((G.le_dr _).trans hf.le)) rfl rfl rfl)) ?_
    refine D_cons (D_step2 (js := [(0, 35), (1, 36)]) (by kernel_rfl) fun gd hf => ?_) ?_
    ·have hsd := hs.dr.call hf; have hfe := (G.le_dr _).trans hf.le
     refine QA_eq rfl ?_; refine QA_eq rfl ?_
     refine QA_nil ?_
     refine D_yes rfl ?_; refine (OpR_ret cl46 allF rfl rfl rfl rfl rfl (rightWindow_c _ _ _ (by omega) (by omega)) fun g' v h1 h2 => ⟨g', rfl, h1, ?_⟩); exact h2.trans (congrArg Value.bool hrw)
    refine D_s (js := [(2, 37)]) (by kernel_rfl) (fun _ _ => QA_eq rfl (QA_nil (DPu T.ok rfl rfl rfl))) ?_
    refine D_s (js := [(3, 38)]) (by kernel_rfl) (fun _ _ => QA_eq rfl (QA_nil (DPu T.ok rfl rfl rfl))) ?_
    refine D_s (js := [(4, 39)]) (by kernel_rfl) (fun _ _ => QA_eq rfl (QA_nil (DPu T.ok rfl rfl rfl))) ?_
    refine D_s (js := [(5, 40), (4, 39)]) (by kernel_rfl) (fun _ hf => QA_eq rfl (QA_eq rfl (QA_nil (DLe T.ok 3 rfl rfl (ep1.mono ((G.le_dr _).trans hf.le)) rfl rfl rfl)))) ?_
    refine D_s (js := [(4, 39)]) (by kernel_rfl) (fun _ _ => QA_eq rfl (QA_nil (DPu T.ok rfl rfl rfl))) ?_
    refine D_cons (D_step2 (js := [(6, 41), (7, 42), (4, 39)]) (by kernel_rfl) fun gd hf => ?_) ?_
    ·have hsd := hs.dr.call hf; have hfe := (G.le_dr _).trans hf.le
     refine QA_eq rfl ?_; refine QA_eq rfl ?_; refine QA_eq rfl ?_
     refine QA_nil ?_
     refine D_yes rfl ?_; refine (OpR_cut T.ok rfl rfl rfl rfl rfl (a := 0) (b := k) rfl ⟨_, rfl⟩ (Nat.zero_le _) (by have := (rs1.cap_le).2.1; omega) ?_); exact ⟨_, rfl, Fr0.refl _, rfl⟩
    refine D_s (js := [(4, 39)]) (by kernel_rfl) (fun _ hf => QA_eq rfl (QA_nil (DLo T.ok 0 rfl rfl (hs.dr.call hf) rfl rfl rfl rfl))) ?_
    refine D_cons (D_step2 (js := [(8, 43), (9, 44), (4, 39), (4, 39)]) (by kernel_rfl) fun gd hf => ?_) ?_
    ·have hsd := hs.dr.call hf; have hfe := (G.le_dr _).trans hf.le
     refine QA_eq rfl ?_; refine QA_eq rfl ?_; refine QA_eq rfl ?_; refine QA_eq rfl ?_
     refine QA_nil ?_
     refine D_yes rfl ?_; refine (OpR_ret cl47 allF rfl rfl rfl rfl rfl (follows_c _ _ _ _ (hcut.mono hfe)) fun g' v h1 h2 => ⟨g', rfl, h1, ?_⟩); exact h2
    refine D_s (js := [(10, 45), (4, 39)]) (by kernel_rfl) (fun _ _ => QA_eq rfl (QA_eq rfl (QA_nil (DPu T.ok rfl rfl rfl)))) ?_
    refine D_s (js := [(4, 39), (11, 46)]) (by kernel_rfl) (fun _ _ => QA_eq rfl (QA_eq rfl (QA_nil (DPu T.ok rfl rfl rfl)))) ?_
    exact D_nil
   intro g1 hf1; refine QA_eq rfl ?_; refine QA_nil ?_
   replace hs := hs.dr.call hf1; have hqe := (G.le_dr _).trans hf1.le; replace le4 := G.le.trans le4 hqe; replace ep0 := ep0.mono hqe; replace ep1 := ep1.mono hqe; replace rs1 := rs1.mono hqe
   refine WL_nil ?_; (with_reducible refine T_then ?_)
   cases hfo : follows (f.windows.take k) f.windows[k] with
   | false =>
    refine W_yes (by simp [hfo]) rfl ?_
    refine W_seq ?_; refine W_region ?_; refine P1 T.ok rfl rfl rfl ?_; refine WL_nil ?_; (with_reducible refine T_then ?_)
    refine W_ret (ret1 rfl rfl (hs.ret ?_))
    rw [← hno, hrw, hfo]; rfl
   | true =>
    refine W_no (by simp [hfo]) rfl ?_
    refine W_skip ?_; (with_reducible refine T_bn ?_); (with_reducible refine T_then ?_); refine W_region ?_; refine P1 T.ok rfl rfl rfl ?_; refine P1 T.ok rfl rfl rfl ?_; refine WL_nil ?_
    refine fun a ha => ⟨f.windows.length - (k + 1), by omega, k + 1, _, rfl, hs.drop 0, le4, by omega, rfl, ?_, ha.keep ⟨rfl, rfl, rfl, rfl, kI rfl (by rw [wr (by omega) (by omega)]; omega), trivial⟩⟩
    rw [← hno, hrw, hfo, List.take_succ_eq_append_getElem hlt]; rfl
 ·refine W_no (b := decide ((k : Int) < (f.windows.length : Int))) (by simp; omega) rfl ?_
  refine W_exit ?_; (with_reducible refine T_tx ?_; with_reducible refine T_tx ?_); (with_reducible refine T_bx ?_); (with_reducible refine T_then ?_); refine W_seq ?_; refine W_region ?_; refine P1 T.ok rfl rfl rfl ?_; refine WL_nil ?_; (with_reducible refine T_then ?_)
  obtain rfl : k = f.windows.length := by omega
  refine W_ret (ret1 rfl rfl (hs.ret ?_))
  rw [← hno]; simp [winsOk]
end Go.Proofs.YtnggomfbgmlkhaaGreatDoor
