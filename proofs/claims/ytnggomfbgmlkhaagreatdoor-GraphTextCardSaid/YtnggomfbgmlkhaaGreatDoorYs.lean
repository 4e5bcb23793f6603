/- The walks through the searches of lists, Follow, Reach and Ends. -/
import Derived.Test.YtnggomfbgmlkhaaGreatDoorYm
import Derived.Test.YtnggomfbgmlkhaaGreatDoorYc
import Derived.Test.YtnggomfbgmlkhaaGreatDoorYr

/- The walks through the search of a list of numbers. -/
namespace Go.Proofs.YtnggomfbgmlkhaaGreatDoor
open Go Go.K
set_option maxRecDepth 10000
attribute [local irreducible] W WL OpR bitAnd bitOr bitXor bitClr bitNot shlI shrI

theorem indexInt_c (v fv : Value) (l : List Int) (p : Int → Bool) (g : G) (hl : Rs g v l)
  (hp : ∀ (g' : G) (x : Int), x ∈ l → g.le g' → CallV Tryz.prog fv [.int .i64 x] g'.w (Ret g' fun _ r => r = .bool (p x))) :
  CallsIn Wd 0 Tryz.prog 65 #[v, fv] g.w (Ret g fun _ r => r = .int .i64 (fidx p l)) := by
 obtain ⟨a, c, rfl⟩ := hl.isSlice
 have hlen := hl.len_le
 unfold maxLen at hlen
 have hs := St.start g
 refine enter Tryz.func65 rfl Tryz.ntmps65 rfl ?_
 refine W_seq ?_; refine W_region ?_; refine P1 T.ok rfl rfl rfl ?_; refine WL_nil ?_; (with_reducible refine T_then ?_); refine W_seq ?_; refine W_seq ?_; refine W_region ?_; (iterate 3 refine P1 T.ok rfl rfl rfl ?_); refine WL_nil ?_; (with_reducible refine T_then ?_); refine W_block ?_
 refine W_loop (fun m a' w => ∃ (k : Nat) (g' : G), w = g'.w ∧ St g g' [] ∧ G.le g g' ∧ k ≤ l.length ∧ m = l.length - k ∧ (∀ j (h : j < l.length), j < k → p l[j] = false) ∧
  Fr 19 [] [(0, .slice a l.length c), (1, fv), (7, .int .i64 l.length), (8, .int .i64 k)] a') l.length (fun a' ha => ⟨0, g, rfl, hs, G.le.refl g, Nat.zero_le _, rfl, by simp, ha.keep (by (repeat (first | exact trivial | refine ⟨rfl, ?_⟩)))⟩) ?_
 clear hs
 rintro m a' _ ⟨k, g', rfl, hs, le0, hk, rfl, hno, ha'⟩
 revert a'
 (with_reducible refine T_wp ?_); refine W_seq ?_; refine W_region ?_; refine P1 T.ok rfl rfl rfl ?_; refine WL_nil ?_; (with_reducible refine T_then ?_); refine W_seq ?_
 by_cases hlt : k < l.length
 ·refine W_yes (b := decide ((k : Int) < (l.length : Int))) (by simp; omega) rfl ?_
  refine W_skip ?_; (with_reducible refine T_then ?_); refine W_seq ?_; refine W_block ?_; refine W_seq ?_; refine W_region ?_; refine P1 T.ok rfl rfl rfl ?_; refine P1 T.ok rfl rfl rfl ?_; refine WL_nil ?_; (with_reducible refine T_then ?_); refine W_seq ?_; refine W_region ?_; (iterate 3 refine P1 T.ok rfl rfl rfl ?_)
  refine WL_o rfl rfl (OpR_idx T.ok rfl (hl.mono le0) (y := l[k]) (by simp [geti, hlt]) rfl rfl rfl rfl rfl rfl ?_)
  rintro b q ys hep rfl
  refine WL_o rfl rfl (OpR_loadE T.ok 0 rfl hep rfl rfl ?_)
  skip
  refine WL_o rfl rfl (OpR_retV rfl rfl rfl rfl rfl rfl (hp _ _ (List.getElem_mem hlt) le0) ?_); rintro g1 _ hf1 rfl; replace hs := hs.call hf1; have hqe := hf1.le; replace le0 := G.le.trans le0 hqe
  refine WL_nil ?_; (with_reducible refine T_then ?_)
  cases hpk : p l[k] with
  | true =>
   refine W_yes rfl rfl ?_
   refine W_seq ?_; refine W_region ?_; refine P1 T.ok rfl rfl rfl ?_; refine P1 T.ok rfl rfl rfl ?_; refine WL_nil ?_; (with_reducible refine T_then ?_)
   exact W_ret (ret1 rfl rfl (hs.ret (by rw [fidx_at hlt hpk hno])))
  | false =>
   refine W_no rfl rfl ?_
   refine W_skip ?_; (with_reducible refine T_bn ?_); (with_reducible refine T_then ?_); refine W_region ?_; refine P1 T.ok rfl rfl rfl ?_; refine P1 T.ok rfl rfl rfl ?_; refine WL_nil ?_
   refine fun a ha => ⟨l.length - (k + 1), by omega, k + 1, _, rfl, hs, le0, by omega, rfl, ?_, ha.keep ⟨rfl, rfl, rfl, kI rfl (by rw [wr (by omega) (by omega)]; omega), trivial⟩⟩
   intro j hj hjk
   by_cases e : j = k
   ·subst e; exact hpk
   ·exact hno j hj (by omega)
 ·refine W_no (b := decide ((k : Int) < (l.length : Int))) (by simp; omega) rfl ?_
  refine W_exit ?_; (with_reducible refine T_tx ?_; with_reducible refine T_tx ?_); (with_reducible refine T_bx ?_); (with_reducible refine T_then ?_); refine W_seq ?_; refine W_region ?_; refine P1 T.ok rfl rfl rfl ?_; refine WL_nil ?_; (with_reducible refine T_then ?_)
  obtain rfl : k = l.length := by omega
  exact W_ret (ret1 rfl rfl (hs.ret (by rw [fidx_no fun j h => hno j h h])))

theorem containsInt_c (v fv : Value) (l : List Int) (p : Int → Bool) (g : G) (hl : Rs g v l)
  (hp : ∀ (g' : G) (x : Int), x ∈ l → g.le g' → CallV Tryz.prog fv [.int .i64 x] g'.w (Ret g' fun _ r => r = .bool (p x))) :
  CallsIn Wd 0 Tryz.prog 59 #[v, fv] g.w (Ret g fun _ r => r = .bool (l.any p)) := by
 have hs := St.start g
 refine enter Tryz.func59 rfl Tryz.ntmps59 rfl ?_
 refine W_seq ?_; refine W_region ?_; refine P1 T.ok rfl rfl rfl ?_; refine WL_nil ?_; (with_reducible refine T_then ?_); refine W_seq ?_; refine W_region ?_; refine P1 T.ok rfl rfl rfl ?_; refine P1 T.ok rfl rfl rfl ?_
 refine WL_o rfl rfl (OpR_ret cl65 allF rfl rfl rfl rfl rfl (indexInt_c _ _ l p g hl hp) ?_); rintro g1 _ hf1 rfl; replace hs := hs.call hf1; have hqe := hf1.le; skip
 refine P1 T.ok rfl rfl rfl ?_; refine P1 T.ok rfl rfl rfl ?_; refine WL_nil ?_; (with_reducible refine T_then ?_)
 exact W_ret (ret1 rfl rfl (hs.ret (by rw [← fidx_nonneg])))

end Go.Proofs.YtnggomfbgmlkhaaGreatDoor

/- The walks through package graph: isEnd, given, after. -/
namespace Go.Proofs.YtnggomfbgmlkhaaGreatDoor
open Go Go.K
set_option maxRecDepth 10000
attribute [local irreducible] W WL OpR bitAnd bitOr bitXor bitClr bitNot shlI shrI
set_option maxHeartbeats 1000000

theorem isEnd_c (v : Value) (s : Step) (g : G) (st0 : RStepV g v s) :
  CallsIn Wd 0 Tryz.prog 35 #[v] g.w (Ret g fun _ r => r = .bool (isEnd s)) := by
 obtain ⟨cs, rfl, a1, n1, c1, a2, n2, c2, rfl, rs0, rs1⟩ := st0
 obtain ⟨_, _, e⟩ := rs1.isSlice; obtain ⟨rfl, rfl, rfl⟩ := Value.slice.inj e; clear e
 have hs := St.start g
 refine enter Tryz.func35 rfl Tryz.ntmps35 rfl ?_
 refine W_seq ?_; refine W_region ?_
 refine WL_o rfl rfl (OpR_box rfl hs rfl rfl ?_); clear hs; rintro b1 g1 hs hqe; replace rs0 := rs0.mono hqe; replace rs1 := rs1.mono hqe
 refine P1 T.ok rfl rfl rfl ?_; refine WL_nil ?_; (with_reducible refine T_then ?_); refine W_seq ?_; refine W_region ?_; refine P1 T.ok rfl rfl rfl ?_; refine WL_o rfl rfl (OpR_loadO T.ok 0 rfl hs rfl rfl rfl ?_); (iterate 3 refine P1 T.ok rfl rfl rfl ?_); refine WL_nil ?_; (with_reducible refine T_then ?_)
 exact W_ret (ret1 rfl rfl (hs.ret rfl))

/-- The cells of a flow. -/
def RFlowC (g : G) (cs : List Value) (f : Flow) : Prop :=
 ∃ a1 n1 c1 a2 n2 c2, cs = [.int .i64 f.moveMin, .int .i64 f.moveMax, .slice a1 n1 c1, .slice a2 n2 c2] ∧ Rs g (.slice a1 n1 c1) f.steps ∧ Rs g (.slice a2 n2 c2) f.windows
theorem RFlowC.mono {g g' : G} {cs : List Value} {f : Flow} (h : RFlowC g cs f) (hle : g.le g') : RFlowC g' cs f := by
 obtain ⟨a1, n1, c1, a2, n2, c2, e, h1, h2⟩ := h
 exact ⟨a1, n1, c1, a2, n2, c2, e, h1.mono hle, h2.mono hle⟩

theorem given1_c (n : Int) (f : Flow) (b : Nat) (cs : List Value) (g : G) (ep0 : EP g b 0 cs) (hc : RFlowC g cs f) :
  CallsIn Wd 0 Tryz.prog 60 #[.int .i64 n, .pointer (some ⟨b, 0, none⟩)] g.w (Ret g fun _ r => r = .bool (badStep f n)) := by
 obtain ⟨a1, n1, c1, a2, n2, c2, rfl, rs0, rs1⟩ := hc
 obtain ⟨_, _, e⟩ := rs0.isSlice; obtain ⟨rfl, rfl, rfl⟩ := Value.slice.inj e; clear e
 have hs := St.start g
 refine enter Tryz.func60 rfl Tryz.ntmps60 rfl ?_
 refine W_seq ?_; refine W_region ?_; refine P1 T.ok rfl rfl rfl ?_; refine WL_nil ?_; (with_reducible refine T_then ?_); refine W_seq ?_; refine W_region ?_; (iterate 3 refine P1 T.ok rfl rfl rfl ?_)
 refine WL_seg (want := false) (x := decide ((f.steps.length : Int) ≤ n)) 5 allF rfl rfl rfl rfl (.inr ⟨rfl, rfl, rfl⟩) rfl rfl rfl rfl (fun hb Q' hQ' => ?_) (fun g' hf => ?_)
 ·refine P1 T.ok rfl rfl rfl ?_; refine P1 T.ok rfl rfl rfl ?_; refine WL_o rfl rfl (OpR_loadE T.ok 2 rfl ep0 rfl rfl ?_); refine P1 T.ok rfl rfl rfl ?_; refine P1 T.ok rfl rfl rfl ?_; refine WL_nil ?_
  exact fun a ha => hQ' _ a (Fr0.refl _) (ha.keep (by (repeat (first | exact trivial | refine ⟨rfl, ?_⟩))))
 replace hs := hs.call hf; have hqe := hf.le; replace ep0 := ep0.mono hqe; replace rs0 := rs0.mono hqe; replace rs1 := rs1.mono hqe
 refine P1 T.ok rfl rfl rfl ?_; refine WL_nil ?_; (with_reducible refine T_then ?_)
 exact W_ret (ret1 rfl rfl (hs.ret rfl))

theorem given_c (v lv : Value) (f : Flow) (l : List Int) (g : G) (fl0 : RFlow g v f) (rs2 : Rs g lv l) :
  CallsIn Wd 0 Tryz.prog 32 #[v, lv] g.w (Ret g fun _ r => r = .bool (given f l)) := by
 obtain ⟨a1, n1, c1, a2, n2, c2, rfl, rs0, rs1⟩ := id fl0
 have hs := St.start g
 refine enter Tryz.func32 rfl Tryz.ntmps32 rfl ?_
 refine W_seq ?_; refine W_region ?_
 refine WL_o rfl rfl (OpR_box rfl hs rfl rfl ?_); clear hs; rintro b1 g1 hs hqe; replace rs0 := rs0.mono hqe; replace rs1 := rs1.mono hqe; replace rs2 := rs2.mono hqe; replace fl0 := fl0.mono hqe
 obtain ⟨g2, hw2, hs2, hqe, hep⟩ := hs.fzObj (i := 0) rfl; replace hs := hs2; clear hs2; rw [← hw2]; replace rs0 := rs0.mono hqe; replace rs1 := rs1.mono hqe; replace rs2 := rs2.mono hqe; replace fl0 := fl0.mono hqe
 have ep0 := hep
 refine P1 T.ok rfl rfl rfl ?_; refine WL_nil ?_; (with_reducible refine T_then ?_); refine W_seq ?_; refine W_region ?_; refine WL_o rfl rfl (OpR_loadE T.ok 0 rfl ep0 rfl rfl ?_)
 refine WL_o rfl rfl (OpR_ret cl20 allF rfl rfl rfl rfl rfl (valid_c _ f _ fl0) ?_); rintro g1 _ hf1 rfl; replace hs := hs.call hf1; have hqe := hf1.le; replace ep0 := ep0.mono hqe; replace rs0 := rs0.mono hqe; replace rs1 := rs1.mono hqe; replace rs2 := rs2.mono hqe; replace fl0 := fl0.mono hqe
 refine P1 T.ok rfl rfl rfl ?_
 refine WL_seg (want := true) (x := !l.any (badStep f)) 4 allF rfl rfl rfl rfl (.inl ⟨rfl, rfl, rfl⟩) rfl rfl rfl rfl (fun hb Q' hQ' => ?_) (fun g' hf => ?_)
 ·refine P1 T.ok rfl rfl rfl ?_; refine P1 T.ok rfl rfl rfl ?_
  refine WL_o rfl rfl (OpR_ret cl59 allF rfl rfl rfl rfl rfl (containsInt_c _ _ l (badStep f) _ rs2 (fun g' x _ hle => CallV_of cl60 rfl (given1_c x f _ _ g' (ep0.mono hle) ⟨_, _, _, _, _, _, rfl, rs0.mono hle, rs1.mono hle⟩))) ?_); rintro g1 _ hf1 rfl; replace hs := hs.call hf1; have hqe := hf1.le; replace ep0 := ep0.mono hqe; replace rs0 := rs0.mono hqe; replace rs1 := rs1.mono hqe; replace rs2 := rs2.mono hqe; replace fl0 := fl0.mono hqe
  refine P1 T.ok rfl rfl rfl ?_; refine WL_nil ?_
  exact fun a ha => hQ' _ a hf1 (ha.keep (by (repeat (first | exact trivial | refine ⟨rfl, ?_⟩))))
 replace hs := hs.call hf; have hqe := hf.le; replace ep0 := ep0.mono hqe; replace rs0 := rs0.mono hqe; replace rs1 := rs1.mono hqe; replace rs2 := rs2.mono hqe; replace fl0 := fl0.mono hqe
 refine P1 T.ok rfl rfl rfl ?_; refine WL_nil ?_; (with_reducible refine T_then ?_)
 exact W_ret (ret1 rfl rfl (hs.ret rfl))

end Go.Proofs.YtnggomfbgmlkhaaGreatDoor

/- The walks through package graph: the iterator after. -/
namespace Go.Proofs.YtnggomfbgmlkhaaGreatDoor
open Go Go.K
set_option maxRecDepth 10000
attribute [local irreducible] W WL OpR bitAnd bitOr bitXor bitClr bitNot shlI shrI
set_option maxHeartbeats 1000000



theorem after1_c (s : Step) (b : Nat) (cs : List Value) (g : G) (ep : EP g b 0 cs) (hc : RStep g cs s) :
  SeqC Tryz.prog 64 #[.pointer (some ⟨b, 0, none⟩)] (fun n : Int => [.int .i64 n]) (afterL s) g := by
 obtain ⟨a1, n1, c1, a2, n2, c2, rfl, rs0, rs1⟩ := hc
 obtain ⟨_, _, e⟩ := rs1.isSlice; obtain ⟨rfl, rfl, rfl⟩ := Value.slice.inj e; clear e
 intro g1 hle yv J Jx hJ hJx hy hJ0
 have hlen := rs1.len_le
 unfold maxLen at hlen
 have le0 := G.le.refl g1
 have epc := ep.mono hle; have rsc := rs1.mono hle
 have ep0 := epc
 refine enter Tryz.func64 rfl Tryz.ntmps64 rfl ?_
 refine W_seq ?_; refine W_region ?_; refine P1 T.ok rfl rfl rfl ?_; refine WL_o rfl rfl (OpR_loadE T.ok 5 rfl ep0 rfl rfl ?_); refine P1 T.ok rfl rfl rfl ?_; refine WL_nil ?_; (with_reducible refine T_then ?_); refine W_seq ?_; refine W_seq ?_; refine W_region ?_; refine P1 T.ok rfl rfl rfl ?_; refine WL_o rfl rfl (OpR_loadE T.ok 4 rfl ep0 rfl rfl ?_); refine P1 T.ok rfl rfl rfl ?_; refine P1 T.ok rfl rfl rfl ?_; refine WL_nil ?_; (with_reducible refine T_then ?_); refine W_block ?_
 refine W_loop (fun m a' w => ∃ (k : Nat) (pre : List Int) (back : Int) (g' : G), w = g'.w ∧ G.le g1 g' ∧ k ≤ s.next.length ∧ m = s.next.length - k ∧ J pre g' ∧ afterL s = pre ++ afterGo back (s.next.drop k) ∧
  Fr 41 [] [(0, yv), (1, .pointer (some ⟨b, 0, none⟩)), (3, .int .i64 back), (9, .slice a2 s.next.length c2), (10, .int .i64 s.next.length), (11, .int .i64 k)] a') s.next.length
  (fun a' ha => ⟨0, [], s.back, g1, rfl, le0, Nat.zero_le _, rfl, hJ0, rfl, ha.keep (by (repeat (first | exact trivial | refine ⟨rfl, ?_⟩)))⟩) ?_
 clear ep0 le0
 rintro m a' _ ⟨k, pre, back, g', rfl, le0, hk, rfl, hJp, hx, ha'⟩
 have ep0 := epc.mono le0; have rs1 := rsc.mono le0
 revert a'
 (with_reducible refine T_wp ?_); refine W_seq ?_; refine W_region ?_; refine P1 T.ok rfl rfl rfl ?_; refine WL_nil ?_; (with_reducible refine T_then ?_); refine W_seq ?_
 by_cases hlt : k < s.next.length
 ·refine W_yes (b := decide ((k : Int) < (s.next.length : Int))) (by simp; omega) rfl ?_
  refine W_skip ?_; (with_reducible refine T_then ?_); refine W_seq ?_; refine W_block ?_; refine W_seq ?_; refine W_region ?_
  refine WL_o rfl rfl (OpR_idx T.ok rfl rs1 (y := s.next[k]) (by simp [geti, hlt]) rfl rfl rfl rfl rfl rfl ?_)
  rintro b p ys hep rfl
  refine WL_o rfl rfl (OpR_loadE T.ok 0 rfl hep rfl rfl ?_)
  refine P1 T.ok rfl rfl rfl ?_; refine WL_nil ?_; (with_reducible refine T_then ?_); refine W_seq ?_; refine W_seq ?_; refine W_region ?_; (iterate 3 refine P1 T.ok rfl rfl rfl ?_)
  rw [List.drop_eq_getElem_cons hlt, afterGo] at hx
  refine WL_seg (want := true) (x := decide (back < s.next[k])) 3 allF rfl rfl rfl rfl (.inl ⟨rfl, rfl, rfl⟩) rfl rfl rfl rfl (fun hb Q' hQ' => ?_) (fun g' hf => ?_)
  ·(iterate 3 refine P1 T.ok rfl rfl rfl ?_); refine WL_nil ?_
   exact fun a ha => hQ' _ a (Fr0.refl _) (ha.keep (by (repeat (first | exact trivial | refine ⟨rfl, ?_⟩))))
  have hqe := hf.le; replace hJp := hJ _ _ _ hf hJp; replace le0 := G.le.trans le0 hqe; replace ep0 := ep0.mono hqe; replace rs1 := rs1.mono hqe
  refine P1 T.ok rfl rfl rfl ?_
  by_cases hc : 0 ≤ back ∧ back < s.next[k]
  ·refine WL_re (t := 22) (.bool true) rfl (by simp [hc]) ?_
   rw [if_pos hc, if_pos (by omega : back ≤ s.next[k])] at hx
   refine P1 T.ok rfl rfl rfl ?_; refine P1 T.ok rfl rfl rfl ?_
   refine WL_o rfl rfl (OpR_callV rfl rfl rfl rfl rfl rfl ((hy pre back (s.next[k] :: afterGo (-1) (s.next.drop (k + 1))) _ (by rw [hx]; rfl) le0 hJp).mono ?_))
   rintro _ _ ⟨g3, bb, rfl, rfl, hqe, ht, hf⟩
   refine ⟨_, rfl, ?_⟩
   replace le0 := G.le.trans le0 hqe; replace ep0 := ep0.mono hqe; replace rs1 := rs1.mono hqe
   cases bb with
   | false =>
    refine P1 T.ok rfl rfl rfl ?_; refine P1 T.ok rfl rfl rfl ?_; refine WL_nil ?_; (with_reducible refine T_then ?_)
    refine W_yes rfl rfl ?_
    skip
    refine W_ret ?_; (with_reducible refine T_tr ?_); (with_reducible refine T_br ?_); (with_reducible refine T_tr ?_; with_reducible refine T_tr ?_); (with_reducible refine T_br ?_); (with_reducible refine T_tr ?_); refine ret0 rfl ?_
    exact ⟨g3, _, rfl, rfl, le0, .inr ⟨_, ⟨s.next[k] :: afterGo (-1) (s.next.drop (k + 1)), by rw [hx]; simp⟩, hf rfl⟩⟩
   | true =>
    refine P1 T.ok rfl rfl rfl ?_; refine P1 T.ok rfl rfl rfl ?_; refine WL_nil ?_; (with_reducible refine T_then ?_)
    refine W_no rfl rfl ?_
    refine W_skip ?_; (with_reducible refine T_then ?_); refine W_seq ?_; refine W_seq ?_; refine W_region ?_; (iterate 3 refine P1 T.ok rfl rfl rfl ?_); refine WL_nil ?_; (with_reducible refine T_then ?_)
    refine W_yes (b := decide (back ≤ s.next[k])) (by simp; omega) rfl ?_
    refine W_region ?_; refine P1 T.ok rfl rfl rfl ?_; refine WL_nil ?_; (with_reducible refine T_then ?_); refine W_seq ?_; refine W_region ?_; refine P1 T.ok rfl rfl rfl ?_; refine P1 T.ok rfl rfl rfl ?_
    have hx1 : afterL s = (pre ++ [back]) ++ s.next[k] :: afterGo (-1) (s.next.drop (k + 1)) := by rw [hx]; simp
    refine WL_o rfl rfl (OpR_callV rfl rfl rfl rfl rfl rfl ((hy ((pre ++ [back])) s.next[k] (afterGo (-1) (s.next.drop (k + 1))) _ (hx1) le0 (ht rfl)).mono ?_))
    rintro _ _ ⟨g4, bb, rfl, rfl, hqe, ht, hf⟩
    refine ⟨_, rfl, ?_⟩
    replace le0 := G.le.trans le0 hqe; replace ep0 := ep0.mono hqe; replace rs1 := rs1.mono hqe
    cases bb with
    | false =>
     refine P1 T.ok rfl rfl rfl ?_; refine WL_nil ?_; (with_reducible refine T_then ?_)
     refine W_yes rfl rfl ?_
     skip
     refine W_ret ?_; (with_reducible refine T_br ?_); (with_reducible refine T_tr ?_; with_reducible refine T_tr ?_); (with_reducible refine T_br ?_); (with_reducible refine T_tr ?_); refine ret0 rfl ?_
     exact ⟨g4, _, rfl, rfl, le0, .inr ⟨_, ⟨afterGo (-1) (s.next.drop (k + 1)), by rw [hx1]; simp⟩, hf rfl⟩⟩
    | true =>
     refine P1 T.ok rfl rfl rfl ?_; refine WL_nil ?_; (with_reducible refine T_then ?_)
     refine W_no rfl rfl ?_
     refine W_skip ?_; (with_reducible refine T_bn ?_); (with_reducible refine T_then ?_); refine W_region ?_; refine P1 T.ok rfl rfl rfl ?_; refine P1 T.ok rfl rfl rfl ?_; refine WL_nil ?_
     exact fun a ha => ⟨s.next.length - (k + 1), by omega, k + 1, (pre ++ [back]) ++ [s.next[k]], -1, _, rfl, le0, by omega, rfl, ht rfl, by rw [hx1]; simp, ha.keep ⟨rfl, rfl, rfl, rfl, rfl, kI rfl (by rw [wr (by omega) (by omega)]; omega), trivial⟩⟩
  ·refine WL_re (t := 22) (.bool false) rfl (congrArg Value.bool (by simp only [cond_true, Bool.and_eq_false_iff, decide_eq_false_iff_not]; omega)) ?_
   (iterate 4 refine S1 allF rfl rfl ?_); refine P1 T.ok rfl rfl rfl ?_; refine WL_nil ?_; (with_reducible refine T_then ?_)
   refine W_no rfl rfl ?_
   rw [if_neg hc] at hx
   refine W_skip ?_; (with_reducible refine T_then ?_); refine W_seq ?_; refine W_seq ?_; refine W_region ?_; (iterate 3 refine P1 T.ok rfl rfl rfl ?_); refine WL_nil ?_; (with_reducible refine T_then ?_)
   by_cases hbn : back ≤ s.next[k]
   ·refine W_yes (b := decide (back ≤ s.next[k])) (by simp; omega) rfl ?_
    rw [if_pos hbn] at hx
    refine W_region ?_; refine P1 T.ok rfl rfl rfl ?_; refine WL_nil ?_; (with_reducible refine T_then ?_); refine W_seq ?_; refine W_region ?_; refine P1 T.ok rfl rfl rfl ?_; refine P1 T.ok rfl rfl rfl ?_
    have hx1 : afterL s = pre ++ s.next[k] :: afterGo (-1) (s.next.drop (k + 1)) := by rw [hx]; simp
    refine WL_o rfl rfl (OpR_callV rfl rfl rfl rfl rfl rfl ((hy (pre) s.next[k] (afterGo (-1) (s.next.drop (k + 1))) _ (hx1) le0 (hJp)).mono ?_))
    rintro _ _ ⟨g4, bb, rfl, rfl, hqe, ht, hf⟩
    refine ⟨_, rfl, ?_⟩
    replace le0 := G.le.trans le0 hqe; replace ep0 := ep0.mono hqe; replace rs1 := rs1.mono hqe
    cases bb with
    | false =>
     refine P1 T.ok rfl rfl rfl ?_; refine WL_nil ?_; (with_reducible refine T_then ?_)
     refine W_yes rfl rfl ?_
     skip
     refine W_ret ?_; (with_reducible refine T_br ?_); (with_reducible refine T_tr ?_; with_reducible refine T_tr ?_); (with_reducible refine T_br ?_); (with_reducible refine T_tr ?_); refine ret0 rfl ?_
     exact ⟨g4, _, rfl, rfl, le0, .inr ⟨_, ⟨afterGo (-1) (s.next.drop (k + 1)), by rw [hx1]; simp⟩, hf rfl⟩⟩
    | true =>
     refine P1 T.ok rfl rfl rfl ?_; refine WL_nil ?_; (with_reducible refine T_then ?_)
     refine W_no rfl rfl ?_
     refine W_skip ?_; (with_reducible refine T_bn ?_); (with_reducible refine T_then ?_); refine W_region ?_; refine P1 T.ok rfl rfl rfl ?_; refine P1 T.ok rfl rfl rfl ?_; refine WL_nil ?_
     exact fun a ha => ⟨s.next.length - (k + 1), by omega, k + 1, pre ++ [s.next[k]], -1, _, rfl, le0, by omega, rfl, ht rfl, by rw [hx1]; simp, ha.keep ⟨rfl, rfl, rfl, rfl, rfl, kI rfl (by rw [wr (by omega) (by omega)]; omega), trivial⟩⟩
   ·refine W_no (b := decide (back ≤ s.next[k])) (by simp; omega) rfl ?_
    rw [if_neg hbn] at hx
    refine W_skip ?_; (with_reducible refine T_then ?_); refine W_seq ?_; refine W_region ?_; refine P1 T.ok rfl rfl rfl ?_; refine P1 T.ok rfl rfl rfl ?_
    have hx1 : afterL s = pre ++ s.next[k] :: afterGo back (s.next.drop (k + 1)) := by rw [hx]; simp
    refine WL_o rfl rfl (OpR_callV rfl rfl rfl rfl rfl rfl ((hy (pre) s.next[k] (afterGo (back) (s.next.drop (k + 1))) _ (hx1) le0 (hJp)).mono ?_))
    rintro _ _ ⟨g4, bb, rfl, rfl, hqe, ht, hf⟩
    refine ⟨_, rfl, ?_⟩
    replace le0 := G.le.trans le0 hqe; replace ep0 := ep0.mono hqe; replace rs1 := rs1.mono hqe
    cases bb with
    | false =>
     refine P1 T.ok rfl rfl rfl ?_; refine WL_nil ?_; (with_reducible refine T_then ?_)
     refine W_yes rfl rfl ?_
     skip
     refine W_ret ?_; (with_reducible refine T_br ?_); (with_reducible refine T_tr ?_; with_reducible refine T_tr ?_); (with_reducible refine T_br ?_); (with_reducible refine T_tr ?_); refine ret0 rfl ?_
     exact ⟨g4, _, rfl, rfl, le0, .inr ⟨_, ⟨afterGo (back) (s.next.drop (k + 1)), by rw [hx1]; simp⟩, hf rfl⟩⟩
    | true =>
     refine P1 T.ok rfl rfl rfl ?_; refine WL_nil ?_; (with_reducible refine T_then ?_)
     refine W_no rfl rfl ?_
     refine W_skip ?_; (with_reducible refine T_bn ?_); (with_reducible refine T_then ?_); refine W_region ?_; refine P1 T.ok rfl rfl rfl ?_; refine P1 T.ok rfl rfl rfl ?_; refine WL_nil ?_
     exact fun a ha => ⟨s.next.length - (k + 1), by omega, k + 1, pre ++ [s.next[k]], back, _, rfl, le0, by omega, rfl, ht rfl, by rw [hx1]; simp, ha.keep ⟨rfl, rfl, rfl, rfl, rfl, kI rfl (by rw [wr (by omega) (by omega)]; omega), trivial⟩⟩
 ·refine W_no (b := decide ((k : Int) < (s.next.length : Int))) (by simp; omega) rfl ?_
  refine W_exit ?_; (with_reducible refine T_tx ?_; with_reducible refine T_tx ?_); (with_reducible refine T_bx ?_); (with_reducible refine T_then ?_); refine W_seq ?_; refine W_region ?_; refine P1 T.ok rfl rfl rfl ?_; refine P1 T.ok rfl rfl rfl ?_; refine WL_nil ?_; (with_reducible refine T_then ?_)
  obtain rfl : k = s.next.length := by omega
  rw [List.drop_length, afterGo] at hx
  by_cases hb : 0 ≤ back
  ·refine W_yes (b := decide (0 ≤ back)) (by simp; omega) rfl ?_
   rw [if_pos hb] at hx
   refine W_region ?_; refine P1 T.ok rfl rfl rfl ?_; refine P1 T.ok rfl rfl rfl ?_
   refine WL_o rfl rfl (OpR_callV rfl rfl rfl rfl rfl rfl ((hy pre back [] _ hx le0 hJp).mono ?_))
   rintro _ _ ⟨g3, bb, rfl, rfl, hqe, ht, hf⟩
   refine ⟨_, rfl, ?_⟩
   replace le0 := G.le.trans le0 hqe; replace ep0 := ep0.mono hqe; replace rs1 := rs1.mono hqe
   refine WL_nil ?_
   refine end0 rfl ?_
   cases bb with
   | true => exact ⟨g3, _, rfl, rfl, le0, .inl (by rw [hx]; exact ht rfl)⟩
   | false => exact ⟨g3, _, rfl, rfl, le0, .inr ⟨_, ⟨[], by rw [hx]; simp⟩, hf rfl⟩⟩
  ·refine W_no (b := decide (0 ≤ back)) (by simp; omega) rfl ?_
   rw [if_neg hb, List.append_nil] at hx
   refine W_skip ?_
   refine end0 rfl ?_
   exact ⟨_, _, rfl, rfl, le0, .inl (by rw [hx]; exact hJp)⟩
end Go.Proofs.YtnggomfbgmlkhaaGreatDoor

/- The walks through package graph: Follow. -/
namespace Go.Proofs.YtnggomfbgmlkhaaGreatDoor
open Go Go.K
set_option maxRecDepth 10000
attribute [local irreducible] W WL OpR bitAnd bitOr bitXor bitClr bitNot shlI shrI
set_option maxHeartbeats 1000000

/-- A function value that goes through a list of numbers. -/
def SeqV (g : G) (v : Value) (xs : List Int) : Prop :=
 ∃ itf caps, v = .func (.func itf) #[] caps ∧ Callable Tryz.prog itf ∧ SeqC Tryz.prog itf caps (fun n : Int => [.int .i64 n]) xs g
theorem SeqV.mono {g g' : G} {v : Value} {xs : List Int} (h : SeqV g v xs) (hle : g.le g') : SeqV g' v xs := by
 obtain ⟨itf, caps, e, h1, h2⟩ := h
 exact ⟨itf, caps, e, h1, h2.mono hle⟩

theorem after_c (v : Value) (s : Step) (g : G) (st0 : RStepV g v s) :
  CallsIn Wd 0 Tryz.prog 38 #[v] g.w (Ret g fun g' r => SeqV g' r (afterL s)) := by
 obtain ⟨cs, rfl, a1, n1, c1, a2, n2, c2, rfl, rs0, rs1⟩ := st0
 have hs := St.start g
 refine enter Tryz.func38 rfl Tryz.ntmps38 rfl ?_
 refine W_seq ?_; refine W_region ?_
 refine WL_o rfl rfl (OpR_box rfl hs rfl rfl ?_); clear hs; rintro b1 g1 hs hqe; replace rs0 := rs0.mono hqe; replace rs1 := rs1.mono hqe
 refine P1 T.ok rfl rfl rfl ?_; refine WL_nil ?_; (with_reducible refine T_then ?_); refine W_seq ?_; refine W_region ?_; refine P1 T.ok rfl rfl rfl ?_; refine P1 T.ok rfl rfl rfl ?_; refine WL_nil ?_; (with_reducible refine T_then ?_)
 obtain ⟨g2, hw2, hs2, hqe, hep⟩ := hs.fzObj (i := 0) rfl; replace hs := hs2; clear hs2; rw [← hw2]; replace rs0 := rs0.mono hqe; replace rs1 := rs1.mono hqe
 skip
 exact W_ret (ret1 rfl rfl (hs.ret ⟨64, _, rfl, cl64, after1_c s _ _ _ hep ⟨_, _, _, _, _, _, rfl, rs0, rs1⟩⟩))

theorem appendSeq_c (fv : Value) (xs : List Int) (g : G) (hx : SeqV g fv xs) (hlen : xs.length ≤ 1000000) :
  CallsIn Wd 0 Tryz.prog 63 #[.slice none 0 0, fv] g.w (Ret g (OwnR 3 g xs)) := by
 obtain ⟨itf, caps, rfl, hcl, hseq⟩ := hx
 have hs := St.start g
 have le0 := G.le.refl g
 refine enterM Tryz.func63 rfl Tryz.ntmps63 rfl ?_
 refine W_seq ?_; refine W_region ?_
 refine WL_o rfl rfl (OpR_box rfl hs rfl rfl ?_); clear hs; rintro b1 g1 hs hqe; replace le0 := G.le.trans le0 hqe
 replace hs := hs.nilrow 3 1 none
 refine P1 T.ok rfl rfl rfl ?_; refine WL_nil ?_; (with_reducible refine T_then ?_); refine W_seq ?_; refine W_seq ?_; refine W_region ?_; refine P1 T.ok rfl rfl rfl ?_; refine WL_nil ?_; (with_reducible refine T_then ?_); refine W_block ?_
 refine W_range (N := 13) hs rfl hcl (hseq.mono le0) rfl (fun _ => rfl)
  (fun pre L _ => ∃ v, L = [.row 3 1 v pre.length (pre.map (Value.int .i64)), .obj b1 (.cells #[v] 35)]) (fun _ _ _ _ => False)
  (fun _ _ _ _ _ h => h) (fun _ _ _ _ _ _ h => h) ⟨_, rfl⟩ (fun x => [(5, .int .i64 x), (2, .pointer (some ⟨b1, 0, none⟩))]) ?_ ?_ ?_ ?_
 ·intro x ro w
  refine W_region ?_; refine P1 T.ok rfl rfl rfl ?_; refine WL_nil ?_
  exact fun a ha => ⟨rfl, ha.keep (by (repeat (first | exact trivial | refine ⟨rfl, ?_⟩)))⟩
 ·rintro lp D ro pre x rest gr Lr hxs hle hs ⟨v, rfl⟩
  have le4 := G.le.refl gr
  have hpl : pre.length < xs.length := by rw [hxs]; simp
  refine W_block ?_; refine W_region ?_; refine WL_o rfl rfl (OpR_loadO T.ok 3 rfl hs rfl rfl rfl ?_); refine P1 T.ok rfl rfl rfl ?_
  refine WL_o rfl rfl (OpR_lit T.ok rfl hs (vs := [(0, .int .i64 x)]) (cells := [.int .i64 x]) rfl rfl rfl rfl rfl rfl (by decide) (by decide) (by kernel_rfl) rfl ?_); rintro b2 g2 hs hqe; replace le4 := G.le.trans le4 hqe
  skip
  refine WL_o rfl rfl (OpR_append T.ok 3 rfl hs rfl rfl rfl rfl rfl rfl rfl (by decide) rfl (Src.of_row (hs.own 0 _ rfl).1).2 (by simp [Value.oneCell']) (by show (pre.length + 1) * 8 ≤ _; omega) (by unfold maxLen; omega) ?_); rintro a' c' g3 hs hqe; replace le4 := G.le.trans le4 hqe
  skip
  refine WL_n rfl (OpR_storeO T.ok 4 rfl hs rfl rfl rfl rfl rfl rfl rfl rfl rfl ?_); replace hs := hs; rintro g1 hs hqe; replace le4 := G.le.trans le4 hqe
  refine WL_nil ?_; (with_reducible refine T_bn ?_)
  exact fun a ha => ⟨_, _, rfl, hs.drop 0, le4, ⟨.slice a' (pre.length + 1) c', by simp [spl]⟩⟩
 ·rintro lp D o Lr ge hle hs ⟨v, rfl⟩
  (with_reducible refine T_bn ?_); (with_reducible refine T_then ?_); refine W_seq ?_; refine W_region ?_; refine WL_o rfl rfl (OpR_loadO T.ok 3 rfl hs rfl rfl rfl ?_); refine P1 T.ok rfl rfl rfl ?_; refine WL_nil ?_; (with_reducible refine T_then ?_)
  refine W_ret ?_; skip
  refine retM1 1 rfl hs rfl rfl (fun g' hs' hle' => ?_)
  exact hs'.ret (hs'.toOwn (i := 1) rfl (RcL.ints _ xs))
 ·rintro c lp D o pre Lr ge _ _ _ h
  exact h.elim

theorem collect_c (fv : Value) (xs : List Int) (g : G) (hx : SeqV g fv xs) (hlen : xs.length ≤ 1000000) :
  CallsIn Wd 0 Tryz.prog 37 #[fv] g.w (Ret g (OwnR 3 g xs)) := by
 have hs := St.start g
 refine enter Tryz.func37 rfl Tryz.ntmps37 rfl ?_
 refine W_seq ?_; refine W_region ?_; refine P1 T.ok rfl rfl rfl ?_; refine WL_nil ?_; (with_reducible refine T_then ?_); refine W_seq ?_; refine W_region ?_; refine P1 T.ok rfl rfl rfl ?_
 refine WL_o rfl rfl (OpR_ret cl63 allF rfl rfl rfl rfl rfl (appendSeq_c _ xs g hx hlen) ?_); rintro g1 v hf1 ⟨cells, h1, h2⟩
 replace hs := hs.getOwn hf1 h1
 refine P1 T.ok rfl rfl rfl ?_; refine WL_nil ?_; (with_reducible refine T_then ?_)
 exact W_ret (ret1 rfl rfl (hs.ret (hs.toOwn (i := 0) rfl h2)))

theorem follow_c (v : Value) (f : Flow) (n : Int) (g : G) (fl0 : RFlow g v f) :
  CallsIn Wd 0 Tryz.prog 16 #[v, .int .i64 n] g.w (Ret g (OwnR 3 g (follow f n))) := by
 obtain ⟨a1, n1, c1, a2, n2, c2, rfl, rs0, rs1⟩ := id fl0
 obtain ⟨_, _, e⟩ := rs0.isSlice; obtain ⟨rfl, rfl, rfl⟩ := Value.slice.inj e; clear e
 have hs := St.start g
 refine enter Tryz.func16 rfl Tryz.ntmps16 rfl ?_
 refine W_seq ?_; refine W_region ?_
 refine WL_o rfl rfl (OpR_box rfl hs rfl rfl ?_); clear hs; rintro b1 g1 hs hqe; replace rs0 := rs0.mono hqe; replace rs1 := rs1.mono hqe; replace fl0 := fl0.mono hqe
 refine P1 T.ok rfl rfl rfl ?_; refine WL_nil ?_; (with_reducible refine T_then ?_); refine W_seq ?_; refine W_seq ?_; refine W_region ?_; refine WL_o rfl rfl (OpR_loadO T.ok 0 rfl hs rfl rfl rfl ?_); refine P1 T.ok rfl rfl rfl ?_
 refine WL_o rfl rfl (OpR_lit T.ok rfl hs (vs := [(0, .int .i64 n)]) (cells := [.int .i64 n]) rfl rfl rfl rfl rfl rfl (by decide) (by decide) (by kernel_rfl) rfl ?_); rintro b2 g2 hs hqe; replace rs0 := rs0.mono hqe; replace rs1 := rs1.mono hqe; replace fl0 := fl0.mono hqe
 obtain ⟨g3, hw3, hs3, hqe3, hrl⟩ := hs.fzRow (α := Int) (xs := [n]) (i := 0) rfl (RcL.ints _ [n])
 clear hqe; have hqe := hqe3; rw [← hw3]; replace hs := hs3; replace rs0 := rs0.mono hqe; replace rs1 := rs1.mono hqe; replace fl0 := fl0.mono hqe
 skip
 refine WL_o rfl rfl (OpR_ret cl32 allF rfl rfl rfl rfl rfl (given_c _ _ f [n] _ fl0 hrl) ?_); rintro g1 _ hf1 rfl; replace hs := hs.call hf1; have hqe := hf1.le; replace rs0 := rs0.mono hqe; replace rs1 := rs1.mono hqe; replace fl0 := fl0.mono hqe
 refine P1 T.ok rfl rfl rfl ?_; refine WL_nil ?_; (with_reducible refine T_then ?_)
 cases hg : given f [n] with
 | false =>
  refine W_yes rfl rfl ?_
  refine W_seq ?_; refine W_region ?_; refine P1 T.ok rfl rfl rfl ?_; refine WL_nil ?_; (with_reducible refine T_then ?_)
  refine W_ret (ret1 rfl rfl (hs.ret ?_))
  unfold follow; rw [hg]; exact OwnR.nil _ _ _ _
 | true =>
  refine W_no rfl rfl ?_
  have hgn : (0 ≤ n ∧ n < f.steps.length) ∧ valid f = true := by
   unfold given at hg
   simp only [Bool.and_eq_true, List.any_cons, List.any_nil, Bool.or_false, Bool.not_eq_true', badStep, Bool.or_eq_false_iff, decide_eq_false_iff_not] at hg
   exact ⟨by omega, hg.1⟩
  refine W_skip ?_; (with_reducible refine T_then ?_); refine W_seq ?_; refine W_region ?_; refine P1 T.ok rfl rfl rfl ?_; refine WL_o rfl rfl (OpR_loadO T.ok 0 rfl hs rfl rfl rfl ?_); refine P1 T.ok rfl rfl rfl ?_
  refine WL_o rfl rfl (OpR_idx T.ok rfl rs0 (y := stepD f n) (by unfold stepD; rw [geti_of (j := n.toNat) (by omega) (by omega)]; simp [List.getD_eq_getElem?_getD, show n.toNat < f.steps.length from by omega]) rfl rfl rfl rfl rfl rfl ?_)
  rintro b q ys hep hrc
  have hrv : RStepV _ (.agg ys.toArray) (stepD f n) := ⟨ys, rfl, hrc⟩
  obtain ⟨b1, b2, b3, b4, b5, b6, rfl, _, _⟩ := hrc
  refine WL_o rfl rfl (OpR_loadE T.ok 0 rfl hep rfl rfl ?_)
  skip
  refine WL_o rfl rfl (OpR_ret cl38 allF rfl rfl rfl rfl rfl (after_c _ _ _ hrv) ?_); rintro g4 v hf4 hsv; replace hs := hs.call hf4
  skip
  have hln : (afterL (stepD f n)).length ≤ 1000000 := by
   have h1 := afterGo_len (stepD f n).back (stepD f n).next
   have h2 := rightStep_next (valid_step hgn.2 hgn.1.1 hgn.1.2)
   unfold afterL; omega
  refine WL_o rfl rfl (OpR_ret cl37 allF rfl rfl rfl rfl rfl (collect_c _ _ _ hsv hln) ?_); rintro g5 v hf5 ⟨cells, h1, h2⟩
  replace hs := hs.getOwn hf5 h1
  refine P1 T.ok rfl rfl rfl ?_; refine WL_nil ?_; (with_reducible refine T_then ?_)
  refine W_ret (ret1 rfl rfl (hs.ret ?_))
  unfold follow; rw [hg]
  exact hs.toOwn (i := 0) rfl h2
end Go.Proofs.YtnggomfbgmlkhaaGreatDoor

/- The walks through package graph: what can be reached. -/
namespace Go.Proofs.YtnggomfbgmlkhaaGreatDoor
open Go Go.K
set_option maxRecDepth 10000
attribute [local irreducible] W WL OpR bitAnd bitOr bitXor bitClr bitNot shlI shrI
set_option maxHeartbeats 1000000

def rowB (ob N : Nat) (out : List Bool) : Ent := .row 4 1 (.slice (some ⟨ob, 0, none⟩) N N) N (out.map Value.bool)

/-- The three variables that visit looks at: the list, the flow, and itself. -/
structure VisEnv (g : G) (f : Flow) (ob N bo bf bv : Nat) : Prop where
 epo : EP g bo 0 [.slice (some ⟨ob, 0, none⟩) N N]
 epf : ∃ cs, EP g bf 0 cs ∧ RFlowC g cs f
 epv : EP g bv 0 [.func (.func 58) #[] #[.pointer (some ⟨bo, 0, none⟩), .pointer (some ⟨bf, 0, none⟩), .pointer (some ⟨bv, 0, none⟩)]]
theorem VisEnv.mono {g g' : G} {f : Flow} {ob N bo bf bv : Nat} (h : VisEnv g f ob N bo bf bv) (hle : g.le g') : VisEnv g' f ob N bo bf bv :=
 ⟨h.epo.mono hle, by obtain ⟨cs, h1, h2⟩ := h.epf; exact ⟨cs, h1.mono hle, h2.mono hle⟩, h.epv.mono hle⟩

theorem visit_c (f : Flow) (hval : valid f = true) (ob N bo bf bv : Nat) (hN : N = f.steps.length) : ∀ (k : Nat) (g0 g : G) (L : List Ent) (i : Nat) (out : List Bool) (n : Int),
  St g0 g L → L[i]? = some (rowB ob N out) → VisEnv g f ob N bo bf bv → out.length = N → 0 ≤ n → out[n.toNat]? = some false → out.count false ≤ k →
  CallsIn Wd 0 Tryz.prog 58 #[.int .i64 n, .pointer (some ⟨bo, 0, none⟩), .pointer (some ⟨bf, 0, none⟩), .pointer (some ⟨bv, 0, none⟩)] g.w
   fun e w' => ∃ g', g'.w = w' ∧ e = .returned (.tuple #[]) ∧ St g0 g' (L.set i (rowB ob N (visit f k out n))) ∧ g.le g' := by
 intro k
 induction k with
 | zero =>
  intro g0 g L i out n _ _ _ _ _ hn hc
  exact absurd (List.count_pos_iff.2 (List.mem_of_getElem? hn)) (by omega)
 | succ k ih =>
  intro g0 g L i out n hs hi hve hlen h0 hn hc
  have hlt : n.toNat < N := by rw [← hlen]; exact (List.getElem?_eq_some_iff.1 hn).1
  have hiL : i < L.length := (List.getElem?_eq_some_iff.1 hi).1
  have le0 := G.le.refl g
  have ep0 := hve.epo
  obtain ⟨cs, ep1, a1, n1, c1, a2, n2, c2, rfl, rs0, rs1⟩ := hve.epf
  obtain ⟨_, _, e⟩ := rs0.isSlice; obtain ⟨rfl, rfl, rfl⟩ := Value.slice.inj e; clear e
  have hve0 := hve
  refine enterM Tryz.func58 rfl Tryz.ntmps58 rfl ?_
  refine W_seq ?_; refine W_region ?_; refine WL_o rfl rfl (OpR_loadE T.ok 0 rfl ep0 rfl rfl ?_); refine P1 T.ok rfl rfl rfl ?_
  refine WL_o rfl rfl (OpR_idxR T.ok rfl (hs.own i _ hi).1 h0 hlt rfl rfl rfl rfl rfl rfl ?_)
  rintro b p hh; obtain ⟨rfl, rfl⟩ : ob = b ∧ 0 = p := by simpa using hh
  refine WL_n rfl (OpR_storeR T.ok i (n.toNat * 1) (us := [.bool true]) rfl hs hi rfl rfl rfl rfl rfl rfl (by decide) (by simp; omega) (xs' := (out.set n.toNat true).map Value.bool) ?_ ?_)
  ·rw [Nat.mul_one, List.map_set]
   unfold spl
   rw [List.set_eq_take_append_cons_drop]
   simp [hlen, hlt]
  rintro g1 hs hqe; replace le0 := G.le.trans le0 hqe; replace ep0 := ep0.mono hqe; replace ep1 := ep1.mono hqe; replace rs0 := rs0.mono hqe; replace rs1 := rs1.mono hqe
  replace hve := hve.mono hqe
  refine WL_nil ?_; (with_reducible refine T_then ?_); refine W_seq ?_; refine W_region ?_; refine P1 T.ok rfl rfl rfl ?_; refine WL_o rfl rfl (OpR_loadE T.ok 2 rfl ep1 rfl rfl ?_); refine P1 T.ok rfl rfl rfl ?_
  have hn1 : n < f.steps.length := by omega
  refine WL_o rfl rfl (OpR_idx T.ok rfl rs0 (y := stepD f n) (by unfold stepD; rw [geti_of (j := n.toNat) (by omega) (by omega)]; simp [List.getD_eq_getElem?_getD, show n.toNat < f.steps.length from by omega]) rfl rfl rfl rfl rfl rfl ?_)
  rintro b q ys hep hrc
  have hrv : RStepV _ (.agg ys.toArray) (stepD f n) := ⟨ys, rfl, hrc⟩
  obtain ⟨b1, b2, b3, b4, b5, b6, rfl, _, _⟩ := hrc
  refine WL_o rfl rfl (OpR_loadE T.ok 0 rfl hep rfl rfl ?_)
  skip
  refine WL_o rfl rfl (OpR_ret cl38 allF rfl rfl rfl rfl rfl (after_c _ _ _ hrv) ?_); rintro g4 v hf4 ⟨itf, caps, rfl, hcl, hsv⟩; replace hs := hs.call hf4
  have hqe := hf4.le; replace le0 := G.le.trans le0 hqe; replace ep0 := ep0.mono hqe; replace ep1 := ep1.mono hqe; replace rs0 := rs0.mono hqe; replace rs1 := rs1.mono hqe
  replace hve := hve.mono hqe
  refine WL_nil ?_; (with_reducible refine T_then ?_); refine W_block ?_
  have hkeep := visit_keeps f k
  have hset := count_set_lt hn
  refine W_range (N := 24) hs rfl hcl hsv rfl (fun _ => rfl)
   (fun pre L' _ => L' = L.set i (rowB ob N (visitAll f k (out.set n.toNat true) pre))) (fun _ _ _ _ => False)
   (fun _ _ _ _ _ h => h) (fun _ _ _ _ _ _ h => h) rfl (fun x => [(5, .int .i64 x), (1, .pointer (some ⟨bo, 0, none⟩)), (2, .pointer (some ⟨bf, 0, none⟩)), (3, .pointer (some ⟨bv, 0, none⟩))]) ?_ ?_ ?_ ?_
  ·intro x ro w
   refine W_region ?_; refine P1 T.ok rfl rfl rfl ?_; refine WL_nil ?_
   exact fun a ha => ⟨rfl, ha.keep (by (repeat (first | exact trivial | refine ⟨rfl, ?_⟩)))⟩
  ·rintro lp D ro pre x rest gr Lr hxs hle hs rfl
   have hve := hve.mono hle
   have le4 := G.le.refl gr
   have ep0 := hve.epo
   obtain ⟨cs', ep1, hflow⟩ := hve.epf
   have ep2 := hve.epv
   obtain ⟨h3, h4⟩ := after_range hval h0 hn1 x (by rw [hxs]; simp)
   have hkp := visitAll_keeps f k hkeep pre (out.set n.toNat true)
   have hlo : (visitAll f k (out.set n.toNat true) pre).length = N := by rw [hkp.1]; simp [hlen]
   have hxl : x.toNat < (visitAll f k (out.set n.toNat true) pre).length := by omega
   have hiw : (Ent.obj lp (ro LoopState.busy) :: Ent.obj D defO :: L.set i (rowB ob N (visitAll f k (out.set n.toNat true) pre)))[i + 2]? = some (rowB ob N (visitAll f k (out.set n.toNat true) pre)) := by
    simp [hiL]
   have hstep : visitAll f k (out.set n.toNat true) (pre ++ [x]) = if (visitAll f k (out.set n.toNat true) pre)[x.toNat] = true then visitAll f k (out.set n.toNat true) pre else visit f k (visitAll f k (out.set n.toNat true) pre) x := by
    rw [visitAll_snoc, List.getD_eq_getElem?_getD, List.getElem?_eq_getElem hxl]
    rfl
   refine W_block ?_; refine W_seq ?_; refine W_region ?_; refine WL_o rfl rfl (OpR_loadE T.ok 0 rfl ep0 rfl rfl ?_); refine P1 T.ok rfl rfl rfl ?_
   refine WL_o rfl rfl (OpR_idxR T.ok rfl (hs.own (i + 2) _ hiw).1 h3 (by omega) rfl rfl rfl rfl rfl rfl ?_)
   rintro b p hh; obtain ⟨rfl, rfl⟩ : ob = b ∧ 0 = p := by simpa using hh
   refine WL_o rfl rfl (OpR_loadR T.ok (x.toNat * 1) rfl (hs.own (i + 2) _ hiw).1 rfl (v := .bool ((visitAll f k (out.set n.toNat true) pre)[x.toNat])) (by show (List.map Value.bool _)[x.toNat * 1]? = _; rw [Nat.mul_one, List.getElem?_map, List.getElem?_eq_getElem hxl]; rfl) ?_)
   refine P1 T.ok rfl rfl rfl ?_; refine WL_nil ?_; (with_reducible refine T_then ?_)
   cases hb : (visitAll f k (out.set n.toNat true) pre)[x.toNat] with
   | true =>
    refine W_no rfl rfl ?_
    refine W_skip ?_; (with_reducible refine T_bn ?_)
    exact fun a ha => ⟨_, _, rfl, hs, le4, by rw [hstep, if_pos hb]⟩
   | false =>
    refine W_yes rfl rfl ?_
    refine W_region ?_; refine WL_o rfl rfl (OpR_loadE T.ok 0 rfl ep2 rfl rfl ?_); refine P1 T.ok rfl rfl rfl ?_
    have hcall := ih g0 gr _ (i + 2) _ x hs hiw hve hlo h3 (by rw [List.getElem?_eq_getElem hxl, hb]) (by omega)
    have hcv := CallV_of (first := #[]) (args := [.int .i64 x]) (captured := #[.pointer (some ⟨bo, 0, none⟩), .pointer (some ⟨bf, 0, none⟩), .pointer (some ⟨bv, 0, none⟩)]) cl58 rfl hcall
    refine WL_o rfl rfl (OpR_callV rfl rfl rfl rfl rfl rfl (hcv.mono ?_))
    rintro _ _ ⟨g5, rfl, rfl, hs5, hqe⟩
    refine ⟨_, rfl, ?_⟩
    replace le4 := G.le.trans le4 hqe; replace ep0 := ep0.mono hqe; replace ep1 := ep1.mono hqe; replace ep2 := ep2.mono hqe
    refine WL_nil ?_; (with_reducible refine T_bn ?_)
    exact fun a ha => ⟨_, _, rfl, hs5, le4, by rw [hstep, if_neg (by simp [hb]), List.set_set]⟩
  ·rintro lp D o Lr ge hle hs rfl
   (with_reducible refine T_bn ?_)
   refine endM0 1 rfl hs rfl (fun g' hs' hle' => ?_)
   refine ⟨g', rfl, rfl, ?_, (le0.trans hle).trans hle'⟩
   have := hs'.drop 0
   rw [visit_succ]
   exact this
  ·rintro c lp D o pre Lr ge _ _ _ h
   exact h.elim
end Go.Proofs.YtnggomfbgmlkhaaGreatDoor

/- The walks through package graph: reached, Reach. -/
namespace Go.Proofs.YtnggomfbgmlkhaaGreatDoor
open Go Go.K
set_option maxRecDepth 10000
attribute [local irreducible] W WL OpR bitAnd bitOr bitXor bitClr bitNot shlI shrI
set_option maxHeartbeats 1000000

theorem RcL.bools (g : G) : ∀ xs : List Bool, RcL g (xs.map Value.bool) xs
 | [] => rfl
 | x :: xs => ⟨[.bool x], xs.map Value.bool, rfl, rfl, RcL.bools g xs⟩

theorem valid_len {f : Flow} (h : valid f = true) : 1 ≤ f.steps.length ∧ f.steps.length ≤ 40 := by
 unfold valid within at h
 simp only [Bool.and_eq_true, decide_eq_true_eq] at h
 omega

theorem reached_c (v : Value) (f : Flow) (n : Int) (g : G) (fl0 : RFlow g v f) (hval : valid f = true) (h0 : 0 ≤ n) (h1 : n < f.steps.length) :
  CallsIn Wd 0 Tryz.prog 30 #[v, .int .i64 n] g.w (Ret g (OwnR 4 g (reached f n))) := by
 obtain ⟨a1, n1, c1, a2, n2, c2, rfl, rs0, rs1⟩ := id fl0
 obtain ⟨_, _, e⟩ := rs0.isSlice; obtain ⟨rfl, rfl, rfl⟩ := Value.slice.inj e; clear e
 have hlen := valid_len hval
 have hs := St.start g
 refine enter Tryz.func30 rfl Tryz.ntmps30 rfl ?_
 refine W_seq ?_; refine W_region ?_
 refine WL_o rfl rfl (OpR_box rfl hs rfl rfl ?_); clear hs; rintro bf g1 hs hqe; replace rs0 := rs0.mono hqe; replace rs1 := rs1.mono hqe; replace fl0 := fl0.mono hqe
 refine P1 T.ok rfl rfl rfl ?_; refine WL_nil ?_; (with_reducible refine T_then ?_); refine W_seq ?_; refine W_region ?_; refine P1 T.ok rfl rfl rfl ?_; refine WL_o rfl rfl (OpR_loadO T.ok 0 rfl hs rfl rfl rfl ?_); refine P1 T.ok rfl rfl rfl ?_
 obtain ⟨g2, hw2, hs2, hqe, hep⟩ := hs.fzObj (i := 0) rfl; replace hs := hs2; clear hs2; rw [← hw2]; replace rs0 := rs0.mono hqe; replace rs1 := rs1.mono hqe; replace fl0 := fl0.mono hqe
 have ep0 := hep; clear hep
 skip
 refine WL_o rfl rfl (OpR_make T.ok rfl hs rfl rfl rfl rfl rfl rfl (by decide) rfl (by show 1 * f.steps.length ≤ _; omega) (by unfold maxLen; omega) ?_); rintro ob g1 hs hqe; replace ep0 := ep0.mono hqe; replace rs0 := rs0.mono hqe; replace rs1 := rs1.mono hqe; replace fl0 := fl0.mono hqe
 skip
 refine WL_o rfl rfl (OpR_alloc T.ok rfl hs rfl rfl ?_); clear hs; rintro bo g1 hs hqe; replace ep0 := ep0.mono hqe; replace rs0 := rs0.mono hqe; replace rs1 := rs1.mono hqe; replace fl0 := fl0.mono hqe
 skip
 refine WL_n rfl (OpR_storeO T.ok 0 rfl hs rfl rfl rfl rfl rfl rfl rfl rfl rfl ?_); replace hs := hs; rintro g1 hs hqe; replace ep0 := ep0.mono hqe; replace rs0 := rs0.mono hqe; replace rs1 := rs1.mono hqe; replace fl0 := fl0.mono hqe
 obtain ⟨g2, hw2, hs2, hqe, hep⟩ := hs.fzObj (i := 0) rfl; replace hs := hs2; clear hs2; rw [← hw2]; replace ep0 := ep0.mono hqe; replace rs0 := rs0.mono hqe; replace rs1 := rs1.mono hqe; replace fl0 := fl0.mono hqe
 have ep1 := hep; clear hep
 refine WL_nil ?_; (with_reducible refine T_then ?_); refine W_seq ?_; refine W_region ?_
 refine WL_o rfl rfl (OpR_alloc T.ok rfl hs rfl rfl ?_); clear hs; rintro bv g1 hs hqe; replace ep0 := ep0.mono hqe; replace ep1 := ep1.mono hqe; replace rs0 := rs0.mono hqe; replace rs1 := rs1.mono hqe; replace fl0 := fl0.mono hqe
 refine WL_nil ?_; (with_reducible refine T_then ?_); refine W_seq ?_; refine W_region ?_; refine P1 T.ok rfl rfl rfl ?_
 refine WL_n rfl (OpR_storeO T.ok 0 rfl hs rfl rfl rfl rfl rfl rfl rfl rfl rfl ?_); replace hs := hs; rintro g1 hs hqe; replace ep0 := ep0.mono hqe; replace ep1 := ep1.mono hqe; replace rs0 := rs0.mono hqe; replace rs1 := rs1.mono hqe; replace fl0 := fl0.mono hqe
 obtain ⟨g2, hw2, hs2, hqe, hep⟩ := hs.fzObj (i := 0) rfl; replace hs := hs2; clear hs2; rw [← hw2]; replace ep0 := ep0.mono hqe; replace ep1 := ep1.mono hqe; replace rs0 := rs0.mono hqe; replace rs1 := rs1.mono hqe; replace fl0 := fl0.mono hqe
 have ep2 := hep; clear hep
 refine WL_nil ?_; (with_reducible refine T_then ?_); refine W_seq ?_; refine W_region ?_; refine WL_o rfl rfl (OpR_loadE T.ok 0 rfl ep2 rfl rfl ?_); refine P1 T.ok rfl rfl rfl ?_
 have hfl : (List.replicate f.steps.length [Value.bool false]).flatten = (List.replicate f.steps.length false).map Value.bool := by simp
 have hst : St g g2 [rowB ob f.steps.length (List.replicate f.steps.length false)] := by
  unfold rowB; rw [← hfl]; exact hs
 have hve : VisEnv g2 f ob f.steps.length bo bf bv := ⟨ep1, ⟨_, ep0, _, _, _, _, _, _, rfl, rs0, rs1⟩, ep2⟩
 have hcall := visit_c f hval ob _ bo bf bv rfl f.steps.length g g2 _ 0 _ n hst rfl hve (by simp) h0 (by rw [List.getElem?_replicate, if_pos (by omega)]) (by simp)
 have hcv := CallV_of (first := #[]) (args := [.int .i64 n]) (captured := #[.pointer (some ⟨bo, 0, none⟩), .pointer (some ⟨bf, 0, none⟩), .pointer (some ⟨bv, 0, none⟩)]) cl58 rfl hcall
 refine WL_o rfl rfl (OpR_callV rfl rfl rfl rfl rfl rfl (hcv.mono ?_))
 rintro _ _ ⟨g5, rfl, rfl, hs5, hqe⟩
 refine ⟨_, rfl, ?_⟩
 replace hs := hs5
 replace ep0 := ep0.mono hqe; replace ep1 := ep1.mono hqe; replace ep2 := ep2.mono hqe; replace rs0 := rs0.mono hqe; replace rs1 := rs1.mono hqe; replace fl0 := fl0.mono hqe
 refine WL_nil ?_; (with_reducible refine T_then ?_); refine W_seq ?_; refine W_region ?_; refine WL_o rfl rfl (OpR_loadE T.ok 0 rfl ep1 rfl rfl ?_); refine P1 T.ok rfl rfl rfl ?_; refine WL_nil ?_; (with_reducible refine T_then ?_)
 refine W_ret (ret1 rfl rfl (hs.ret ?_))
 exact hs.toOwn (i := 0) rfl (RcL.bools _ _)

theorem trues_snoc (l : List Bool) (k : Nat) (h : k < l.length) : trues 0 (l.take (k + 1)) = trues 0 (l.take k) ++ (if l[k] then [(k : Int)] else []) := by
 have gen : ∀ (l : List Bool) (j k : Nat) (h : k < l.length), trues j (l.take (k + 1)) = trues j (l.take k) ++ (if l[k] then [((j + k : Nat) : Int)] else []) := by
  intro l
  induction l with
  | nil => intro j k h; simp at h
  | cons b r ih =>
   intro j k h
   cases k with
   | zero => simp [trues]
   | succ k =>
    simp only [List.take_succ_cons, trues]
    rw [ih (j + 1) k (by simpa using h)]
    simp [Nat.add_assoc, Nat.add_comm 1 k]
 simpa using gen l 0 k h

theorem trues_len (l : List Bool) (j : Nat) : (trues j l).length ≤ l.length := by
 induction l generalizing j with
 | nil => simp [trues]
 | cons b r ih => have := ih (j + 1); simp only [trues]; split <;> simp <;> omega

theorem reached_len (f : Flow) (n : Int) : (reached f n).length = f.steps.length := by
 unfold reached; rw [(visit_keeps f _ _ _).1]; simp

theorem reach_c (v : Value) (f : Flow) (n : Int) (g : G) (fl0 : RFlow g v f) :
  CallsIn Wd 0 Tryz.prog 17 #[v, .int .i64 n] g.w (Ret g (OwnR 3 g (reach f n))) := by
 obtain ⟨a1, n1, c1, a2, n2, c2, rfl, rs0, rs1⟩ := id fl0
 obtain ⟨_, _, e⟩ := rs0.isSlice; obtain ⟨rfl, rfl, rfl⟩ := Value.slice.inj e; clear e
 have hs := St.start g
 refine enter Tryz.func17 rfl Tryz.ntmps17 rfl ?_
 refine W_seq ?_; refine W_region ?_
 refine WL_o rfl rfl (OpR_box rfl hs rfl rfl ?_); clear hs; rintro b1 g1 hs hqe; replace rs0 := rs0.mono hqe; replace rs1 := rs1.mono hqe; replace fl0 := fl0.mono hqe
 refine P1 T.ok rfl rfl rfl ?_; refine WL_nil ?_; (with_reducible refine T_then ?_); refine W_seq ?_; refine W_seq ?_; refine W_region ?_; refine WL_o rfl rfl (OpR_loadO T.ok 0 rfl hs rfl rfl rfl ?_); refine P1 T.ok rfl rfl rfl ?_
 refine WL_o rfl rfl (OpR_lit T.ok rfl hs (vs := [(0, .int .i64 n)]) (cells := [.int .i64 n]) rfl rfl rfl rfl rfl rfl (by decide) (by decide) (by kernel_rfl) rfl ?_); rintro b2 g2 hs hqe; replace rs0 := rs0.mono hqe; replace rs1 := rs1.mono hqe; replace fl0 := fl0.mono hqe
 obtain ⟨g3, hw3, hs3, hqe3, hrl⟩ := hs.fzRow (α := Int) (xs := [n]) (i := 0) rfl (RcL.ints _ [n])
 clear hqe; have hqe := hqe3; rw [← hw3]; replace hs := hs3; replace rs0 := rs0.mono hqe; replace rs1 := rs1.mono hqe; replace fl0 := fl0.mono hqe
 skip
 refine WL_o rfl rfl (OpR_ret cl32 allF rfl rfl rfl rfl rfl (given_c _ _ f [n] _ fl0 hrl) ?_); rintro g1 _ hf1 rfl; replace hs := hs.call hf1; have hqe := hf1.le; replace rs0 := rs0.mono hqe; replace rs1 := rs1.mono hqe; replace fl0 := fl0.mono hqe
 refine P1 T.ok rfl rfl rfl ?_; refine WL_nil ?_; (with_reducible refine T_then ?_)
 cases hg : given f [n] with
 | false =>
  refine W_yes rfl rfl ?_
  refine W_seq ?_; refine W_region ?_; refine P1 T.ok rfl rfl rfl ?_; refine WL_nil ?_; (with_reducible refine T_then ?_)
  refine W_ret (ret1 rfl rfl (hs.ret ?_))
  unfold reach; rw [hg]; exact OwnR.nil _ _ _ _
 | true =>
  refine W_no rfl rfl ?_
  have hgn : (0 ≤ n ∧ n < f.steps.length) ∧ valid f = true := by
   unfold given at hg
   simp only [Bool.and_eq_true, List.any_cons, List.any_nil, Bool.or_false, Bool.not_eq_true', badStep, Bool.or_eq_false_iff, decide_eq_false_iff_not] at hg
   exact ⟨by omega, hg.1⟩
  have hl40 := valid_len hgn.2
  refine W_skip ?_; (with_reducible refine T_then ?_); refine W_seq ?_; refine W_seq ?_; refine W_region ?_; refine WL_o rfl rfl (OpR_loadO T.ok 0 rfl hs rfl rfl rfl ?_); refine P1 T.ok rfl rfl rfl ?_
  refine WL_o rfl rfl (OpR_ret cl30 allF rfl rfl rfl rfl rfl (reached_c _ f n _ fl0 hgn.2 hgn.1.1 hgn.1.2) ?_); rintro g4 v hf4 hown
  obtain ⟨g5, hw5, hs5, hqe5, hrs⟩ := hs.ownRs hf4 hown
  replace hs := hs5; rw [← hw5]
  obtain ⟨ab, cb, rfl⟩ := hrs.isSlice
  have hlb := reached_len f n
  generalize hbs : reached f n = bs at *
  replace hs := (hs.drop 0).nilrow 3 1 none
  refine P1 T.ok rfl rfl rfl ?_; refine P1 T.ok rfl rfl rfl ?_; refine WL_nil ?_; (with_reducible refine T_then ?_); refine W_block ?_
  refine W_loop (fun m a' w => ∃ (k : Nat) (g' : G) (v : Value), w = g'.w ∧ St g g' [.row 3 1 v (trues 0 (bs.take k)).length ((trues 0 (bs.take k)).map (Value.int .i64))] ∧ G.le g5 g' ∧ k ≤ bs.length ∧ m = bs.length - k ∧
   Fr 28 [] [(4, v), (14, .slice ab bs.length cb), (15, .int .i64 bs.length), (16, .int .i64 k)] a') bs.length (fun a' ha => ⟨0, _, _, rfl, hs, G.le.refl _, Nat.zero_le _, rfl, ha.keep (by (repeat (first | exact trivial | refine ⟨rfl, ?_⟩)))⟩) ?_
  clear hs
  rintro m a' _ ⟨k, g', v, rfl, hs, le0, hk, rfl, ha'⟩
  have rs2 := hrs.mono le0
  revert a'
  (with_reducible refine T_wp ?_); refine W_seq ?_; refine W_region ?_; refine P1 T.ok rfl rfl rfl ?_; refine WL_nil ?_; (with_reducible refine T_then ?_); refine W_seq ?_
  by_cases hlt : k < bs.length
  ·refine W_yes (b := decide ((k : Int) < (bs.length : Int))) (by simp; omega) rfl ?_
   have htl := trues_len (bs.take k) 0
   rw [List.length_take] at htl
   have hsn := trues_snoc bs k hlt
   refine W_skip ?_; (with_reducible refine T_then ?_); refine W_seq ?_; refine W_block ?_; refine W_seq ?_; refine W_region ?_; refine P1 T.ok rfl rfl rfl ?_
   refine WL_o rfl rfl (OpR_idx T.ok rfl rs2 (y := bs[k]) (by simp [geti, hlt]) rfl rfl rfl rfl rfl rfl ?_)
   rintro b p ys hep rfl
   refine WL_o rfl rfl (OpR_loadE T.ok 0 rfl hep rfl rfl ?_)
   refine P1 T.ok rfl rfl rfl ?_; refine P1 T.ok rfl rfl rfl ?_; refine WL_nil ?_; (with_reducible refine T_then ?_); refine W_seq ?_; refine W_region ?_; refine P1 T.ok rfl rfl rfl ?_; refine WL_nil ?_; (with_reducible refine T_then ?_)
   cases hb : bs[k] with
   | false =>
    refine W_no rfl rfl ?_
    rw [hb, if_neg (by simp), List.append_nil] at hsn
    refine W_skip ?_; (with_reducible refine T_bn ?_); (with_reducible refine T_then ?_); refine W_region ?_; refine P1 T.ok rfl rfl rfl ?_; refine P1 T.ok rfl rfl rfl ?_; refine WL_nil ?_
    exact fun a ha => ⟨bs.length - (k + 1), by omega, k + 1, _, v, rfl, by rw [hsn]; exact hs, le0, by omega, rfl, ha.keep ⟨rfl, rfl, rfl, kI rfl (by rw [wr (by omega) (by omega)]; omega), trivial⟩⟩
   | true =>
    refine W_yes rfl rfl ?_
    rw [hb, if_pos rfl] at hsn
    refine W_region ?_; refine P1 T.ok rfl rfl rfl ?_; refine P1 T.ok rfl rfl rfl ?_
    refine WL_o rfl rfl (OpR_lit T.ok rfl hs (vs := [(0, .int .i64 k)]) (cells := [.int .i64 k]) rfl rfl rfl rfl rfl rfl (by decide) (by decide) (by kernel_rfl) rfl ?_); rintro b2 g2 hs hqe; replace le0 := G.le.trans le0 hqe; replace rs2 := rs2.mono hqe
    skip
    refine WL_o rfl rfl (OpR_append T.ok 1 rfl hs rfl rfl rfl rfl rfl rfl rfl (by decide) rfl (Src.of_row (hs.own 0 _ rfl).1).2 (by simp [Value.oneCell']) (by show ((trues 0 (bs.take k)).length + 1) * 8 ≤ _; omega) (by unfold maxLen; omega) ?_); rintro a' c' g3 hs hqe; replace le0 := G.le.trans le0 hqe; replace rs2 := rs2.mono hqe
    refine P1 T.ok rfl rfl rfl ?_; refine WL_nil ?_; (with_reducible refine T_bn ?_); (with_reducible refine T_then ?_); refine W_region ?_; refine P1 T.ok rfl rfl rfl ?_; refine P1 T.ok rfl rfl rfl ?_; refine WL_nil ?_
    exact fun a ha => ⟨bs.length - (k + 1), by omega, k + 1, _, _, rfl, by rw [hsn]; simpa using hs.drop 0, le0, by omega, rfl, ha.keep ⟨rfl, rfl, rfl, kI rfl (by rw [wr (by omega) (by omega)]; omega), trivial⟩⟩
  ·refine W_no (b := decide ((k : Int) < (bs.length : Int))) (by simp; omega) rfl ?_
   obtain rfl : k = bs.length := by omega
   refine W_exit ?_; (with_reducible refine T_tx ?_; with_reducible refine T_tx ?_); (with_reducible refine T_bx ?_); (with_reducible refine T_then ?_); refine W_seq ?_; refine W_region ?_; refine P1 T.ok rfl rfl rfl ?_; refine P1 T.ok rfl rfl rfl ?_; refine WL_nil ?_; (with_reducible refine T_then ?_)
   refine W_ret (ret1 rfl rfl (hs.ret ?_))
   unfold reach
   rw [hg, if_pos rfl, hbs]
   rw [List.take_length] at hs
   exact hs.toOwn (i := 0) rfl (RcL.ints _ _)
end Go.Proofs.YtnggomfbgmlkhaaGreatDoor

/- The walks through package graph: Ends. -/
namespace Go.Proofs.YtnggomfbgmlkhaaGreatDoor
open Go Go.K
set_option maxRecDepth 10000
attribute [local irreducible] W WL OpR bitAnd bitOr bitXor bitClr bitNot shlI shrI
set_option maxHeartbeats 1000000

def intVs (xs : List Int) : List Value := xs.map (Value.int .i64)

theorem ints_take (xs : List Int) (n : Nat) : (intVs xs).take n = intVs (xs.take n) := by simp [intVs]
theorem fidx_cases {α : Type} (p : α → Bool) (l : List α) : (fidx p l = -1 ∧ ∀ x ∈ l, p x = false) ∨ ∃ k, ∃ h : k < l.length, fidx p l = k ∧ p l[k] = true ∧ ∀ j (h : j < l.length), j < k → p l[j] = false := by
 unfold fidx
 cases h : l.any p with
 | false => exact .inl ⟨rfl, fun x hx => by simpa using (List.any_eq_false.1 h) x hx⟩
 | true =>
  refine .inr ⟨l.findIdx p, ?_, rfl, ?_, ?_⟩
  ·obtain ⟨x, hx, hp⟩ := List.any_eq_true.1 h
   exact List.findIdx_lt_length_of_exists ⟨x, hx, hp⟩
  ·exact List.findIdx_getElem
  ·intro j hj hlt
   simpa using List.not_of_lt_findIdx hlt

theorem set_same {α : Type} {L : List α} {i : Nat} {e : α} (h : L[i]? = some e) : L.set i e = L := by
 apply List.ext_getElem?
 intro j
 rw [List.getElem?_set]
 split
 ·rename_i h'; subst h'
  rw [h]; simp [(List.getElem?_eq_some_iff.1 h).1]
 ·rfl
theorem take_set_succ {α : Type} {cs : List α} {i : Nat} {x : α} (h : i < cs.length) : (cs.set i x).take (i + 1) = cs.take i ++ [x] := by
 rw [List.set_eq_take_append_cons_drop, if_pos h, show cs.take i ++ x :: cs.drop (i + 1) = (cs.take i ++ [x]) ++ cs.drop (i + 1) from by simp]
 exact List.take_left' (by simp; omega)
theorem filter_first {p : Int → Bool} (xs : List Int) (k : Nat) (h : k < xs.length) (hp : p xs[k] = true) (hno : ∀ j (h : j < xs.length), j < k → p xs[j] = false) :
  xs.take k = (xs.take (k + 1)).filter (fun x => !p x) := by
 rw [List.take_succ_eq_append_getElem h, List.filter_append]
 have : (xs.take k).filter (fun x => !p x) = xs.take k := by
  rw [List.filter_eq_self]
  intro x hx
  obtain ⟨j, hj, rfl⟩ := List.mem_iff_getElem.1 hx
  simp only [List.length_take] at hj
  rw [List.getElem_take, hno j (by omega) (by omega)]; rfl
 rw [this]; simp [hp]

theorem deleteFunc_c (p : Int → Bool) (g0 g : G) (L : List Ent) (i : Nat) (v fv : Value) (xs : List Int) (hs : St g0 g L) (hi : L[i]? = some (.row 3 1 v xs.length (intVs xs))) (hlen : xs.length ≤ 1000000)
  (hp : ∀ (g' : G) (x : Int), x ∈ xs → g.le g' → CallV Tryz.prog fv [.int .i64 x] g'.w (Ret g' fun _ r => r = .bool (p x))) :
  CallsIn Wd 0 Tryz.prog 39 #[v, fv] g.w fun e w' => ∃ g' v', g'.w = w' ∧ e = .returned v' ∧ g.le g' ∧ St g0 g' (L.set i (.row 3 1 v' (xs.filter fun x => !p x).length (intVs (xs.filter fun x => !p x)))) := by
 have le0 := G.le.refl g
 have hiL : i < L.length := (List.getElem?_eq_some_iff.1 hi).1
 obtain ⟨ad, cap, rfl⟩ := (hs.own i _ hi).1.form
 refine enter Tryz.func39 rfl Tryz.ntmps39 rfl ?_
 refine W_seq ?_; refine W_region ?_; refine P1 T.ok rfl rfl rfl ?_; refine WL_nil ?_; (with_reducible refine T_then ?_); refine W_seq ?_; refine W_region ?_; refine P1 T.ok rfl rfl rfl ?_; refine P1 T.ok rfl rfl rfl ?_
 obtain ⟨gf, hwf, hlf, hrs, hback⟩ := hs.lend (α := Int) hi (RcL.ints _ _)
 rw [← hwf]
 refine WL_o rfl rfl (OpR_ret cl65 allF rfl rfl rfl rfl rfl (indexInt_c _ _ xs p gf hrs (fun g' x hx hle => hp g' x hx (hlf.trans hle))) ?_)
 rintro g2 _ hf2 rfl
 obtain ⟨g3, hw3, hf3⟩ := hback g2 hf2
 rw [← hw3]
 replace hs := hs.call hf3
 have hqe := hf3.le; replace le0 := G.le.trans le0 hqe
 refine P1 T.ok rfl rfl rfl ?_; refine WL_nil ?_; (with_reducible refine T_then ?_); refine W_seq ?_; refine W_seq ?_; refine W_region ?_; refine P1 T.ok rfl rfl rfl ?_; refine P1 T.ok rfl rfl rfl ?_; refine WL_nil ?_; (with_reducible refine T_then ?_)
 rcases fidx_cases p xs with ⟨hfi, hno⟩ | ⟨k0, hk0, hfi, hpk, hno⟩
 ·refine W_yes (b := fidx p xs == -1) (by simp [hfi]) rfl ?_
  refine W_seq ?_; refine W_region ?_; refine P1 T.ok rfl rfl rfl ?_; refine P1 T.ok rfl rfl rfl ?_; refine WL_nil ?_; (with_reducible refine T_then ?_)
  refine W_ret ?_; (with_reducible refine T_tr ?_)
  refine ret1 rfl rfl ?_
  have hfil : (xs.filter fun x => !p x) = xs := List.filter_eq_self.2 fun x hx => by simp [hno x hx]
  refine ⟨g3, _, rfl, rfl, le0, ?_⟩
  rw [hfil, set_same hi]
  exact hs
 ·refine W_no (b := fidx p xs == -1) (by simp only [hfi, beq_eq_false_iff_ne]; omega) rfl ?_
  rw [hfi]
  obtain ⟨⟨b0, p0, rfl⟩, hcap⟩ : (∃ b p, ad = some ⟨b, p, none⟩) ∧ xs.length ≤ cap ∧ cap ≤ maxLen := by
   rcases (hs.own i _ hi).1.2 with ⟨h, _⟩ | ⟨b, q, c, cur, e1, _, _, h1, h2, _⟩
   ·omega
   ·simp only [Value.slice.injEq] at e1
    obtain ⟨rfl, _, rfl⟩ := e1
    exact ⟨⟨b, q, rfl⟩, h1, h2⟩
  unfold maxLen at hcap
  refine W_skip ?_; (with_reducible refine T_then ?_); refine W_seq ?_; refine W_seq ?_; refine W_region ?_; (iterate 3 refine P1 T.ok rfl rfl rfl ?_); refine WL_nil ?_; (with_reducible refine T_then ?_); refine W_block ?_
  refine W_loop (fun m a' w => ∃ (j i' : Nat) (cs : List Int) (g' : G), w = g'.w ∧ St g0 g' (L.set i (.row 3 1 (.slice (some ⟨b0, p0, none⟩) xs.length cap) xs.length (intVs cs))) ∧ G.le g g' ∧ j ≤ xs.length ∧ m = xs.length - j ∧
   cs.length = xs.length ∧ i' < j ∧ cs.take i' = (xs.take j).filter (fun x => !p x) ∧ cs.drop j = xs.drop j ∧
   Fr 42 [] [(0, .slice (some ⟨b0, p0, none⟩) xs.length cap), (1, fv), (5, .int .i64 i'), (6, .int .i64 j)] a') (xs.length - (k0 + 1))
   (fun a' ha => ⟨k0 + 1, k0, xs, g3, rfl, by rw [set_same hi]; exact hs, le0, hk0, rfl, rfl, Nat.lt_succ_self _, filter_first xs k0 hk0 hpk hno, rfl, ha.keep ⟨rfl, rfl, rfl, kI rfl (by rw [wr (by omega) (by omega)]; omega), trivial⟩⟩) ?_
  clear hs le0
  rintro m a' _ ⟨j, i', cs, g', rfl, hs, le0, hj, rfl, hcl, hij, htk, hdr, ha'⟩
  have hri : (L.set i (.row 3 1 (.slice (some ⟨b0, p0, none⟩) xs.length cap) xs.length (intVs cs)))[i]? = some (.row 3 1 (.slice (some ⟨b0, p0, none⟩) xs.length cap) xs.length (intVs cs)) := by simp [hiL]
  revert a'
  (with_reducible refine T_wp ?_); refine W_seq ?_; refine W_seq ?_; refine W_region ?_; (iterate 4 refine P1 T.ok rfl rfl rfl ?_); refine WL_nil ?_; (with_reducible refine T_then ?_)
  by_cases hlt : j < xs.length
  ·refine W_yes (b := decide ((j : Int) < (xs.length : Int))) (by simp; omega) rfl ?_
   have hxj : cs[j]? = some xs[j] := by
    have := congrArg (fun l => l[0]?) hdr
    simpa [List.getElem?_eq_getElem hlt] using this
   refine W_skip ?_; (with_reducible refine T_then ?_); refine W_seq ?_; refine W_block ?_; refine W_seq ?_; refine W_region ?_; refine P1 T.ok rfl rfl rfl ?_; refine P1 T.ok rfl rfl rfl ?_
   refine WL_o rfl rfl (OpR_idxR T.ok rfl (hs.own i _ hri).1 (by omega) (by omega) rfl rfl rfl rfl rfl rfl ?_)
   rintro b q hh; obtain ⟨rfl, rfl⟩ : b0 = b ∧ p0 = q := by simpa using hh
   refine WL_o rfl rfl (OpR_loadR T.ok (j * 1) rfl (hs.own i _ hri).1 rfl (v := .int .i64 xs[j]) (by show (intVs cs)[j * 1]? = _; rw [Nat.mul_one]; simp [intVs, hxj]) ?_)
   refine P1 T.ok rfl rfl rfl ?_; refine WL_nil ?_; (with_reducible refine T_then ?_); refine W_seq ?_; refine W_region ?_; refine P1 T.ok rfl rfl rfl ?_; refine P1 T.ok rfl rfl rfl ?_
   refine WL_o rfl rfl (OpR_retV rfl rfl rfl rfl rfl rfl (hp _ _ (List.getElem_mem hlt) le0) ?_); rintro g4 _ hf4 rfl; replace hs := hs.call hf4; have hqe := hf4.le; replace le0 := G.le.trans le0 hqe
   refine P1 T.ok rfl rfl rfl ?_; refine WL_nil ?_; (with_reducible refine T_then ?_)
   have hft : (xs.take (j + 1)).filter (fun x => !p x) = (xs.take j).filter (fun x => !p x) ++ (if p xs[j] then [] else [xs[j]]) := by
    rw [List.take_succ_eq_append_getElem hlt, List.filter_append]
    cases hpp : p xs[j] <;> simp [hpp]
   have hdr2 : cs.drop (j + 1) = xs.drop (j + 1) := by
    have := congrArg (List.drop 1) hdr
    simpa [List.drop_drop] using this
   cases hb : p xs[j] with
   | true =>
    refine W_no rfl rfl ?_
    rw [hb, if_pos rfl, List.append_nil] at hft
    refine W_skip ?_; (with_reducible refine T_bn ?_); (with_reducible refine T_then ?_); refine W_region ?_; (iterate 3 refine P1 T.ok rfl rfl rfl ?_); refine WL_nil ?_
    exact fun a ha => ⟨xs.length - (j + 1), by omega, j + 1, i', cs, _, rfl, hs, le0, by omega, rfl, hcl, by omega, by rw [htk, hft], hdr2, ha.keep ⟨rfl, rfl, rfl, kI rfl (by rw [wr (by omega) (by omega)]; omega), trivial⟩⟩
   | false =>
    refine W_yes rfl rfl ?_
    rw [hb, if_neg (by simp)] at hft
    refine W_seq ?_; refine W_region ?_; (iterate 3 refine P1 T.ok rfl rfl rfl ?_)
    refine WL_o rfl rfl (OpR_idxR T.ok rfl (hs.own i _ hri).1 (by omega) (by omega) rfl rfl rfl rfl rfl rfl ?_)
    rintro b q hh; obtain ⟨rfl, rfl⟩ : b0 = b ∧ p0 = q := by simpa using hh
    refine WL_n rfl (OpR_storeR T.ok i (i' * 1) (us := [.int .i64 xs[j]]) rfl hs hri rfl rfl rfl rfl rfl rfl (by simp) (by simp [intVs]; omega) (xs' := intVs (cs.set i' xs[j])) ?_ ?_)
    ·rw [Nat.mul_one]
     unfold spl intVs
     rw [List.map_set, List.set_eq_take_append_cons_drop]
     simp [hcl, show i' < xs.length from by omega]
    rintro g5 hs hqe; replace le0 := G.le.trans le0 hqe
    refine WL_nil ?_; (with_reducible refine T_then ?_); refine W_region ?_; (iterate 3 refine P1 T.ok rfl rfl rfl ?_); refine WL_nil ?_; (with_reducible refine T_bn ?_); (with_reducible refine T_then ?_); refine W_region ?_; (iterate 3 refine P1 T.ok rfl rfl rfl ?_); refine WL_nil ?_
    exact fun a ha => ⟨xs.length - (j + 1), by omega, j + 1, i' + 1, cs.set i' xs[j], _, rfl, by rw [List.set_set] at hs; exact hs, le0, by omega, rfl, by simp [hcl], by omega,
     by rw [hft, ← htk, take_set_succ (by omega)],
     by rw [List.drop_set_of_lt (by omega)]; exact hdr2, ha.keep ⟨rfl, rfl, kI rfl (by rw [wr (by omega) (by omega)]; omega), kI rfl (by rw [wr (by omega) (by omega)]; omega), trivial⟩⟩
  ·refine W_no (b := decide ((j : Int) < (xs.length : Int))) (by simp; omega) rfl ?_
   obtain rfl : j = xs.length := by omega
   rw [List.take_length] at htk
   refine W_exit ?_; (with_reducible refine T_tx ?_; with_reducible refine T_tx ?_); (with_reducible refine T_bx ?_); (with_reducible refine T_then ?_); refine W_seq ?_; refine W_region ?_; refine P1 T.ok rfl rfl rfl ?_; refine P1 T.ok rfl rfl rfl ?_
   refine WL_o rfl rfl (OpR_cut T.ok rfl rfl rfl rfl rfl (a := i') (b := xs.length) ⟨_, rfl⟩ rfl (by omega) (by omega) ?_)
   refine WL_n rfl (OpR_clear T.ok i (a := i') (xs' := intVs (cs.take i') ++ (List.replicate (xs.length - i') [Value.int .i64 0]).flatten) rfl hs hri rfl rfl rfl rfl rfl (by decide) rfl (by decide) ?_ (by omega) (by rw [Nat.mul_one, ints_take]; rfl) ?_)
   ·by_cases hci : cap = i'
    ·exact .inl (by omega)
    ·right; rw [if_neg hci]; simp [Addr.add_lit]
   rintro g5 hs hqe; replace le0 := G.le.trans le0 hqe
   rw [List.set_set] at hs
   refine WL_nil ?_; (with_reducible refine T_then ?_); refine W_seq ?_; refine W_region ?_; refine P1 T.ok rfl rfl rfl ?_; refine P1 T.ok rfl rfl rfl ?_
   refine WL_o rfl rfl (OpR_cut T.ok rfl rfl rfl rfl rfl (a := 0) (b := i') rfl ⟨_, rfl⟩ (by omega) (by omega) ?_)
   refine P1 T.ok rfl rfl rfl ?_; refine WL_nil ?_; (with_reducible refine T_then ?_)
   refine W_ret ?_; skip
   refine ret1 rfl rfl ?_
   have hri2 : ∀ e, (L.set i e)[i]? = some e := fun e => by simp [hiL]
   have hcut := hs.cutTo (i := i) (a := i') (hri2 _) (by omega)
   refine ⟨_, _, rfl, rfl, le0, ?_⟩
   have hl : (xs.filter fun x => !p x).length = i' := by rw [← htk, List.length_take]; omega
   rw [List.set_set] at hcut
   rw [hl, ← htk]
   have he : List.take (i' * 1) (intVs (cs.take i') ++ (List.replicate (xs.length - i') [Value.int .i64 0]).flatten) = intVs (cs.take i') := by
    rw [List.take_left' (by simp [intVs]; omega)]
   rw [he] at hcut
   exact hcut

theorem ends1_c (n : Int) (f : Flow) (b : Nat) (cs : List Value) (g : G) (ep0 : EP g b 0 cs) (hc : RFlowC g cs f) (h0 : 0 ≤ n) (h1 : n < f.steps.length) :
  CallsIn Wd 0 Tryz.prog 40 #[.int .i64 n, .pointer (some ⟨b, 0, none⟩)] g.w (Ret g fun _ r => r = .bool (!isEnd (stepD f n))) := by
 obtain ⟨a1, n1, c1, a2, n2, c2, rfl, rs0, rs1⟩ := hc
 obtain ⟨_, _, e⟩ := rs0.isSlice; obtain ⟨rfl, rfl, rfl⟩ := Value.slice.inj e; clear e
 have hs := St.start g
 refine enter Tryz.func40 rfl Tryz.ntmps40 rfl ?_
 refine W_seq ?_; refine W_region ?_; refine P1 T.ok rfl rfl rfl ?_; refine WL_nil ?_; (with_reducible refine T_then ?_); refine W_seq ?_; refine W_region ?_; refine P1 T.ok rfl rfl rfl ?_; refine WL_o rfl rfl (OpR_loadE T.ok 2 rfl ep0 rfl rfl ?_); refine P1 T.ok rfl rfl rfl ?_
 refine WL_o rfl rfl (OpR_idx T.ok rfl rs0 (y := stepD f n) (by unfold stepD; rw [geti_of (j := n.toNat) (by omega) (by omega)]; simp [List.getD_eq_getElem?_getD, show n.toNat < f.steps.length from by omega]) rfl rfl rfl rfl rfl rfl ?_)
 rintro b q ys hep hrc
 have hrv : RStepV _ (.agg ys.toArray) (stepD f n) := ⟨ys, rfl, hrc⟩
 obtain ⟨b1, b2, b3, b4, b5, b6, rfl, _, _⟩ := hrc
 refine WL_o rfl rfl (OpR_loadE T.ok 0 rfl hep rfl rfl ?_)
 skip
 refine WL_o rfl rfl (OpR_ret cl35 allF rfl rfl rfl rfl rfl (isEnd_c _ _ _ hrv) ?_); rintro g1 _ hf1 rfl; replace hs := hs.call hf1; have hqe := hf1.le; replace ep0 := ep0.mono hqe; replace rs0 := rs0.mono hqe; replace rs1 := rs1.mono hqe
 refine P1 T.ok rfl rfl rfl ?_; refine P1 T.ok rfl rfl rfl ?_; refine WL_nil ?_; (with_reducible refine T_then ?_)
 exact W_ret (ret1 rfl rfl (hs.ret rfl))

theorem trues_range {l : List Bool} {j : Nat} {x : Int} (h : x ∈ trues j l) : (j : Int) ≤ x ∧ x < j + l.length := by
 induction l generalizing j with
 | nil => simp [trues] at h
 | cons b r ih =>
  simp only [trues, List.mem_append] at h
  rcases h with h | h
  ·split at h
   ·simp at h; subst h; simp; omega
   ·simp at h
  ·have := ih h; simp at this ⊢; omega
theorem reach_range {f : Flow} {n x : Int} (h : x ∈ reach f n) : 0 ≤ x ∧ x < f.steps.length := by
 unfold reach at h
 split at h
 ·have := trues_range h
  rw [reached_len] at this
  omega
 ·simp at h
theorem reach_len (f : Flow) (n : Int) : (reach f n).length ≤ 40 := by
 unfold reach
 split
 ·rename_i h
  have h1 := trues_len (reached f n) 0
  rw [reached_len] at h1
  have : valid f = true := by unfold given at h; simp only [Bool.and_eq_true] at h; exact h.1
  have := valid_len this
  omega
 ·simp

theorem ends_c (v : Value) (f : Flow) (g : G) (fl0 : RFlow g v f) :
  CallsIn Wd 0 Tryz.prog 18 #[v] g.w (Ret g (OwnR 3 g (ends f))) := by
 obtain ⟨a1, n1, c1, a2, n2, c2, rfl, rs0, rs1⟩ := id fl0
 have hs := St.start g
 refine enter Tryz.func18 rfl Tryz.ntmps18 rfl ?_
 refine W_seq ?_; refine W_region ?_
 refine WL_o rfl rfl (OpR_box rfl hs rfl rfl ?_); clear hs; rintro b1 g1 hs hqe; replace rs0 := rs0.mono hqe; replace rs1 := rs1.mono hqe; replace fl0 := fl0.mono hqe
 refine P1 T.ok rfl rfl rfl ?_; refine WL_nil ?_; (with_reducible refine T_then ?_); refine W_seq ?_; refine W_region ?_; refine WL_o rfl rfl (OpR_loadO T.ok 0 rfl hs rfl rfl rfl ?_)
 obtain ⟨g2, hw2, hs2, hqe, hep⟩ := hs.fzObj (i := 0) rfl; replace hs := hs2; clear hs2; rw [← hw2]; replace rs0 := rs0.mono hqe; replace rs1 := rs1.mono hqe; replace fl0 := fl0.mono hqe
 have ep0 := hep; clear hep
 skip
 refine WL_o rfl rfl (OpR_ret cl17 allF rfl rfl rfl rfl rfl (reach_c _ f 0 _ fl0) ?_); rintro g4 v hf4 ⟨cells, h1, h2⟩
 replace hs := hs.getOwn hf4 h1
 have hqe := hf4.le; replace ep0 := ep0.mono hqe; replace rs0 := rs0.mono hqe; replace rs1 := rs1.mono hqe; replace fl0 := fl0.mono hqe
 have hce : cells = intVs (reach f 0) := by
  have key : ∀ (xs : List Int) (cells : List Value), RcL g4 cells xs → cells = intVs xs := by
   intro xs
   induction xs with
   | nil => intro cells h; exact h
   | cons x xs ih => rintro cells ⟨c1, c2, rfl, h1, h2⟩; rw [ih _ h2, show c1 = [Value.int .i64 x] from h1]; rfl
  exact key _ _ h2
 subst hce
 refine P1 T.ok rfl rfl rfl ?_
 have hl := reach_len f 0
 have hdel := deleteFunc_c (fun x => !isEnd (stepD f x)) g g4 _ 0 v (.func (.func 40) #[] #[.pointer (some ⟨b1, 0, none⟩)]) (reach f 0) hs rfl (by omega)
  (fun g' x hx hle => CallV_of cl40 rfl (ends1_c x f _ _ g' (ep0.mono hle) ⟨_, _, _, _, _, _, rfl, rs0.mono hle, rs1.mono hle⟩ (reach_range hx).1 (reach_range hx).2))
 refine WL_o rfl rfl (OpR_call cl39 allF rfl rfl rfl rfl rfl (hdel.mono ?_))
 rintro _ _ ⟨g5, v', rfl, rfl, hqe, hs5⟩
 refine ⟨_, rfl, ?_⟩
 refine P1 T.ok rfl rfl rfl ?_; refine WL_nil ?_; (with_reducible refine T_then ?_)
 refine W_ret (ret1 rfl rfl (hs5.ret ?_))
 have he : (reach f 0).filter (fun x => !(!isEnd (stepD f x))) = ends f := by unfold ends; simp
 rw [he] at hs5
 exact hs5.toOwn (i := 0) rfl (RcL.ints _ _)
end Go.Proofs.YtnggomfbgmlkhaaGreatDoor

/- The walks through package graph: Clone, cycle. -/
namespace Go.Proofs.YtnggomfbgmlkhaaGreatDoor
open Go Go.K
set_option maxRecDepth 10000
attribute [local irreducible] W WL OpR bitAnd bitOr bitXor bitClr bitNot shlI shrI
set_option maxHeartbeats 1000000

theorem RcL.ints_inv {g : G} : ∀ {xs : List Int} {cells : List Value}, RcL g cells xs → cells = intVs xs
 | [], _, h => h
 | x :: xs, _, ⟨c1, c2, e, h1, h2⟩ => by rw [e, RcL.ints_inv h2, show c1 = [Value.int .i64 x] from h1]; rfl

theorem clone_c (v : Value) (xs : List Int) (g : G) (rs0 : Rs g v xs) (hlen : xs.length ≤ 1000000) :
  CallsIn Wd 0 Tryz.prog 34 #[v] g.w (Ret g (OwnR 3 g xs)) := by
 obtain ⟨ad, n, c, rfl, hn, hc, hr⟩ := id rs0
 have hs := St.start g
 have le0 := G.le.refl g
 refine enter Tryz.func34 rfl Tryz.ntmps34 rfl ?_
 refine W_seq ?_; refine W_region ?_; refine P1 T.ok rfl rfl rfl ?_; refine WL_nil ?_; (with_reducible refine T_then ?_); refine W_seq ?_; refine W_seq ?_; refine W_region ?_; refine P1 T.ok rfl rfl rfl ?_
 refine WL_o rfl rfl (OpR_eqNilSlice T.ok (neg := false) rfl rfl rfl rfl rfl ?_)
 refine WL_nil ?_; (with_reducible refine T_then ?_)
 cases ad with
 | none =>
  refine W_yes rfl rfl ?_
  refine W_seq ?_; refine W_region ?_; refine P1 T.ok rfl rfl rfl ?_; refine WL_nil ?_; (with_reducible refine T_then ?_)
  refine W_ret (ret1 rfl rfl (hs.ret ?_))
  have : xs = [] := by
   rcases hr with h | ⟨b, o, cells, h, _⟩
   ·exact List.eq_nil_of_length_eq_zero (by omega)
   ·cases h
  subst this
  exact OwnR.nil _ _ _ _
 | some ad =>
  refine W_no rfl rfl ?_
  refine W_skip ?_; (with_reducible refine T_then ?_); refine W_seq ?_; refine W_region ?_
  refine WL_o rfl rfl (OpR_lit T.ok rfl hs (vs := []) (cells := []) rfl rfl rfl rfl rfl rfl (by decide) (by decide) (by kernel_rfl) rfl ?_); rintro b2 g2 hs hqe; replace le0 := G.le.trans le0 hqe; replace rs0 := rs0.mono hqe
  refine P1 T.ok rfl rfl rfl ?_
  obtain ⟨hm, news, hrc, hsrc⟩ := Src.of_rs rs0
  subst hm
  obtain rfl := RcL.ints_inv hrc
  refine WL_o rfl rfl (OpR_append T.ok 0 rfl hs rfl rfl rfl rfl rfl rfl rfl (by decide) rfl hsrc (by simp [intVs, Value.oneCell']) (by show (0 + xs.length) * 8 ≤ _; omega) (by unfold maxLen; omega) ?_); rintro a' c' g3 hs hqe; replace le0 := G.le.trans le0 hqe; replace rs0 := rs0.mono hqe
  refine P1 T.ok rfl rfl rfl ?_; refine WL_nil ?_; (with_reducible refine T_then ?_)
  exact W_ret (ret1 rfl rfl (hs.ret (hs.toOwn (i := 0) rfl (RcL.ints _ _))))
end Go.Proofs.YtnggomfbgmlkhaaGreatDoor
