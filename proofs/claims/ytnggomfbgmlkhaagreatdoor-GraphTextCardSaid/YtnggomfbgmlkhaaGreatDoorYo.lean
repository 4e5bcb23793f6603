/- The lines of windows and steps; the walk through Parse. -/
import Derived.Test.YtnggomfbgmlkhaaGreatDoorYn
import Derived.Test.YtnggomfbgmlkhaaGreatDoorYg

/- Reading the line of a window. -/
namespace Go.Proofs.YtnggomfbgmlkhaaGreatDoor
open Go Go.K
set_option maxRecDepth 10000
attribute [local irreducible] W WL OpR bitAnd bitOr bitXor bitClr bitNot shlI shrI
set_option maxHeartbeats 4000000

/-- A thing from some block on. -/
def objF (B : Nat) (cs : List Value) (t : TypeId) : Fact :=
 ⟨fun v g => ∃ b, v = .pointer (some ⟨b, 0, none⟩) ∧ Ent.holds B g (.obj b (.cells cs.toArray t (0, 0))), fun v g g' hf ⟨b, e, h⟩ => ⟨b, e, h.kept fun b hb => ⟨hf.below.block b (h.lt b hb).2.1, hf.im b (h.lt b hb).2.1⟩⟩⟩
def strPtr (s : List UInt8) : Fact := ⟨fun v g => ∃ b p, v = .pointer (some ⟨b, p, none⟩) ∧ EP g b p [.string (bs s)], fun _ _ _ hf ⟨b, p, e, h⟩ => ⟨b, p, e, h.mono hf.le⟩⟩
def isF (p : Value → Prop) : Fact := ⟨fun v _ => p v, fun _ _ _ _ h => h⟩
def numF (x : List UInt8) : Fact := isF fun v => ∃ n : Nat, numM x = some n ∧ v = .int .i64 n
def noF : Fact := isF fun _ => False

def winV (w : Window) : List Value := [.int .i64 w.src, .int .i64 w.dst, .int .i64 w.limit]
def winL : List Window → List Value
 | [] => []
 | w :: r => winV w ++ winL r
theorem winL_len : ∀ l : List Window, (winL l).length = l.length * 3
 | [] => rfl
 | w :: r => by
  show (winV w ++ winL r).length = _
  rw [List.length_append, winL_len r, List.length_cons]; show 3 + _ = _; omega
theorem RcL.win (g : G) : ∀ l : List Window, RcL g (winL l) l
 | [] => rfl
 | w :: r => ⟨winV w, winL r, rfl, rfl, RcL.win g r⟩
theorem RcL.win_inv {g : G} : ∀ {l : List Window} {cs : List Value}, RcL g cs l → cs = winL l
 | [], _, h => h
 | x :: r, _, ⟨c1, c2, e, h1, h2⟩ => by rw [e, show c1 = winV x from h1, RcL.win_inv h2]; rfl

/-- A flow that is read: the thing, its steps, its windows. -/
def flL (b : Nat) (f : Flow) (sa : Option Addr) (sc : Nat) (wa : Option Addr) (wc : Nat) (scs : List Value) : List Ent :=
 [.obj b (.cells [.int .i64 f.moveMin, .int .i64 f.moveMax, .slice sa f.steps.length sc, .slice wa f.windows.length wc].toArray 27 (0, 0)),
  .row 51 7 (.slice sa f.steps.length sc) f.steps.length scs,
  .row 54 3 (.slice wa f.windows.length wc) f.windows.length (winL f.windows)]
def FlO (b : Nat) (f : Flow) (L : List Ent) (g0 g : G) : Prop := ∃ sa sc wa wc scs, St g0 g (flL b f sa sc wa wc scs ++ L) ∧ RcL g scs f.steps

theorem win_yes {line a x y z : List UInt8} (hps : splitC 32 line = [a, x, y, z]) (h : fixedOk [wWindow, [], [], []] [a, x, y, z]) : windowM line = match numM x, numM y, numM z with
   | some x, some y, some z => some ⟨x, y, z⟩
   | _, _, _ => none := by
 obtain rfl := fixed_at h 0 (w := wWindow) rfl rfl (by decide)
 unfold windowM
 rw [hps]
 show (if wWindow = wWindow then _ else _) = _
 rw [if_pos rfl]
 cases numM x <;> cases numM y <;> cases numM z <;> rfl
theorem win_not {line : List UInt8} (h : ¬ fixedOk [wWindow, [], [], []] (splitC 32 line)) : windowM line = none := by
 unfold windowM
 split
 ·rename_i a0 a1 a2 a3 he
  rw [if_neg]
  rintro rfl
  refine h ?_
  rw [he]
  refine ⟨Nat.le_refl _, fun i w hw => ?_⟩
  match i, hw with
  | 0, hw => exact .inr hw
  | 1, hw => exact .inl (Option.some.inj hw).symm
  | 2, hw => exact .inl (Option.some.inj hw).symm
  | 3, hw => exact .inl (Option.some.inj hw).symm
  | _ + 4, hw => cases hw
 ·rfl
theorem win_len {line : List UInt8} (h : (splitC 32 line).length ≠ 4) : windowM line = none := by
 unfold windowM
 split
 ·rename_i a0 a1 a2 a3 he
  rw [he] at h; exact absurd rfl h
 ·rfl
def windowR (f : Flow) (line : List UInt8) : Option Window := (windowM line).bind fun w => if (rightWindow w 40 && decide ((f.windows.length : Int) < 20) && decide ((f.steps.length : Int) > 0) && follows f.windows w) = true then some w else none
theorem four_of {α : Type} {l : List α} (h : l.length = 4) : ∃ a b c d, l = [a, b, c, d] := by
 match l, h with
 | [a, b, c, d], _ => exact ⟨a, b, c, d, rfl⟩








theorem window_c {b : Nat} (f : Flow) (line : List UInt8) (hlen : line.length ≤ 1000000) (hfw : f.windows.length ≤ 1000000) {g0 g : G} {L : List Ent} (hF : FlAt g) (hO : FlO b f L g0 g) :
  CallsIn Wd 0 Tryz.prog 57 #[.pointer (some ⟨b, 0, none⟩), .string (bs line)] g.w fun e w' =>
   RetS g (fun g' r => r = .tuple #[] ∧ ∃ w, windowR f line = some w ∧ FlO b { f with windows := f.windows ++ [w] } L g0 g') e w' ∨
   (windowR f line = none ∧ BoomS g wrongs (fun g' => ∃ cs, St g0 g' (flo b cs :: L)) e w') := by
 have le0 := G.le.refl g
 obtain ⟨sa, sc, wa, wc, scs, hs, rc0⟩ := hO
 unfold flL at hs
 unfold flo
 replace hs : St g0 g (.obj b (.cells [.int .i64 f.moveMin, .int .i64 f.moveMax, .slice sa f.steps.length sc, .slice wa f.windows.length wc].toArray 27 (0, 0)) ::
  .row 51 7 (.slice sa f.steps.length sc) f.steps.length scs ::
  .row 54 3 (.slice wa f.windows.length wc) f.windows.length (winL f.windows) :: L) := hs
 refine enter Tryz.func57 rfl Tryz.ntmps57 rfl ?_
 refine W_seq ?_; refine W_region ?_; refine P1 T.ok rfl rfl rfl ?_
 refine WL_o rfl rfl (OpR_lit T.ok rfl hs (vs := [(0, .string (bs wWindow)), (1, .string (bs [])), (2, .string (bs [])), (3, .string (bs []))]) (cells := [.string (bs wWindow), .string (bs []), .string (bs []), .string (bs [])]) rfl rfl rfl rfl rfl rfl (by decide) (by decide) (by kernel_rfl) rfl ?_)
 clear hs
 rintro bl gl hs hqe; replace le0 := G.le.trans le0 hqe; replace rc0 := rc0.mono hqe
 obtain ⟨gz, hwz, hsz, hqz, rs1⟩ := hs.fzRow (α := Str) (xs := [⟨wWindow⟩, ⟨[]⟩, ⟨[]⟩, ⟨[]⟩]) (i := 0) rfl (RcL.strs _ [wWindow, [], [], []])
 have hqe := hqz; rw [← hwz]; replace hs := hsz; clear hsz; replace le0 := G.le.trans le0 hqe; replace rc0 := rc0.mono hqe
 skip
 refine WL_o rfl rfl (OpR_orp cl74 allF rfl rfl rfl rfl rfl (words_c line [wWindow, [], [], []] _ _ hlen (by decide) (hF.mono le0) rs1) ?_ ?_)
 rotate_left
 ·intro hn g5 hf5
  replace hs := hs.call hf5
  replace le0 := le0.trans hf5.le
  (repeat (first | with_reducible refine T_tp ?_ | with_reducible refine T_bp ?_ | with_reducible refine T_gp ?_))
  exact panic0 (.inr ⟨by unfold windowR; rw [win_not hn]; rfl, BoomS.intro le0 ⟨_, (hs.drop 1).drop 1⟩⟩)
 rintro g4 v hf4 ⟨hfo, rs0⟩
 replace hs := hs.call hf4
 have hqe := hf4.le; replace le0 := G.le.trans le0 hqe; replace rs1 := rs1.mono hqe; replace rc0 := rc0.mono hqe
 obtain ⟨pa, pc, rfl⟩ := rs0.isSlice
 rw [List.length_map] at rs0 ⊢
 have hpm := split_mem 32 line
 generalize hps : splitC 32 line = ps at *
 refine P1 T.ok rfl rfl rfl ?_; refine WL_nil ?_; (with_reducible refine T_then ?_); refine W_seq ?_; refine W_region ?_; (iterate 3 refine P1 T.ok rfl rfl rfl ?_)
 by_cases h4 : ps.length = 4
 ·obtain ⟨a, x, y, z, rfl⟩ := four_of h4
  refine WL_know 11 (b' := true) (by simp) rfl ?_
  refine WL_o rfl rfl (OpR_orp cl75 allF rfl rfl rfl rfl rfl (must_c true _) ?_ fun h => (by cases h))
  rintro g3 _ hf3 ⟨rfl, _⟩
  replace hs := hs.call hf3
  have hqe := hf3.le; replace le0 := G.le.trans le0 hqe; replace rs0 := rs0.mono hqe; replace rs1 := rs1.mono hqe; replace rc0 := rc0.mono hqe
  have hmv := win_yes hps hfo
  refine WL_nil ?_; (with_reducible refine T_then ?_); refine W_seq ?_
  have hs0 := hs
  apply W_draw allF rfl (Fact.eq _ :: (strPtr x) :: Fact.eq _ :: (numF x) :: Fact.eq _ :: (strPtr y) :: Fact.eq _ :: (numF y) :: Fact.eq _ :: (strPtr z) :: Fact.eq _ :: (numF z) :: (isF fun v => ∃ x0 y0 z0 : Nat, numM x = some x0 ∧ numM y = some y0 ∧ numM z = some z0 ∧ v = .agg #[.int .i64 x0, .int .i64 y0, .int .i64 z0]) :: (objF g3.dr.w.heap.size [.int .i64 0, .int .i64 0, .int .i64 0] 54) :: []) 14 [(12, 25), (13, 5)] rfl rfl
  ·refine D_s (js := []) (by kernel_rfl) (fun _ _ => QA_nil (DPu T.ok rfl rfl rfl)) ?_
   refine D_cons (D_step2 (js := [(0, 13)]) (by kernel_rfl) fun gd hf => ?_) ?_
   ·have hsd := hs.dr.call hf; have hfe := (G.le_dr _).trans hf.le
    refine QA_eq rfl ?_
    refine QA_nil ?_
    refine D_yes rfl ?_
    refine OpR_idx T.ok rfl (rs0.mono hfe) (y := ⟨x⟩) rfl rfl rfl rfl rfl rfl rfl ?_
    intro b p ys hep hrc
    exact ⟨_, rfl, Fr0.refl _, b, p, rfl, by rw [← show ys = [Value.string (bs x)] from hrc]; exact hep⟩
   refine D_cons (D_step2 (js := [(1, 14)]) (by kernel_rfl) fun gd hf => ?_) ?_
   ·have hsd := hs.dr.call hf; have hfe := (G.le_dr _).trans hf.le
    refine QA_any fun v1 h1 => ?_
    refine QA_nil ?_
    obtain ⟨b, p, rfl, hep⟩ := h1
    refine D_yes rfl ?_
    refine OpR_loadE T.ok 0 rfl hep rfl rfl ?_
    refine ⟨_, rfl, Fr0.refl _, ?_⟩
    exact rfl
   refine D_cons (D_step2 (js := [(2, 15)]) (by kernel_rfl) fun gd hf => ?_) ?_
   ·have hsd := hs.dr.call hf; have hfe := (G.le_dr _).trans hf.le
    refine QA_eq rfl ?_
    refine QA_nil ?_
    refine D_yes rfl ?_
    refine OpR_orp cl77 allF rfl rfl rfl rfl rfl (number_c x _ (Nat.le_trans (hpm x (by simp)) hlen) (hF.mono (le0.trans hfe))) (fun g' v hf' h => ⟨g', rfl, hf', h⟩) fun hn g' hf' => ?_
    replace hsd := hsd.call hf'
    (repeat (first | with_reducible refine T_tp ?_ | with_reducible refine T_bp ?_ | with_reducible refine T_gp ?_))
    exact panic0 (.inr ⟨by unfold windowR; rw [hmv, hn]; first | rfl | (cases numM x <;> first | rfl | (cases numM y <;> rfl)), BoomS.intro ((le0.trans hfe).trans hf'.le) ⟨_, (hsd.drop 1).drop 1⟩⟩)
   refine D_s (js := []) (by kernel_rfl) (fun _ _ => QA_nil (DPu T.ok rfl rfl rfl)) ?_
   refine D_cons (D_step2 (js := [(4, 17)]) (by kernel_rfl) fun gd hf => ?_) ?_
   ·have hsd := hs.dr.call hf; have hfe := (G.le_dr _).trans hf.le
    refine QA_eq rfl ?_
    refine QA_nil ?_
    refine D_yes rfl ?_
    refine OpR_idx T.ok rfl (rs0.mono hfe) (y := ⟨y⟩) rfl rfl rfl rfl rfl rfl rfl ?_
    intro b p ys hep hrc
    exact ⟨_, rfl, Fr0.refl _, b, p, rfl, by rw [← show ys = [Value.string (bs y)] from hrc]; exact hep⟩
   refine D_cons (D_step2 (js := [(5, 18)]) (by kernel_rfl) fun gd hf => ?_) ?_
   ·have hsd := hs.dr.call hf; have hfe := (G.le_dr _).trans hf.le
    refine QA_any fun v5 h5 => ?_
    refine QA_nil ?_
    obtain ⟨b, p, rfl, hep⟩ := h5
    refine D_yes rfl ?_
    refine OpR_loadE T.ok 0 rfl hep rfl rfl ?_
    refine ⟨_, rfl, Fr0.refl _, ?_⟩
    exact rfl
   refine D_cons (D_step2 (js := [(6, 19)]) (by kernel_rfl) fun gd hf => ?_) ?_
   ·have hsd := hs.dr.call hf; have hfe := (G.le_dr _).trans hf.le
    refine QA_eq rfl ?_
    refine QA_nil ?_
    refine D_yes rfl ?_
    refine OpR_orp cl77 allF rfl rfl rfl rfl rfl (number_c y _ (Nat.le_trans (hpm y (by simp)) hlen) (hF.mono (le0.trans hfe))) (fun g' v hf' h => ⟨g', rfl, hf', h⟩) fun hn g' hf' => ?_
    replace hsd := hsd.call hf'
    (repeat (first | with_reducible refine T_tp ?_ | with_reducible refine T_bp ?_ | with_reducible refine T_gp ?_))
    exact panic0 (.inr ⟨by unfold windowR; rw [hmv, hn]; first | rfl | (cases numM x <;> first | rfl | (cases numM y <;> rfl)), BoomS.intro ((le0.trans hfe).trans hf'.le) ⟨_, (hsd.drop 1).drop 1⟩⟩)
   refine D_s (js := []) (by kernel_rfl) (fun _ _ => QA_nil (DPu T.ok rfl rfl rfl)) ?_
   refine D_cons (D_step2 (js := [(8, 21)]) (by kernel_rfl) fun gd hf => ?_) ?_
   ·have hsd := hs.dr.call hf; have hfe := (G.le_dr _).trans hf.le
    refine QA_eq rfl ?_
    refine QA_nil ?_
    refine D_yes rfl ?_
    refine OpR_idx T.ok rfl (rs0.mono hfe) (y := ⟨z⟩) rfl rfl rfl rfl rfl rfl rfl ?_
    intro b p ys hep hrc
    exact ⟨_, rfl, Fr0.refl _, b, p, rfl, by rw [← show ys = [Value.string (bs z)] from hrc]; exact hep⟩
   refine D_cons (D_step2 (js := [(9, 22)]) (by kernel_rfl) fun gd hf => ?_) ?_
   ·have hsd := hs.dr.call hf; have hfe := (G.le_dr _).trans hf.le
    refine QA_any fun v9 h9 => ?_
    refine QA_nil ?_
    obtain ⟨b, p, rfl, hep⟩ := h9
    refine D_yes rfl ?_
    refine OpR_loadE T.ok 0 rfl hep rfl rfl ?_
    refine ⟨_, rfl, Fr0.refl _, ?_⟩
    exact rfl
   refine D_cons (D_step2 (js := [(10, 23)]) (by kernel_rfl) fun gd hf => ?_) ?_
   ·have hsd := hs.dr.call hf; have hfe := (G.le_dr _).trans hf.le
    refine QA_eq rfl ?_
    refine QA_nil ?_
    refine D_yes rfl ?_
    refine OpR_orp cl77 allF rfl rfl rfl rfl rfl (number_c z _ (Nat.le_trans (hpm z (by simp)) hlen) (hF.mono (le0.trans hfe))) (fun g' v hf' h => ⟨g', rfl, hf', h⟩) fun hn g' hf' => ?_
    replace hsd := hsd.call hf'
    (repeat (first | with_reducible refine T_tp ?_ | with_reducible refine T_bp ?_ | with_reducible refine T_gp ?_))
    exact panic0 (.inr ⟨by unfold windowR; rw [hmv, hn]; first | rfl | (cases numM x <;> first | rfl | (cases numM y <;> rfl)), BoomS.intro ((le0.trans hfe).trans hf'.le) ⟨_, (hsd.drop 1).drop 1⟩⟩)
   refine D_cons (D_step2 (js := [(3, 16), (7, 20), (11, 24)]) (by kernel_rfl) fun gd hf => ?_) ?_
   ·have hsd := hs.dr.call hf; have hfe := (G.le_dr _).trans hf.le
    refine QA_any fun v3 h3 => ?_; refine QA_any fun v7 h7 => ?_; refine QA_any fun v11 h11 => ?_
    refine QA_nil ?_
    obtain ⟨x0, hx, rfl⟩ := h3
    obtain ⟨y0, hy, rfl⟩ := h7
    obtain ⟨z0, hz, rfl⟩ := h11
    refine D_yes rfl ?_
    refine OpR_build T.ok rfl (vs := [(0, .int .i64 x0), (1, .int .i64 y0), (2, .int .i64 z0)]) (cells := [.int .i64 x0, .int .i64 y0, .int .i64 z0]) rfl rfl rfl rfl [(0, 1), (1, 1), (2, 1)] rfl (by kernel_rfl) ?_
    exact ⟨_, rfl, Fr0.refl _, x0, y0, z0, hx, hy, hz, rfl⟩
   refine D_cons (D_step2 (js := []) (by kernel_rfl) fun gd hf => ?_) ?_
   ·have hsd := hs.dr.call hf; have hfe := (G.le_dr _).trans hf.le
    refine QA_nil ?_
    refine D_yes rfl ?_
    refine OpR_alloc T.ok rfl (St.start gd) rfl rfl ?_
    intro b g' hs' hle
    have ho := hs'.own 0 _ rfl
    exact ⟨g', rfl, hs'.fr0, b, rfl, Nat.le_trans hf.below.size ho.1, ho.2⟩
   exact D_nil
  intro g1 hf1; refine QA_any fun v12 h12 => ?_; refine QA_any fun v13 h13 => ?_; refine QA_nil ?_
  replace hs := hs.dr.call hf1; have hqe := (G.le_dr _).trans hf1.le; replace le0 := G.le.trans le0 hqe; replace rs0 := rs0.mono hqe; replace rs1 := rs1.mono hqe; replace rc0 := rc0.mono hqe
  obtain ⟨x0, y0, z0, hx, hy, hz, rfl⟩ := h12
  obtain ⟨bx, rfl, hob⟩ := h13
  replace hs := hs0.dr.getOwn hf1 hob; clear hs0
  rw [hx, hy, hz] at hmv
  replace hmv : windowM line = some ⟨x0, y0, z0⟩ := hmv
  have hwr : windowR f line = if (rightWindow ⟨x0, y0, z0⟩ 40 && decide ((f.windows.length : Int) < 20) && decide ((f.steps.length : Int) > 0) && follows f.windows ⟨x0, y0, z0⟩) = true then some ⟨x0, y0, z0⟩ else none := by unfold windowR; rw [hmv]; rfl
  clear h4
  skip
  refine WL_n rfl (OpR_storeO T.ok 0 rfl hs rfl rfl rfl rfl rfl rfl rfl rfl rfl ?_); replace hs := hs; rintro g1 hs hqe; replace le0 := G.le.trans le0 hqe; replace rs0 := rs0.mono hqe; replace rs1 := rs1.mono hqe; replace rc0 := rc0.mono hqe
  refine WL_nil ?_; (with_reducible refine T_then ?_); refine W_seq ?_
  cases hw1 : rightWindow ⟨x0, y0, z0⟩ 40 with
  | false =>
   apply W_draw allF rfl (Fact.eq _ :: Fact.eq _ :: Fact.eq _ :: Fact.eq _ :: Fact.eq _ :: Fact.eq _ :: Fact.eq _ :: Fact.eq _ :: Fact.eq _ :: Fact.eq _ :: Fact.eq _ :: Fact.eq _ :: Fact.eq _ :: Fact.eq _ :: Fact.eq _ :: Fact.eq _ :: Fact.eq _ :: Fact.eq _ :: Fact.eq _ :: Fact.eq _ :: Fact.eq _ :: Fact.eq _ :: Fact.eq _ :: Fact.eq _ :: Fact.eq _ :: Fact.eq _ :: noF :: []) 27 [(26, 52)] rfl rfl
   ·refine D_s (js := []) (by kernel_rfl) (fun _ hf => QA_nil (DLo T.ok 0 rfl rfl (hs.dr.call hf) rfl rfl rfl rfl)) ?_
    refine D_cons (D_step2 (js := [(0, 26)]) (by kernel_rfl) fun gd hf => ?_) ?_
    ·have hsd := hs.dr.call hf; have hfe := (G.le_dr _).trans hf.le
     refine QA_eq rfl ?_
     refine QA_nil ?_
     refine D_yes rfl ?_
     refine OpR_ret cl46 allF rfl rfl rfl rfl rfl (rightWindow_c ⟨x0, y0, z0⟩ 40 _ (by decide) (by decide)) fun g' v h1 h2 => ⟨g', rfl, h1, ?_⟩
     rw [h2]; exact congrArg Value.bool hw1
    refine D_s (js := [(1, 27), (1, 27)]) (by kernel_rfl) (fun _ _ => QA_eq rfl (QA_eq rfl (QA_nil (DPu T.ok rfl rfl rfl)))) ?_
    refine D_s (js := [(2, 28)]) (by kernel_rfl) (fun _ _ => QA_eq rfl (QA_nil (DNo rfl rfl))) ?_
    refine D_s (js := [(3, 29), (2, 28)]) (by kernel_rfl) (fun _ _ => QA_eq rfl (QA_eq rfl (QA_nil (DNo rfl rfl)))) ?_
    refine D_s (js := [(4, 30), (2, 28)]) (by kernel_rfl) (fun _ _ => QA_eq rfl (QA_eq rfl (QA_nil (DNo rfl rfl)))) ?_
    refine D_s (js := [(5, 31), (2, 28)]) (by kernel_rfl) (fun _ _ => QA_eq rfl (QA_eq rfl (QA_nil (DNo rfl rfl)))) ?_
    refine D_s (js := [(6, 32), (2, 28)]) (by kernel_rfl) (fun _ _ => QA_eq rfl (QA_eq rfl (QA_nil (DNo rfl rfl)))) ?_
    refine D_cons (D_step2 (js := [(7, 33), (2, 28)]) (by kernel_rfl) fun gd hf => ?_) ?_
    ·have hsd := hs.dr.call hf; have hfe := (G.le_dr _).trans hf.le
     refine QA_eq rfl ?_; refine QA_eq rfl ?_
     refine QA_nil ?_
     first | (refine D_no rfl ?_; exact rfl) | (refine D_yes rfl ?_; refine OpR_pure _ T.ok rfl ?_; exact ⟨_, rfl, Fr0.refl _, congrArg Value.bool hw2⟩)
    refine D_s (js := [(2, 28), (8, 34)]) (by kernel_rfl) (fun _ _ => QA_eq rfl (QA_eq rfl (QA_nil (DPu T.ok rfl rfl rfl)))) ?_
    refine D_s (js := [(9, 35)]) (by kernel_rfl) (fun _ _ => QA_eq rfl (QA_nil (DPu T.ok rfl rfl rfl))) ?_
    refine D_s (js := [(10, 36)]) (by kernel_rfl) (fun _ _ => QA_eq rfl (QA_nil (DNo rfl rfl))) ?_
    refine D_s (js := [(11, 37), (10, 36)]) (by kernel_rfl) (fun _ _ => QA_eq rfl (QA_eq rfl (QA_nil (DNo rfl rfl)))) ?_
    refine D_s (js := [(12, 38), (10, 36)]) (by kernel_rfl) (fun _ _ => QA_eq rfl (QA_eq rfl (QA_nil (DNo rfl rfl)))) ?_
    refine D_s (js := [(13, 39), (10, 36)]) (by kernel_rfl) (fun _ _ => QA_eq rfl (QA_eq rfl (QA_nil (DNo rfl rfl)))) ?_
    refine D_s (js := [(14, 40), (10, 36)]) (by kernel_rfl) (fun _ _ => QA_eq rfl (QA_eq rfl (QA_nil (DNo rfl rfl)))) ?_
    refine D_cons (D_step2 (js := [(15, 41), (10, 36)]) (by kernel_rfl) fun gd hf => ?_) ?_
    ·have hsd := hs.dr.call hf; have hfe := (G.le_dr _).trans hf.le
     refine QA_eq rfl ?_; refine QA_eq rfl ?_
     refine QA_nil ?_
     first | (refine D_no rfl ?_; exact rfl) | (refine D_yes rfl ?_; refine OpR_pure _ T.ok rfl ?_; exact ⟨_, rfl, Fr0.refl _, congrArg Value.bool hw3⟩)
    refine D_s (js := [(10, 36), (16, 42)]) (by kernel_rfl) (fun _ _ => QA_eq rfl (QA_eq rfl (QA_nil (DPu T.ok rfl rfl rfl)))) ?_
    refine D_s (js := [(17, 43)]) (by kernel_rfl) (fun _ _ => QA_eq rfl (QA_nil (DPu T.ok rfl rfl rfl))) ?_
    refine D_s (js := [(18, 44)]) (by kernel_rfl) (fun _ _ => QA_eq rfl (QA_nil (DNo rfl rfl))) ?_
    refine D_s (js := [(19, 45), (18, 44)]) (by kernel_rfl) (fun _ _ => QA_eq rfl (QA_eq rfl (QA_nil (DNo rfl rfl)))) ?_
    refine D_s (js := [(20, 46), (18, 44)]) (by kernel_rfl) (fun _ _ => QA_eq rfl (QA_eq rfl (QA_nil (DNo rfl rfl)))) ?_
    refine D_s (js := [(21, 47), (18, 44)]) (by kernel_rfl) (fun _ _ => QA_eq rfl (QA_eq rfl (QA_nil (DNo rfl rfl)))) ?_
    refine D_s (js := [(18, 44)]) (by kernel_rfl) (fun _ _ => QA_eq rfl (QA_nil (DNo rfl rfl))) ?_
    refine D_s (js := [(22, 48), (23, 49), (18, 44), (18, 44)]) (by kernel_rfl) (fun _ _ => QA_eq rfl (QA_eq rfl (QA_eq rfl (QA_eq rfl (QA_nil (DNo rfl rfl)))))) ?_
    refine D_s (js := [(18, 44), (24, 50)]) (by kernel_rfl) (fun _ _ => QA_eq rfl (QA_eq rfl (QA_nil (DPu T.ok rfl rfl rfl)))) ?_
    refine D_cons (D_step2 (js := [(25, 51)]) (by kernel_rfl) fun gd hf => ?_) ?_
    ·have hsd := hs.dr.call hf; have hfe := (G.le_dr _).trans hf.le
     refine QA_eq rfl ?_
     refine QA_nil ?_
     refine D_yes rfl ?_
     refine OpR_orp cl75 allF rfl rfl rfl rfl rfl (must_c false _) (fun g' v hf' h => (by cases h.2)) fun _ g' hf' => ?_
     replace hsd := hsd.call hf'
     (repeat (first | with_reducible refine T_tp ?_ | with_reducible refine T_bp ?_ | with_reducible refine T_gp ?_))
     exact panic0 (.inr ⟨by rw [hwr, hw1]; rfl, BoomS.intro ((le0.trans hfe).trans hf'.le) ⟨_, (((hsd.drop 0).drop 1).drop 1)⟩⟩)
    exact D_nil
   intro g1 hf1; refine QA_any fun v26 h26 => ?_; refine QA_nil ?_
   replace hs := hs.dr.call hf1; have hqe := (G.le_dr _).trans hf1.le; replace le0 := G.le.trans le0 hqe; replace rs0 := rs0.mono hqe; replace rs1 := rs1.mono hqe; replace rc0 := rc0.mono hqe
   exact h26.elim
  | true =>
  cases hw2 : decide ((f.windows.length : Int) < 20) with
  | false =>
   apply W_draw allF rfl (Fact.eq _ :: Fact.eq _ :: Fact.eq _ :: Fact.eq _ :: Fact.eq _ :: Fact.eq _ :: Fact.eq _ :: Fact.eq _ :: Fact.eq _ :: Fact.eq _ :: Fact.eq _ :: Fact.eq _ :: Fact.eq _ :: Fact.eq _ :: Fact.eq _ :: Fact.eq _ :: Fact.eq _ :: Fact.eq _ :: Fact.eq _ :: Fact.eq _ :: Fact.eq _ :: Fact.eq _ :: Fact.eq _ :: Fact.eq _ :: Fact.eq _ :: Fact.eq _ :: noF :: []) 27 [(26, 52)] rfl rfl
   ·refine D_s (js := []) (by kernel_rfl) (fun _ hf => QA_nil (DLo T.ok 0 rfl rfl (hs.dr.call hf) rfl rfl rfl rfl)) ?_
    refine D_cons (D_step2 (js := [(0, 26)]) (by kernel_rfl) fun gd hf => ?_) ?_
    ·have hsd := hs.dr.call hf; have hfe := (G.le_dr _).trans hf.le
     refine QA_eq rfl ?_
     refine QA_nil ?_
     refine D_yes rfl ?_
     refine OpR_ret cl46 allF rfl rfl rfl rfl rfl (rightWindow_c ⟨x0, y0, z0⟩ 40 _ (by decide) (by decide)) fun g' v h1 h2 => ⟨g', rfl, h1, ?_⟩
     rw [h2]; exact congrArg Value.bool hw1
    refine D_s (js := [(1, 27), (1, 27)]) (by kernel_rfl) (fun _ _ => QA_eq rfl (QA_eq rfl (QA_nil (DPu T.ok rfl rfl rfl)))) ?_
    refine D_s (js := [(2, 28)]) (by kernel_rfl) (fun _ _ => QA_eq rfl (QA_nil (DPu T.ok rfl rfl rfl))) ?_
    refine D_s (js := [(3, 29), (2, 28)]) (by kernel_rfl) (fun _ _ => QA_eq rfl (QA_eq rfl (QA_nil (DPu T.ok rfl rfl rfl)))) ?_
    refine D_s (js := [(4, 30), (2, 28)]) (by kernel_rfl) (fun _ _ => QA_eq rfl (QA_eq rfl (QA_nil (DPu T.ok rfl rfl rfl)))) ?_
    refine D_s (js := [(5, 31), (2, 28)]) (by kernel_rfl) (fun _ hf => QA_eq rfl (QA_eq rfl (QA_nil (DLo T.ok 1 rfl rfl (hs.dr.call hf) rfl rfl rfl rfl)))) ?_
    refine D_s (js := [(6, 32), (2, 28)]) (by kernel_rfl) (fun _ _ => QA_eq rfl (QA_eq rfl (QA_nil (DPu T.ok rfl rfl rfl)))) ?_
    refine D_cons (D_step2 (js := [(7, 33), (2, 28)]) (by kernel_rfl) fun gd hf => ?_) ?_
    ·have hsd := hs.dr.call hf; have hfe := (G.le_dr _).trans hf.le
     refine QA_eq rfl ?_; refine QA_eq rfl ?_
     refine QA_nil ?_
     first | (refine D_no rfl ?_; exact rfl) | (refine D_yes rfl ?_; refine OpR_pure _ T.ok rfl ?_; exact ⟨_, rfl, Fr0.refl _, congrArg Value.bool hw2⟩)
    refine D_s (js := [(2, 28), (8, 34)]) (by kernel_rfl) (fun _ _ => QA_eq rfl (QA_eq rfl (QA_nil (DPu T.ok rfl rfl rfl)))) ?_
    refine D_s (js := [(9, 35)]) (by kernel_rfl) (fun _ _ => QA_eq rfl (QA_nil (DPu T.ok rfl rfl rfl))) ?_
    refine D_s (js := [(10, 36)]) (by kernel_rfl) (fun _ _ => QA_eq rfl (QA_nil (DNo rfl rfl))) ?_
    refine D_s (js := [(11, 37), (10, 36)]) (by kernel_rfl) (fun _ _ => QA_eq rfl (QA_eq rfl (QA_nil (DNo rfl rfl)))) ?_
    refine D_s (js := [(12, 38), (10, 36)]) (by kernel_rfl) (fun _ _ => QA_eq rfl (QA_eq rfl (QA_nil (DNo rfl rfl)))) ?_
    refine D_s (js := [(13, 39), (10, 36)]) (by kernel_rfl) (fun _ _ => QA_eq rfl (QA_eq rfl (QA_nil (DNo rfl rfl)))) ?_
    refine D_s (js := [(14, 40), (10, 36)]) (by kernel_rfl) (fun _ _ => QA_eq rfl (QA_eq rfl (QA_nil (DNo rfl rfl)))) ?_
    refine D_cons (D_step2 (js := [(15, 41), (10, 36)]) (by kernel_rfl) fun gd hf => ?_) ?_
    ·have hsd := hs.dr.call hf; have hfe := (G.le_dr _).trans hf.le
     refine QA_eq rfl ?_; refine QA_eq rfl ?_
     refine QA_nil ?_
     first | (refine D_no rfl ?_; exact rfl) | (refine D_yes rfl ?_; refine OpR_pure _ T.ok rfl ?_; exact ⟨_, rfl, Fr0.refl _, congrArg Value.bool hw3⟩)
    refine D_s (js := [(10, 36), (16, 42)]) (by kernel_rfl) (fun _ _ => QA_eq rfl (QA_eq rfl (QA_nil (DPu T.ok rfl rfl rfl)))) ?_
    refine D_s (js := [(17, 43)]) (by kernel_rfl) (fun _ _ => QA_eq rfl (QA_nil (DPu T.ok rfl rfl rfl))) ?_
    refine D_s (js := [(18, 44)]) (by kernel_rfl) (fun _ _ => QA_eq rfl (QA_nil (DNo rfl rfl))) ?_
    refine D_s (js := [(19, 45), (18, 44)]) (by kernel_rfl) (fun _ _ => QA_eq rfl (QA_eq rfl (QA_nil (DNo rfl rfl)))) ?_
    refine D_s (js := [(20, 46), (18, 44)]) (by kernel_rfl) (fun _ _ => QA_eq rfl (QA_eq rfl (QA_nil (DNo rfl rfl)))) ?_
    refine D_s (js := [(21, 47), (18, 44)]) (by kernel_rfl) (fun _ _ => QA_eq rfl (QA_eq rfl (QA_nil (DNo rfl rfl)))) ?_
    refine D_s (js := [(18, 44)]) (by kernel_rfl) (fun _ _ => QA_eq rfl (QA_nil (DNo rfl rfl))) ?_
    refine D_s (js := [(22, 48), (23, 49), (18, 44), (18, 44)]) (by kernel_rfl) (fun _ _ => QA_eq rfl (QA_eq rfl (QA_eq rfl (QA_eq rfl (QA_nil (DNo rfl rfl)))))) ?_
    refine D_s (js := [(18, 44), (24, 50)]) (by kernel_rfl) (fun _ _ => QA_eq rfl (QA_eq rfl (QA_nil (DPu T.ok rfl rfl rfl)))) ?_
    refine D_cons (D_step2 (js := [(25, 51)]) (by kernel_rfl) fun gd hf => ?_) ?_
    ·have hsd := hs.dr.call hf; have hfe := (G.le_dr _).trans hf.le
     refine QA_eq rfl ?_
     refine QA_nil ?_
     refine D_yes rfl ?_
     refine OpR_orp cl75 allF rfl rfl rfl rfl rfl (must_c false _) (fun g' v hf' h => (by cases h.2)) fun _ g' hf' => ?_
     replace hsd := hsd.call hf'
     (repeat (first | with_reducible refine T_tp ?_ | with_reducible refine T_bp ?_ | with_reducible refine T_gp ?_))
     exact panic0 (.inr ⟨by rw [hwr, hw1, hw2]; rfl, BoomS.intro ((le0.trans hfe).trans hf'.le) ⟨_, (((hsd.drop 0).drop 1).drop 1)⟩⟩)
    exact D_nil
   intro g1 hf1; refine QA_any fun v26 h26 => ?_; refine QA_nil ?_
   replace hs := hs.dr.call hf1; have hqe := (G.le_dr _).trans hf1.le; replace le0 := G.le.trans le0 hqe; replace rs0 := rs0.mono hqe; replace rs1 := rs1.mono hqe; replace rc0 := rc0.mono hqe
   exact h26.elim
  | true =>
  cases hw3 : decide ((f.steps.length : Int) > 0) with
  | false =>
   apply W_draw allF rfl (Fact.eq _ :: Fact.eq _ :: Fact.eq _ :: Fact.eq _ :: Fact.eq _ :: Fact.eq _ :: Fact.eq _ :: Fact.eq _ :: Fact.eq _ :: Fact.eq _ :: Fact.eq _ :: Fact.eq _ :: Fact.eq _ :: Fact.eq _ :: Fact.eq _ :: Fact.eq _ :: Fact.eq _ :: Fact.eq _ :: Fact.eq _ :: Fact.eq _ :: Fact.eq _ :: Fact.eq _ :: Fact.eq _ :: Fact.eq _ :: Fact.eq _ :: Fact.eq _ :: noF :: []) 27 [(26, 52)] rfl rfl
   ·refine D_s (js := []) (by kernel_rfl) (fun _ hf => QA_nil (DLo T.ok 0 rfl rfl (hs.dr.call hf) rfl rfl rfl rfl)) ?_
    refine D_cons (D_step2 (js := [(0, 26)]) (by kernel_rfl) fun gd hf => ?_) ?_
    ·have hsd := hs.dr.call hf; have hfe := (G.le_dr _).trans hf.le
     refine QA_eq rfl ?_
     refine QA_nil ?_
     refine D_yes rfl ?_
     refine OpR_ret cl46 allF rfl rfl rfl rfl rfl (rightWindow_c ⟨x0, y0, z0⟩ 40 _ (by decide) (by decide)) fun g' v h1 h2 => ⟨g', rfl, h1, ?_⟩
     rw [h2]; exact congrArg Value.bool hw1
    refine D_s (js := [(1, 27), (1, 27)]) (by kernel_rfl) (fun _ _ => QA_eq rfl (QA_eq rfl (QA_nil (DPu T.ok rfl rfl rfl)))) ?_
    refine D_s (js := [(2, 28)]) (by kernel_rfl) (fun _ _ => QA_eq rfl (QA_nil (DPu T.ok rfl rfl rfl))) ?_
    refine D_s (js := [(3, 29), (2, 28)]) (by kernel_rfl) (fun _ _ => QA_eq rfl (QA_eq rfl (QA_nil (DPu T.ok rfl rfl rfl)))) ?_
    refine D_s (js := [(4, 30), (2, 28)]) (by kernel_rfl) (fun _ _ => QA_eq rfl (QA_eq rfl (QA_nil (DPu T.ok rfl rfl rfl)))) ?_
    refine D_s (js := [(5, 31), (2, 28)]) (by kernel_rfl) (fun _ hf => QA_eq rfl (QA_eq rfl (QA_nil (DLo T.ok 1 rfl rfl (hs.dr.call hf) rfl rfl rfl rfl)))) ?_
    refine D_s (js := [(6, 32), (2, 28)]) (by kernel_rfl) (fun _ _ => QA_eq rfl (QA_eq rfl (QA_nil (DPu T.ok rfl rfl rfl)))) ?_
    refine D_cons (D_step2 (js := [(7, 33), (2, 28)]) (by kernel_rfl) fun gd hf => ?_) ?_
    ·have hsd := hs.dr.call hf; have hfe := (G.le_dr _).trans hf.le
     refine QA_eq rfl ?_; refine QA_eq rfl ?_
     refine QA_nil ?_
     first | (refine D_no rfl ?_; exact rfl) | (refine D_yes rfl ?_; refine OpR_pure _ T.ok rfl ?_; exact ⟨_, rfl, Fr0.refl _, congrArg Value.bool hw2⟩)
    refine D_s (js := [(2, 28), (8, 34)]) (by kernel_rfl) (fun _ _ => QA_eq rfl (QA_eq rfl (QA_nil (DPu T.ok rfl rfl rfl)))) ?_
    refine D_s (js := [(9, 35)]) (by kernel_rfl) (fun _ _ => QA_eq rfl (QA_nil (DPu T.ok rfl rfl rfl))) ?_
    refine D_s (js := [(10, 36)]) (by kernel_rfl) (fun _ _ => QA_eq rfl (QA_nil (DPu T.ok rfl rfl rfl))) ?_
    refine D_s (js := [(11, 37), (10, 36)]) (by kernel_rfl) (fun _ _ => QA_eq rfl (QA_eq rfl (QA_nil (DPu T.ok rfl rfl rfl)))) ?_
    refine D_s (js := [(12, 38), (10, 36)]) (by kernel_rfl) (fun _ _ => QA_eq rfl (QA_eq rfl (QA_nil (DPu T.ok rfl rfl rfl)))) ?_
    refine D_s (js := [(13, 39), (10, 36)]) (by kernel_rfl) (fun _ hf => QA_eq rfl (QA_eq rfl (QA_nil (DLo T.ok 1 rfl rfl (hs.dr.call hf) rfl rfl rfl rfl)))) ?_
    refine D_s (js := [(14, 40), (10, 36)]) (by kernel_rfl) (fun _ _ => QA_eq rfl (QA_eq rfl (QA_nil (DPu T.ok rfl rfl rfl)))) ?_
    refine D_cons (D_step2 (js := [(15, 41), (10, 36)]) (by kernel_rfl) fun gd hf => ?_) ?_
    ·have hsd := hs.dr.call hf; have hfe := (G.le_dr _).trans hf.le
     refine QA_eq rfl ?_; refine QA_eq rfl ?_
     refine QA_nil ?_
     first | (refine D_no rfl ?_; exact rfl) | (refine D_yes rfl ?_; refine OpR_pure _ T.ok rfl ?_; exact ⟨_, rfl, Fr0.refl _, congrArg Value.bool hw3⟩)
    refine D_s (js := [(10, 36), (16, 42)]) (by kernel_rfl) (fun _ _ => QA_eq rfl (QA_eq rfl (QA_nil (DPu T.ok rfl rfl rfl)))) ?_
    refine D_s (js := [(17, 43)]) (by kernel_rfl) (fun _ _ => QA_eq rfl (QA_nil (DPu T.ok rfl rfl rfl))) ?_
    refine D_s (js := [(18, 44)]) (by kernel_rfl) (fun _ _ => QA_eq rfl (QA_nil (DNo rfl rfl))) ?_
    refine D_s (js := [(19, 45), (18, 44)]) (by kernel_rfl) (fun _ _ => QA_eq rfl (QA_eq rfl (QA_nil (DNo rfl rfl)))) ?_
    refine D_s (js := [(20, 46), (18, 44)]) (by kernel_rfl) (fun _ _ => QA_eq rfl (QA_eq rfl (QA_nil (DNo rfl rfl)))) ?_
    refine D_s (js := [(21, 47), (18, 44)]) (by kernel_rfl) (fun _ _ => QA_eq rfl (QA_eq rfl (QA_nil (DNo rfl rfl)))) ?_
    refine D_s (js := [(18, 44)]) (by kernel_rfl) (fun _ _ => QA_eq rfl (QA_nil (DNo rfl rfl))) ?_
    refine D_s (js := [(22, 48), (23, 49), (18, 44), (18, 44)]) (by kernel_rfl) (fun _ _ => QA_eq rfl (QA_eq rfl (QA_eq rfl (QA_eq rfl (QA_nil (DNo rfl rfl)))))) ?_
    refine D_s (js := [(18, 44), (24, 50)]) (by kernel_rfl) (fun _ _ => QA_eq rfl (QA_eq rfl (QA_nil (DPu T.ok rfl rfl rfl)))) ?_
    refine D_cons (D_step2 (js := [(25, 51)]) (by kernel_rfl) fun gd hf => ?_) ?_
    ·have hsd := hs.dr.call hf; have hfe := (G.le_dr _).trans hf.le
     refine QA_eq rfl ?_
     refine QA_nil ?_
     refine D_yes rfl ?_
     refine OpR_orp cl75 allF rfl rfl rfl rfl rfl (must_c false _) (fun g' v hf' h => (by cases h.2)) fun _ g' hf' => ?_
     replace hsd := hsd.call hf'
     (repeat (first | with_reducible refine T_tp ?_ | with_reducible refine T_bp ?_ | with_reducible refine T_gp ?_))
     exact panic0 (.inr ⟨by rw [hwr, hw1, hw2, hw3]; rfl, BoomS.intro ((le0.trans hfe).trans hf'.le) ⟨_, (((hsd.drop 0).drop 1).drop 1)⟩⟩)
    exact D_nil
   intro g1 hf1; refine QA_any fun v26 h26 => ?_; refine QA_nil ?_
   replace hs := hs.dr.call hf1; have hqe := (G.le_dr _).trans hf1.le; replace le0 := G.le.trans le0 hqe; replace rs0 := rs0.mono hqe; replace rs1 := rs1.mono hqe; replace rc0 := rc0.mono hqe
   exact h26.elim
  | true =>
  cases hw4 : follows f.windows ⟨x0, y0, z0⟩ with
  | false =>
   apply W_draw allF rfl (Fact.eq _ :: Fact.eq _ :: Fact.eq _ :: Fact.eq _ :: Fact.eq _ :: Fact.eq _ :: Fact.eq _ :: Fact.eq _ :: Fact.eq _ :: Fact.eq _ :: Fact.eq _ :: Fact.eq _ :: Fact.eq _ :: Fact.eq _ :: Fact.eq _ :: Fact.eq _ :: Fact.eq _ :: Fact.eq _ :: Fact.eq _ :: Fact.eq _ :: Fact.eq _ :: Fact.eq _ :: Fact.eq _ :: Fact.eq _ :: Fact.eq _ :: Fact.eq _ :: noF :: []) 27 [(26, 52)] rfl rfl
   ·refine D_s (js := []) (by kernel_rfl) (fun _ hf => QA_nil (DLo T.ok 0 rfl rfl (hs.dr.call hf) rfl rfl rfl rfl)) ?_
    refine D_cons (D_step2 (js := [(0, 26)]) (by kernel_rfl) fun gd hf => ?_) ?_
    ·have hsd := hs.dr.call hf; have hfe := (G.le_dr _).trans hf.le
     refine QA_eq rfl ?_
     refine QA_nil ?_
     refine D_yes rfl ?_
     refine OpR_ret cl46 allF rfl rfl rfl rfl rfl (rightWindow_c ⟨x0, y0, z0⟩ 40 _ (by decide) (by decide)) fun g' v h1 h2 => ⟨g', rfl, h1, ?_⟩
     rw [h2]; exact congrArg Value.bool hw1
    refine D_s (js := [(1, 27), (1, 27)]) (by kernel_rfl) (fun _ _ => QA_eq rfl (QA_eq rfl (QA_nil (DPu T.ok rfl rfl rfl)))) ?_
    refine D_s (js := [(2, 28)]) (by kernel_rfl) (fun _ _ => QA_eq rfl (QA_nil (DPu T.ok rfl rfl rfl))) ?_
    refine D_s (js := [(3, 29), (2, 28)]) (by kernel_rfl) (fun _ _ => QA_eq rfl (QA_eq rfl (QA_nil (DPu T.ok rfl rfl rfl)))) ?_
    refine D_s (js := [(4, 30), (2, 28)]) (by kernel_rfl) (fun _ _ => QA_eq rfl (QA_eq rfl (QA_nil (DPu T.ok rfl rfl rfl)))) ?_
    refine D_s (js := [(5, 31), (2, 28)]) (by kernel_rfl) (fun _ hf => QA_eq rfl (QA_eq rfl (QA_nil (DLo T.ok 1 rfl rfl (hs.dr.call hf) rfl rfl rfl rfl)))) ?_
    refine D_s (js := [(6, 32), (2, 28)]) (by kernel_rfl) (fun _ _ => QA_eq rfl (QA_eq rfl (QA_nil (DPu T.ok rfl rfl rfl)))) ?_
    refine D_cons (D_step2 (js := [(7, 33), (2, 28)]) (by kernel_rfl) fun gd hf => ?_) ?_
    ·have hsd := hs.dr.call hf; have hfe := (G.le_dr _).trans hf.le
     refine QA_eq rfl ?_; refine QA_eq rfl ?_
     refine QA_nil ?_
     first | (refine D_no rfl ?_; exact rfl) | (refine D_yes rfl ?_; refine OpR_pure _ T.ok rfl ?_; exact ⟨_, rfl, Fr0.refl _, congrArg Value.bool hw2⟩)
    refine D_s (js := [(2, 28), (8, 34)]) (by kernel_rfl) (fun _ _ => QA_eq rfl (QA_eq rfl (QA_nil (DPu T.ok rfl rfl rfl)))) ?_
    refine D_s (js := [(9, 35)]) (by kernel_rfl) (fun _ _ => QA_eq rfl (QA_nil (DPu T.ok rfl rfl rfl))) ?_
    refine D_s (js := [(10, 36)]) (by kernel_rfl) (fun _ _ => QA_eq rfl (QA_nil (DPu T.ok rfl rfl rfl))) ?_
    refine D_s (js := [(11, 37), (10, 36)]) (by kernel_rfl) (fun _ _ => QA_eq rfl (QA_eq rfl (QA_nil (DPu T.ok rfl rfl rfl)))) ?_
    refine D_s (js := [(12, 38), (10, 36)]) (by kernel_rfl) (fun _ _ => QA_eq rfl (QA_eq rfl (QA_nil (DPu T.ok rfl rfl rfl)))) ?_
    refine D_s (js := [(13, 39), (10, 36)]) (by kernel_rfl) (fun _ hf => QA_eq rfl (QA_eq rfl (QA_nil (DLo T.ok 1 rfl rfl (hs.dr.call hf) rfl rfl rfl rfl)))) ?_
    refine D_s (js := [(14, 40), (10, 36)]) (by kernel_rfl) (fun _ _ => QA_eq rfl (QA_eq rfl (QA_nil (DPu T.ok rfl rfl rfl)))) ?_
    refine D_cons (D_step2 (js := [(15, 41), (10, 36)]) (by kernel_rfl) fun gd hf => ?_) ?_
    ·have hsd := hs.dr.call hf; have hfe := (G.le_dr _).trans hf.le
     refine QA_eq rfl ?_; refine QA_eq rfl ?_
     refine QA_nil ?_
     first | (refine D_no rfl ?_; exact rfl) | (refine D_yes rfl ?_; refine OpR_pure _ T.ok rfl ?_; exact ⟨_, rfl, Fr0.refl _, congrArg Value.bool hw3⟩)
    refine D_s (js := [(10, 36), (16, 42)]) (by kernel_rfl) (fun _ _ => QA_eq rfl (QA_eq rfl (QA_nil (DPu T.ok rfl rfl rfl)))) ?_
    refine D_s (js := [(17, 43)]) (by kernel_rfl) (fun _ _ => QA_eq rfl (QA_nil (DPu T.ok rfl rfl rfl))) ?_
    refine D_s (js := [(18, 44)]) (by kernel_rfl) (fun _ _ => QA_eq rfl (QA_nil (DPu T.ok rfl rfl rfl))) ?_
    refine D_s (js := [(19, 45), (18, 44)]) (by kernel_rfl) (fun _ _ => QA_eq rfl (QA_eq rfl (QA_nil (DPu T.ok rfl rfl rfl)))) ?_
    refine D_s (js := [(20, 46), (18, 44)]) (by kernel_rfl) (fun _ _ => QA_eq rfl (QA_eq rfl (QA_nil (DPu T.ok rfl rfl rfl)))) ?_
    refine D_s (js := [(21, 47), (18, 44)]) (by kernel_rfl) (fun _ hf => QA_eq rfl (QA_eq rfl (QA_nil (DLo T.ok 1 rfl rfl (hs.dr.call hf) rfl rfl rfl rfl)))) ?_
    refine D_s (js := [(18, 44)]) (by kernel_rfl) (fun _ hf => QA_eq rfl (QA_nil (DLo T.ok 0 rfl rfl (hs.dr.call hf) rfl rfl rfl rfl))) ?_
    refine D_cons (D_step2 (js := [(22, 48), (23, 49), (18, 44), (18, 44)]) (by kernel_rfl) fun gd hf => ?_) ?_
    ·have hsd := hs.dr.call hf; have hfe := (G.le_dr _).trans hf.le
     refine QA_eq rfl ?_; refine QA_eq rfl ?_; refine QA_eq rfl ?_; refine QA_eq rfl ?_
     refine QA_nil ?_
     refine D_yes rfl ?_
     refine OpR_lend (α := Window) (fun _ _ r => r = .bool (follows f.windows ⟨x0, y0, z0⟩)) (fun _ _ r => r = .bool (follows f.windows ⟨x0, y0, z0⟩)) cl47 allF rfl rfl rfl rfl rfl hsd 3 rfl (RcL.win _ f.windows) (fun gf hle hw hr => follows_c _ f.windows ⟨x0, y0, z0⟩ gf hr) (fun _ _ _ _ _ _ _ _ _ h => h) fun g' v h1 h2 => ⟨g', rfl, h1, ?_⟩
     rw [h2]; exact congrArg Value.bool hw4
    refine D_s (js := [(18, 44), (24, 50)]) (by kernel_rfl) (fun _ _ => QA_eq rfl (QA_eq rfl (QA_nil (DPu T.ok rfl rfl rfl)))) ?_
    refine D_cons (D_step2 (js := [(25, 51)]) (by kernel_rfl) fun gd hf => ?_) ?_
    ·have hsd := hs.dr.call hf; have hfe := (G.le_dr _).trans hf.le
     refine QA_eq rfl ?_
     refine QA_nil ?_
     refine D_yes rfl ?_
     refine OpR_orp cl75 allF rfl rfl rfl rfl rfl (must_c false _) (fun g' v hf' h => (by cases h.2)) fun _ g' hf' => ?_
     replace hsd := hsd.call hf'
     (repeat (first | with_reducible refine T_tp ?_ | with_reducible refine T_bp ?_ | with_reducible refine T_gp ?_))
     exact panic0 (.inr ⟨by rw [hwr, hw1, hw2, hw3, hw4]; rfl, BoomS.intro ((le0.trans hfe).trans hf'.le) ⟨_, (((hsd.drop 0).drop 1).drop 1)⟩⟩)
    exact D_nil
   intro g1 hf1; refine QA_any fun v26 h26 => ?_; refine QA_nil ?_
   replace hs := hs.dr.call hf1; have hqe := (G.le_dr _).trans hf1.le; replace le0 := G.le.trans le0 hqe; replace rs0 := rs0.mono hqe; replace rs1 := rs1.mono hqe; replace rc0 := rc0.mono hqe
   exact h26.elim
  | true =>
  rw [hw1, hw2, hw3, hw4] at hwr
  replace hwr : windowR f line = some ⟨x0, y0, z0⟩ := hwr
  apply W_draw allF rfl (Fact.eq _ :: Fact.eq _ :: Fact.eq _ :: Fact.eq _ :: Fact.eq _ :: Fact.eq _ :: Fact.eq _ :: Fact.eq _ :: Fact.eq _ :: Fact.eq _ :: Fact.eq _ :: Fact.eq _ :: Fact.eq _ :: Fact.eq _ :: Fact.eq _ :: Fact.eq _ :: Fact.eq _ :: Fact.eq _ :: Fact.eq _ :: Fact.eq _ :: Fact.eq _ :: Fact.eq _ :: Fact.eq _ :: Fact.eq _ :: Fact.eq _ :: Fact.eq _ :: Fact.any :: []) 27 [(1, 27)] rfl rfl
  ·refine D_s (js := []) (by kernel_rfl) (fun _ hf => QA_nil (DLo T.ok 0 rfl rfl (hs.dr.call hf) rfl rfl rfl rfl)) ?_
   refine D_cons (D_step2 (js := [(0, 26)]) (by kernel_rfl) fun gd hf => ?_) ?_
   ·have hsd := hs.dr.call hf; have hfe := (G.le_dr _).trans hf.le
    refine QA_eq rfl ?_
    refine QA_nil ?_
    refine D_yes rfl ?_
    refine OpR_ret cl46 allF rfl rfl rfl rfl rfl (rightWindow_c ⟨x0, y0, z0⟩ 40 _ (by decide) (by decide)) fun g' v h1 h2 => ⟨g', rfl, h1, ?_⟩
    rw [h2]; exact congrArg Value.bool hw1
   refine D_s (js := [(1, 27), (1, 27)]) (by kernel_rfl) (fun _ _ => QA_eq rfl (QA_eq rfl (QA_nil (DPu T.ok rfl rfl rfl)))) ?_
   refine D_s (js := [(2, 28)]) (by kernel_rfl) (fun _ _ => QA_eq rfl (QA_nil (DPu T.ok rfl rfl rfl))) ?_
   refine D_s (js := [(3, 29), (2, 28)]) (by kernel_rfl) (fun _ _ => QA_eq rfl (QA_eq rfl (QA_nil (DPu T.ok rfl rfl rfl)))) ?_
   refine D_s (js := [(4, 30), (2, 28)]) (by kernel_rfl) (fun _ _ => QA_eq rfl (QA_eq rfl (QA_nil (DPu T.ok rfl rfl rfl)))) ?_
   refine D_s (js := [(5, 31), (2, 28)]) (by kernel_rfl) (fun _ hf => QA_eq rfl (QA_eq rfl (QA_nil (DLo T.ok 1 rfl rfl (hs.dr.call hf) rfl rfl rfl rfl)))) ?_
   refine D_s (js := [(6, 32), (2, 28)]) (by kernel_rfl) (fun _ _ => QA_eq rfl (QA_eq rfl (QA_nil (DPu T.ok rfl rfl rfl)))) ?_
   refine D_cons (D_step2 (js := [(7, 33), (2, 28)]) (by kernel_rfl) fun gd hf => ?_) ?_
   ·have hsd := hs.dr.call hf; have hfe := (G.le_dr _).trans hf.le
    refine QA_eq rfl ?_; refine QA_eq rfl ?_
    refine QA_nil ?_
    first | (refine D_no rfl ?_; exact rfl) | (refine D_yes rfl ?_; refine OpR_pure _ T.ok rfl ?_; exact ⟨_, rfl, Fr0.refl _, congrArg Value.bool hw2⟩)
   refine D_s (js := [(2, 28), (8, 34)]) (by kernel_rfl) (fun _ _ => QA_eq rfl (QA_eq rfl (QA_nil (DPu T.ok rfl rfl rfl)))) ?_
   refine D_s (js := [(9, 35)]) (by kernel_rfl) (fun _ _ => QA_eq rfl (QA_nil (DPu T.ok rfl rfl rfl))) ?_
   refine D_s (js := [(10, 36)]) (by kernel_rfl) (fun _ _ => QA_eq rfl (QA_nil (DPu T.ok rfl rfl rfl))) ?_
   refine D_s (js := [(11, 37), (10, 36)]) (by kernel_rfl) (fun _ _ => QA_eq rfl (QA_eq rfl (QA_nil (DPu T.ok rfl rfl rfl)))) ?_
   refine D_s (js := [(12, 38), (10, 36)]) (by kernel_rfl) (fun _ _ => QA_eq rfl (QA_eq rfl (QA_nil (DPu T.ok rfl rfl rfl)))) ?_
   refine D_s (js := [(13, 39), (10, 36)]) (by kernel_rfl) (fun _ hf => QA_eq rfl (QA_eq rfl (QA_nil (DLo T.ok 1 rfl rfl (hs.dr.call hf) rfl rfl rfl rfl)))) ?_
   refine D_s (js := [(14, 40), (10, 36)]) (by kernel_rfl) (fun _ _ => QA_eq rfl (QA_eq rfl (QA_nil (DPu T.ok rfl rfl rfl)))) ?_
   refine D_cons (D_step2 (js := [(15, 41), (10, 36)]) (by kernel_rfl) fun gd hf => ?_) ?_
   ·have hsd := hs.dr.call hf; have hfe := (G.le_dr _).trans hf.le
    refine QA_eq rfl ?_; refine QA_eq rfl ?_
    refine QA_nil ?_
    first | (refine D_no rfl ?_; exact rfl) | (refine D_yes rfl ?_; refine OpR_pure _ T.ok rfl ?_; exact ⟨_, rfl, Fr0.refl _, congrArg Value.bool hw3⟩)
   refine D_s (js := [(10, 36), (16, 42)]) (by kernel_rfl) (fun _ _ => QA_eq rfl (QA_eq rfl (QA_nil (DPu T.ok rfl rfl rfl)))) ?_
   refine D_s (js := [(17, 43)]) (by kernel_rfl) (fun _ _ => QA_eq rfl (QA_nil (DPu T.ok rfl rfl rfl))) ?_
   refine D_s (js := [(18, 44)]) (by kernel_rfl) (fun _ _ => QA_eq rfl (QA_nil (DPu T.ok rfl rfl rfl))) ?_
   refine D_s (js := [(19, 45), (18, 44)]) (by kernel_rfl) (fun _ _ => QA_eq rfl (QA_eq rfl (QA_nil (DPu T.ok rfl rfl rfl)))) ?_
   refine D_s (js := [(20, 46), (18, 44)]) (by kernel_rfl) (fun _ _ => QA_eq rfl (QA_eq rfl (QA_nil (DPu T.ok rfl rfl rfl)))) ?_
   refine D_s (js := [(21, 47), (18, 44)]) (by kernel_rfl) (fun _ hf => QA_eq rfl (QA_eq rfl (QA_nil (DLo T.ok 1 rfl rfl (hs.dr.call hf) rfl rfl rfl rfl)))) ?_
   refine D_s (js := [(18, 44)]) (by kernel_rfl) (fun _ hf => QA_eq rfl (QA_nil (DLo T.ok 0 rfl rfl (hs.dr.call hf) rfl rfl rfl rfl))) ?_
   refine D_cons (D_step2 (js := [(22, 48), (23, 49), (18, 44), (18, 44)]) (by kernel_rfl) fun gd hf => ?_) ?_
   ·have hsd := hs.dr.call hf; have hfe := (G.le_dr _).trans hf.le
    refine QA_eq rfl ?_; refine QA_eq rfl ?_; refine QA_eq rfl ?_; refine QA_eq rfl ?_
    refine QA_nil ?_
    refine D_yes rfl ?_
    refine OpR_lend (α := Window) (fun _ _ r => r = .bool (follows f.windows ⟨x0, y0, z0⟩)) (fun _ _ r => r = .bool (follows f.windows ⟨x0, y0, z0⟩)) cl47 allF rfl rfl rfl rfl rfl hsd 3 rfl (RcL.win _ f.windows) (fun gf hle hw hr => follows_c _ f.windows ⟨x0, y0, z0⟩ gf hr) (fun _ _ _ _ _ _ _ _ _ h => h) fun g' v h1 h2 => ⟨g', rfl, h1, ?_⟩
    rw [h2]; exact congrArg Value.bool hw4
   refine D_s (js := [(18, 44), (24, 50)]) (by kernel_rfl) (fun _ _ => QA_eq rfl (QA_eq rfl (QA_nil (DPu T.ok rfl rfl rfl)))) ?_
   refine D_cons (D_step2 (js := [(25, 51)]) (by kernel_rfl) fun gd hf => ?_) ?_
   ·have hsd := hs.dr.call hf; have hfe := (G.le_dr _).trans hf.le
    refine QA_eq rfl ?_
    refine QA_nil ?_
    refine D_yes rfl ?_
    exact OpR_orp cl75 allF rfl rfl rfl rfl rfl (must_c true _) (fun g' v hf' h => ⟨g', rfl, hf', trivial⟩) fun h => (by cases h)
   exact D_nil
  intro g1 hf1; refine QA_eq rfl ?_; refine QA_nil ?_
  replace hs := hs.dr.call hf1; have hqe := (G.le_dr _).trans hf1.le; replace le0 := G.le.trans le0 hqe; replace rs0 := rs0.mono hqe; replace rs1 := rs1.mono hqe; replace rc0 := rc0.mono hqe
  have hn20 : f.windows.length < 20 := by simp only [decide_eq_true_eq] at hw2; omega
  have hwl := winL_len f.windows
  refine WL_nil ?_; (with_reducible refine T_then ?_)
  apply W_drawM allF rfl (Fact.eq _ :: Fact.eq _ :: Fact.eq _ :: Fact.eq _ :: Fact.eq _ :: Fact.eq _ :: (Fact.rs [(⟨x0, y0, z0⟩ : Window)]) :: (appF g0 (fun v wcs => .obj bx (.cells [.int .i64 x0, .int .i64 y0, .int .i64 z0].toArray 54 (0, 0)) :: .obj b (.cells [.int .i64 f.moveMin, .int .i64 f.moveMax, .slice sa f.steps.length sc, .slice wa f.windows.length wc].toArray 27 (0, 0)) :: .row 51 7 (.slice sa f.steps.length sc) f.steps.length scs :: .row 54 3 v (f.windows.length + 1) wcs :: L) (f.windows.length + 1) (f.windows ++ [(⟨x0, y0, z0⟩ : Window)])) :: []) 8 [(0, 53), (7, 60)] [] [1, 2, 3, 4, 5, 6] 7 rfl (by kernel_rfl) (by kernel_rfl)
  case houts => exact rfl
  case hsoft => (repeat (first | exact softN | apply softE | refine softC (soft_eq _) ?_ | refine softC (soft_rs _) ?_ | refine softC (soft_step _ _) ?_ | refine softC (soft_stepV _) ?_ | refine softC (soft_wayV _) ?_ | refine softC (soft_intPtr _) ?_ | refine softC (soft_y6 _) ?_ | refine softC (soft_lst _) ?_ | refine softO (by exact rfl) ?_))
  ·refine M_cons (M_free (js := []) (by kernel_rfl) (by exact rfl) fun gd hf => ?_) ?_
   ·have hfe := (G.le_dr _).trans hf
    refine QA_nil ?_
    (refine D_yes rfl ?_; refine OpR_pure _ T.ok rfl ?_; refine ⟨_, rfl, Fr0.refl _, ?_⟩; exact rfl)
   refine M_cons (M_anc (js := []) (by kernel_rfl) (by exact rfl) (by exact rfl) fun gd hf => ?_) ?_
   ·have hsd := hs.dr.call hf; have hfe := (G.le_dr _).trans hf.le
    refine QA_nil ?_
    (refine D_yes rfl ?_; refine OpR_pure _ T.ok rfl ?_; refine ⟨_, rfl, Fr0.refl _, ?_⟩; exact rfl)
   refine M_cons (M_anc (js := [(1, 54)]) (by kernel_rfl) (by exact rfl) (by exact rfl) fun gd hf => ?_) ?_
   ·have hsd := hs.dr.call hf; have hfe := (G.le_dr _).trans hf.le
    refine QA_eq rfl ?_
    refine QA_nil ?_
    (refine D_yes rfl ?_; refine OpR_pure _ T.ok rfl ?_; refine ⟨_, rfl, Fr0.refl _, ?_⟩; exact rfl)
   refine M_cons (M_anc (js := [(2, 55)]) (by kernel_rfl) (by exact rfl) (by exact rfl) fun gd hf => ?_) ?_
   ·have hsd := hs.dr.call hf; have hfe := (G.le_dr _).trans hf.le
    refine QA_eq rfl ?_
    refine QA_nil ?_
    (refine D_yes rfl ?_; refine OpR_pure _ T.ok rfl ?_; refine ⟨_, rfl, Fr0.refl _, ?_⟩; exact rfl)
   refine M_cons (M_anc (js := [(3, 56)]) (by kernel_rfl) (by exact rfl) (by exact rfl) fun gd hf => ?_) ?_
   ·have hsd := hs.dr.call hf; have hfe := (G.le_dr _).trans hf.le
    refine QA_eq rfl ?_
    refine QA_nil ?_
    (refine D_yes rfl ?_; refine OpR_loadO T.ok 1 rfl hsd rfl rfl rfl ?_; refine ⟨_, rfl, Fr0.refl _, ?_⟩; exact rfl)
   refine M_cons (M_anc (js := []) (by kernel_rfl) (by exact rfl) (by exact rfl) fun gd hf => ?_) ?_
   ·have hsd := hs.dr.call hf; have hfe := (G.le_dr _).trans hf.le
    refine QA_nil ?_
    (refine D_yes rfl ?_; refine OpR_loadO T.ok 0 rfl hsd rfl rfl rfl ?_; refine ⟨_, rfl, Fr0.refl _, ?_⟩; exact rfl)
   refine M_cons (M_anc (js := [(5, 58)]) (by kernel_rfl) (by exact rfl) (by exact rfl) fun gd hf => ?_) ?_
   ·have hsd := hs.dr.call hf; have hfe := (G.le_dr _).trans hf.le
    refine QA_eq rfl ?_
    refine QA_nil ?_
    refine D_yes rfl ?_
    refine OpR_lit T.ok rfl (St.start gd) (vs := [(0, .agg #[.int .i64 x0, .int .i64 y0, .int .i64 z0])]) (cells := [.int .i64 x0, .int .i64 y0, .int .i64 z0]) rfl rfl rfl rfl rfl rfl (by decide) (by decide) (by kernel_rfl) rfl ?_
    intro b2 g2 hs1 hqe1
    obtain ⟨g3, hw3, hs3, hqe3, hrl⟩ := hs1.fzRow (α := Window) (xs := [⟨x0, y0, z0⟩]) (i := 0) rfl ⟨_, [], by rw [List.append_nil], rfl, rfl⟩
    exact ⟨g3, hw3, hs3.fr0, hrl⟩
   refine M_cons (M_eat (js := [(4, 57), (6, 59)]) (by kernel_rfl) fun gd hf => ?_) ?_
   ·have hsd := hs.dr.call hf; have hfe := (G.le_dr _).trans hf.le
    refine QA_eq rfl ?_; refine QA_any fun v6 h6 => ?_
    refine QA_nil ?_
    obtain ⟨ax, cx, rfl⟩ := Rs.isSlice h6
    obtain ⟨_, news, hnw, hsrc⟩ := Src.of_rs h6
    refine ⟨rfl, ?_⟩
    refine OpR_append T.ok 3 rfl hsd rfl rfl rfl rfl rfl rfl rfl (by decide) rfl hsrc hnw.one (by show (f.windows.length + 1) * 24 ≤ _; omega) (by unfold maxLen; show f.windows.length + 1 ≤ _; omega) ?_
    intro a' c' g8 hs8 hqe8
    exact ⟨g8, rfl, hqe8, a', c', _, rfl, hs8, RcL.app (hnw.mono hqe8) (RcL.win _ _)⟩
   exact M_nil
  intro g1 hf1; refine QA_eq rfl ?_; refine QA_any fun v7 h7 => ?_; refine QA_nil ?_
  have hqe := (G.le_dr _).trans hf1; replace le0 := G.le.trans le0 hqe; replace rs0 := rs0.mono hqe; replace rs1 := rs1.mono hqe; replace rc0 := rc0.mono hqe
  obtain ⟨wa', wc', wcs, rfl, hs, hwc⟩ := h7
  obtain rfl := RcL.win_inv hwc
  refine P1 T.ok rfl rfl rfl ?_; refine P1 T.ok rfl rfl rfl ?_
  refine WL_n rfl (OpR_storeO T.ok 1 rfl hs rfl rfl rfl rfl rfl rfl rfl rfl rfl ?_); replace hs := hs; rintro g1 hs hqe; replace le0 := G.le.trans le0 hqe; replace rs0 := rs0.mono hqe; replace rs1 := rs1.mono hqe; replace rc0 := rc0.mono hqe
  refine WL_nil ?_
  refine end0 rfl (.inl (RetS.intro le0 ⟨rfl, _, hwr, sa, sc, wa', wc', scs, ?_, rc0⟩))
  have hs2 := hs.drop 0
  show St g0 _ (.obj b _ :: .row _ 7 _ _ _ :: .row _ 3 (.slice wa' (f.windows ++ [_]).length wc') (f.windows ++ [_]).length _ :: L)
  rw [List.length_append]
  exact hs2
 ·refine WL_know 11 (b' := false) (by simp; omega) rfl ?_
  refine WL_o rfl rfl (OpR_orp cl75 allF rfl rfl rfl rfl rfl (must_c false _) ?_ ?_)
  ·rintro g3 _ hf3 ⟨_, hc⟩
   cases hc
  ·intro _ g3 hf3
   replace hs := hs.call hf3
   replace le0 := le0.trans hf3.le
   (repeat (first | with_reducible refine T_tp ?_ | with_reducible refine T_bp ?_ | with_reducible refine T_gp ?_))
   exact panic0 (.inr ⟨by unfold windowR; rw [win_len (by rw [hps]; exact h4)]; rfl, BoomS.intro le0 ⟨_, (hs.drop 1).drop 1⟩⟩)
end Go.Proofs.YtnggomfbgmlkhaaGreatDoor

/- What reading the line of a step comes to: plain. -/
namespace Go.Proofs.YtnggomfbgmlkhaaGreatDoor
open Go Go.K
set_option maxRecDepth 10000
attribute [local irreducible] W WL OpR bitAnd bitOr bitXor bitClr bitNot shlI shrI
set_option maxHeartbeats 2000000

def fxS (n : Nat) : List (List UInt8) := [wStep, dec n, wRecipe, [], wTools, [], wTime, [], wNext, []]
def fxB : List (List UInt8) := [[], [], [], [], [], [], [], [], [], [], wBack, [], wLimit, []]
theorem ten_of {α : Type} {l : List α} (h : 10 ≤ l.length) : ∃ a0 a1 a2 a3 a4 a5 a6 a7 a8 a9 r, l = a0 :: a1 :: a2 :: a3 :: a4 :: a5 :: a6 :: a7 :: a8 :: a9 :: r := by
 match l, h with
 | a0 :: a1 :: a2 :: a3 :: a4 :: a5 :: a6 :: a7 :: a8 :: a9 :: r, _ => exact ⟨a0, a1, a2, a3, a4, a5, a6, a7, a8, a9, r, rfl⟩
theorem bodyM_3 {a3 a5 a7 a9 : List UInt8} {bk : Option (Int × Int)} (h : numM a3 = none) : bodyM a3 a5 a7 a9 bk = none := by
 unfold bodyM; split
 ·simp_all
 ·rfl
theorem bodyM_5 {a3 a5 a7 a9 : List UInt8} {bk : Option (Int × Int)} (h : listM a5 = none) : bodyM a3 a5 a7 a9 bk = none := by
 unfold bodyM; split
 ·simp_all
 ·rfl
theorem bodyM_7 {a3 a5 a7 a9 : List UInt8} {bk : Option (Int × Int)} (h : spanM a7 = none) : bodyM a3 a5 a7 a9 bk = none := by
 unfold bodyM; split
 ·simp_all
 ·rfl
theorem bodyM_9 {a3 a5 a7 a9 : List UInt8} {bk : Option (Int × Int)} (h : nextM a9 = none) : bodyM a3 a5 a7 a9 bk = none := by
 unfold bodyM; split
 ·simp_all
 ·rfl
theorem bodyM_b {a3 a5 a7 a9 : List UInt8} : bodyM a3 a5 a7 a9 none = none := by
 unfold bodyM; split
 ·rename_i h1; cases h1
 ·rfl
theorem bodyM_y {a3 a5 a7 a9 : List UInt8} {r : Nat} {t nx : List Nat} {m n : Nat} {bk lm : Int} (h3 : numM a3 = some r) (h5 : listM a5 = some t) (h7 : spanM a7 = some (m, n)) (h9 : nextM a9 = some nx) :
  bodyM a3 a5 a7 a9 (some (bk, lm)) = some ⟨r, ints t, m, n, ints nx, bk, lm⟩ := by
 unfold bodyM; rw [h3, h5, h7, h9]
theorem step_form {n : Nat} {line a0 a1 a2 a3 a4 a5 a6 a7 a8 a9 : List UInt8} {r : List (List UInt8)} (h : splitC 32 line = a0 :: a1 :: a2 :: a3 :: a4 :: a5 :: a6 :: a7 :: a8 :: a9 :: r) : stepM n line = none ∨ ∃ bk, stepM n line = bodyM a3 a5 a7 a9 bk := by
 unfold stepM
 rw [h]
 match r with
 | [] => exact (Decidable.em (fixedM n a0 a1 a2 a4 a6 a8 = true)).elim (fun hf => .inr ⟨some (-1, 0), if_pos hf⟩) (fun hf => .inl (if_neg hf))
 | [b0, b1, b2, b3] => exact (Decidable.em (fixedM n a0 a1 a2 a4 a6 a8 = true ∧ b0 = wBack ∧ b2 = wLimit)).elim (fun hf => .inr ⟨backM b1 b3, if_pos hf⟩) (fun hf => .inl (if_neg hf))
 | [_] => exact .inl rfl
 | [_, _] => exact .inl rfl
 | [_, _, _] => exact .inl rfl
 | _ :: _ :: _ :: _ :: _ :: _ => exact .inl rfl
theorem step_none {n : Nat} {line a0 a1 a2 a3 a4 a5 a6 a7 a8 a9 : List UInt8} {r : List (List UInt8)} (h : splitC 32 line = a0 :: a1 :: a2 :: a3 :: a4 :: a5 :: a6 :: a7 :: a8 :: a9 :: r) (hb : ∀ bk, bodyM a3 a5 a7 a9 bk = none) : stepM n line = none := by
 rcases step_form (n := n) h with e | ⟨bk, e⟩
 ·exact e
 ·rw [e, hb]
theorem fixedM_of {n : Nat} {a0 a1 a2 a3 a4 a5 a6 a7 a8 a9 : List UInt8} {r : List (List UInt8)} (h : fixedOk (fxS n) (a0 :: a1 :: a2 :: a3 :: a4 :: a5 :: a6 :: a7 :: a8 :: a9 :: r)) : fixedM n a0 a1 a2 a4 a6 a8 = true := by
 obtain rfl := fixed_at h 0 (w := wStep) rfl rfl (by decide)
 obtain rfl := fixed_at h 1 (w := dec n) rfl rfl (dec_ne n)
 obtain rfl := fixed_at h 2 (w := wRecipe) rfl rfl (by decide)
 obtain rfl := fixed_at h 4 (w := wTools) rfl rfl (by decide)
 obtain rfl := fixed_at h 6 (w := wTime) rfl rfl (by decide)
 obtain rfl := fixed_at h 8 (w := wNext) rfl rfl (by decide)
 unfold fixedM; simp
theorem of_fixedM {n : Nat} {a0 a1 a2 a3 a4 a5 a6 a7 a8 a9 : List UInt8} {r : List (List UInt8)} (h : fixedM n a0 a1 a2 a4 a6 a8 = true) : fixedOk (fxS n) (a0 :: a1 :: a2 :: a3 :: a4 :: a5 :: a6 :: a7 :: a8 :: a9 :: r) := by
 unfold fixedM at h
 simp only [Bool.and_eq_true, beq_iff_eq] at h
 obtain ⟨⟨⟨⟨⟨rfl, rfl⟩, rfl⟩, rfl⟩, rfl⟩, rfl⟩ := h
 refine ⟨by show 10 ≤ _; simp only [List.length_cons]; omega, fun i w hw => ?_⟩
 match i, hw with
 | 0, hw => exact .inr hw
 | 1, hw => exact .inr hw
 | 2, hw => exact .inr hw
 | 3, hw => exact .inl (Option.some.inj hw).symm
 | 4, hw => exact .inr hw
 | 5, hw => exact .inl (Option.some.inj hw).symm
 | 6, hw => exact .inr hw
 | 7, hw => exact .inl (Option.some.inj hw).symm
 | 8, hw => exact .inr hw
 | 9, hw => exact .inl (Option.some.inj hw).symm
 | _ + 10, hw => cases hw
theorem of_fixedB {a0 a1 a2 a3 a4 a5 a6 a7 a8 a9 b1 b3 : List UInt8} : fixedOk fxB [a0, a1, a2, a3, a4, a5, a6, a7, a8, a9, wBack, b1, wLimit, b3] := by
 refine ⟨Nat.le_refl _, fun i w hw => ?_⟩
 match i, hw with
 | 0, hw => exact .inl (Option.some.inj hw).symm
 | 1, hw => exact .inl (Option.some.inj hw).symm
 | 2, hw => exact .inl (Option.some.inj hw).symm
 | 3, hw => exact .inl (Option.some.inj hw).symm
 | 4, hw => exact .inl (Option.some.inj hw).symm
 | 5, hw => exact .inl (Option.some.inj hw).symm
 | 6, hw => exact .inl (Option.some.inj hw).symm
 | 7, hw => exact .inl (Option.some.inj hw).symm
 | 8, hw => exact .inl (Option.some.inj hw).symm
 | 9, hw => exact .inl (Option.some.inj hw).symm
 | 10, hw => exact .inr hw
 | 11, hw => exact .inl (Option.some.inj hw).symm
 | 12, hw => exact .inr hw
 | 13, hw => exact .inl (Option.some.inj hw).symm
 | _ + 14, hw => cases hw
theorem step_not {n : Nat} {line : List UInt8} (h : ¬ fixedOk (fxS n) (splitC 32 line)) : stepM n line = none := by
 unfold stepM
 split
 ·rename_i he
  rw [he] at h
  rw [if_neg fun hf => h (of_fixedM hf)]
 ·rename_i he
  rw [he] at h
  rw [if_neg fun hf => h (of_fixedM hf.1)]
 ·rfl
theorem step_short {n : Nat} {line a0 a1 a2 a3 a4 a5 a6 a7 a8 a9 : List UInt8} (h : splitC 32 line = [a0, a1, a2, a3, a4, a5, a6, a7, a8, a9]) (hf : fixedM n a0 a1 a2 a4 a6 a8 = true) : stepM n line = bodyM a3 a5 a7 a9 (some (-1, 0)) := by
 unfold stepM; rw [h]; show (if _ then _ else _) = _; rw [if_pos hf]
theorem step_long {n : Nat} {line a0 a1 a2 a3 a4 a5 a6 a7 a8 a9 b0 b1 b2 b3 : List UInt8} (h : splitC 32 line = [a0, a1, a2, a3, a4, a5, a6, a7, a8, a9, b0, b1, b2, b3]) (hf : fixedM n a0 a1 a2 a4 a6 a8 = true)
  (hb : fixedOk fxB [a0, a1, a2, a3, a4, a5, a6, a7, a8, a9, b0, b1, b2, b3]) : stepM n line = bodyM a3 a5 a7 a9 (backM b1 b3) := by
 obtain rfl := fixed_at hb 10 (w := wBack) rfl rfl (by decide)
 obtain rfl := fixed_at hb 12 (w := wLimit) rfl rfl (by decide)
 unfold stepM; rw [h]; show (if _ then _ else _) = _; rw [if_pos ⟨hf, rfl, rfl⟩]
theorem step_notB {n : Nat} {line : List UInt8} (hl : 10 < (splitC 32 line).length) (h : ¬ fixedOk fxB (splitC 32 line)) : stepM n line = none := by
 unfold stepM
 split
 ·rename_i he
  rw [he] at hl; exact absurd hl (by simp)
 ·rename_i he
  rw [he] at h
  rw [if_neg]
  rintro ⟨_, rfl, rfl⟩
  exact h of_fixedB
 ·rfl
theorem step_lenB {n : Nat} {line : List UInt8} (hl : 10 < (splitC 32 line).length) (h : (splitC 32 line).length ≠ 14) : stepM n line = none := by
 unfold stepM
 split
 ·rename_i he
  rw [he] at hl; exact absurd hl (by simp)
 ·rename_i he
  rw [he] at h; exact absurd rfl h
 ·rfl
def stepR (f : Flow) (line : List UInt8) : Option Step := (stepM f.steps.length line).bind fun s => if (rightStep s 40 && decide ((f.steps.length : Int) < 40) && decide ((f.windows.length : Int) = 0)) = true then some s else none
theorem stepR_none {f : Flow} {line : List UInt8} (h : stepM f.steps.length line = none) : stepR f line = none := by unfold stepR; rw [h]; rfl
end Go.Proofs.YtnggomfbgmlkhaaGreatDoor

/- Reading the line of a step. -/
namespace Go.Proofs.YtnggomfbgmlkhaaGreatDoor
open Go Go.K
set_option maxRecDepth 10000
attribute [local irreducible] W WL OpR bitAnd bitOr bitXor bitClr bitNot shlI shrI
set_option maxHeartbeats 8000000





def listF (x : List UInt8) : Fact := ⟨fun v g => ∃ ns, listM x = some ns ∧ Rs g v (ints ns), fun _ _ _ hf ⟨ns, h1, h2⟩ => ⟨ns, h1, h2.mono hf.le⟩⟩
def bodF (x y : List UInt8) : Fact := ⟨fun v g => ∃ (r : Nat) (tl : List Nat) (a : Option Addr) (c : Nat), numM x = some r ∧ listM y = some tl ∧ v = .agg #[.int .i64 r, .slice a tl.length c, .int .i64 0, .int .i64 0, .slice none 0 0, .int .i64 (-1), .int .i64 0] ∧ Rs g (.slice a tl.length c) (ints tl),
 fun _ _ _ hf ⟨r, tl, a, c, h1, h2, h3, h4⟩ => ⟨r, tl, a, c, h1, h2, h3, h4.mono hf.le⟩⟩
theorem to45 : (⟨#[45]⟩ : ByteArray).toList = [45] := bs_toList [45]
theorem ints_len (l : List Nat) : (ints l).length = l.length := by simp [ints]

theorem step_c {b : Nat} (f : Flow) (line : List UInt8) (hlen : line.length ≤ 1000000) (hfs : f.steps.length ≤ 1000000) {g0 g : G} {L : List Ent} (hF : FlAt g) (hO : FlO b f L g0 g) :
  CallsIn Wd 0 Tryz.prog 56 #[.pointer (some ⟨b, 0, none⟩), .string (bs line)] g.w fun e w' =>
   RetS g (fun g' r => r = .tuple #[] ∧ ∃ s, stepR f line = some s ∧ FlO b { f with steps := f.steps ++ [s] } L g0 g') e w' ∨
   (stepR f line = none ∧ BoomS g wrongs (fun g' => ∃ cs, St g0 g' (flo b cs :: L)) e w') := by
 have le0 := G.le.refl g
 obtain ⟨sa, sc, wa, wc, scs, hs, rc0⟩ := hO
 unfold flL at hs
 unfold flo
 replace hs : St g0 g (.obj b (.cells [.int .i64 f.moveMin, .int .i64 f.moveMax, .slice sa f.steps.length sc, .slice wa f.windows.length wc].toArray 27 (0, 0)) ::
  .row 51 7 (.slice sa f.steps.length sc) f.steps.length scs ::
  .row 54 3 (.slice wa f.windows.length wc) f.windows.length (winL f.windows) :: L) := hs
 refine enter Tryz.func56 rfl Tryz.ntmps56 rfl ?_
 refine W_seq ?_; refine W_region ?_; (iterate 4 refine P1 T.ok rfl rfl rfl ?_); refine WL_o rfl rfl (OpR_loadO T.ok 0 rfl hs rfl rfl rfl ?_); refine P1 T.ok rfl rfl rfl ?_
 refine WL_o rfl rfl (OpR_ret cl23 allF rfl rfl rfl rfl rfl (itoa_c f.steps.length _ (by unfold I64; omega) hF) ?_)
 rintro g1 _ hf1 hv1
 rw [itoa_dec] at hv1
 subst hv1
 replace hs := hs.call hf1
 have hqe := hf1.le; replace le0 := G.le.trans le0 hqe; replace rc0 := rc0.mono hqe
 skip
 refine WL_o rfl rfl (OpR_lit T.ok rfl hs (vs := [(0, .string (bs wStep)), (1, .string (bs (dec f.steps.length))), (2, .string (bs wRecipe)), (3, .string (bs [])), (4, .string (bs wTools)), (5, .string (bs [])), (6, .string (bs wTime)), (7, .string (bs [])), (8, .string (bs wNext)), (9, .string (bs []))])
  (cells := [.string (bs wStep), .string (bs (dec f.steps.length)), .string (bs wRecipe), .string (bs []), .string (bs wTools), .string (bs []), .string (bs wTime), .string (bs []), .string (bs wNext), .string (bs [])]) rfl rfl rfl rfl rfl rfl (by decide) (by decide) (by kernel_rfl) rfl ?_)
 clear hs
 rintro bl gl hs hqe; replace le0 := G.le.trans le0 hqe; replace rc0 := rc0.mono hqe
 obtain ⟨gz, hwz, hsz, hqz, rs1⟩ := hs.fzRow (α := Str) (xs := (fxS f.steps.length).map Str.mk) (i := 0) rfl (RcL.strs _ (fxS f.steps.length))
 have hqe := hqz; rw [← hwz]; replace hs := hsz; clear hsz; replace le0 := G.le.trans le0 hqe; replace rc0 := rc0.mono hqe
 skip
 refine WL_o rfl rfl (OpR_orp cl74 allF rfl rfl rfl rfl rfl (words_c line (fxS f.steps.length) _ _ hlen (by unfold fxS; simp) (hF.mono le0) rs1) ?_ ?_)
 rotate_left
 ·intro hn g5 hf5
  replace hs := hs.call hf5
  replace le0 := le0.trans hf5.le
  (repeat (first | with_reducible refine T_tp ?_ | with_reducible refine T_bp ?_ | with_reducible refine T_gp ?_))
  exact panic0 (.inr ⟨stepR_none (step_not hn), BoomS.intro le0 ⟨_, (hs.drop 1).drop 1⟩⟩)
 rintro g4 v hf4 ⟨hfo, rs0⟩
 replace hs := hs.call hf4
 have hqe := hf4.le; replace le0 := G.le.trans le0 hqe; replace rs1 := rs1.mono hqe; replace rc0 := rc0.mono hqe
 obtain ⟨pa, pc, rfl⟩ := rs0.isSlice
 rw [List.length_map] at rs0 ⊢
 have hpm := split_mem 32 line
 have hpl := split_len 32 line
 generalize hps : splitC 32 line = ps at *
 obtain ⟨a0, a1, a2, a3, a4, a5, a6, a7, a8, a9, rest, rfl⟩ := ten_of hfo.1
 have hfx := fixedM_of hfo
 have hnone : ∀ {n}, (∀ bk, bodyM a3 a5 a7 a9 bk = none) → stepM n line = none := fun hb => step_none hps hb
 have hll : (a0 :: a1 :: a2 :: a3 :: a4 :: a5 :: a6 :: a7 :: a8 :: a9 :: rest).length = rest.length + 10 := rfl
 rw [hll] at rs0 ⊢
 refine P1 T.ok rfl rfl rfl ?_; refine WL_nil ?_; (with_reducible refine T_then ?_); refine W_seq ?_
 have hs0 := hs
 apply W_draw allF rfl (Fact.eq _ :: (strPtr a3) :: Fact.eq _ :: (numF a3) :: Fact.eq _ :: (strPtr a5) :: Fact.eq _ :: (listF a5) :: (bodF a3 a5) :: (objF g4.dr.w.heap.size [.int .i64 0, .slice none 0 0, .int .i64 0, .int .i64 0, .slice none 0 0, .int .i64 0, .int .i64 0] 51) :: []) 10 [(8, 23), (9, 5)] rfl rfl
 ·refine D_s (js := []) (by kernel_rfl) (fun _ _ => QA_nil (DPu T.ok rfl rfl rfl)) ?_
  refine D_cons (D_step2 (js := [(0, 15)]) (by kernel_rfl) fun gd hf => ?_) ?_
  ·have hsd := hs.dr.call hf; have hfe := (G.le_dr _).trans hf.le
   refine QA_eq rfl ?_
   refine QA_nil ?_
   refine D_yes rfl ?_
   refine OpR_idx T.ok rfl (rs0.mono hfe) (y := ⟨a3⟩) rfl rfl rfl rfl rfl rfl rfl ?_
   intro b p ys hep hrc
   exact ⟨_, rfl, Fr0.refl _, b, p, rfl, by rw [← show ys = [Value.string (bs a3)] from hrc]; exact hep⟩
  refine D_cons (D_step2 (js := [(1, 16)]) (by kernel_rfl) fun gd hf => ?_) ?_
  ·have hsd := hs.dr.call hf; have hfe := (G.le_dr _).trans hf.le
   refine QA_any fun v1 h1 => ?_
   refine QA_nil ?_
   obtain ⟨b, p, rfl, hep⟩ := h1
   refine D_yes rfl ?_
   refine OpR_loadE T.ok 0 rfl hep rfl rfl ?_
   refine ⟨_, rfl, Fr0.refl _, ?_⟩
   exact rfl
  refine D_cons (D_step2 (js := [(2, 17)]) (by kernel_rfl) fun gd hf => ?_) ?_
  ·have hsd := hs.dr.call hf; have hfe := (G.le_dr _).trans hf.le
   refine QA_eq rfl ?_
   refine QA_nil ?_
   refine D_yes rfl ?_
   refine OpR_orp cl77 allF rfl rfl rfl rfl rfl (number_c a3 _ (Nat.le_trans (hpm a3 (by simp)) hlen) (hF.mono (le0.trans hfe))) (fun g' v hf' h => ⟨g', rfl, hf', h⟩) fun hn g' hf' => ?_
   replace hsd := hsd.call hf'
   (repeat (first | with_reducible refine T_tp ?_ | with_reducible refine T_bp ?_ | with_reducible refine T_gp ?_))
   exact panic0 (.inr ⟨stepR_none (hnone fun _ => bodyM_3 hn), BoomS.intro ((le0.trans hfe).trans hf'.le) ⟨_, (hsd.drop 1).drop 1⟩⟩)
  refine D_s (js := []) (by kernel_rfl) (fun _ _ => QA_nil (DPu T.ok rfl rfl rfl)) ?_
  refine D_cons (D_step2 (js := [(4, 19)]) (by kernel_rfl) fun gd hf => ?_) ?_
  ·have hsd := hs.dr.call hf; have hfe := (G.le_dr _).trans hf.le
   refine QA_eq rfl ?_
   refine QA_nil ?_
   refine D_yes rfl ?_
   refine OpR_idx T.ok rfl (rs0.mono hfe) (y := ⟨a5⟩) rfl rfl rfl rfl rfl rfl rfl ?_
   intro b p ys hep hrc
   exact ⟨_, rfl, Fr0.refl _, b, p, rfl, by rw [← show ys = [Value.string (bs a5)] from hrc]; exact hep⟩
  refine D_cons (D_step2 (js := [(5, 20)]) (by kernel_rfl) fun gd hf => ?_) ?_
  ·have hsd := hs.dr.call hf; have hfe := (G.le_dr _).trans hf.le
   refine QA_any fun v5 h5 => ?_
   refine QA_nil ?_
   obtain ⟨b, p, rfl, hep⟩ := h5
   refine D_yes rfl ?_
   refine OpR_loadE T.ok 0 rfl hep rfl rfl ?_
   refine ⟨_, rfl, Fr0.refl _, ?_⟩
   exact rfl
  refine D_cons (D_step2 (js := [(6, 21)]) (by kernel_rfl) fun gd hf => ?_) ?_
  ·have hsd := hs.dr.call hf; have hfe := (G.le_dr _).trans hf.le
   refine QA_eq rfl ?_
   refine QA_nil ?_
   refine D_yes rfl ?_
   refine OpR_orp cl78 allF rfl rfl rfl rfl rfl (list_c a5 _ (Nat.le_trans (hpm a5 (by simp)) hlen) (hF.mono (le0.trans hfe))) (fun g' v hf' h => ⟨g', rfl, hf', h⟩) fun hn g' hf' => ?_
   replace hsd := hsd.call hf'
   (repeat (first | with_reducible refine T_tp ?_ | with_reducible refine T_bp ?_ | with_reducible refine T_gp ?_))
   exact panic0 (.inr ⟨stepR_none (hnone fun _ => bodyM_5 hn), BoomS.intro ((le0.trans hfe).trans hf'.le) ⟨_, (hsd.drop 1).drop 1⟩⟩)
  refine D_cons (D_step2 (js := [(3, 18), (7, 22)]) (by kernel_rfl) fun gd hf => ?_) ?_
  ·have hsd := hs.dr.call hf; have hfe := (G.le_dr _).trans hf.le
   refine QA_any fun v3 h3 => ?_; refine QA_any fun v7 h7 => ?_
   refine QA_nil ?_
   obtain ⟨r, hr, rfl⟩ := h3
   obtain ⟨tl, ht, rst⟩ := h7
   obtain ⟨ta, tc, rfl⟩ := rst.isSlice
   rw [ints_len] at rst ⊢
   refine D_yes rfl ?_
   refine OpR_build T.ok rfl (vs := [(0, .int .i64 r), (1, .slice ta tl.length tc), (5, .int .i64 (-1))]) (cells := [.int .i64 r, .slice ta tl.length tc, .int .i64 0, .int .i64 0, .slice none 0 0, .int .i64 (-1), .int .i64 0]) rfl rfl rfl rfl [(0, 1), (1, 1), (2, 1), (3, 1), (4, 1), (5, 1), (6, 1)] rfl (by kernel_rfl) ?_
   exact ⟨_, rfl, Fr0.refl _, r, tl, ta, tc, hr, ht, rfl, rst⟩
  refine D_cons (D_step2 (js := []) (by kernel_rfl) fun gd hf => ?_) ?_
  ·have hsd := hs.dr.call hf; have hfe := (G.le_dr _).trans hf.le
   refine QA_nil ?_
   refine D_yes rfl ?_
   refine OpR_alloc T.ok rfl (St.start gd) rfl rfl ?_
   intro b g' hs' hle
   have ho := hs'.own 0 _ rfl
   exact ⟨g', rfl, hs'.fr0, b, rfl, Nat.le_trans hf.below.size ho.1, ho.2⟩
  exact D_nil
 intro g1 hf1; refine QA_any fun v8 h8 => ?_; refine QA_any fun v9 h9 => ?_; refine QA_nil ?_
 replace hs := hs.dr.call hf1; have hqe := (G.le_dr _).trans hf1.le; replace le0 := G.le.trans le0 hqe; replace rs0 := rs0.mono hqe; replace rs1 := rs1.mono hqe; replace rc0 := rc0.mono hqe
 obtain ⟨r, tl, ta, tc, hr, ht, rfl, rs2⟩ := h8
 obtain ⟨bx, rfl, hob⟩ := h9
 replace hs := hs0.dr.getOwn hf1 hob; clear hs0
 skip
 refine WL_n rfl (OpR_storeO T.ok 0 rfl hs rfl rfl rfl rfl rfl rfl rfl rfl rfl ?_); replace hs := hs; rintro g1 hs hqe; replace le0 := G.le.trans le0 hqe; replace rs0 := rs0.mono hqe; replace rs1 := rs1.mono hqe; replace rs2 := rs2.mono hqe; replace rc0 := rc0.mono hqe
 refine WL_nil ?_; (with_reducible refine T_then ?_); refine W_seq ?_; refine W_region ?_; refine P1 T.ok rfl rfl rfl ?_
 refine WL_o rfl rfl (OpR_idx T.ok rfl rs0 (y := ⟨a7⟩) rfl rfl rfl rfl rfl rfl rfl ?_)
 rintro bq pq ys hep rfl
 refine WL_o rfl rfl (OpR_loadE T.ok 0 rfl hep rfl rfl ?_)
 skip
 refine WL_o rfl rfl (OpR_orp cl76 allF rfl rfl rfl rfl rfl (span_c a7 _ (Nat.le_trans (hpm a7 (by simp)) hlen) (hF.mono le0)) ?_ ?_)
 rotate_left
 ·intro hn g5 hf5
  replace hs := hs.call hf5
  replace le0 := le0.trans hf5.le
  (repeat (first | with_reducible refine T_tp ?_ | with_reducible refine T_bp ?_ | with_reducible refine T_gp ?_))
  exact panic0 (.inr ⟨stepR_none (hnone fun _ => bodyM_7 hn), BoomS.intro le0 ⟨_, ((hs.drop 0).drop 1).drop 1⟩⟩)
 rintro g6 _ hf6 ⟨m, n, hmn, rfl⟩
 replace hs := hs.call hf6
 have hqe := hf6.le; replace le0 := G.le.trans le0 hqe; replace rs0 := rs0.mono hqe; replace rs1 := rs1.mono hqe; replace rs2 := rs2.mono hqe; replace rc0 := rc0.mono hqe
 (iterate 4 refine P1 T.ok rfl rfl rfl ?_)
 refine WL_n rfl (OpR_storeO T.ok 0 rfl hs rfl rfl rfl rfl rfl rfl rfl rfl rfl ?_); replace hs := hs; rintro g1 hs hqe; replace le0 := G.le.trans le0 hqe; replace rs0 := rs0.mono hqe; replace rs1 := rs1.mono hqe; replace rs2 := rs2.mono hqe; replace rc0 := rc0.mono hqe
 refine P1 T.ok rfl rfl rfl ?_
 refine WL_n rfl (OpR_storeO T.ok 0 rfl hs rfl rfl rfl rfl rfl rfl rfl rfl rfl ?_); replace hs := hs; rintro g1 hs hqe; replace le0 := G.le.trans le0 hqe; replace rs0 := rs0.mono hqe; replace rs1 := rs1.mono hqe; replace rs2 := rs2.mono hqe; replace rc0 := rc0.mono hqe
 refine WL_nil ?_; (with_reducible refine T_then ?_); refine W_seq ?_; refine W_seq ?_; refine W_region ?_; refine P1 T.ok rfl rfl rfl ?_
 refine WL_o rfl rfl (OpR_idx T.ok rfl rs0 (y := ⟨a9⟩) rfl rfl rfl rfl rfl rfl rfl ?_)
 rintro bq pq ys hep rfl
 refine WL_o rfl rfl (OpR_loadE T.ok 0 rfl hep rfl rfl ?_)
 refine P1 T.ok rfl rfl rfl ?_; refine WL_nil ?_; (with_reducible refine T_then ?_)
 refine W_mid (fun a' w => ∃ (na : Option Addr) (nc : Nat) (nx : List Nat) (g' : G), w = g'.w ∧ g1.le g' ∧ nextM a9 = some nx ∧ Rs g' (.slice na nx.length nc) (ints nx) ∧
  St g0 g' (.obj bx (.cells [.int .i64 r, .slice ta tl.length tc, .int .i64 m, .int .i64 n, .slice na nx.length nc, .int .i64 (-1), .int .i64 (0)].toArray 51 (0, 0)) ::
   .obj b (.cells [.int .i64 f.moveMin, .int .i64 f.moveMax, .slice sa f.steps.length sc, .slice wa f.windows.length wc].toArray 27 (0, 0)) ::
   .row 51 7 (.slice sa f.steps.length sc) f.steps.length scs ::
   .row 54 3 (.slice wa f.windows.length wc) f.windows.length (winL f.windows) :: L) ∧
  Fr 91 [] [(0, .pointer (some ⟨b, 0, none⟩)), (1, .string (bs line)), (4, .slice pa (rest.length + 10) pc), (5, .pointer (some ⟨bx, 0, none⟩))] a') ?_ ?_
 ·by_cases h9 : a9 = [45]
  ·refine W_no (b := _) ?_ rfl ?_
   ·rw [bs_toList, to45]; simp [h9]
   refine W_skip ?_
   exact fun a ha => ⟨none, 0, [], g1, rfl, G.le.refl _, by unfold nextM; rw [if_pos h9], Rs.nil _, hs, ha.keep (by (repeat (first | exact trivial | refine ⟨rfl, ?_⟩)))⟩
  ·refine W_yes (b := _) ?_ rfl ?_
   ·rw [bs_toList, to45]; simp [h9]
   have le3 := G.le.refl g1
   refine W_region ?_; refine P1 T.ok rfl rfl rfl ?_
   refine WL_o rfl rfl (OpR_idx T.ok rfl rs0 (y := ⟨a9⟩) rfl rfl rfl rfl rfl rfl rfl ?_)
   rintro bq pq ys hep rfl
   refine WL_o rfl rfl (OpR_loadE T.ok 0 rfl hep rfl rfl ?_)
   skip
   have hnl : nextM a9 = listM a9 := by unfold nextM; rw [if_neg h9]
   refine WL_o rfl rfl (OpR_orp cl78 allF rfl rfl rfl rfl rfl (list_c a9 _ (Nat.le_trans (hpm a9 (by simp)) hlen) (hF.mono le0)) ?_ ?_)
   rotate_left
   ·intro hn g5 hf5
    replace hs := hs.call hf5
    replace le0 := le0.trans hf5.le
    (repeat (first | with_reducible refine T_tp ?_ | with_reducible refine T_bp ?_ | with_reducible refine T_gp ?_))
    exact panic0 (.inr ⟨stepR_none (hnone fun _ => bodyM_9 (by rw [hnl]; exact hn)), BoomS.intro le0 ⟨_, ((hs.drop 0).drop 1).drop 1⟩⟩)
   rintro g7 v hf7 ⟨nx, hnx, rs3⟩
   obtain ⟨na, nc, rfl⟩ := rs3.isSlice
   rw [ints_len] at rs3 ⊢
   replace hs := hs.call hf7
   have hqe := hf7.le; replace le0 := G.le.trans le0 hqe; replace le3 := G.le.trans le3 hqe; replace rs0 := rs0.mono hqe; replace rs1 := rs1.mono hqe; replace rs2 := rs2.mono hqe; replace rc0 := rc0.mono hqe
   refine P1 T.ok rfl rfl rfl ?_
   refine WL_n rfl (OpR_storeO T.ok 0 rfl hs rfl rfl rfl rfl rfl rfl rfl rfl rfl ?_); replace hs := hs; rintro g8 hs hqe; replace le0 := G.le.trans le0 hqe; replace le3 := G.le.trans le3 hqe; replace rs0 := rs0.mono hqe; replace rs1 := rs1.mono hqe; replace rs2 := rs2.mono hqe; replace rs3 := rs3.mono hqe; replace rc0 := rc0.mono hqe
   refine WL_nil ?_
   exact fun a ha => ⟨na, nc, nx, g8, rfl, le3, by rw [hnl, hnx], rs3, hs, ha.keep (by (repeat (first | exact trivial | refine ⟨rfl, ?_⟩)))⟩
 clear hs
 rintro a' _ ⟨na, nc, nx, g7, rfl, hqe, hnx, rs3, hs, ha'⟩
 replace le0 := G.le.trans le0 hqe; replace rs0 := rs0.mono hqe; replace rs1 := rs1.mono hqe; replace rs2 := rs2.mono hqe; replace rc0 := rc0.mono hqe
 revert a'
 (with_reducible refine T_wp ?_); refine W_seq ?_; refine W_seq ?_; refine W_region ?_; (iterate 3 refine P1 T.ok rfl rfl rfl ?_); refine WL_nil ?_; (with_reducible refine T_then ?_)
 refine W_mid (fun a' w => ∃ (bk lm : Int) (g' : G), w = g'.w ∧ g7.le g' ∧ stepM f.steps.length line = some ⟨r, ints tl, m, n, ints nx, bk, lm⟩ ∧
  St g0 g' (.obj bx (.cells [.int .i64 r, .slice ta tl.length tc, .int .i64 m, .int .i64 n, .slice na nx.length nc, .int .i64 (bk), .int .i64 (lm)].toArray 51 (0, 0)) ::
   .obj b (.cells [.int .i64 f.moveMin, .int .i64 f.moveMax, .slice sa f.steps.length sc, .slice wa f.windows.length wc].toArray 27 (0, 0)) ::
   .row 51 7 (.slice sa f.steps.length sc) f.steps.length scs ::
   .row 54 3 (.slice wa f.windows.length wc) f.windows.length (winL f.windows) :: L) ∧
  Fr 91 [] [(0, .pointer (some ⟨b, 0, none⟩)), (5, .pointer (some ⟨bx, 0, none⟩))] a') ?_ ?_
 ·by_cases hr0 : rest.length = 0
  ·obtain rfl := List.length_eq_zero_iff.1 hr0
   refine W_no (b := _) ?_ rfl ?_
   ·simp
   refine W_skip ?_
   exact fun a ha => ⟨-1, 0, g7, rfl, G.le.refl _, by rw [step_short hps hfx, bodyM_y hr ht hmn hnx], hs, ha.keep (by (repeat (first | exact trivial | refine ⟨rfl, ?_⟩)))⟩
  ·refine W_yes (b := _) ?_ rfl ?_
   ·simp; omega
   have le3 := G.le.refl g7
   have hl10 : 10 < (splitC 32 line).length := by rw [hps, hll]; omega
   refine W_seq ?_; refine W_region ?_; refine P1 T.ok rfl rfl rfl ?_
   refine WL_o rfl rfl (OpR_lit T.ok rfl hs (vs := [(0, .string (bs [])), (1, .string (bs [])), (2, .string (bs [])), (3, .string (bs [])), (4, .string (bs [])), (5, .string (bs [])), (6, .string (bs [])), (7, .string (bs [])), (8, .string (bs [])), (9, .string (bs [])), (10, .string (bs wBack)), (11, .string (bs [])), (12, .string (bs wLimit)), (13, .string (bs []))])
    (cells := [.string (bs []), .string (bs []), .string (bs []), .string (bs []), .string (bs []), .string (bs []), .string (bs []), .string (bs []), .string (bs []), .string (bs []), .string (bs wBack), .string (bs []), .string (bs wLimit), .string (bs [])]) rfl rfl rfl rfl rfl rfl (by decide) (by decide) (by kernel_rfl) rfl ?_)
   clear hs
   rintro bl gl hs hqe; replace le0 := G.le.trans le0 hqe; replace le3 := G.le.trans le3 hqe; replace rs0 := rs0.mono hqe; replace rs1 := rs1.mono hqe; replace rs2 := rs2.mono hqe; replace rs3 := rs3.mono hqe; replace rc0 := rc0.mono hqe
   obtain ⟨gz, hwz, hsz, hqz, rs4⟩ := hs.fzRow (α := Str) (xs := fxB.map Str.mk) (i := 0) rfl (RcL.strs _ fxB)
   have hqe := hqz; rw [← hwz]; replace hs := hsz; clear hsz; replace le0 := G.le.trans le0 hqe; replace le3 := G.le.trans le3 hqe; replace rs0 := rs0.mono hqe; replace rs1 := rs1.mono hqe; replace rs2 := rs2.mono hqe; replace rs3 := rs3.mono hqe; replace rc0 := rc0.mono hqe
   skip
   refine WL_o rfl rfl (OpR_orp cl74 allF rfl rfl rfl rfl rfl (words_c line fxB _ _ hlen (by decide) (hF.mono le0) rs4) ?_ ?_)
   rotate_left
   ·intro hn g5 hf5
    replace hs := hs.call hf5
    replace le0 := le0.trans hf5.le
    (repeat (first | with_reducible refine T_tp ?_ | with_reducible refine T_bp ?_ | with_reducible refine T_gp ?_))
    exact panic0 (.inr ⟨stepR_none (step_notB hl10 hn), BoomS.intro le0 ⟨_, ((hs.drop 0).drop 1).drop 1⟩⟩)
   clear rs4
   rintro g4 v hf4 ⟨hfb, rs4⟩
   replace hs := hs.call hf4
   have hqe := hf4.le; replace le0 := G.le.trans le0 hqe; replace le3 := G.le.trans le3 hqe; replace rs0 := rs0.mono hqe; replace rs1 := rs1.mono hqe; replace rs2 := rs2.mono hqe; replace rs3 := rs3.mono hqe; replace rc0 := rc0.mono hqe
   obtain ⟨qa, qc, rfl⟩ := rs4.isSlice
   rw [List.length_map] at rs4 ⊢
   rw [hps] at hfb rs4 ⊢
   rw [hll] at rs4 ⊢
   refine P1 T.ok rfl rfl rfl ?_; refine WL_nil ?_; (with_reducible refine T_then ?_); refine W_seq ?_; refine W_region ?_; (iterate 3 refine P1 T.ok rfl rfl rfl ?_)
   by_cases h4 : rest.length = 4
   ·obtain ⟨b0, b1, b2, b3, rfl⟩ := four_of h4
    refine WL_know 50 (b' := true) (by simp) rfl ?_
    have hbody := step_long hps hfx hfb
    refine WL_o rfl rfl (OpR_orp cl75 allF rfl rfl rfl rfl rfl (must_c true _) ?_ fun h => (by cases h))
    rintro g3 _ hf3 ⟨rfl, _⟩
    replace hs := hs.call hf3
    have hqe := hf3.le; replace le0 := G.le.trans le0 hqe; replace le3 := G.le.trans le3 hqe; replace rs0 := rs0.mono hqe; replace rs1 := rs1.mono hqe; replace rs2 := rs2.mono hqe; replace rs3 := rs3.mono hqe; replace rs4 := rs4.mono hqe; replace rc0 := rc0.mono hqe
    refine WL_nil ?_; (with_reducible refine T_then ?_)
    apply W_draw allF rfl (Fact.eq _ :: (strPtr b1) :: Fact.eq _ :: (numF b1) :: Fact.eq _ :: (strPtr b3) :: Fact.eq _ :: (numF b3) :: Fact.eq _ :: []) 9 [(3, 55), (7, 59), (8, 60)] rfl rfl
    ·refine D_s (js := []) (by kernel_rfl) (fun _ _ => QA_nil (DPu T.ok rfl rfl rfl)) ?_
     refine D_cons (D_step2 (js := [(0, 52)]) (by kernel_rfl) fun gd hf => ?_) ?_
     ·have hsd := hs.dr.call hf; have hfe := (G.le_dr _).trans hf.le
      refine QA_eq rfl ?_
      refine QA_nil ?_
      refine D_yes rfl ?_
      refine OpR_idx T.ok rfl (rs4.mono hfe) (y := ⟨b1⟩) rfl rfl rfl rfl rfl rfl rfl ?_
      intro b p ys hep hrc
      exact ⟨_, rfl, Fr0.refl _, b, p, rfl, by rw [← show ys = [Value.string (bs b1)] from hrc]; exact hep⟩
     refine D_cons (D_step2 (js := [(1, 53)]) (by kernel_rfl) fun gd hf => ?_) ?_
     ·have hsd := hs.dr.call hf; have hfe := (G.le_dr _).trans hf.le
      refine QA_any fun v1 h1 => ?_
      refine QA_nil ?_
      obtain ⟨b, p, rfl, hep⟩ := h1
      refine D_yes rfl ?_
      refine OpR_loadE T.ok 0 rfl hep rfl rfl ?_
      refine ⟨_, rfl, Fr0.refl _, ?_⟩
      exact rfl
     refine D_cons (D_step2 (js := [(2, 54)]) (by kernel_rfl) fun gd hf => ?_) ?_
     ·have hsd := hs.dr.call hf; have hfe := (G.le_dr _).trans hf.le
      refine QA_eq rfl ?_
      refine QA_nil ?_
      refine D_yes rfl ?_
      refine OpR_orp cl77 allF rfl rfl rfl rfl rfl (number_c b1 _ (Nat.le_trans (hpm b1 (by simp)) hlen) (hF.mono (le0.trans hfe))) (fun g' v hf' h => ⟨g', rfl, hf', h⟩) fun hn g' hf' => ?_
      replace hsd := hsd.call hf'
      (repeat (first | with_reducible refine T_tp ?_ | with_reducible refine T_bp ?_ | with_reducible refine T_gp ?_))
      exact panic0 (.inr ⟨stepR_none (by rw [hbody]; unfold backM; rw [hn]; exact bodyM_b), BoomS.intro ((le0.trans hfe).trans hf'.le) ⟨_, ((hsd.drop 0).drop 1).drop 1⟩⟩)
     refine D_s (js := []) (by kernel_rfl) (fun _ _ => QA_nil (DPu T.ok rfl rfl rfl)) ?_
     refine D_cons (D_step2 (js := [(4, 56)]) (by kernel_rfl) fun gd hf => ?_) ?_
     ·have hsd := hs.dr.call hf; have hfe := (G.le_dr _).trans hf.le
      refine QA_eq rfl ?_
      refine QA_nil ?_
      refine D_yes rfl ?_
      refine OpR_idx T.ok rfl (rs4.mono hfe) (y := ⟨b3⟩) rfl rfl rfl rfl rfl rfl rfl ?_
      intro b p ys hep hrc
      exact ⟨_, rfl, Fr0.refl _, b, p, rfl, by rw [← show ys = [Value.string (bs b3)] from hrc]; exact hep⟩
     refine D_cons (D_step2 (js := [(5, 57)]) (by kernel_rfl) fun gd hf => ?_) ?_
     ·have hsd := hs.dr.call hf; have hfe := (G.le_dr _).trans hf.le
      refine QA_any fun v5 h5 => ?_
      refine QA_nil ?_
      obtain ⟨b, p, rfl, hep⟩ := h5
      refine D_yes rfl ?_
      refine OpR_loadE T.ok 0 rfl hep rfl rfl ?_
      refine ⟨_, rfl, Fr0.refl _, ?_⟩
      exact rfl
     refine D_cons (D_step2 (js := [(6, 58)]) (by kernel_rfl) fun gd hf => ?_) ?_
     ·have hsd := hs.dr.call hf; have hfe := (G.le_dr _).trans hf.le
      refine QA_eq rfl ?_
      refine QA_nil ?_
      refine D_yes rfl ?_
      refine OpR_orp cl77 allF rfl rfl rfl rfl rfl (number_c b3 _ (Nat.le_trans (hpm b3 (by simp)) hlen) (hF.mono (le0.trans hfe))) (fun g' v hf' h => ⟨g', rfl, hf', h⟩) fun hn g' hf' => ?_
      replace hsd := hsd.call hf'
      (repeat (first | with_reducible refine T_tp ?_ | with_reducible refine T_bp ?_ | with_reducible refine T_gp ?_))
      exact panic0 (.inr ⟨stepR_none (by rw [hbody]; unfold backM; rw [hn]; (cases numM b1 <;> exact bodyM_b)), BoomS.intro ((le0.trans hfe).trans hf'.le) ⟨_, ((hsd.drop 0).drop 1).drop 1⟩⟩)
     refine D_s (js := []) (by kernel_rfl) (fun _ _ => QA_nil (DPu T.ok rfl rfl rfl)) ?_
     exact D_nil
    intro g1 hf1; refine QA_any fun v3 h3 => ?_; refine QA_any fun v7 h7 => ?_; refine QA_eq rfl ?_; refine QA_nil ?_
    replace hs := hs.dr.call hf1; have hqe := (G.le_dr _).trans hf1.le; replace le0 := G.le.trans le0 hqe; replace le3 := G.le.trans le3 hqe; replace rs0 := rs0.mono hqe; replace rs1 := rs1.mono hqe; replace rs2 := rs2.mono hqe; replace rs3 := rs3.mono hqe; replace rs4 := rs4.mono hqe; replace rc0 := rc0.mono hqe
    obtain ⟨bk, hbk, rfl⟩ := h3
    obtain ⟨lm, hlm, rfl⟩ := h7
    skip
    refine WL_n rfl (OpR_storeO T.ok 0 rfl hs rfl rfl rfl rfl rfl rfl rfl rfl rfl ?_); replace hs := hs; rintro g8 hs hqe; replace le0 := G.le.trans le0 hqe; replace le3 := G.le.trans le3 hqe; replace rs0 := rs0.mono hqe; replace rs1 := rs1.mono hqe; replace rs2 := rs2.mono hqe; replace rs3 := rs3.mono hqe; replace rs4 := rs4.mono hqe; replace rc0 := rc0.mono hqe
    refine P1 T.ok rfl rfl rfl ?_
    refine WL_n rfl (OpR_storeO T.ok 0 rfl hs rfl rfl rfl rfl rfl rfl rfl rfl rfl ?_); replace hs := hs; rintro g9 hs hqe; replace le0 := G.le.trans le0 hqe; replace le3 := G.le.trans le3 hqe; replace rs0 := rs0.mono hqe; replace rs1 := rs1.mono hqe; replace rs2 := rs2.mono hqe; replace rs3 := rs3.mono hqe; replace rs4 := rs4.mono hqe; replace rc0 := rc0.mono hqe
    refine WL_nil ?_
    exact fun a ha => ⟨bk, lm, g9, rfl, le3, by rw [hbody]; unfold backM; rw [hbk, hlm]; exact bodyM_y hr ht hmn hnx, hs, ha.keep (by (repeat (first | exact trivial | refine ⟨rfl, ?_⟩)))⟩
   ·refine WL_know 50 (b' := false) (by simp; omega) rfl ?_
    refine WL_o rfl rfl (OpR_orp cl75 allF rfl rfl rfl rfl rfl (must_c false _) ?_ ?_)
    ·rintro g3 _ hf3 ⟨_, hc⟩
     cases hc
    ·intro _ g3 hf3
     replace hs := hs.call hf3
     replace le0 := le0.trans hf3.le
     (repeat (first | with_reducible refine T_tp ?_ | with_reducible refine T_bp ?_ | with_reducible refine T_gp ?_))
     exact panic0 (.inr ⟨stepR_none (step_lenB hl10 (by rw [hps, hll]; omega)), BoomS.intro le0 ⟨_, ((hs.drop 0).drop 1).drop 1⟩⟩)
 clear hs
 rintro a' _ ⟨bk, lm, g8, rfl, hqe, hst, hs, ha'⟩
 replace le0 := G.le.trans le0 hqe; replace rs0 := rs0.mono hqe; replace rs1 := rs1.mono hqe; replace rs2 := rs2.mono hqe; replace rs3 := rs3.mono hqe; replace rc0 := rc0.mono hqe
 revert a'
 (with_reducible refine T_wp ?_); refine W_seq ?_; refine W_region ?_; refine WL_o rfl rfl (OpR_loadO T.ok 0 rfl hs rfl rfl rfl ?_)
 refine WL_o rfl rfl (OpR_ret cl45 allF rfl rfl rfl rfl rfl (rightStep_c _ ⟨r, ints tl, m, n, ints nx, bk, lm⟩ 40 _ ⟨[.int .i64 r, .slice ta tl.length tc, .int .i64 m, .int .i64 n, .slice na nx.length nc, .int .i64 bk, .int .i64 lm], rfl, ta, tl.length, tc, na, nx.length, nc, rfl, rs2, rs3⟩ (by decide) (by decide)) ?_)
 rintro g9 _ hf9 rfl
 replace hs := hs.call hf9
 have hqe := hf9.le; replace le0 := G.le.trans le0 hqe; replace rs0 := rs0.mono hqe; replace rs1 := rs1.mono hqe; replace rs2 := rs2.mono hqe; replace rs3 := rs3.mono hqe; replace rc0 := rc0.mono hqe
 have hsr : stepR f line = if (rightStep ⟨r, ints tl, m, n, ints nx, bk, lm⟩ 40 && decide ((f.steps.length : Int) < 40) && decide ((f.windows.length : Int) = 0)) = true then some ⟨r, ints tl, m, n, ints nx, bk, lm⟩ else none := by unfold stepR; rw [hst]; rfl
 cases hw1 : rightStep ⟨r, ints tl, m, n, ints nx, bk, lm⟩ 40 with
 | false =>
  refine P1 T.ok rfl rfl rfl ?_; (iterate 6 refine S1 allF rfl rfl ?_); refine P1 T.ok rfl rfl rfl ?_; refine P1 T.ok rfl rfl rfl ?_; (iterate 6 refine S1 allF rfl rfl ?_); refine P1 T.ok rfl rfl rfl ?_
  refine WL_o rfl rfl (OpR_orp cl75 allF rfl rfl rfl rfl rfl (must_c false _) ?_ ?_)
  ·rintro g3 _ hf3 ⟨_, hc⟩
   cases hc
  ·intro _ g3 hf3
   replace hs := hs.call hf3
   replace le0 := le0.trans hf3.le
   (repeat (first | with_reducible refine T_tp ?_ | with_reducible refine T_bp ?_ | with_reducible refine T_gp ?_))
   exact panic0 (.inr ⟨by rw [hsr, hw1]; rfl, BoomS.intro le0 ⟨_, ((hs.drop 0).drop 1).drop 1⟩⟩)
 | true =>
 (iterate 4 refine P1 T.ok rfl rfl rfl ?_); refine WL_o rfl rfl (OpR_loadO T.ok 1 rfl hs rfl rfl rfl ?_); (iterate 4 refine P1 T.ok rfl rfl rfl ?_)
 by_cases h40 : f.steps.length < 40
 ·refine WL_know 72 (b' := true) (by simp; omega) rfl ?_
  (iterate 3 refine P1 T.ok rfl rfl rfl ?_); refine WL_o rfl rfl (OpR_loadO T.ok 1 rfl hs rfl rfl rfl ?_); (iterate 3 refine P1 T.ok rfl rfl rfl ?_)
  by_cases hw0 : f.windows.length = 0
  ·refine WL_know 79 (b' := true) (by simp [hw0]) rfl ?_
   refine WL_o rfl rfl (OpR_orp cl75 allF rfl rfl rfl rfl rfl (must_c true _) ?_ fun h => (by cases h))
   rintro g3 _ hf3 ⟨rfl, _⟩
   replace hs := hs.call hf3
   have hqe := hf3.le; replace le0 := G.le.trans le0 hqe; replace rs0 := rs0.mono hqe; replace rs1 := rs1.mono hqe; replace rs2 := rs2.mono hqe; replace rs3 := rs3.mono hqe; replace rc0 := rc0.mono hqe
   replace hsr : stepR f line = some ⟨r, ints tl, m, n, ints nx, bk, lm⟩ := by rw [hsr, hw1, decide_eq_true (by omega : (f.steps.length : Int) < 40), decide_eq_true (by omega : (f.windows.length : Int) = 0)]; rfl
   refine WL_nil ?_; (with_reducible refine T_then ?_)
   apply W_drawM allF rfl (Fact.eq _ :: Fact.eq _ :: Fact.eq _ :: Fact.eq _ :: Fact.eq _ :: Fact.eq _ :: (Fact.rs [(⟨r, ints tl, m, n, ints nx, bk, lm⟩ : Step)]) :: (appF g0 (fun v wcs => .obj bx (.cells [.int .i64 r, .slice ta tl.length tc, .int .i64 m, .int .i64 n, .slice na nx.length nc, .int .i64 bk, .int .i64 lm].toArray 51 (0, 0)) :: .obj b (.cells [.int .i64 f.moveMin, .int .i64 f.moveMax, .slice sa f.steps.length sc, .slice wa f.windows.length wc].toArray 27 (0, 0)) :: .row 51 7 v (f.steps.length + 1) wcs :: .row 54 3 (.slice wa f.windows.length wc) f.windows.length (winL f.windows) :: L) (f.steps.length + 1) (f.steps ++ [(⟨r, ints tl, m, n, ints nx, bk, lm⟩ : Step)])) :: []) 8 [(0, 81), (7, 88)] [] [1, 2, 3, 4, 5, 6] 7 rfl (by kernel_rfl) (by kernel_rfl)
   case houts => exact rfl
   case hsoft => (repeat (first | exact softN | apply softE | refine softC (soft_eq _) ?_ | refine softC (soft_rs _) ?_ | refine softC (soft_step _ _) ?_ | refine softC (soft_stepV _) ?_ | refine softC (soft_wayV _) ?_ | refine softC (soft_intPtr _) ?_ | refine softC (soft_y6 _) ?_ | refine softC (soft_lst _) ?_ | refine softO (by exact rfl) ?_))
   ·refine M_cons (M_free (js := []) (by kernel_rfl) (by exact rfl) fun gd hf => ?_) ?_
    ·have hfe := (G.le_dr _).trans hf
     refine QA_nil ?_
     (refine D_yes rfl ?_; refine OpR_pure _ T.ok rfl ?_; refine ⟨_, rfl, Fr0.refl _, ?_⟩; exact rfl)
    refine M_cons (M_anc (js := []) (by kernel_rfl) (by exact rfl) (by exact rfl) fun gd hf => ?_) ?_
    ·have hsd := hs.dr.call hf; have hfe := (G.le_dr _).trans hf.le
     refine QA_nil ?_
     (refine D_yes rfl ?_; refine OpR_pure _ T.ok rfl ?_; refine ⟨_, rfl, Fr0.refl _, ?_⟩; exact rfl)
    refine M_cons (M_anc (js := [(1, 82)]) (by kernel_rfl) (by exact rfl) (by exact rfl) fun gd hf => ?_) ?_
    ·have hsd := hs.dr.call hf; have hfe := (G.le_dr _).trans hf.le
     refine QA_eq rfl ?_
     refine QA_nil ?_
     (refine D_yes rfl ?_; refine OpR_pure _ T.ok rfl ?_; refine ⟨_, rfl, Fr0.refl _, ?_⟩; exact rfl)
    refine M_cons (M_anc (js := [(2, 83)]) (by kernel_rfl) (by exact rfl) (by exact rfl) fun gd hf => ?_) ?_
    ·have hsd := hs.dr.call hf; have hfe := (G.le_dr _).trans hf.le
     refine QA_eq rfl ?_
     refine QA_nil ?_
     (refine D_yes rfl ?_; refine OpR_pure _ T.ok rfl ?_; refine ⟨_, rfl, Fr0.refl _, ?_⟩; exact rfl)
    refine M_cons (M_anc (js := [(3, 84)]) (by kernel_rfl) (by exact rfl) (by exact rfl) fun gd hf => ?_) ?_
    ·have hsd := hs.dr.call hf; have hfe := (G.le_dr _).trans hf.le
     refine QA_eq rfl ?_
     refine QA_nil ?_
     (refine D_yes rfl ?_; refine OpR_loadO T.ok 1 rfl hsd rfl rfl rfl ?_; refine ⟨_, rfl, Fr0.refl _, ?_⟩; exact rfl)
    refine M_cons (M_anc (js := []) (by kernel_rfl) (by exact rfl) (by exact rfl) fun gd hf => ?_) ?_
    ·have hsd := hs.dr.call hf; have hfe := (G.le_dr _).trans hf.le
     refine QA_nil ?_
     (refine D_yes rfl ?_; refine OpR_loadO T.ok 0 rfl hsd rfl rfl rfl ?_; refine ⟨_, rfl, Fr0.refl _, ?_⟩; exact rfl)
    refine M_cons (M_anc (js := [(5, 86)]) (by kernel_rfl) (by exact rfl) (by exact rfl) fun gd hf => ?_) ?_
    ·have hsd := hs.dr.call hf; have hfe := (G.le_dr _).trans hf.le
     refine QA_eq rfl ?_
     refine QA_nil ?_
     refine D_yes rfl ?_
     refine OpR_lit T.ok rfl (St.start gd) (vs := [(0, .agg #[.int .i64 r, .slice ta tl.length tc, .int .i64 m, .int .i64 n, .slice na nx.length nc, .int .i64 bk, .int .i64 lm])]) (cells := [.int .i64 r, .slice ta tl.length tc, .int .i64 m, .int .i64 n, .slice na nx.length nc, .int .i64 bk, .int .i64 lm]) rfl rfl rfl rfl rfl rfl (by decide) (by decide) (by kernel_rfl) rfl ?_
     intro b2 g2 hs1 hqe1
     obtain ⟨g3, hw3, hs3, hqe3, hrl⟩ := hs1.fzRow (α := Step) (xs := [⟨r, ints tl, m, n, ints nx, bk, lm⟩]) (i := 0) rfl ⟨_, [], by rw [List.append_nil], ⟨ta, tl.length, tc, na, nx.length, nc, rfl, rs2.mono (hfe.trans hqe1), rs3.mono (hfe.trans hqe1)⟩, rfl⟩
     exact ⟨g3, hw3, hs3.fr0, hrl⟩
    refine M_cons (M_eat (js := [(4, 85), (6, 87)]) (by kernel_rfl) fun gd hf => ?_) ?_
    ·have hsd := hs.dr.call hf; have hfe := (G.le_dr _).trans hf.le
     refine QA_eq rfl ?_; refine QA_any fun v6 h6 => ?_
     refine QA_nil ?_
     obtain ⟨ax, cx, rfl⟩ := Rs.isSlice h6
     obtain ⟨_, news, hnw, hsrc⟩ := Src.of_rs h6
     refine ⟨rfl, ?_⟩
     refine OpR_append T.ok 2 rfl hsd rfl rfl rfl rfl rfl rfl rfl (by decide) rfl hsrc hnw.one (by show (f.steps.length + 1) * 88 ≤ _; omega) (by unfold maxLen; show f.steps.length + 1 ≤ _; omega) ?_
     intro a' c' g8 hs8 hqe8
     exact ⟨g8, rfl, hqe8, a', c', _, rfl, hs8, RcL.app (hnw.mono hqe8) (rc0.mono (hfe.trans hqe8))⟩
    exact M_nil
   intro g1 hf1; refine QA_eq rfl ?_; refine QA_any fun v7 h7 => ?_; refine QA_nil ?_
   have hqe := (G.le_dr _).trans hf1; replace le0 := G.le.trans le0 hqe; replace rs0 := rs0.mono hqe; replace rs1 := rs1.mono hqe; replace rs2 := rs2.mono hqe; replace rs3 := rs3.mono hqe; replace rc0 := rc0.mono hqe
   obtain ⟨sa', sc', scs', rfl, hs, hsc'⟩ := h7
   refine P1 T.ok rfl rfl rfl ?_; refine P1 T.ok rfl rfl rfl ?_
   refine WL_n rfl (OpR_storeO T.ok 1 rfl hs rfl rfl rfl rfl rfl rfl rfl rfl rfl ?_); replace hs := hs; rintro g9 hs hqe; replace le0 := G.le.trans le0 hqe; replace rs0 := rs0.mono hqe; replace rs1 := rs1.mono hqe; replace rs2 := rs2.mono hqe; replace rs3 := rs3.mono hqe; replace rc0 := rc0.mono hqe
   refine WL_nil ?_
   refine end0 rfl (.inl (RetS.intro le0 ⟨rfl, _, hsr, sa', sc', wa, wc, scs', ?_, hsc'.mono hqe⟩))
   have hs2 := hs.drop 0
   show St g0 _ (.obj b _ :: .row _ 7 (.slice sa' (f.steps ++ [_]).length sc') (f.steps ++ [_]).length _ :: .row _ 3 _ _ _ :: L)
   rw [List.length_append]
   exact hs2
  ·refine WL_know 79 (b' := false) (by simp [hw0]) rfl ?_
   refine WL_o rfl rfl (OpR_orp cl75 allF rfl rfl rfl rfl rfl (must_c false _) ?_ ?_)
   ·rintro g3 _ hf3 ⟨_, hc⟩
    cases hc
   ·intro _ g3 hf3
    replace hs := hs.call hf3
    replace le0 := le0.trans hf3.le
    (repeat (first | with_reducible refine T_tp ?_ | with_reducible refine T_bp ?_ | with_reducible refine T_gp ?_))
    exact panic0 (.inr ⟨by rw [hsr, decide_eq_false (by omega : ¬ (f.windows.length : Int) = 0), Bool.and_false]; rfl, BoomS.intro le0 ⟨_, ((hs.drop 0).drop 1).drop 1⟩⟩)
 ·refine WL_know 72 (b' := false) (by simp; omega) rfl ?_
  (iterate 6 refine S1 allF rfl rfl ?_); refine P1 T.ok rfl rfl rfl ?_
  refine WL_o rfl rfl (OpR_orp cl75 allF rfl rfl rfl rfl rfl (must_c false _) ?_ ?_)
  ·rintro g3 _ hf3 ⟨_, hc⟩
   cases hc
  ·intro _ g3 hf3
   replace hs := hs.call hf3
   replace le0 := le0.trans hf3.le
   (repeat (first | with_reducible refine T_tp ?_ | with_reducible refine T_bp ?_ | with_reducible refine T_gp ?_))
   exact panic0 (.inr ⟨by rw [hsr, decide_eq_false (by omega : ¬ (f.steps.length : Int) < 40), Bool.and_false, Bool.false_and]; rfl, BoomS.intro le0 ⟨_, ((hs.drop 0).drop 1).drop 1⟩⟩)
end Go.Proofs.YtnggomfbgmlkhaaGreatDoor

/- Reading a line: right, which recovers. -/
namespace Go.Proofs.YtnggomfbgmlkhaaGreatDoor
open Go Go.K
set_option maxRecDepth 10000
attribute [local irreducible] W WL OpR bitAnd bitOr bitXor bitClr bitNot shlI shrI
set_option maxHeartbeats 4000000

theorem results_cell1 {fn : Func} {tb : Tb} {P : Program} {g0 g : G} {L : List Ent} (htb : tb.ok P) {tmps : Array Value} {t tt b : Nat} {v : Value} {cs : List Value} {E : TypeId} {fz : Nat × Nat} (i : Nat) (hr : fn.results = #[.cell t tt]) (hs : St g0 g L)
  (h1 : tmps[t]? = some (.pointer (some ⟨b, 0, none⟩))) (hi : L[i]? = some (.obj b (.cells cs.toArray E fz))) (hv : ldl tb tt cs 0 = some v) :
  (results fn tmps).run P g.w = .ok v g.w := by
 have e1 := run_loadVar (P := P) (w := g.w) (off := 0) (o := 0) htb hv (obj_cells (hs.own i _ hi).2.1)
 simp only [Nat.add_zero] at e1
 simp [results, hr, h1, asAddr, e1]
theorem catch_boom {b6 : Nat} {v6 : Bool} {g0 g : G} {e0 : Ent} {L : List Ent} (hs : St g0 g (e0 :: .obj b6 (.cells [Value.bool v6].toArray 4 (0, 0)) :: L)) :
  CallsDIn Wd 0 Tryz.prog 54 #[.pointer (some ⟨b6, 0, none⟩)] (.panicking wrongs) g.w fun en u' w' => en = .returned (.tuple #[]) ∧ u' = .panicking [{ v := .iface 134 (.agg #[]), recovered := true }] ∧
   ∃ g', g'.w = w' ∧ g.le g' ∧ St g0 g' (e0 :: .obj b6 (.cells [Value.bool false].toArray 4 (0, 0)) :: L) := by
 refine callsDIn_of_wpSIn Tryz.func54 rfl trivial fun c₀ cs hu => ?_
 apply wpSIn_seq
 apply wpSIn_region
 simp [wpOpsSIn, go_sem, recoverD, hu, wrongs, Tryz.ntmps54, Exit.thenS, Instr.extract]
 refine W_fromS (N := 5) (l := [(0, .pointer (some ⟨b6, 0, none⟩)), (1, .iface 134 (.agg #[])), (2, .iface 134 (.agg #[]))]) rfl (by simp) (by simp [tmpsOk]) ?_
 have le0 := G.le.refl g
 refine W_seq ?_; refine W_region ?_; refine P1 T.ok rfl rfl rfl ?_
 refine WL_o rfl rfl (OpR_nilI (neg := true) rfl rfl rfl rfl rfl ?_)
 refine WL_nil ?_; (with_reducible refine T_then ?_)
 refine W_yes rfl rfl ?_
 refine W_region ?_
 refine WL_n rfl (OpR_storeO T.ok 1 rfl hs rfl rfl rfl rfl rfl rfl rfl rfl rfl ?_); replace hs := hs; rintro g1 hs hqe; replace le0 := G.le.trans le0 hqe
 refine WL_nil ?_
 exact endS _ rfl rfl ⟨rfl, rfl, g1, rfl, le0, hs⟩
theorem catch_calm {b6 : Nat} (w : World) : CallsDIn Wd 0 Tryz.prog 54 #[.pointer (some ⟨b6, 0, none⟩)] .returning w fun en u' w' => en = .returned (.tuple #[]) ∧ u' = .returning ∧ w' = w := by
 refine callsDIn_of_wpSIn Tryz.func54 rfl trivial fun c₀ cs hu => ?_
 apply wpSIn_seq
 apply wpSIn_region
 simp [wpOpsSIn, go_sem, recoverD, hu, Tryz.ntmps54, Exit.thenS, Instr.extract]
 refine W_fromS (N := 5) (l := [(0, .pointer (some ⟨b6, 0, none⟩)), (1, .nilIface), (2, .nilIface)]) rfl (by simp) (by simp [tmpsOk]) ?_
 refine W_seq ?_; refine W_region ?_; refine P1 T.ok rfl rfl rfl ?_
 refine WL_o rfl rfl (OpR_nilI (neg := true) rfl rfl rfl rfl rfl ?_)
 refine WL_nil ?_; (with_reducible refine T_then ?_)
 refine W_no rfl rfl ?_
 refine W_skip ?_
 exact endS _ rfl (by cases c₀; simp_all) ⟨rfl, rfl, rfl⟩

def lineR (f : Flow) (line : List UInt8) : Option Flow :=
 if wStep.isPrefixOf line = true then (stepR f line).map fun s => { f with steps := f.steps ++ [s] }
 else (windowR f line).map fun w => { f with windows := f.windows ++ [w] }
def rightPost (b : Nat) (L : List Ent) (g0 g' : G) (res : Option Flow) (r : Value) : Prop :=
 match res with
 | some f' => r = .bool true ∧ FlO b f' L g0 g'
 | none => r = .bool false ∧ ∃ cs, St g0 g' (flo b cs :: L)


theorem right_c {b : Nat} (f : Flow) (line : List UInt8) (hlen : line.length ≤ 1000000) (hfs : f.steps.length ≤ 1000000) (hfw : f.windows.length ≤ 1000000) {g0 g : G} {L : List Ent} (hF : FlAt g) (hO : FlO b f L g0 g) :
  CallsIn Wd 0 Tryz.prog 29 #[.pointer (some ⟨b, 0, none⟩), .string (bs line), .bool false] g.w (RetS g fun g' r => rightPost b L g0 g' (lineR f line) r) := by
 have le0 := G.le.refl g
 obtain ⟨sa, sc, wa, wc, scs, hs, rc0⟩ := hO
 refine enterD Tryz.func29 rfl Tryz.ntmps29 rfl ?_
 refine W_seq ?_; refine W_region ?_
 refine WL_o rfl rfl (OpR_alloc T.ok rfl hs rfl rfl ?_); clear hs; rintro b6 g1 hs hqe; replace le0 := G.le.trans le0 hqe; replace rc0 := rc0.mono hqe
 have hs2 : St g0 g1 (flL b f sa sc wa wc scs ++ .obj b6 (.cells [Value.bool false].toArray 4 (0, 0)) :: L) := hs.perm List.perm_middle.symm
 replace hs := hs2
 clear hs2
 refine WL_nil ?_; (with_reducible refine T_then ?_); refine W_seq ?_; refine W_region ?_; refine P1 T.ok rfl rfl rfl ?_
 refine WL_defer rfl allF rfl rfl rfl rfl ?_
 refine WL_nil ?_; (with_reducible refine T_then ?_); refine W_seq ?_; refine W_block ?_; refine W_seq ?_; refine W_region ?_; refine P1 T.ok rfl rfl rfl ?_; refine P1 T.ok rfl rfl rfl ?_; refine WL_nil ?_; (with_reducible refine T_then ?_)
 refine W_no rfl rfl ?_
 refine W_seq ?_; refine W_region ?_; refine P1 T.ok rfl rfl rfl ?_
 refine WL_o rfl rfl (OpR_ret cl28 allF rfl rfl rfl rfl rfl (prefix_c line wStep _) ?_)
 rintro g2 _ hf2 rfl
 replace hs := hs.call hf2
 have hqe := hf2.le; replace le0 := G.le.trans le0 hqe; replace rc0 := rc0.mono hqe
 have hO : FlO b f (.obj b6 (.cells [Value.bool false].toArray 4 (0, 0)) :: L) g0 g2 := ⟨sa, sc, wa, wc, scs, hs, rc0⟩
 have hF2 := hF.mono le0
 clear hs rc0
 refine P1 T.ok rfl rfl rfl ?_; refine WL_nil ?_; (with_reducible refine T_then ?_)
 cases hpre : wStep.isPrefixOf line with
 | true =>
  refine W_yes rfl rfl ?_
  refine W_region ?_; refine P1 T.ok rfl rfl rfl ?_; refine P1 T.ok rfl rfl rfl ?_
  have hst := step_c f line hlen hfs hF2 hO
  refine WL_o rfl rfl (OpR_callE cl56 allF rfl rfl rfl rfl rfl (hst.mono fun e w' h => ?_))
  rcases h with ⟨g3, v, rfl, rfl, hqe, rfl, s, hs', hO'⟩ | ⟨hn, g3, rfl, rfl, hqe, cs, hs⟩
  ·refine .inl ⟨_, rfl, ?_⟩
   obtain ⟨sa, sc, wa, wc, scs, hs, rc0⟩ := hO'
   replace le0 := G.le.trans le0 hqe
   refine WL_nil ?_; (with_reducible refine T_bn ?_); (with_reducible refine T_then ?_); refine W_seq ?_; refine W_region ?_
   refine WL_n rfl (OpR_storeO T.ok 3 rfl hs rfl rfl rfl rfl rfl rfl rfl rfl rfl ?_); replace hs := hs; rintro g1 hs hqe; replace le0 := G.le.trans le0 hqe; replace rc0 := rc0.mono hqe
   refine WL_nil ?_; (with_reducible refine T_then ?_)
   refine W_ret (retD cl54 fun tmps hget => (catch_calm _).mono ?_)
   rintro e u' w'' ⟨rfl, rfl, rfl⟩
   refine ⟨_, results_cell1 T.ok 3 rfl hs (hget _ _ rfl) rfl rfl, ?_⟩
   refine RetS.intro le0 ?_
   rw [show lineR f line = some { f with steps := f.steps ++ [s] } from by unfold lineR; rw [if_pos hpre, hs']; rfl]
   exact ⟨rfl, sa, sc, wa, wc, scs, hs.drop 3, rc0⟩
  ·refine .inr ⟨_, rfl, ?_⟩
   replace le0 := le0.trans hqe
   (repeat (first | with_reducible refine T_tp ?_ | with_reducible refine T_bp ?_ | with_reducible refine T_gp ?_))
   refine panicD cl54 fun tmps hget => (catch_boom hs).mono ?_
   rintro e u' w'' ⟨rfl, rfl, g4, rfl, hle4, hs4⟩
   refine ⟨_, results_cell1 T.ok 1 rfl hs4 (hget _ _ rfl) rfl rfl, ?_⟩
   refine RetS.intro (le0.trans hle4) ?_
   rw [show lineR f line = none from by unfold lineR; rw [if_pos hpre, hn]; rfl]
   exact ⟨rfl, cs, hs4.drop 1⟩
 | false =>
  refine W_no rfl rfl ?_
  refine W_region ?_; refine P1 T.ok rfl rfl rfl ?_; refine P1 T.ok rfl rfl rfl ?_
  have hst := window_c f line hlen hfw hF2 hO
  refine WL_o rfl rfl (OpR_callE cl57 allF rfl rfl rfl rfl rfl (hst.mono fun e w' h => ?_))
  rcases h with ⟨g3, v, rfl, rfl, hqe, rfl, s, hs', hO'⟩ | ⟨hn, g3, rfl, rfl, hqe, cs, hs⟩
  ·refine .inl ⟨_, rfl, ?_⟩
   obtain ⟨sa, sc, wa, wc, scs, hs, rc0⟩ := hO'
   replace le0 := G.le.trans le0 hqe
   refine WL_nil ?_; (with_reducible refine T_bn ?_); (with_reducible refine T_then ?_); refine W_seq ?_; refine W_region ?_
   refine WL_n rfl (OpR_storeO T.ok 3 rfl hs rfl rfl rfl rfl rfl rfl rfl rfl rfl ?_); replace hs := hs; rintro g1 hs hqe; replace le0 := G.le.trans le0 hqe; replace rc0 := rc0.mono hqe
   refine WL_nil ?_; (with_reducible refine T_then ?_)
   refine W_ret (retD cl54 fun tmps hget => (catch_calm _).mono ?_)
   rintro e u' w'' ⟨rfl, rfl, rfl⟩
   refine ⟨_, results_cell1 T.ok 3 rfl hs (hget _ _ rfl) rfl rfl, ?_⟩
   refine RetS.intro le0 ?_
   rw [show lineR f line = some { f with windows := f.windows ++ [s] } from by unfold lineR; rw [if_neg (by rw [hpre]; simp), hs']; rfl]
   exact ⟨rfl, sa, sc, wa, wc, scs, hs.drop 3, rc0⟩
  ·refine .inr ⟨_, rfl, ?_⟩
   replace le0 := le0.trans hqe
   (repeat (first | with_reducible refine T_tp ?_ | with_reducible refine T_bp ?_ | with_reducible refine T_gp ?_))
   refine panicD cl54 fun tmps hget => (catch_boom hs).mono ?_
   rintro e u' w'' ⟨rfl, rfl, g4, rfl, hle4, hs4⟩
   refine ⟨_, results_cell1 T.ok 1 rfl hs4 (hget _ _ rfl) rfl rfl, ?_⟩
   refine RetS.intro (le0.trans hle4) ?_
   rw [show lineR f line = none from by unfold lineR; rw [if_neg (by rw [hpre]; simp), hn]; rfl]
   exact ⟨rfl, cs, hs4.drop 1⟩
theorem right_first {b : Nat} (line : List UInt8) (hlen : line.length ≤ 1000000) {g0 g : G} {L : List Ent} (hF : FlAt g) (hs : St g0 g (flL b ⟨0, 0, [], []⟩ none 0 none 0 [] ++ L)) :
  CallsIn Wd 0 Tryz.prog 29 #[.pointer (some ⟨b, 0, none⟩), .string (bs line), .bool true] g.w (RetS g fun g' r => rightPost b L g0 g' ((moveR line).map fun p => ⟨p.1, p.2, [], []⟩) r) := by
 have le0 := G.le.refl g
 refine enterD Tryz.func29 rfl Tryz.ntmps29 rfl ?_
 refine W_seq ?_; refine W_region ?_
 refine WL_o rfl rfl (OpR_alloc T.ok rfl hs rfl rfl ?_); clear hs; rintro b6 g1 hs hqe; replace le0 := G.le.trans le0 hqe
 have hs2 : St g0 g1 (flL b ⟨0, 0, [], []⟩ none 0 none 0 [] ++ .obj b6 (.cells [Value.bool false].toArray 4 (0, 0)) :: L) := hs.perm List.perm_middle.symm
 replace hs := hs2
 clear hs2
 refine WL_nil ?_; (with_reducible refine T_then ?_); refine W_seq ?_; refine W_region ?_; refine P1 T.ok rfl rfl rfl ?_
 refine WL_defer rfl allF rfl rfl rfl rfl ?_
 refine WL_nil ?_; (with_reducible refine T_then ?_); refine W_seq ?_; refine W_block ?_; refine W_seq ?_; refine W_region ?_; refine P1 T.ok rfl rfl rfl ?_; refine P1 T.ok rfl rfl rfl ?_; refine WL_nil ?_; (with_reducible refine T_then ?_)
 refine W_yes rfl rfl ?_
 refine W_region ?_; refine P1 T.ok rfl rfl rfl ?_; refine P1 T.ok rfl rfl rfl ?_
 have hst := move_c line hlen (hF.mono le0) hs
 clear hs
 refine WL_o rfl rfl (OpR_callE cl55 allF rfl rfl rfl rfl rfl (hst.mono fun e w' h => ?_))
 rcases h with ⟨g3, v, rfl, rfl, hqe, rfl, m, n, hmn, hs⟩ | ⟨hn, g3, rfl, rfl, hqe, cs, hs⟩
 ·refine .inl ⟨_, rfl, ?_⟩
  replace le0 := G.le.trans le0 hqe
  refine WL_nil ?_; (with_reducible refine T_bn ?_); (with_reducible refine T_then ?_); refine W_seq ?_; refine W_region ?_
  refine WL_n rfl (OpR_storeO T.ok 3 rfl hs rfl rfl rfl rfl rfl rfl rfl rfl rfl ?_); replace hs := hs; rintro g1 hs hqe; replace le0 := G.le.trans le0 hqe
  refine WL_nil ?_; (with_reducible refine T_then ?_)
  refine W_ret (retD cl54 fun tmps hget => (catch_calm _).mono ?_)
  rintro e u' w'' ⟨rfl, rfl, rfl⟩
  refine ⟨_, results_cell1 T.ok 3 rfl hs (hget _ _ rfl) rfl rfl, ?_⟩
  refine RetS.intro le0 ?_
  rw [hmn]
  exact ⟨rfl, none, 0, none, 0, [], hs.drop 3, rfl⟩
 ·refine .inr ⟨_, rfl, ?_⟩
  replace hs := (hs.drop 1).drop 1
  replace le0 := le0.trans hqe
  (repeat (first | with_reducible refine T_tp ?_ | with_reducible refine T_bp ?_ | with_reducible refine T_gp ?_))
  refine panicD cl54 fun tmps hget => (catch_boom hs).mono ?_
  rintro e u' w'' ⟨rfl, rfl, g4, rfl, hle4, hs4⟩
  refine ⟨_, results_cell1 T.ok 1 rfl hs4 (hget _ _ rfl) rfl rfl, ?_⟩
  refine RetS.intro (le0.trans hle4) ?_
  rw [hn]
  exact ⟨rfl, cs, hs4.drop 1⟩
end Go.Proofs.YtnggomfbgmlkhaaGreatDoor

/- Parse. -/
namespace Go.Proofs.YtnggomfbgmlkhaaGreatDoor
open Go Go.K
set_option maxRecDepth 10000
attribute [local irreducible] W WL OpR bitAnd bitOr bitXor bitClr bitNot shlI shrI
set_option maxHeartbeats 4000000

def flow0 : Flow := ⟨0, 0, [], []⟩
def skipL (l : List UInt8) : Bool := l == [] || [35].isPrefixOf l
def headR (first : Bool) (f : Flow) (l : List UInt8) : Option Flow := if first = true then (moveR l).map fun p => ⟨p.1, p.2, [], []⟩ else lineR f l
def parseGo (first : Bool) (f : Flow) (i : Nat) : List (List UInt8) → Flow ⊕ Nat
 | [] => .inl f
 | l :: r => if skipL l = true then parseGo first f (i + 1) r else
  match headR first f l with
  | some f' => parseGo false f' (i + 1) r
  | none => .inr (i + 1)
/-- What Parse returns: a flow, or the number of a line. -/
def parseM (s : List UInt8) : Flow ⊕ Nat :=
 match parseGo true flow0 0 (splitC 10 s) with
 | .inl f => if valid f = true then .inl f else .inr (splitC 10 s).length
 | .inr k => .inr k
def zeroFl : Value := .agg #[.int .i64 0, .int .i64 0, .slice none 0 0, .slice none 0 0]
def parsePost (g' : G) (res : Flow ⊕ Nat) (r : Value) : Prop :=
 match res with
 | .inl f => ∃ v, r = .tuple #[v, .int .i64 0, .int .i64 0] ∧ RFlow g' v f
 | .inr k => r = .tuple #[zeroFl, .int .i64 k, .int .i64 40]

theorem retC3 {fn : Func} {tb : Tb} {P : Program} {N : Nat} {l : Env} {g0 g : G} {L : List Ent} {R : Ending → World → Prop} (htb : tb.ok P) (i : Nat) {t tt u x b : Nat} {cs : List Value} {E : TypeId} {fz : Nat × Nat} {v v2 v3 : Value} (hr : fn.results = #[.cell t tt, .tmp u, .tmp x]) (hs : St g0 g L) (hi : L[i]? = some (.obj b (.cells cs.toArray E fz)))
  (hl : lk l t = some (.pointer (some ⟨b, 0, none⟩))) (hv : ldl tb tt cs 0 = some v) (hl2 : lk l u = some v2) (hl3 : lk l x = some v3) (hR : R (.returned (.tuple #[v, v2, v3])) g.w) (a : Act) (ha : Fr N [] l a) : bodyPost P fn R .ret a g.w := by
 refine ⟨ha.defers, _, ?_, hR⟩
 have := run_loadVar (P := P) (w := g.w) (off := 0) (o := 0) htb hv (obj_cells (hs.own i _ hi).2.1)
 simp only [Nat.add_zero] at this
 simp [results, hr, ha.get t _ hl, ha.get u _ hl2, ha.get x _ hl3, asAddr, this]

def PInv (b b2 : Nat) (first : Bool) (f : Flow) (g0 g : G) : Prop :=
 match first with
 | true => f = flow0 ∧ St g0 g (flL b flow0 none 0 none 0 [] ++ [.obj b2 (.cells [.int .i64 0, .int .i64 0, .slice none 0 0, .slice none 0 0].toArray 27 (0, 0))])
 | false => FlO b f [.obj b2 (.cells [.int .i64 0, .int .i64 0, .slice none 0 0, .slice none 0 0].toArray 27 (0, 0))] g0 g
theorem PInv.o {b b2 : Nat} {first : Bool} {f : Flow} {g0 g : G} (h : PInv b b2 first f g0 g) : FlO b f [.obj b2 (.cells [.int .i64 0, .int .i64 0, .slice none 0 0, .slice none 0 0].toArray 27 (0, 0))] g0 g := by
 cases first with
 | true => obtain ⟨rfl, h⟩ := h; exact ⟨none, 0, none, 0, [], h, rfl⟩
 | false => exact h
theorem PInv.call {b b2 : Nat} {first : Bool} {f : Flow} {g0 g g' : G} (h : PInv b b2 first f g0 g) (hf : Fr0 g g') : PInv b b2 first f g0 g' := by
 cases first with
 | true => exact ⟨h.1, h.2.call hf⟩
 | false => obtain ⟨a, c, d, e, k, h1, h2⟩ := h; exact ⟨a, c, d, e, k, h1.call hf, h2.mono hf.le⟩
theorem right_any {b b2 : Nat} {first : Bool} (f : Flow) (line : List UInt8) (hlen : line.length ≤ 1000000) (hfs : f.steps.length ≤ 1000000) (hfw : f.windows.length ≤ 1000000) {g0 g : G} (hF : FlAt g) (h : PInv b b2 first f g0 g) :
  CallsIn Wd 0 Tryz.prog 29 #[.pointer (some ⟨b, 0, none⟩), .string (bs line), .bool first] g.w (RetS g fun g' r => rightPost b [.obj b2 (.cells [.int .i64 0, .int .i64 0, .slice none 0 0, .slice none 0 0].toArray 27 (0, 0))] g0 g' (headR first f line) r) := by
 cases first with
 | true => obtain ⟨rfl, h⟩ := h; exact right_first line hlen hF h
 | false => exact right_c f line hlen hfs hfw hF h
theorem head_len {first : Bool} {f f' : Flow} {line : List UInt8} (h : headR first f line = some f') : f'.steps.length ≤ f.steps.length + 1 ∧ f'.windows.length ≤ f.windows.length + 1 := by
 unfold headR lineR at h
 split at h
 ·obtain ⟨p, _, rfl⟩ := Option.map_eq_some_iff.1 h; exact ⟨Nat.zero_le _, Nat.zero_le _⟩
 ·split at h
  ·obtain ⟨p, _, rfl⟩ := Option.map_eq_some_iff.1 h; exact ⟨by simp, by simp⟩
  ·obtain ⟨p, _, rfl⟩ := Option.map_eq_some_iff.1 h; exact ⟨by simp, by simp⟩


theorem parse_c (s : List UInt8) (g : G) (hlen : s.length ≤ 999999) (hF : FlAt g) : CallsIn Wd 0 Tryz.prog 7 #[.string (bs s)] g.w (Ret g fun g' r => parsePost g' (parseM s) r) := by
 have hs := St.start g
 have le0 := G.le.refl g
 refine enter Tryz.func7 rfl Tryz.ntmps7 rfl ?_
 refine W_seq ?_; refine W_region ?_
 refine WL_o rfl rfl (OpR_alloc T.ok rfl hs rfl rfl ?_); clear hs; rintro b2 g1 hs hqe; replace le0 := G.le.trans le0 hqe
 refine P1 T.ok rfl rfl rfl ?_; refine P1 T.ok rfl rfl rfl ?_; refine WL_nil ?_; (with_reducible refine T_then ?_); refine W_seq ?_; refine W_region ?_
 refine WL_o rfl rfl (OpR_alloc T.ok rfl hs rfl rfl ?_); clear hs; rintro b g1 hs hqe; replace le0 := G.le.trans le0 hqe
 refine WL_nil ?_; (with_reducible refine T_then ?_); refine W_seq ?_; refine W_region ?_; refine P1 T.ok rfl rfl rfl ?_
 refine WL_o rfl rfl (OpR_ret cl27 allF rfl rfl rfl rfl rfl (split_c s 10 _ (by omega) (hF.mono le0)) ?_); rintro g1 vo hf1 hvo; obtain ⟨gz, hwz, hsz, hqz, rs0⟩ := hs.ownRs hf1 hvo; have hqe := hf1.le.trans hqz; rw [← hwz]; replace hs := hsz; clear hsz hvo; replace le0 := G.le.trans le0 hqe
 have hpl := split_len 10 s
 have hpm := split_mem 10 s
 have hpM : ∀ x, parseGo true flow0 0 (splitC 10 s) = x → parseM s = match x with
  | .inl f => if valid f = true then .inl f else .inr (splitC 10 s).length
  | .inr k => .inr k := by rintro x rfl; rfl
 generalize splitC 10 s = ps at *
 obtain ⟨pa, pc, rfl⟩ := rs0.isSlice
 have lef := le0
 have hlp : (ps.map Str.mk).length = ps.length := List.length_map _
 have rs0f : Rs gz (.slice pa ps.length pc) (ps.map Str.mk) := by have h := rs0; rw [hlp] at h; exact h
 clear rs0
 rw [hlp]
 have hs2 : St g gz (flL b flow0 none 0 none 0 [] ++ [.obj b2 (.cells [.int .i64 0, .int .i64 0, .slice none 0 0, .slice none 0 0].toArray 27 (0, 0))]) :=
  ((hs.nilrow 54 3 none).nilrow 51 7 none).perm (List.perm_middle (l₁ := [Ent.row 51 7 (.slice none 0 0) 0 [], Ent.row 54 3 (.slice none 0 0) 0 []]))
 clear hs
 have hP0 : PInv b b2 true flow0 g gz := ⟨rfl, hs2⟩
 clear hs2
 refine P1 T.ok rfl rfl rfl ?_; refine WL_nil ?_; (with_reducible refine T_then ?_); refine W_seq ?_; refine W_region ?_; refine P1 T.ok rfl rfl rfl ?_; refine WL_nil ?_; (with_reducible refine T_then ?_); refine W_seq ?_; refine W_seq ?_; refine W_region ?_; (iterate 3 refine P1 T.ok rfl rfl rfl ?_); refine WL_nil ?_; (with_reducible refine T_then ?_); refine W_block ?_
 refine W_loop (fun m a' w => ∃ (k : Nat) (first : Bool) (f : Flow) (g' : G), w = g'.w ∧ PInv b b2 first f g g' ∧ G.le gz g' ∧ k ≤ ps.length ∧ m = ps.length - k ∧ f.steps.length ≤ k ∧ f.windows.length ≤ k ∧ parseGo first f k (ps.drop k) = parseGo true flow0 0 ps ∧
  Fr 40 [] [(2, .pointer (some ⟨b2, 0, none⟩)), (5, .pointer (some ⟨b, 0, none⟩)), (6, .slice pa ps.length pc), (7, .bool first), (12, .slice pa ps.length pc), (13, .int .i64 ps.length), (14, .int .i64 k)] a') ps.length
   (fun a' ha => ⟨0, true, flow0, gz, rfl, hP0, G.le.refl _, Nat.zero_le _, rfl, Nat.zero_le _, Nat.zero_le _, rfl, ha.keep (by (repeat (first | exact trivial | refine ⟨rfl, ?_⟩)))⟩) ?_
 clear le0 hP0
 rintro m a' _ ⟨k, first, f, g', rfl, hP, lez, hk, rfl, hfs, hfw, hgo, ha'⟩
 have rs0 := rs0f.mono lez
 have le0 := lef.trans lez
 revert a'
 (with_reducible refine T_wp ?_); refine W_seq ?_; refine W_region ?_; refine P1 T.ok rfl rfl rfl ?_; refine WL_nil ?_; (with_reducible refine T_then ?_); refine W_seq ?_
 by_cases hlt : k < ps.length
 ·refine W_yes (b := decide ((k : Int) < (ps.length : Int))) (by simp; omega) rfl ?_
  rw [List.drop_eq_getElem_cons hlt] at hgo
  refine W_skip ?_; (with_reducible refine T_then ?_); refine W_seq ?_; refine W_block ?_; refine W_seq ?_; refine W_region ?_; refine P1 T.ok rfl rfl rfl ?_
  refine WL_o rfl rfl (OpR_idx T.ok rfl rs0 (y := ⟨ps[k]⟩) (by simp [geti, hlt]) rfl rfl rfl rfl rfl rfl ?_)
  rintro bq pq ys hep rfl
  refine WL_o rfl rfl (OpR_loadE T.ok 0 rfl hep rfl rfl ?_)
  refine P1 T.ok rfl rfl rfl ?_; refine P1 T.ok rfl rfl rfl ?_; refine WL_nil ?_; (with_reducible refine T_then ?_); refine W_seq ?_; refine W_seq ?_; refine W_region ?_; (iterate 3 refine P1 T.ok rfl rfl rfl ?_)
  by_cases h0 : ps[k] = []
  ·refine WL_know 21 (b' := true) (by rw [bs_toList, toList0]; simp [h0]) rfl ?_
   rw [show parseGo first f k (ps[k] :: ps.drop (k + 1)) = parseGo first f (k + 1) (ps.drop (k + 1)) from by rw [parseGo, if_pos (by unfold skipL; rw [h0]; rfl)]] at hgo
   refine S1 allF rfl rfl ?_; refine S1 allF rfl rfl ?_; refine P1 T.ok rfl rfl rfl ?_; refine WL_nil ?_; (with_reducible refine T_then ?_)
   refine W_yes rfl rfl ?_
   refine W_exit ?_; (with_reducible refine T_tx ?_); (with_reducible refine T_bx ?_); (with_reducible refine T_then ?_); refine W_region ?_; refine P1 T.ok rfl rfl rfl ?_; refine P1 T.ok rfl rfl rfl ?_; refine WL_nil ?_
   refine fun a ha => ⟨ps.length - (k + 1), by omega, k + 1, first, f, g', rfl, hP, lez, by omega, rfl, by have := hfs; omega, by have := hfw; omega, hgo, ha.keep ⟨rfl, rfl, rfl, rfl, rfl, rfl, kI rfl (by rw [wr (by omega) (by omega)]; omega), trivial⟩⟩
  ·refine WL_know 21 (b' := false) (by rw [bs_toList, toList0]; simp [h0]) rfl ?_
   refine P1 T.ok rfl rfl rfl ?_
   refine WL_o rfl rfl (OpR_ret cl28 allF rfl rfl rfl rfl rfl (prefix_c ps[k] [35] _) ?_)
   rintro g2 _ hf2 rfl
   replace hP := hP.call hf2
   have hqe := hf2.le; replace le0 := G.le.trans le0 hqe; replace rs0 := rs0.mono hqe
   replace lez := lez.trans hqe
   cases hpre : [35].isPrefixOf ps[k] with
   | true =>
    rw [show parseGo first f k (ps[k] :: ps.drop (k + 1)) = parseGo first f (k + 1) (ps.drop (k + 1)) from by rw [parseGo, if_pos (by unfold skipL; rw [hpre, Bool.or_true])]] at hgo
    refine P1 T.ok rfl rfl rfl ?_; refine WL_nil ?_; (with_reducible refine T_then ?_)
    refine W_yes rfl rfl ?_
    refine W_exit ?_; (with_reducible refine T_tx ?_); (with_reducible refine T_bx ?_); (with_reducible refine T_then ?_); refine W_region ?_; refine P1 T.ok rfl rfl rfl ?_; refine P1 T.ok rfl rfl rfl ?_; refine WL_nil ?_
    refine fun a ha => ⟨ps.length - (k + 1), by omega, k + 1, first, f, g2, rfl, hP, lez, by omega, rfl, by have := hfs; omega, by have := hfw; omega, hgo, ha.keep ⟨rfl, rfl, rfl, rfl, rfl, rfl, kI rfl (by rw [wr (by omega) (by omega)]; omega), trivial⟩⟩
   | false =>
    rw [show parseGo first f k (ps[k] :: ps.drop (k + 1)) = (match headR first f ps[k] with
     | some f' => parseGo false f' (k + 1) (ps.drop (k + 1))
     | none => .inr (k + 1)) from by rw [parseGo, if_neg (by unfold skipL; rw [hpre, Bool.or_false]; simpa using h0)]] at hgo
    refine P1 T.ok rfl rfl rfl ?_; refine WL_nil ?_; (with_reducible refine T_then ?_)
    refine W_no rfl rfl ?_
    refine W_skip ?_; (with_reducible refine T_then ?_); refine W_seq ?_; refine W_seq ?_; refine W_region ?_; refine P1 T.ok rfl rfl rfl ?_; refine P1 T.ok rfl rfl rfl ?_
    refine WL_o rfl rfl (OpR_st cl29 allF rfl rfl rfl rfl rfl (right_any f ps[k] (Nat.le_trans (hpm _ (List.getElem_mem hlt)) (by omega)) (by omega) (by omega) (hF.mono le0) hP) ?_)
    rintro g3 r hqe hpost
    replace le0 := G.le.trans le0 hqe; replace rs0 := rs0.mono hqe
    replace lez := lez.trans hqe
    cases hres : headR first f ps[k] with
    | some f' =>
     rw [hres] at hpost hgo
     obtain ⟨rfl, hO⟩ := hpost
     have hl2 := head_len hres
     refine P1 T.ok rfl rfl rfl ?_; refine WL_nil ?_; (with_reducible refine T_then ?_)
     refine W_no rfl rfl ?_
     refine W_skip ?_; (with_reducible refine T_then ?_); refine W_region ?_; refine P1 T.ok rfl rfl rfl ?_; refine WL_nil ?_; (with_reducible refine T_bn ?_); (with_reducible refine T_then ?_); refine W_region ?_; refine P1 T.ok rfl rfl rfl ?_; refine P1 T.ok rfl rfl rfl ?_; refine WL_nil ?_
     refine fun a ha => ⟨ps.length - (k + 1), by omega, k + 1, false, f', g3, rfl, hO, lez, by omega, rfl, by have := hl2.1; omega, by have := hl2.2; omega, hgo, ha.keep ⟨rfl, rfl, rfl, rfl, rfl, rfl, kI rfl (by rw [wr (by omega) (by omega)]; omega), trivial⟩⟩
    | none =>
     rw [hres] at hpost hgo
     obtain ⟨rfl, cs, hs⟩ := hpost
     refine P1 T.ok rfl rfl rfl ?_; refine WL_nil ?_; (with_reducible refine T_then ?_)
     refine W_yes rfl rfl ?_
     refine W_seq ?_; refine W_region ?_
     refine WL_o rfl rfl (OpR_build T.ok rfl (vs := []) (cells := [.int .i64 0, .int .i64 0, .slice none 0 0, .slice none 0 0]) rfl rfl rfl rfl [(0, 1), (1, 1), (2, 1), (3, 1)] rfl (by kernel_rfl) ?_)
     refine P1 T.ok rfl rfl rfl ?_; refine P1 T.ok rfl rfl rfl ?_
     refine WL_n rfl (OpR_storeO T.ok 1 rfl hs rfl rfl rfl rfl rfl rfl rfl rfl rfl ?_); replace hs := hs; rintro g1 hs hqe; replace le0 := G.le.trans le0 hqe; replace rs0 := rs0.mono hqe
     refine P1 T.ok rfl rfl rfl ?_; refine P1 T.ok rfl rfl rfl ?_; refine WL_nil ?_; (with_reducible refine T_then ?_)
     refine W_ret ?_
     (with_reducible refine T_tr ?_); (with_reducible refine T_br ?_); (with_reducible refine T_tr ?_; with_reducible refine T_tr ?_); (with_reducible refine T_br ?_); (with_reducible refine T_tr ?_)
     refine retC3 (v2 := .int .i64 ((k + 1 : Nat) : Int)) T.ok 1 rfl hs rfl rfl rfl (kI rfl (by rw [wr (by omega) (by omega)]; omega)) rfl (hs.ret ?_)
     rw [hpM _ hgo.symm]
     rfl
 ·refine W_no (b := decide ((k : Int) < (ps.length : Int))) (by simp; omega) rfl ?_
  obtain rfl : k = ps.length := by omega
  rw [List.drop_length] at hgo
  have hpm2 := hpM _ hgo.symm
  obtain ⟨sa, sc, wa, wc, scs, hs, rc0⟩ := hP.o
  obtain ⟨g1, hw1, hs1, hq1, rs2⟩ := hs.fzRow (α := Step) (xs := f.steps) (i := 1) rfl rc0
  obtain ⟨g2, hw2, hs2, hq2, rs3⟩ := hs1.fzRow (α := Window) (xs := f.windows) (i := 1) rfl (RcL.win _ _)
  replace hs : St g g2 (.obj b (.cells [.int .i64 f.moveMin, .int .i64 f.moveMax, .slice sa f.steps.length sc, .slice wa f.windows.length wc].toArray 27 (0, 0)) :: .obj b2 (.cells [.int .i64 0, .int .i64 0, .slice none 0 0, .slice none 0 0].toArray 27 (0, 0)) :: []) := hs2
  clear hs1 hs2
  replace rs2 := rs2.mono hq2
  rw [← hw1, ← hw2]
  have fl0 : RFlow g2 (.agg #[.int .i64 f.moveMin, .int .i64 f.moveMax, .slice sa f.steps.length sc, .slice wa f.windows.length wc]) f := ⟨sa, f.steps.length, sc, wa, f.windows.length, wc, rfl, rs2, rs3⟩
  refine W_exit ?_; (with_reducible refine T_tx ?_; with_reducible refine T_tx ?_); (with_reducible refine T_bx ?_); (with_reducible refine T_then ?_); refine W_seq ?_; refine W_seq ?_; refine W_region ?_; refine WL_o rfl rfl (OpR_loadO T.ok 0 rfl hs rfl rfl rfl ?_)
  refine WL_o rfl rfl (OpR_ret cl20 allF rfl rfl rfl rfl rfl (valid_c _ f _ fl0) ?_); rintro g1 _ hf1 rfl; replace hs := hs.call hf1; have hqe := hf1.le; replace rs2 := rs2.mono hqe; replace rs3 := rs3.mono hqe; replace fl0 := fl0.mono hqe
  refine P1 T.ok rfl rfl rfl ?_; refine WL_nil ?_; (with_reducible refine T_then ?_)
  cases hv : valid f with
  | true =>
   refine W_no rfl rfl ?_
   refine W_skip ?_; (with_reducible refine T_then ?_); refine W_seq ?_; refine W_region ?_; refine WL_o rfl rfl (OpR_loadO T.ok 0 rfl hs rfl rfl rfl ?_)
   refine WL_n rfl (OpR_storeO T.ok 1 rfl hs rfl rfl rfl rfl rfl rfl rfl rfl rfl ?_); replace hs := hs; rintro g1 hs hqe; replace rs2 := rs2.mono hqe; replace rs3 := rs3.mono hqe; replace fl0 := fl0.mono hqe
   refine P1 T.ok rfl rfl rfl ?_; refine P1 T.ok rfl rfl rfl ?_; refine WL_nil ?_; (with_reducible refine T_then ?_)
   refine W_ret ?_
   skip
   refine retC3 T.ok 1 rfl hs rfl rfl rfl rfl rfl (hs.ret ?_)
   rw [hpm2]
   show parsePost _ (if valid f = true then _ else _) _
   rw [if_pos hv]
   exact ⟨_, rfl, fl0⟩
  | false =>
   refine W_yes rfl rfl ?_
   refine W_seq ?_; refine W_region ?_
   refine WL_o rfl rfl (OpR_build T.ok rfl (vs := []) (cells := [.int .i64 0, .int .i64 0, .slice none 0 0, .slice none 0 0]) rfl rfl rfl rfl [(0, 1), (1, 1), (2, 1), (3, 1)] rfl (by kernel_rfl) ?_)
   refine P1 T.ok rfl rfl rfl ?_; refine P1 T.ok rfl rfl rfl ?_
   refine WL_n rfl (OpR_storeO T.ok 1 rfl hs rfl rfl rfl rfl rfl rfl rfl rfl rfl ?_); replace hs := hs; rintro g1 hs hqe; replace rs2 := rs2.mono hqe; replace rs3 := rs3.mono hqe; replace fl0 := fl0.mono hqe
   refine P1 T.ok rfl rfl rfl ?_; refine P1 T.ok rfl rfl rfl ?_; refine WL_nil ?_; (with_reducible refine T_then ?_)
   refine W_ret ?_
   (with_reducible refine T_tr ?_)
   refine retC3 T.ok 1 rfl hs rfl rfl rfl rfl rfl (hs.ret ?_)
   rw [hpm2]
   show parsePost _ (if valid f = true then _ else _) _
   rw [if_neg (by rw [hv]; simp)]
   rfl
end Go.Proofs.YtnggomfbgmlkhaaGreatDoor
