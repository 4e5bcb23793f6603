/- The walks through package disk. -/
import Derived.Test.YteohjgndanlldaaGreatDoorWb
import Derived.Test.YteohjgndanlldaaGreatDoorKg

/- Package disk: the plain model, the small walks. -/
namespace Go.Proofs.YteohjgndanlldaaGreatDoor
open Go Go.K
set_option maxRecDepth 10000
attribute [local irreducible] W WL OpR bitAnd bitOr bitXor bitClr bitNot shlI shrI
set_option maxHeartbeats 2000000

structure Wr where
 off : Int
 s : List UInt8
instance : El Wr where
 k := 2
 pos := by omega
 rc _ cs x := cs = [.int .i64 x.off, .string (bs x.s)]
 len h := by rw [h]; rfl
 mono _ h := h
 one h := by rw [h]; simp [Value.oneCell']
def wrL (l : List Wr) : List Value := l.flatMap fun x => [.int .i64 x.off, .string (bs x.s)]
theorem RcL.wr (g : G) : ∀ l : List Wr, RcL g (wrL l) l
 | [] => rfl
 | _ :: l => ⟨_, wrL l, rfl, rfl, RcL.wr g l⟩
theorem wrL_app (l m : List Wr) : wrL (l ++ m) = wrL l ++ wrL m := by simp [wrL]
theorem wrL_len (l : List Wr) : (wrL l).length = l.length * 2 := by
 induction l with
 | nil => rfl
 | cons x l ih => rw [show wrL (x :: l) = [.int .i64 x.off, .string (bs x.s)] ++ wrL l from rfl, List.length_append, ih, List.length_cons]; simp; omega

structure DiskM where
 off : Bool
 left : Int
 dur : List UInt8
 vis : List UInt8
 pend : List Wr
structure DiskM.ok (D : DiskM) : Prop where
 len : D.vis.length = D.dur.length
 pos : 1 ≤ D.dur.length
 le : D.dur.length ≤ 4194304
 pend : D.pend.length ≤ 1000000

/-- Where a disk lies: its own block, its two rows of bytes, its list of writes. -/
structure DkA where
 b : Nat
 bd : Nat
 bv : Nat
 pa : Option Addr
 pc : Nat
def dkL (A : DkA) (D : DiskM) : List Ent :=
 [.obj A.b (.cells [.bool D.off, .int .i64 D.left, .slice (some ⟨A.bd, 0, none⟩) D.dur.length D.dur.length, .slice (some ⟨A.bv, 0, none⟩) D.dur.length D.dur.length, .slice A.pa D.pend.length A.pc].toArray 97 (0, 0)),
  .row 5 1 (.slice (some ⟨A.bd, 0, none⟩) D.dur.length D.dur.length) D.dur.length (byteV D.dur),
  .row 5 1 (.slice (some ⟨A.bv, 0, none⟩) D.dur.length D.dur.length) D.dur.length (byteV D.vis),
  .row 92 2 (.slice A.pa D.pend.length A.pc) D.pend.length (wrL D.pend)]
theorem dkL_cons (A : DkA) (D : DiskM) (L : List Ent) : dkL A D ++ L =
 .obj A.b (.cells [.bool D.off, .int .i64 D.left, .slice (some ⟨A.bd, 0, none⟩) D.dur.length D.dur.length, .slice (some ⟨A.bv, 0, none⟩) D.dur.length D.dur.length, .slice A.pa D.pend.length A.pc].toArray 97 (0, 0)) ::
  .row 5 1 (.slice (some ⟨A.bd, 0, none⟩) D.dur.length D.dur.length) D.dur.length (byteV D.dur) ::
  .row 5 1 (.slice (some ⟨A.bv, 0, none⟩) D.dur.length D.dur.length) D.dur.length (byteV D.vis) ::
  .row 92 2 (.slice A.pa D.pend.length A.pc) D.pend.length (wrL D.pend) :: L := rfl

def DiskM.check (D : DiskM) : Int := if D.off = true then 241 else 0
theorem dcheck_c {A : DkA} {D : DiskM} {g0 g : G} {L : List Ent} (hs : St g0 g (dkL A D ++ L)) : CallsIn Wd 0 Tryz.prog 46 #[.pointer (some ⟨A.b, 0, none⟩)] g.w (Ret g fun _ r => r = .int .i64 D.check) := by
 have le0 := G.le.refl g
 rw [dkL_cons] at hs
 refine enter Tryz.func46 rfl Tryz.ntmps46 rfl ?_
 unfold DiskM.check
 refine W_seq ?_; refine W_region ?_; refine P1 T.ok rfl rfl rfl ?_; refine WL_nil ?_; (with_reducible refine T_then ?_); refine W_seq ?_; refine W_block ?_; refine W_seq ?_; refine W_region ?_; refine P1 T.ok rfl rfl rfl ?_
 refine WL_o rfl rfl (OpR_eqNilPtr T.ok (neg := false) rfl rfl rfl rfl rfl ?_)
 refine P1 T.ok rfl rfl rfl ?_; refine WL_nil ?_; (with_reducible refine T_then ?_)
 refine W_no rfl rfl ?_
 refine W_seq ?_; refine W_region ?_; (iterate 4 refine P1 T.ok rfl rfl rfl ?_); refine WL_o rfl rfl (OpR_loadO T.ok 0 rfl hs rfl rfl rfl ?_); refine P1 T.ok rfl rfl rfl ?_; refine WL_nil ?_; (with_reducible refine T_then ?_)
 cases ho : D.off with
 | true =>
  refine W_yes rfl rfl ?_
  refine W_seq ?_; refine W_region ?_; refine P1 T.ok rfl rfl rfl ?_; refine WL_nil ?_; (with_reducible refine T_then ?_)
  exact W_ret (ret1 rfl rfl (Ret.same rfl))
 | false =>
  refine W_no rfl rfl ?_
  refine W_skip ?_; (with_reducible refine T_bn ?_); (with_reducible refine T_then ?_); refine W_seq ?_; refine W_region ?_; refine P1 T.ok rfl rfl rfl ?_; refine WL_nil ?_; (with_reducible refine T_then ?_)
  exact W_ret (ret1 rfl rfl (Ret.same rfl))

def DiskM.inside (D : DiskM) (off n : Int) : Bool := decide (0 ≤ off ∧ 0 ≤ n ∧ off ≤ D.dur.length ∧ n ≤ D.dur.length - off)
theorem inside_c {A : DkA} {D : DiskM} (hD : D.ok) (off n : Int) {g0 g : G} {L : List Ent} (hs : St g0 g (dkL A D ++ L)) : CallsIn Wd 0 Tryz.prog 47 #[.pointer (some ⟨A.b, 0, none⟩), .int .i64 off, .int .i64 n] g.w (Ret g fun _ r => r = .bool (D.inside off n)) := by
 have le0 := G.le.refl g
 rw [dkL_cons] at hs
 have hN := hD.le
 refine enter Tryz.func47 rfl Tryz.ntmps47 rfl ?_
 unfold DiskM.inside
 generalize D.dur.length = N at *
 refine W_seq ?_; refine W_region ?_; refine P1 T.ok rfl rfl rfl ?_; refine WL_nil ?_; (with_reducible refine T_then ?_); refine W_seq ?_; refine W_region ?_; (iterate 3 refine P1 T.ok rfl rfl rfl ?_)
 by_cases h1 : 0 ≤ off
 ·refine WL_know 9 (b' := true) (decide_eq_true h1) rfl ?_
  (iterate 4 refine P1 T.ok rfl rfl rfl ?_)
  by_cases h2 : 0 ≤ n
  ·refine WL_know 13 (b' := true) (decide_eq_true h2) rfl ?_
   (iterate 4 refine P1 T.ok rfl rfl rfl ?_); refine WL_o rfl rfl (OpR_loadO T.ok 0 rfl hs rfl rfl rfl ?_); (iterate 4 refine P1 T.ok rfl rfl rfl ?_)
   by_cases h3 : off ≤ N
   ·refine WL_know 22 (b' := true) (decide_eq_true h3) rfl ?_
    (iterate 4 refine P1 T.ok rfl rfl rfl ?_); refine WL_o rfl rfl (OpR_loadO T.ok 0 rfl hs rfl rfl rfl ?_); (iterate 6 refine P1 T.ok rfl rfl rfl ?_); refine WL_nil ?_; (with_reducible refine T_then ?_)
    refine W_ret (ret1 rfl rfl (Ret.same ?_))
    rw [wr (by omega) (by omega)]
    simp [h1, h2, h3]
   ·refine WL_know 22 (b' := false) (decide_eq_false h3) rfl ?_
    (iterate 9 refine S1 allF rfl rfl ?_); refine P1 T.ok rfl rfl rfl ?_; refine P1 T.ok rfl rfl rfl ?_; refine WL_nil ?_; (with_reducible refine T_then ?_)
    refine W_ret (ret1 rfl rfl (Ret.same ?_))
    simp [h3]
  ·refine WL_know 13 (b' := false) (decide_eq_false h2) rfl ?_
   (iterate 7 refine S1 allF rfl rfl ?_); refine P1 T.ok rfl rfl rfl ?_; refine P1 T.ok rfl rfl rfl ?_; (iterate 9 refine S1 allF rfl rfl ?_); refine P1 T.ok rfl rfl rfl ?_; refine P1 T.ok rfl rfl rfl ?_; refine WL_nil ?_; (with_reducible refine T_then ?_)
   refine W_ret (ret1 rfl rfl (Ret.same ?_))
   simp [h2]
 ·refine WL_know 9 (b' := false) (decide_eq_false h1) rfl ?_
  refine S1 allF rfl rfl ?_; refine S1 allF rfl rfl ?_; refine P1 T.ok rfl rfl rfl ?_; refine P1 T.ok rfl rfl rfl ?_; (iterate 7 refine S1 allF rfl rfl ?_); refine P1 T.ok rfl rfl rfl ?_; refine P1 T.ok rfl rfl rfl ?_; (iterate 9 refine S1 allF rfl rfl ?_); refine P1 T.ok rfl rfl rfl ?_; refine P1 T.ok rfl rfl rfl ?_; refine WL_nil ?_; (with_reducible refine T_then ?_)
  refine W_ret (ret1 rfl rfl (Ret.same ?_))
  simp [h1]

theorem dsize_c {A : DkA} {D : DiskM} {g0 g : G} {L : List Ent} (hs : St g0 g (dkL A D ++ L)) : CallsIn Wd 0 Tryz.prog 51 #[.pointer (some ⟨A.b, 0, none⟩)] g.w (Ret g fun _ r => r = .int .i64 (D.dur.length : Int)) := by
 have le0 := G.le.refl g
 rw [dkL_cons] at hs
 refine enter Tryz.func51 rfl Tryz.ntmps51 rfl ?_
 refine W_seq ?_; refine W_region ?_; refine P1 T.ok rfl rfl rfl ?_; refine WL_nil ?_; (with_reducible refine T_then ?_); refine W_seq ?_; refine W_seq ?_; refine W_region ?_; refine P1 T.ok rfl rfl rfl ?_
 refine WL_o rfl rfl (OpR_eqNilPtr T.ok (neg := false) rfl rfl rfl rfl rfl ?_)
 refine WL_nil ?_
 (with_reducible refine T_then ?_)
 refine W_no rfl rfl ?_
 refine W_skip ?_; (with_reducible refine T_then ?_); refine W_seq ?_; refine W_region ?_; (iterate 3 refine P1 T.ok rfl rfl rfl ?_); refine WL_o rfl rfl (OpR_loadO T.ok 0 rfl hs rfl rfl rfl ?_); refine P1 T.ok rfl rfl rfl ?_; refine P1 T.ok rfl rfl rfl ?_; refine WL_nil ?_; (with_reducible refine T_then ?_)
 exact W_ret (ret1 rfl rfl (Ret.same rfl))

theorem dpending_c {A : DkA} {D : DiskM} {g0 g : G} {L : List Ent} (hs : St g0 g (dkL A D ++ L)) : CallsIn Wd 0 Tryz.prog 32 #[.pointer (some ⟨A.b, 0, none⟩)] g.w (Ret g fun _ r => r = .int .i64 (D.pend.length : Int)) := by
 have le0 := G.le.refl g
 rw [dkL_cons] at hs
 refine enter Tryz.func32 rfl Tryz.ntmps32 rfl ?_
 refine W_seq ?_; refine W_region ?_; refine P1 T.ok rfl rfl rfl ?_; refine WL_nil ?_; (with_reducible refine T_then ?_); refine W_seq ?_; refine W_seq ?_; refine W_region ?_; refine P1 T.ok rfl rfl rfl ?_
 refine WL_o rfl rfl (OpR_eqNilPtr T.ok (neg := false) rfl rfl rfl rfl rfl ?_)
 refine WL_nil ?_
 (with_reducible refine T_then ?_)
 refine W_no rfl rfl ?_
 refine W_skip ?_; (with_reducible refine T_then ?_); refine W_seq ?_; refine W_region ?_; (iterate 3 refine P1 T.ok rfl rfl rfl ?_); refine WL_o rfl rfl (OpR_loadO T.ok 0 rfl hs rfl rfl rfl ?_); refine P1 T.ok rfl rfl rfl ?_; refine P1 T.ok rfl rfl rfl ?_; refine WL_nil ?_; (with_reducible refine T_then ?_)
 exact W_ret (ret1 rfl rfl (Ret.same rfl))

def usedM (off : Bool) (left : Int) : Bool × Int := if left = 0 then (off, left) else (decide (IntKind.i64.wrap (left - 1) = 0), IntKind.i64.wrap (left - 1))
theorem dused_c {b E : Nat} {off : Bool} {left : Int} {r : List Value} {g0 g : G} {L : List Ent} (hs : St g0 g (.obj b (.cells (.bool off :: .int .i64 left :: r).toArray E (0, 0)) :: L)) : CallsIn Wd 0 Tryz.prog 49 #[.pointer (some ⟨b, 0, none⟩)] g.w
  (RetS g fun g' v => v = .tuple #[] ∧ St g0 g' (.obj b (.cells (.bool (usedM off left).1 :: .int .i64 (usedM off left).2 :: r).toArray E (0, 0)) :: L)) := by
 have le0 := G.le.refl g
 refine enter Tryz.func49 rfl Tryz.ntmps49 rfl ?_
 unfold usedM
 refine W_seq ?_; refine W_seq ?_; refine W_region ?_; (iterate 3 refine P1 T.ok rfl rfl rfl ?_); refine WL_o rfl rfl (OpR_loadO T.ok 0 rfl hs rfl rfl rfl ?_); refine P1 T.ok rfl rfl rfl ?_; refine WL_nil ?_; (with_reducible refine T_then ?_)
 by_cases h0 : left = 0
 ·rw [if_pos h0]
  refine W_yes (b := left == 0) (by simpa using h0) rfl ?_
  skip
  exact W_ret (ret0 rfl (RetS.intro le0 ⟨rfl, hs⟩))
 ·rw [if_neg h0]
  refine W_no (b := left == 0) (by simpa using h0) rfl ?_
  refine W_skip ?_; (with_reducible refine T_then ?_); refine W_seq ?_; refine W_region ?_; (iterate 3 refine P1 T.ok rfl rfl rfl ?_); refine WL_o rfl rfl (OpR_loadO T.ok 0 rfl hs rfl rfl rfl ?_); (iterate 3 refine P1 T.ok rfl rfl rfl ?_)
  refine WL_n rfl (OpR_storeO T.ok 0 rfl hs rfl rfl rfl rfl rfl rfl rfl rfl rfl ?_); replace hs := hs; rintro g1 hs hqe; replace le0 := G.le.trans le0 hqe
  refine WL_nil ?_; (with_reducible refine T_then ?_); refine W_region ?_; (iterate 4 refine P1 T.ok rfl rfl rfl ?_); refine WL_o rfl rfl (OpR_loadO T.ok 0 rfl hs rfl rfl rfl ?_); (iterate 3 refine P1 T.ok rfl rfl rfl ?_)
  refine WL_n rfl (OpR_storeO T.ok 0 rfl hs rfl rfl rfl rfl rfl rfl rfl rfl rfl ?_); replace hs := hs; rintro g1 hs hqe; replace le0 := G.le.trans le0 hqe
  refine WL_nil ?_
  exact end0 rfl (RetS.intro le0 ⟨rfl, hs⟩)
end Go.Proofs.YteohjgndanlldaaGreatDoor

/- Package disk: writing, settling, reading. -/
namespace Go.Proofs.YteohjgndanlldaaGreatDoor
open Go Go.K
set_option maxRecDepth 10000
attribute [local irreducible] W WL OpR bitAnd bitOr bitXor bitClr bitNot shlI shrI
set_option maxHeartbeats 2000000

theorem byteV_len (s : List UInt8) : (byteV s).length = s.length := by simp [byteV]
def ontoM (xs : List UInt8) (k : Nat) (s : List UInt8) : List UInt8 := xs.take k ++ s ++ xs.drop (k + s.length)
theorem ontoM_len {xs : List UInt8} {k : Nat} {s : List UInt8} (h : k + s.length ≤ xs.length) : (ontoM xs k s).length = xs.length := by simp [ontoM]; omega

theorem onto_c {b k N i : Nat} {xs s : List UInt8} {g0 g : G} {L : List Ent} (hs : St g0 g L) (hi : L[i]? = some (.row 5 1 (.slice (some ⟨b, 0, none⟩) N N) N (byteV xs))) (hN : N = xs.length) (hk : k + s.length ≤ xs.length) :
  CallsIn Wd 0 Tryz.prog 48 #[.agg #[.int .i64 (k : Int), .string (bs s)], .slice (some ⟨b, 0, none⟩) N N] g.w
   (RetS g fun g' v => v = .tuple #[] ∧ St g0 g' (L.set i (.row 5 1 (.slice (some ⟨b, 0, none⟩) N N) N (byteV (ontoM xs k s))))) := by
 have le0 := G.le.refl g
 refine enter Tryz.func48 rfl Tryz.ntmps48 rfl ?_
 refine W_seq ?_; refine W_region ?_
 refine WL_o rfl rfl (OpR_box rfl hs rfl rfl ?_); clear hs; rintro b1 g1 hs hqe; replace le0 := G.le.trans le0 hqe
 obtain ⟨g2, hw2, hs2, hqe, hep⟩ := hs.fzObj (i := 0) rfl; replace hs := hs2; clear hs2; rw [← hw2]; replace le0 := G.le.trans le0 hqe
 have ep0 := hep; clear hep
 refine WL_nil ?_; (with_reducible refine T_then ?_)
 apply W_draw allF rfl (Fact.eq _ :: Fact.eq _ :: Fact.eq _ :: Fact.eq _ :: Fact.eq _ :: Fact.eq _ :: []) 6 [(3, 7), (5, 9)] rfl rfl
 ·refine D_s (js := []) (by kernel_rfl) (fun _ _ => QA_nil (DPu T.ok rfl rfl rfl)) ?_
  refine D_s (js := []) (by kernel_rfl) (fun _ _ => QA_nil (DPu T.ok rfl rfl rfl)) ?_
  refine D_s (js := [(1, 5)]) (by kernel_rfl) (fun _ hf => QA_eq rfl (QA_nil (DLe T.ok 0 rfl rfl (ep0.mono ((G.le_dr _).trans hf.le)) rfl rfl rfl))) ?_
  refine D_cons (D_step2 (js := [(0, 4), (2, 6)]) (by kernel_rfl) fun gd hf => ?_) ?_
  ·have hsd := hs.dr.call hf; have hfe := (G.le_dr _).trans hf.le
   refine QA_eq rfl ?_; refine QA_eq rfl ?_
   refine QA_nil ?_
   refine D_yes rfl ?_
   refine OpR_cut T.ok (a := k) (b := N) rfl rfl rfl rfl rfl ⟨_, rfl⟩ rfl (by omega) (Nat.le_refl _) ?_
   exact ⟨_, rfl, Fr0.refl _, rfl⟩
  refine D_s (js := []) (by kernel_rfl) (fun _ _ => QA_nil (DPu T.ok rfl rfl rfl)) ?_
  refine D_s (js := [(4, 8)]) (by kernel_rfl) (fun _ hf => QA_eq rfl (QA_nil (DLe T.ok 1 rfl rfl (ep0.mono ((G.le_dr _).trans hf.le)) rfl rfl rfl))) ?_
  exact D_nil
 intro g1 hf1; refine QA_eq rfl ?_; refine QA_eq rfl ?_; refine QA_nil ?_
 replace hs := hs.dr.call hf1; have hqe := (G.le_dr _).trans hf1.le; replace le0 := G.le.trans le0 hqe; replace ep0 := ep0.mono hqe
 skip
 refine WL_o rfl rfl (OpR_copyR (q := s.length) (off := k) (xs' := byteV (ontoM xs k s)) T.ok i rfl hs hi rfl rfl rfl rfl rfl rfl ?_ (by omega) (CopySrc.str s) ?_ ?_ ?_)
 ·by_cases h : N = k
  ·exact .inl (by omega)
  ·refine .inr ?_
   rw [if_neg h]
   simp [Addr.add]
   omega
 ·show _ = min _ _
  rw [byteV_len]; omega
 ·rw [List.take_of_length_le (by rw [byteV_len]; omega)]
  simp [spl, byteV, ontoM]
 rintro g5 hs hqe; replace le0 := G.le.trans le0 hqe; replace ep0 := ep0.mono hqe
 refine WL_nil ?_
 exact end0 rfl (RetS.intro le0 ⟨rfl, hs⟩)


theorem settleS_c {A : DkA} {D : DiskM} (hD : D.ok) {g0 g : G} {L : List Ent} (hs : St g0 g (dkL A D ++ L)) :
  CallsIn Wd 0 Tryz.prog 65 #[.pointer (some ⟨A.b, 0, none⟩), .slice (some ⟨A.bv, 0, none⟩) D.dur.length D.dur.length, .slice (some ⟨A.bd, 0, none⟩) D.dur.length D.dur.length] g.w
   (RetS g fun g' v => v = .tuple #[] ∧ ∃ pa pc, St g0 g' (dkL ⟨A.b, A.bd, A.bv, pa, pc⟩ { D with dur := D.vis, pend := [] } ++ L)) := by
 have le0 := G.le.refl g
 rw [dkL_cons] at hs
 have hlen := hD.len
 refine enter Tryz.func65 rfl Tryz.ntmps65 rfl ?_
 refine W_seq ?_; refine W_region ?_; refine P1 T.ok rfl rfl rfl ?_; refine P1 T.ok rfl rfl rfl ?_
 obtain ⟨_, hsrc⟩ := Src.of_row (hs.own 2 _ rfl).1
 refine WL_o rfl rfl (OpR_copyR (q := D.dur.length) (off := 0) (xs' := byteV D.vis) T.ok 1 rfl hs rfl rfl rfl rfl rfl rfl rfl (.inr rfl) (by omega) (CopySrc.src hsrc (RcL.bytes g _).one) ?_ ?_ ?_)
 ·show _ = min _ _
  rw [byteV_len]; omega
 ·rw [List.take_of_length_le (by rw [byteV_len]; omega)]
  unfold spl
  rw [List.take_zero, List.nil_append, List.drop_of_length_le (by rw [byteV_len, byteV_len]; omega), List.append_nil]
 rintro g5 hs hqe; replace le0 := G.le.trans le0 hqe
 refine WL_nil ?_; (with_reducible refine T_then ?_); refine W_seq ?_; refine W_region ?_; (iterate 3 refine P1 T.ok rfl rfl rfl ?_); refine WL_o rfl rfl (OpR_loadO T.ok 0 rfl hs rfl rfl rfl ?_)
 refine WL_n rfl (OpR_clearR T.ok 3 rfl hs rfl rfl rfl rfl rfl rfl (by decide) rfl rfl ?_)
 rintro g6 hs hqe; replace le0 := G.le.trans le0 hqe
 refine WL_nil ?_; (with_reducible refine T_then ?_); refine W_region ?_; (iterate 4 refine P1 T.ok rfl rfl rfl ?_); refine WL_o rfl rfl (OpR_loadO T.ok 0 rfl hs rfl rfl rfl ?_)
 refine WL_o rfl rfl (OpR_cut T.ok (a := 0) (b := 0) rfl rfl rfl rfl rfl rfl ⟨_, rfl⟩ (Nat.zero_le _) (Nat.zero_le _) ?_)
 replace hs := hs.cutTo (i := 3) rfl (Nat.zero_le _)
 refine P1 T.ok rfl rfl rfl ?_; refine P1 T.ok rfl rfl rfl ?_
 refine WL_n rfl (OpR_storeO T.ok 0 rfl hs rfl rfl rfl rfl rfl rfl rfl rfl rfl ?_); replace hs := hs; rintro g1 hs hqe; replace le0 := G.le.trans le0 hqe
 refine WL_nil ?_
 refine end0 rfl (RetS.intro le0 ⟨rfl, ?_⟩)
 by_cases hc : A.pc = 0
 ·refine ⟨A.pa, A.pc - 0, ?_⟩
  simp only [if_pos hc] at hs
  exact (by rw [dkL_cons]; simp only [hlen]; exact hs)
 ·refine ⟨A.pa.map (·.add (0 * 2)), A.pc - 0, ?_⟩
  simp only [if_neg hc] at hs
  exact (by rw [dkL_cons]; simp only [hlen]; exact hs)

theorem dnew_no {n : Int} (h : n < 1 ∨ 4194304 < n) (g : G) : CallsIn Wd 0 Tryz.prog 24 #[.int .i64 n] g.w (Ret g fun _ r => r = .tuple #[.pointer none, .int .i64 2]) := by
 have le0 := G.le.refl g
 refine enter Tryz.func24 rfl Tryz.ntmps24 rfl ?_
 refine W_seq ?_; refine W_region ?_; refine P1 T.ok rfl rfl rfl ?_; refine P1 T.ok rfl rfl rfl ?_; refine WL_nil ?_; (with_reducible refine T_then ?_); refine W_seq ?_; refine W_seq ?_; refine W_region ?_; (iterate 3 refine P1 T.ok rfl rfl rfl ?_)
 by_cases h1 : n < 1
 ·refine WL_know 6 (b' := true) (decide_eq_true h1) rfl ?_
  refine S1 allF rfl rfl ?_; refine S1 allF rfl rfl ?_; refine P1 T.ok rfl rfl rfl ?_; refine WL_nil ?_; (with_reducible refine T_then ?_)
  refine W_yes rfl rfl ?_
  refine W_seq ?_; refine W_region ?_; refine P1 T.ok rfl rfl rfl ?_; refine P1 T.ok rfl rfl rfl ?_; refine WL_nil ?_; (with_reducible refine T_then ?_)
  exact W_ret (ret2 rfl rfl rfl (Ret.same rfl))
 ·refine WL_know 6 (b' := false) (decide_eq_false h1) rfl ?_
  (iterate 3 refine P1 T.ok rfl rfl rfl ?_); refine WL_nil ?_; (with_reducible refine T_then ?_)
  refine W_yes (b := decide (4194304 < n)) (decide_eq_true (by omega)) rfl ?_
  refine W_seq ?_; refine W_region ?_; refine P1 T.ok rfl rfl rfl ?_; refine P1 T.ok rfl rfl rfl ?_; refine WL_nil ?_; (with_reducible refine T_then ?_)
  exact W_ret (ret2 rfl rfl rfl (Ret.same rfl))

def DiskM.new (n : Nat) : DiskM := ⟨false, 0, List.replicate n 0, List.replicate n 0, []⟩
theorem DiskM.new_ok {n : Nat} (h : 1 ≤ n) (h2 : n ≤ 4194304) : (DiskM.new n).ok := ⟨by simp [DiskM.new], by simpa [DiskM.new] using h, by simpa [DiskM.new] using h2, by simp [DiskM.new]⟩

theorem zeros_flat (n : Nat) : (List.replicate n [Value.int .u8 0]).flatten = byteV (List.replicate n 0) := by
 induction n with
 | zero => rfl
 | succ n ih => rw [List.replicate_succ, List.flatten_cons, ih, List.replicate_succ]; rfl

theorem dnew_c {n : Nat} (h : 1 ≤ n) (h2 : n ≤ 4194304) {g0 g : G} {L : List Ent} (hs : St g0 g L) : CallsIn Wd 0 Tryz.prog 24 #[.int .i64 (n : Int)] g.w
  (RetS g fun g' r => ∃ A : DkA, r = .tuple #[.pointer (some ⟨A.b, 0, none⟩), .int .i64 0] ∧ St g0 g' (dkL A (DiskM.new n) ++ L)) := by
 have le0 := G.le.refl g
 refine enter Tryz.func24 rfl Tryz.ntmps24 rfl ?_
 refine W_seq ?_; refine W_region ?_; refine P1 T.ok rfl rfl rfl ?_; refine P1 T.ok rfl rfl rfl ?_; refine WL_nil ?_; (with_reducible refine T_then ?_); refine W_seq ?_; refine W_seq ?_; refine W_region ?_; (iterate 3 refine P1 T.ok rfl rfl rfl ?_)
 refine WL_know 6 (b' := false) (decide_eq_false (by omega)) rfl ?_
 (iterate 3 refine P1 T.ok rfl rfl rfl ?_); refine WL_nil ?_; (with_reducible refine T_then ?_)
 refine W_no (b := decide (4194304 < (n : Int))) (decide_eq_false (by omega)) rfl ?_
 refine W_skip ?_; (with_reducible refine T_then ?_); refine W_seq ?_
 refine W_any rfl ?_
 replace hs := hs.dr
 have hqe := G.le_dr g; replace le0 := G.le.trans le0 hqe; clear hqe
 refine WA_meet 4 (fun l w => ∃ g' b1 b3, w = G.w g' ∧ St g0 g' (.row 5 1 (.slice (some ⟨b1, 0, none⟩) n n) n (byteV (List.replicate n 0)) :: .row 5 1 (.slice (some ⟨b3, 0, none⟩) n n) n (byteV (List.replicate n 0)) :: L) ∧ g.le g' ∧
  subOf [(0, .int .i64 (n : Int)), (11, .slice (some ⟨b1, 0, none⟩) n n), (13, .slice (some ⟨b3, 0, none⟩) n n)] l) (fun hJ => ?_) ?_
 ·skip
  refine WA_step [0, 2] (by kernel_rfl) rfl (WA_cons rfl rfl rfl (OpR_pure _ T.ok rfl ?_) (WA_cons rfl rfl rfl (OpR_pure _ T.ok rfl ?_) (WA_nil)))
  ·skip
   refine WA_step [1, 2] (by kernel_rfl) rfl (WA_cons rfl rfl rfl (OpR_makeX T.ok rfl hs rfl rfl rfl rfl rfl rfl (by decide) rfl (by show 1 * n ≤ _; omega) (by unfold maxLen; omega) (zeros_flat n) ?_) (WA_cons rfl rfl rfl (OpR_pure _ T.ok rfl ?_) (WA_nil)))
   ·skip
    rintro b1 gm hs hqe; replace le0 := G.le.trans le0 hqe
    refine WA_step [2] (by kernel_rfl) rfl (WA_cons rfl rfl rfl (OpR_pure _ T.ok rfl ?_) (WA_nil))
    ·skip
     refine WA_step [3] (by kernel_rfl) rfl (WA_cons rfl rfl rfl (OpR_makeX T.ok rfl hs rfl rfl rfl rfl rfl rfl (by decide) rfl (by show 1 * n ≤ _; omega) (by unfold maxLen; omega) (zeros_flat n) ?_) (WA_nil))
     ·skip
      rintro b3 gm hs hqe; replace le0 := G.le.trans le0 hqe
      exact WA_tail 4 (by kernel_rfl) (by kernel_rfl) (hJ _ _ ⟨_, b1, b3, rfl, hs.perm (List.Perm.swap _ _ _), le0, (by (repeat (first | exact trivial | refine ⟨rfl, ?_⟩)))⟩)
   ·skip
    refine WA_step [1, 3] (by kernel_rfl) rfl (WA_cons rfl rfl rfl (OpR_makeX T.ok rfl hs rfl rfl rfl rfl rfl rfl (by decide) rfl (by show 1 * n ≤ _; omega) (by unfold maxLen; omega) (zeros_flat n) ?_) (WA_cons rfl rfl rfl (OpR_makeX T.ok rfl hs rfl rfl rfl rfl rfl rfl (by decide) rfl (by show 1 * n ≤ _; omega) (by unfold maxLen; omega) (zeros_flat n) ?_) (WA_nil)))
    ·skip
     rintro b1 gm hs hqe; replace le0 := G.le.trans le0 hqe
     refine WA_step [3] (by kernel_rfl) rfl (WA_cons rfl rfl rfl (OpR_makeX T.ok rfl hs rfl rfl rfl rfl rfl rfl (by decide) rfl (by show 1 * n ≤ _; omega) (by unfold maxLen; omega) (zeros_flat n) ?_) (WA_nil))
     ·skip
      rintro b3 gm hs hqe; replace le0 := G.le.trans le0 hqe
      exact WA_tail 4 (by kernel_rfl) (by kernel_rfl) (hJ _ _ ⟨_, b1, b3, rfl, hs.perm (List.Perm.swap _ _ _), le0, (by (repeat (first | exact trivial | refine ⟨rfl, ?_⟩)))⟩)
    ·skip
     rintro b3 gm hs hqe; replace le0 := G.le.trans le0 hqe
     refine WA_step [1] (by kernel_rfl) rfl (WA_cons rfl rfl rfl (OpR_makeX T.ok rfl hs rfl rfl rfl rfl rfl rfl (by decide) rfl (by show 1 * n ≤ _; omega) (by unfold maxLen; omega) (zeros_flat n) ?_) (WA_nil))
     ·skip
      rintro b1 gm hs hqe; replace le0 := G.le.trans le0 hqe
      exact WA_tail 4 (by kernel_rfl) (by kernel_rfl) (hJ _ _ ⟨_, b1, b3, rfl, hs, le0, (by (repeat (first | exact trivial | refine ⟨rfl, ?_⟩)))⟩)
  ·skip
   refine WA_step [0, 3] (by kernel_rfl) rfl (WA_cons rfl rfl rfl (OpR_pure _ T.ok rfl ?_) (WA_cons rfl rfl rfl (OpR_makeX T.ok rfl hs rfl rfl rfl rfl rfl rfl (by decide) rfl (by show 1 * n ≤ _; omega) (by unfold maxLen; omega) (zeros_flat n) ?_) (WA_nil)))
   ·skip
    refine WA_step [1, 3] (by kernel_rfl) rfl (WA_cons rfl rfl rfl (OpR_makeX T.ok rfl hs rfl rfl rfl rfl rfl rfl (by decide) rfl (by show 1 * n ≤ _; omega) (by unfold maxLen; omega) (zeros_flat n) ?_) (WA_cons rfl rfl rfl (OpR_makeX T.ok rfl hs rfl rfl rfl rfl rfl rfl (by decide) rfl (by show 1 * n ≤ _; omega) (by unfold maxLen; omega) (zeros_flat n) ?_) (WA_nil)))
    ·skip
     rintro b1 gm hs hqe; replace le0 := G.le.trans le0 hqe
     refine WA_step [3] (by kernel_rfl) rfl (WA_cons rfl rfl rfl (OpR_makeX T.ok rfl hs rfl rfl rfl rfl rfl rfl (by decide) rfl (by show 1 * n ≤ _; omega) (by unfold maxLen; omega) (zeros_flat n) ?_) (WA_nil))
     ·skip
      rintro b3 gm hs hqe; replace le0 := G.le.trans le0 hqe
      exact WA_tail 4 (by kernel_rfl) (by kernel_rfl) (hJ _ _ ⟨_, b1, b3, rfl, hs.perm (List.Perm.swap _ _ _), le0, (by (repeat (first | exact trivial | refine ⟨rfl, ?_⟩)))⟩)
    ·skip
     rintro b3 gm hs hqe; replace le0 := G.le.trans le0 hqe
     refine WA_step [1] (by kernel_rfl) rfl (WA_cons rfl rfl rfl (OpR_makeX T.ok rfl hs rfl rfl rfl rfl rfl rfl (by decide) rfl (by show 1 * n ≤ _; omega) (by unfold maxLen; omega) (zeros_flat n) ?_) (WA_nil))
     ·skip
      rintro b1 gm hs hqe; replace le0 := G.le.trans le0 hqe
      exact WA_tail 4 (by kernel_rfl) (by kernel_rfl) (hJ _ _ ⟨_, b1, b3, rfl, hs, le0, (by (repeat (first | exact trivial | refine ⟨rfl, ?_⟩)))⟩)
   ·skip
    rintro b3 gm hs hqe; replace le0 := G.le.trans le0 hqe
    refine WA_step [0] (by kernel_rfl) rfl (WA_cons rfl rfl rfl (OpR_pure _ T.ok rfl ?_) (WA_nil))
    ·skip
     refine WA_step [1] (by kernel_rfl) rfl (WA_cons rfl rfl rfl (OpR_makeX T.ok rfl hs rfl rfl rfl rfl rfl rfl (by decide) rfl (by show 1 * n ≤ _; omega) (by unfold maxLen; omega) (zeros_flat n) ?_) (WA_nil))
     ·skip
      rintro b1 gm hs hqe; replace le0 := G.le.trans le0 hqe
      exact WA_tail 4 (by kernel_rfl) (by kernel_rfl) (hJ _ _ ⟨_, b1, b3, rfl, hs, le0, (by (repeat (first | exact trivial | refine ⟨rfl, ?_⟩)))⟩)
 ·rintro l _ ⟨g5, b1, b3, rfl, hs, hqe, hl⟩
  refine WL_keep hl ?_
  replace le0 := hqe
  skip
  refine WL_o rfl rfl (OpR_build T.ok rfl (vs := [(1, .slice (some ⟨b1, 0, none⟩) n n), (2, .slice (some ⟨b3, 0, none⟩) n n)]) (cells := [.bool false, .int .i64 0, .slice (some ⟨b1, 0, none⟩) n n, .slice (some ⟨b3, 0, none⟩) n n, .slice none 0 0]) rfl rfl rfl rfl [(0, 2), (2, 1), (3, 1), (4, 1)] rfl (by kernel_rfl) ?_)
  skip
  refine WL_o rfl rfl (OpR_box rfl hs rfl rfl ?_); clear hs; rintro b5 g1 hs hqe; replace le0 := G.le.trans le0 hqe
  refine P1 T.ok rfl rfl rfl ?_; refine P1 T.ok rfl rfl rfl ?_; refine WL_nil ?_; (with_reducible refine T_then ?_)
  refine W_ret (ret2 rfl rfl rfl (RetS.intro le0 ⟨⟨b5, b1, b3, none, 0⟩, rfl, ?_⟩))
  have h5 := hs.nilrow 92 2 none
  have e1 : (DiskM.new n).dur.length = n := by simp [DiskM.new]
  rw [dkL_cons, e1]
  exact h5.perm ((List.perm_middle (l₁ := [_, _, _])).symm)
end Go.Proofs.YteohjgndanlldaaGreatDoor

/- Package disk: Write, Sync, Read, Cut. -/
namespace Go.Proofs.YteohjgndanlldaaGreatDoor
open Go Go.K
set_option maxRecDepth 10000
attribute [local irreducible] W WL OpR bitAnd bitOr bitXor bitClr bitNot shlI shrI
set_option maxHeartbeats 2000000

theorem RcL.wr_inv {g : G} : ∀ {l : List Wr} {cs : List Value}, RcL g cs l → cs = wrL l
 | [], _, h => h
 | x :: r, _, ⟨c1, c2, e, h1, h2⟩ => by rw [e, show c1 = [.int .i64 x.off, .string (bs x.s)] from h1, RcL.wr_inv h2]; rfl

def DiskM.put (D : DiskM) (k : Nat) (s : List UInt8) : DiskM := { D with off := (usedM D.off D.left).1, left := (usedM D.off D.left).2, vis := ontoM D.vis k s, pend := D.pend ++ [⟨k, s⟩] }
theorem dwrite_off {A : DkA} {D : DiskM} (ho : D.off = true) (off : Int) (s : List UInt8) {g0 g : G} {L : List Ent} (hs : St g0 g (dkL A D ++ L)) :
  CallsIn Wd 0 Tryz.prog 13 #[.pointer (some ⟨A.b, 0, none⟩), .int .i64 off, .string (bs s)] g.w (Ret g fun _ r => r = .int .i64 241) := by
 have le0 := G.le.refl g
 refine enter Tryz.func13 rfl Tryz.ntmps13 rfl ?_
 refine W_seq ?_; refine W_region ?_; refine P1 T.ok rfl rfl rfl ?_; refine WL_nil ?_; (with_reducible refine T_then ?_); refine W_seq ?_; refine W_seq ?_; refine W_region ?_; refine P1 T.ok rfl rfl rfl ?_
 refine WL_o rfl rfl (OpR_ret cl46 allF rfl rfl rfl rfl rfl (dcheck_c hs) ?_); rintro g1 _ hf1 rfl; replace hs := hs.call hf1; have hqe := hf1.le; replace le0 := G.le.trans le0 hqe
 rw [show D.check = 241 from if_pos ho]
 refine P1 T.ok rfl rfl rfl ?_; refine WL_nil ?_; (with_reducible refine T_then ?_); refine W_seq ?_; refine W_region ?_; refine P1 T.ok rfl rfl rfl ?_; refine P1 T.ok rfl rfl rfl ?_; refine WL_nil ?_; (with_reducible refine T_then ?_)
 refine W_yes rfl rfl ?_
 refine W_seq ?_; refine W_region ?_; refine P1 T.ok rfl rfl rfl ?_; refine P1 T.ok rfl rfl rfl ?_; refine WL_nil ?_; (with_reducible refine T_then ?_)
 exact W_ret (ret1 rfl rfl (Ret.of hf1 rfl))

theorem dwrite_out {A : DkA} {D : DiskM} (hD : D.ok) (ho : D.off = false) (off : Int) (s : List UInt8) (hi : D.inside off s.length = false) {g0 g : G} {L : List Ent} (hs : St g0 g (dkL A D ++ L)) :
  CallsIn Wd 0 Tryz.prog 13 #[.pointer (some ⟨A.b, 0, none⟩), .int .i64 off, .string (bs s)] g.w (Ret g fun _ r => r = .int .i64 240) := by
 have le0 := G.le.refl g
 have hf0 := Fr0.refl g
 refine enter Tryz.func13 rfl Tryz.ntmps13 rfl ?_
 refine W_seq ?_; refine W_region ?_; refine P1 T.ok rfl rfl rfl ?_; refine WL_nil ?_; (with_reducible refine T_then ?_); refine W_seq ?_; refine W_seq ?_; refine W_region ?_; refine P1 T.ok rfl rfl rfl ?_
 refine WL_o rfl rfl (OpR_ret cl46 allF rfl rfl rfl rfl rfl (dcheck_c hs) ?_); rintro g1 _ hf1 rfl; replace hs := hs.call hf1; have hqe := hf1.le; replace le0 := G.le.trans le0 hqe
 replace hf0 := hf0.trans hf1
 rw [show D.check = 0 from if_neg (by simp [ho])]
 refine P1 T.ok rfl rfl rfl ?_; refine WL_nil ?_; (with_reducible refine T_then ?_); refine W_seq ?_; refine W_region ?_; refine P1 T.ok rfl rfl rfl ?_; refine P1 T.ok rfl rfl rfl ?_; refine WL_nil ?_; (with_reducible refine T_then ?_)
 refine W_no rfl rfl ?_
 refine W_skip ?_; (with_reducible refine T_then ?_); refine W_seq ?_; refine W_seq ?_; refine W_region ?_; (iterate 4 refine P1 T.ok rfl rfl rfl ?_)
 refine WL_re (.int .i64 (s.length : Int)) (t := 17) rfl (by rw [bs_size]) ?_
 refine WL_o rfl rfl (OpR_ret cl47 allF rfl rfl rfl rfl rfl (inside_c hD off s.length hs) ?_); rintro g1 _ hf1 rfl; replace hs := hs.call hf1; have hqe := hf1.le; replace le0 := G.le.trans le0 hqe
 replace hf0 := hf0.trans hf1
 rw [hi]
 refine P1 T.ok rfl rfl rfl ?_; refine WL_nil ?_; (with_reducible refine T_then ?_)
 refine W_yes rfl rfl ?_
 refine W_seq ?_; refine W_region ?_; refine P1 T.ok rfl rfl rfl ?_; refine WL_nil ?_; (with_reducible refine T_then ?_)
 exact W_ret (ret1 rfl rfl (Ret.of hf0 rfl))

theorem dwrite_c {A : DkA} {D : DiskM} (hD : D.ok) (ho : D.off = false) (k : Nat) (s : List UInt8) (hi : k + s.length ≤ D.dur.length) {g0 g : G} {L : List Ent} (hs : St g0 g (dkL A D ++ L)) :
  CallsIn Wd 0 Tryz.prog 13 #[.pointer (some ⟨A.b, 0, none⟩), .int .i64 (k : Int), .string (bs s)] g.w
   (RetS g fun g' r => r = .int .i64 0 ∧ ∃ pa pc, St g0 g' (dkL ⟨A.b, A.bd, A.bv, pa, pc⟩ (D.put k s) ++ L)) := by
 have le0 := G.le.refl g
 refine enter Tryz.func13 rfl Tryz.ntmps13 rfl ?_
 refine W_seq ?_; refine W_region ?_; refine P1 T.ok rfl rfl rfl ?_; refine WL_nil ?_; (with_reducible refine T_then ?_); refine W_seq ?_; refine W_seq ?_; refine W_region ?_; refine P1 T.ok rfl rfl rfl ?_
 refine WL_o rfl rfl (OpR_ret cl46 allF rfl rfl rfl rfl rfl (dcheck_c hs) ?_); rintro g1 _ hf1 rfl; replace hs := hs.call hf1; have hqe := hf1.le; replace le0 := G.le.trans le0 hqe
 rw [show D.check = 0 from if_neg (by simp [ho])]
 refine P1 T.ok rfl rfl rfl ?_; refine WL_nil ?_; (with_reducible refine T_then ?_); refine W_seq ?_; refine W_region ?_; refine P1 T.ok rfl rfl rfl ?_; refine P1 T.ok rfl rfl rfl ?_; refine WL_nil ?_; (with_reducible refine T_then ?_)
 refine W_no rfl rfl ?_
 refine W_skip ?_; (with_reducible refine T_then ?_); refine W_seq ?_; refine W_seq ?_; refine W_region ?_; (iterate 4 refine P1 T.ok rfl rfl rfl ?_)
 refine WL_re (.int .i64 (s.length : Int)) (t := 17) rfl (by rw [bs_size]) ?_
 refine WL_o rfl rfl (OpR_ret cl47 allF rfl rfl rfl rfl rfl (inside_c hD k s.length hs) ?_); rintro g1 _ hf1 rfl; replace hs := hs.call hf1; have hqe := hf1.le; replace le0 := G.le.trans le0 hqe
 rw [show D.inside k s.length = true from decide_eq_true ⟨by omega, by omega, by omega, by omega⟩]
 refine P1 T.ok rfl rfl rfl ?_; refine WL_nil ?_; (with_reducible refine T_then ?_)
 refine W_no rfl rfl ?_
 rw [dkL_cons] at hs
 have hpn := hD.pend
 refine W_skip ?_; (with_reducible refine T_then ?_); refine W_seq ?_; refine W_region ?_; refine P1 T.ok rfl rfl rfl ?_; refine P1 T.ok rfl rfl rfl ?_
 refine WL_o rfl rfl (OpR_build T.ok rfl (vs := [(0, .int .i64 (k : Int)), (1, .string (bs s))]) (cells := [.int .i64 (k : Int), .string (bs s)]) rfl rfl rfl rfl [(0, 1), (1, 1)] rfl (by kernel_rfl) ?_)
 skip
 refine WL_o rfl rfl (OpR_alloc T.ok rfl hs rfl rfl ?_); clear hs; rintro bw g1 hs hqe; replace le0 := G.le.trans le0 hqe
 skip
 refine WL_n rfl (OpR_storeO T.ok 0 rfl hs rfl rfl rfl rfl rfl rfl rfl rfl rfl ?_); replace hs := hs; rintro g1 hs hqe; replace le0 := G.le.trans le0 hqe
 obtain ⟨g2, hw2, hs2, hqe, hep⟩ := hs.fzObj (i := 0) rfl; replace hs := hs2; clear hs2; rw [← hw2]; replace le0 := G.le.trans le0 hqe
 have ep0 : EP g2 bw 0 [.int .i64 (k : Int), .string (bs s)] := hep
 clear hep
 replace hs : St g0 g2 (.obj A.b (.cells [.bool D.off, .int .i64 D.left, .slice (some ⟨A.bd, 0, none⟩) D.dur.length D.dur.length, .slice (some ⟨A.bv, 0, none⟩) D.dur.length D.dur.length, .slice A.pa D.pend.length A.pc].toArray 97 (0, 0)) ::
  .row 5 1 (.slice (some ⟨A.bd, 0, none⟩) D.dur.length D.dur.length) D.dur.length (byteV D.dur) ::
  .row 5 1 (.slice (some ⟨A.bv, 0, none⟩) D.dur.length D.dur.length) D.dur.length (byteV D.vis) ::
  .row 92 2 (.slice A.pa D.pend.length A.pc) D.pend.length (wrL D.pend) :: L) := hs
 have ev0 : ∀ gq : G, g2.le gq → RcL gq (wrL D.pend) D.pend := fun gq _ => RcL.wr gq D.pend
 refine WL_nil ?_; (with_reducible refine T_then ?_); refine W_seq ?_
 apply W_drawM allF rfl (Fact.eq _ :: Fact.eq _ :: Fact.eq _ :: Fact.eq _ :: Fact.eq _ :: Fact.eq _ :: (Fact.rs [(⟨k, s⟩ : Wr)]) :: (appF g0 (fun v wcs => .obj A.b (.cells [.bool D.off, .int .i64 D.left, .slice (some ⟨A.bd, 0, none⟩) D.dur.length D.dur.length, .slice (some ⟨A.bv, 0, none⟩) D.dur.length D.dur.length, .slice A.pa D.pend.length A.pc].toArray 97 (0, 0)) :: .row 5 1 (.slice (some ⟨A.bd, 0, none⟩) D.dur.length D.dur.length) D.dur.length (byteV D.dur) :: .row 5 1 (.slice (some ⟨A.bv, 0, none⟩) D.dur.length D.dur.length) D.dur.length (byteV D.vis) :: .row 92 2 v (D.pend.length + 1) wcs :: L) (D.pend.length + 1) (D.pend ++ [(⟨k, s⟩ : Wr)])) :: Fact.eq _ :: Fact.eq _ :: []) 10 [(7, 30), (9, 32)] [] [1, 2, 3, 4, 5, 6] 7 rfl (by kernel_rfl) (by kernel_rfl)
 case houts => exact rfl
 case hsoft => (repeat (first | exact softN | apply softE | refine softC (soft_eq _) ?_ | refine softC (soft_rs _) ?_ | refine softC (soft_step _ _) ?_ | refine softC (soft_stepV _) ?_ | refine softC (soft_wayV _) ?_ | refine softC (soft_intPtr _) ?_ | refine softC (soft_y6 _) ?_ | refine softC (soft_lst _) ?_ | refine softO (by exact rfl) ?_))
 ·refine M_cons (M_free (js := []) (by kernel_rfl) (by exact rfl) fun gd hf => ?_) ?_
  ·have hfe := (G.le_dr _).trans hf
   refine QA_nil ?_
   (refine D_yes rfl ?_; refine OpR_pure _ T.ok rfl ?_; refine ⟨_, rfl, Fr0.refl _, ?_⟩; exact rfl)
  refine M_cons (M_anc (js := []) (by kernel_rfl) (by exact rfl) (by exact rfl) fun gd hf => ?_) ?_
  ·have hsd := hs.dr.call hf; have hfe := (G.le_dr _).trans hf.le
   refine QA_nil ?_
   (refine D_yes rfl ?_; refine OpR_pure _ T.ok rfl ?_; refine ⟨_, rfl, Fr0.refl _, ?_⟩; exact rfl)
  refine M_cons (M_anc (js := [(1, 24)]) (by kernel_rfl) (by exact rfl) (by exact rfl) fun gd hf => ?_) ?_
  ·have hsd := hs.dr.call hf; have hfe := (G.le_dr _).trans hf.le
   refine QA_eq rfl ?_
   refine QA_nil ?_
   (refine D_yes rfl ?_; refine OpR_pure _ T.ok rfl ?_; refine ⟨_, rfl, Fr0.refl _, ?_⟩; exact rfl)
  refine M_cons (M_anc (js := [(2, 25)]) (by kernel_rfl) (by exact rfl) (by exact rfl) fun gd hf => ?_) ?_
  ·have hsd := hs.dr.call hf; have hfe := (G.le_dr _).trans hf.le
   refine QA_eq rfl ?_
   refine QA_nil ?_
   (refine D_yes rfl ?_; refine OpR_pure _ T.ok rfl ?_; refine ⟨_, rfl, Fr0.refl _, ?_⟩; exact rfl)
  refine M_cons (M_anc (js := [(3, 26)]) (by kernel_rfl) (by exact rfl) (by exact rfl) fun gd hf => ?_) ?_
  ·have hsd := hs.dr.call hf; have hfe := (G.le_dr _).trans hf.le
   refine QA_eq rfl ?_
   refine QA_nil ?_
   (refine D_yes rfl ?_; refine OpR_loadO T.ok 0 rfl hsd rfl rfl rfl ?_; refine ⟨_, rfl, Fr0.refl _, ?_⟩; exact rfl)
  refine M_cons (M_anc (js := []) (by kernel_rfl) (by exact rfl) (by exact rfl) fun gd hf => ?_) ?_
  ·have hsd := hs.dr.call hf; have hfe := (G.le_dr _).trans hf.le
   refine QA_nil ?_
   (refine D_yes rfl ?_; refine OpR_loadE T.ok 0 rfl (ep0.mono hfe) rfl rfl ?_; refine ⟨_, rfl, Fr0.refl _, ?_⟩; exact rfl)
  refine M_cons (M_anc (js := [(5, 28)]) (by kernel_rfl) (by exact rfl) (by exact rfl) fun gd hf => ?_) ?_
  ·have hsd := hs.dr.call hf; have hfe := (G.le_dr _).trans hf.le
   refine QA_eq rfl ?_
   refine QA_nil ?_
   refine D_yes rfl ?_
   refine OpR_lit T.ok rfl (St.start gd) (vs := [(0, .agg #[.int .i64 (k : Int), .string (bs s)])]) (cells := [.int .i64 (k : Int), .string (bs s)]) rfl rfl rfl rfl rfl rfl (by decide) (by decide) (by kernel_rfl) rfl ?_
   intro b2 g2 hs1 hqe1
   obtain ⟨g3, hw3, hs3, hqe3, hrl⟩ := hs1.fzRow (α := Wr) (xs := [⟨k, s⟩]) (i := 0) rfl ⟨_, [], by rw [List.append_nil], rfl, rfl⟩
   exact ⟨g3, hw3, hs3.fr0, hrl⟩
  refine M_cons (M_eat (js := [(4, 27), (6, 29)]) (by kernel_rfl) fun gd hf => ?_) ?_
  ·have hsd := hs.dr.call hf; have hfe := (G.le_dr _).trans hf.le
   refine QA_eq rfl ?_; refine QA_any fun v6 h6 => ?_
   refine QA_nil ?_
   obtain ⟨ax, cx, rfl⟩ := Rs.isSlice h6
   obtain ⟨_, news, hnw, hsrc⟩ := Src.of_rs h6
   refine ⟨rfl, ?_⟩
   refine OpR_append T.ok 3 rfl hsd rfl rfl rfl rfl rfl rfl rfl (by decide) rfl hsrc hnw.one (by show (D.pend.length + 1) * 24 ≤ _; omega) (by unfold maxLen; show D.pend.length + 1 ≤ _; omega) ?_
   intro a' c' g8 hs8 hqe8
   exact ⟨g8, rfl, hqe8, a', c', _, rfl, hs8, RcL.app (hnw.mono hqe8) (RcL.wr _ _)⟩
  refine M_cons (M_free (js := [(0, 23), (0, 23)]) (by kernel_rfl) (by exact rfl) fun gd hf => ?_) ?_
  ·have hfe := (G.le_dr _).trans hf
   refine QA_eq rfl ?_; refine QA_eq rfl ?_
   refine QA_nil ?_
   (refine D_yes rfl ?_; refine OpR_pure _ T.ok rfl ?_; refine ⟨_, rfl, Fr0.refl _, ?_⟩; exact rfl)
  refine M_cons (M_free (js := [(8, 31)]) (by kernel_rfl) (by exact rfl) fun gd hf => ?_) ?_
  ·have hfe := (G.le_dr _).trans hf
   refine QA_eq rfl ?_
   refine QA_nil ?_
   (refine D_yes rfl ?_; refine OpR_pure _ T.ok rfl ?_; refine ⟨_, rfl, Fr0.refl _, ?_⟩; exact rfl)
  exact M_nil
 intro g1 hf1; refine QA_any fun v7 h7 => ?_; refine QA_eq rfl ?_; refine QA_nil ?_
 have hqe := (G.le_dr _).trans hf1; replace le0 := G.le.trans le0 hqe; replace ep0 := ep0.mono hqe
 obtain ⟨pa, pc, wcs, rfl, hs, hwc⟩ := h7
 obtain rfl := RcL.wr_inv hwc
 skip
 refine WL_n rfl (OpR_storeO T.ok 0 rfl hs rfl rfl rfl rfl rfl rfl rfl rfl rfl ?_); replace hs := hs; rintro g1 hs hqe; replace le0 := G.le.trans le0 hqe; replace ep0 := ep0.mono hqe
 refine WL_nil ?_; (with_reducible refine T_then ?_); refine W_seq ?_
 apply W_draw allF rfl (Fact.eq _ :: Fact.eq _ :: Fact.eq _ :: Fact.eq _ :: Fact.eq _ :: []) 5 [(0, 33), (4, 37)] rfl rfl
 ·refine D_s (js := []) (by kernel_rfl) (fun _ hf => QA_nil (DLe T.ok 0 rfl rfl (ep0.mono ((G.le_dr _).trans hf.le)) rfl rfl rfl)) ?_
  refine D_s (js := []) (by kernel_rfl) (fun _ _ => QA_nil (DPu T.ok rfl rfl rfl)) ?_
  refine D_s (js := [(1, 34)]) (by kernel_rfl) (fun _ _ => QA_eq rfl (QA_nil (DPu T.ok rfl rfl rfl))) ?_
  refine D_s (js := [(2, 35)]) (by kernel_rfl) (fun _ _ => QA_eq rfl (QA_nil (DPu T.ok rfl rfl rfl))) ?_
  refine D_s (js := [(3, 36)]) (by kernel_rfl) (fun _ hf => QA_eq rfl (QA_nil (DLo T.ok 0 rfl rfl (hs.dr.call hf) rfl rfl rfl rfl))) ?_
  exact D_nil
 intro g1 hf1; refine QA_eq rfl ?_; refine QA_eq rfl ?_; refine QA_nil ?_
 replace hs := hs.dr.call hf1; have hqe := (G.le_dr _).trans hf1.le; replace le0 := G.le.trans le0 hqe; replace ep0 := ep0.mono hqe
 skip
 refine WL_o rfl rfl (OpR_st cl48 allF rfl rfl rfl rfl rfl (onto_c (i := 2) (k := k) (xs := D.vis) (s := s) hs rfl hD.len.symm (by rw [hD.len]; exact hi)) ?_)
 rintro g6 _ hqe ⟨rfl, hs⟩; replace le0 := G.le.trans le0 hqe; replace ep0 := ep0.mono hqe
 refine WL_nil ?_; (with_reducible refine T_then ?_); refine W_seq ?_; refine W_region ?_; (iterate 3 refine P1 T.ok rfl rfl rfl ?_)
 refine WL_o rfl rfl (OpR_st cl49 allF rfl rfl rfl rfl rfl (dused_c hs) ?_)
 rintro g7 _ hqe ⟨rfl, hs⟩; replace le0 := G.le.trans le0 hqe; replace ep0 := ep0.mono hqe
 refine WL_nil ?_; (with_reducible refine T_then ?_); refine W_seq ?_; refine W_region ?_; refine P1 T.ok rfl rfl rfl ?_; refine WL_nil ?_; (with_reducible refine T_then ?_)
 refine W_ret (ret1 rfl rfl (RetS.intro le0 ⟨rfl, pa, pc, ?_⟩))
 rw [dkL_cons]
 have e1 : (D.put k s).pend.length = D.pend.length + 1 := by simp [DiskM.put]
 rw [e1]
 exact hs
end Go.Proofs.YteohjgndanlldaaGreatDoor

/- Package disk: Sync, Read, Cut; the law's content. -/
namespace Go.Proofs.YteohjgndanlldaaGreatDoor
open Go Go.K
set_option maxRecDepth 10000
attribute [local irreducible] W WL OpR bitAnd bitOr bitXor bitClr bitNot shlI shrI
set_option maxHeartbeats 2000000

theorem dsync_off {A : DkA} {D : DiskM} (ho : D.off = true) {g0 g : G} {L : List Ent} (hs : St g0 g (dkL A D ++ L)) :
  CallsIn Wd 0 Tryz.prog 42 #[.pointer (some ⟨A.b, 0, none⟩)] g.w (Ret g fun _ r => r = .int .i64 241) := by
 have le0 := G.le.refl g
 refine enter Tryz.func42 rfl Tryz.ntmps42 rfl ?_
 refine W_seq ?_; refine W_region ?_; refine P1 T.ok rfl rfl rfl ?_; refine WL_nil ?_; (with_reducible refine T_then ?_); refine W_seq ?_; refine W_region ?_; refine P1 T.ok rfl rfl rfl ?_
 refine WL_o rfl rfl (OpR_ret cl46 allF rfl rfl rfl rfl rfl (dcheck_c hs) ?_); rintro g1 _ hf1 rfl; replace hs := hs.call hf1; have hqe := hf1.le; replace le0 := G.le.trans le0 hqe
 rw [show D.check = 241 from if_pos ho]
 refine P1 T.ok rfl rfl rfl ?_; refine WL_nil ?_; (with_reducible refine T_then ?_); refine W_seq ?_; refine W_seq ?_; refine W_region ?_; refine P1 T.ok rfl rfl rfl ?_; refine P1 T.ok rfl rfl rfl ?_; refine WL_nil ?_; (with_reducible refine T_then ?_)
 refine W_no rfl rfl ?_
 refine W_skip ?_; (with_reducible refine T_then ?_); refine W_seq ?_; refine W_region ?_; refine P1 T.ok rfl rfl rfl ?_; refine P1 T.ok rfl rfl rfl ?_; refine WL_nil ?_; (with_reducible refine T_then ?_)
 exact W_ret (ret1 rfl rfl (Ret.of hf1 rfl))

def DiskM.sync (D : DiskM) : DiskM := { D with dur := D.vis, pend := [] }
theorem dsync_c {A : DkA} {D : DiskM} (hD : D.ok) (ho : D.off = false) {g0 g : G} {L : List Ent} (hs : St g0 g (dkL A D ++ L)) :
  CallsIn Wd 0 Tryz.prog 42 #[.pointer (some ⟨A.b, 0, none⟩)] g.w (RetS g fun g' r => r = .int .i64 0 ∧ ∃ pa pc, St g0 g' (dkL ⟨A.b, A.bd, A.bv, pa, pc⟩ D.sync ++ L)) := by
 have le0 := G.le.refl g
 refine enter Tryz.func42 rfl Tryz.ntmps42 rfl ?_
 refine W_seq ?_; refine W_region ?_; refine P1 T.ok rfl rfl rfl ?_; refine WL_nil ?_; (with_reducible refine T_then ?_); refine W_seq ?_; refine W_region ?_; refine P1 T.ok rfl rfl rfl ?_
 refine WL_o rfl rfl (OpR_ret cl46 allF rfl rfl rfl rfl rfl (dcheck_c hs) ?_); rintro g1 _ hf1 rfl; replace hs := hs.call hf1; have hqe := hf1.le; replace le0 := G.le.trans le0 hqe
 rw [show D.check = 0 from if_neg (by simp [ho])]
 refine P1 T.ok rfl rfl rfl ?_; refine WL_nil ?_; (with_reducible refine T_then ?_); refine W_seq ?_; refine W_seq ?_; refine W_region ?_; refine P1 T.ok rfl rfl rfl ?_; refine P1 T.ok rfl rfl rfl ?_; refine WL_nil ?_; (with_reducible refine T_then ?_)
 refine W_yes rfl rfl ?_
 rw [dkL_cons] at hs
 apply W_draw allF rfl (Fact.eq _ :: Fact.eq _ :: Fact.eq _ :: Fact.eq _ :: Fact.eq _ :: Fact.eq _ :: Fact.eq _ :: Fact.eq _ :: Fact.eq _ :: []) 9 [(0, 8), (4, 12), (8, 16)] rfl rfl
 ·refine D_s (js := []) (by kernel_rfl) (fun _ _ => QA_nil (DPu T.ok rfl rfl rfl)) ?_
  refine D_s (js := []) (by kernel_rfl) (fun _ _ => QA_nil (DPu T.ok rfl rfl rfl)) ?_
  refine D_s (js := [(1, 9)]) (by kernel_rfl) (fun _ _ => QA_eq rfl (QA_nil (DPu T.ok rfl rfl rfl))) ?_
  refine D_s (js := [(2, 10)]) (by kernel_rfl) (fun _ _ => QA_eq rfl (QA_nil (DPu T.ok rfl rfl rfl))) ?_
  refine D_s (js := [(3, 11)]) (by kernel_rfl) (fun _ hf => QA_eq rfl (QA_nil (DLo T.ok 0 rfl rfl (hs.dr.call hf) rfl rfl rfl rfl))) ?_
  refine D_s (js := []) (by kernel_rfl) (fun _ _ => QA_nil (DPu T.ok rfl rfl rfl)) ?_
  refine D_s (js := [(5, 13)]) (by kernel_rfl) (fun _ _ => QA_eq rfl (QA_nil (DPu T.ok rfl rfl rfl))) ?_
  refine D_s (js := [(6, 14)]) (by kernel_rfl) (fun _ _ => QA_eq rfl (QA_nil (DPu T.ok rfl rfl rfl))) ?_
  refine D_s (js := [(7, 15)]) (by kernel_rfl) (fun _ hf => QA_eq rfl (QA_nil (DLo T.ok 0 rfl rfl (hs.dr.call hf) rfl rfl rfl rfl))) ?_
  exact D_nil
 intro g1 hf1; refine QA_eq rfl ?_; refine QA_eq rfl ?_; refine QA_eq rfl ?_; refine QA_nil ?_
 replace hs := hs.dr.call hf1; have hqe := (G.le_dr _).trans hf1.le; replace le0 := G.le.trans le0 hqe
 skip
 refine WL_o rfl rfl (OpR_st cl65 allF rfl rfl rfl rfl rfl (settleS_c (A := A) (D := D) hD hs) ?_)
 rintro g7 _ hqe ⟨rfl, pa, pc, hs⟩; replace le0 := G.le.trans le0 hqe
 refine WL_nil ?_; (with_reducible refine T_then ?_); refine W_seq ?_; refine W_region ?_; refine P1 T.ok rfl rfl rfl ?_; refine P1 T.ok rfl rfl rfl ?_; refine WL_nil ?_; (with_reducible refine T_then ?_)
 exact W_ret (ret1 rfl rfl (RetS.intro le0 ⟨rfl, pa, pc, hs⟩))

theorem dread_off {A : DkA} {D : DiskM} (ho : D.off = true) (off n : Int) {g0 g : G} {L : List Ent} (hs : St g0 g (dkL A D ++ L)) :
  CallsIn Wd 0 Tryz.prog 52 #[.pointer (some ⟨A.b, 0, none⟩), .int .i64 off, .int .i64 n] g.w (Ret g fun _ r => r = .tuple #[.string (bs []), .int .i64 241]) := by
 have le0 := G.le.refl g
 refine enter Tryz.func52 rfl Tryz.ntmps52 rfl ?_
 refine W_seq ?_; refine W_region ?_; refine P1 T.ok rfl rfl rfl ?_; refine P1 T.ok rfl rfl rfl ?_; refine WL_nil ?_; (with_reducible refine T_then ?_); refine W_seq ?_; refine W_seq ?_; refine W_region ?_; refine P1 T.ok rfl rfl rfl ?_
 refine WL_o rfl rfl (OpR_ret cl46 allF rfl rfl rfl rfl rfl (dcheck_c hs) ?_); rintro g1 _ hf1 rfl; replace hs := hs.call hf1; have hqe := hf1.le; replace le0 := G.le.trans le0 hqe
 rw [show D.check = 241 from if_pos ho]
 refine P1 T.ok rfl rfl rfl ?_; refine WL_nil ?_; (with_reducible refine T_then ?_); refine W_seq ?_; refine W_region ?_; refine P1 T.ok rfl rfl rfl ?_; refine P1 T.ok rfl rfl rfl ?_; refine WL_nil ?_; (with_reducible refine T_then ?_)
 refine W_yes rfl rfl ?_
 refine W_seq ?_; refine W_region ?_; (iterate 3 refine P1 T.ok rfl rfl rfl ?_); refine WL_nil ?_; (with_reducible refine T_then ?_)
 exact W_ret (ret2 rfl rfl rfl (Ret.of hf1 rfl))

/-- All that is visible. -/
theorem dread_c {A : DkA} {D : DiskM} (hD : D.ok) (ho : D.off = false) {g0 g : G} {L : List Ent} (hs : St g0 g (dkL A D ++ L)) :
  CallsIn Wd 0 Tryz.prog 52 #[.pointer (some ⟨A.b, 0, none⟩), .int .i64 0, .int .i64 (D.dur.length : Int)] g.w (Ret g fun _ r => r = .tuple #[.string (bs D.vis), .int .i64 0]) := by
 have le0 := G.le.refl g
 have hf0 := Fr0.refl g
 have hN := hD.le
 refine enter Tryz.func52 rfl Tryz.ntmps52 rfl ?_
 refine W_seq ?_; refine W_region ?_; refine P1 T.ok rfl rfl rfl ?_; refine P1 T.ok rfl rfl rfl ?_; refine WL_nil ?_; (with_reducible refine T_then ?_); refine W_seq ?_; refine W_seq ?_; refine W_region ?_; refine P1 T.ok rfl rfl rfl ?_
 refine WL_o rfl rfl (OpR_ret cl46 allF rfl rfl rfl rfl rfl (dcheck_c hs) ?_); rintro g1 _ hf1 rfl; replace hs := hs.call hf1; have hqe := hf1.le; replace le0 := G.le.trans le0 hqe
 replace hf0 := hf0.trans hf1
 rw [show D.check = 0 from if_neg (by simp [ho])]
 refine P1 T.ok rfl rfl rfl ?_; refine WL_nil ?_; (with_reducible refine T_then ?_); refine W_seq ?_; refine W_region ?_; refine P1 T.ok rfl rfl rfl ?_; refine P1 T.ok rfl rfl rfl ?_; refine WL_nil ?_; (with_reducible refine T_then ?_)
 refine W_no rfl rfl ?_
 refine W_skip ?_; (with_reducible refine T_then ?_); refine W_seq ?_; refine W_seq ?_; refine W_region ?_; (iterate 3 refine P1 T.ok rfl rfl rfl ?_)
 refine WL_o rfl rfl (OpR_ret cl47 allF rfl rfl rfl rfl rfl (inside_c hD 0 (D.dur.length : Int) hs) ?_); rintro g1 _ hf1 rfl; replace hs := hs.call hf1; have hqe := hf1.le; replace le0 := G.le.trans le0 hqe
 replace hf0 := hf0.trans hf1
 rw [show D.inside 0 (D.dur.length : Int) = true from decide_eq_true ⟨by omega, by omega, by omega, by omega⟩]
 refine P1 T.ok rfl rfl rfl ?_; refine WL_nil ?_; (with_reducible refine T_then ?_)
 refine W_no rfl rfl ?_
 rw [dkL_cons] at hs
 refine W_skip ?_; (with_reducible refine T_then ?_); refine W_seq ?_; refine W_region ?_; (iterate 3 refine P1 T.ok rfl rfl rfl ?_); refine WL_o rfl rfl (OpR_loadO T.ok 0 rfl hs rfl rfl rfl ?_); refine P1 T.ok rfl rfl rfl ?_
 have hpos := hD.pos
 refine WL_o rfl rfl (OpR_cut T.ok (a := 0) (b := D.dur.length) rfl rfl rfl rfl rfl ⟨_, rfl⟩ rfl (by omega) (Nat.le_refl _) ?_)
 refine WL_re (.slice (some ⟨A.bv, 0, none⟩) D.dur.length D.dur.length) (t := 24) rfl (by rw [if_neg (by omega)]; rfl) ?_
 refine P1 T.ok rfl rfl rfl ?_
 refine WL_o rfl rfl (OpR_cut T.ok (a := 0) (b := D.dur.length) rfl rfl rfl rfl rfl rfl ⟨_, rfl⟩ (by omega) (Nat.le_refl _) ?_)
 refine WL_re (.slice (some ⟨A.bv, 0, none⟩) D.dur.length D.dur.length) (t := 26) rfl (by rw [if_neg (by omega)]; rfl) ?_
 skip
 obtain ⟨_, hsrc⟩ := Src.of_row (hs.own 2 _ rfl).1
 have hsr2 : Src g1.w (some ⟨A.bv, 0, none⟩) D.dur.length 1 ((D.vis.map fun b => (b.toNat : Int)).map (Value.int .u8)) := by
  have e : (D.vis.map fun b => (b.toNat : Int)).map (Value.int .u8) = byteV D.vis := by simp [byteV]
  rw [e]; exact hsrc
 refine WL_o rfl rfl (OpR_bytesStr (ns := D.vis.map fun b => (b.toNat : Int)) T.ok rfl rfl rfl rfl rfl rfl rfl rfl hsr2 ?_)
 rw [bytesL]
 refine P1 T.ok rfl rfl rfl ?_; refine P1 T.ok rfl rfl rfl ?_; refine WL_nil ?_; (with_reducible refine T_then ?_)
 exact W_ret (ret2 rfl rfl rfl (Ret.of hf0 rfl))

def DiskM.cut (D : DiskM) (n : Int) : DiskM := { D with off := n == 0, left := n }
theorem dcut_c {A : DkA} {D : DiskM} (ho : D.off = false) (n : Int) (hn : 0 ≤ n) {g0 g : G} {L : List Ent} (hs : St g0 g (dkL A D ++ L)) :
  CallsIn Wd 0 Tryz.prog 29 #[.pointer (some ⟨A.b, 0, none⟩), .int .i64 n] g.w (RetS g fun g' r => r = .int .i64 0 ∧ St g0 g' (dkL A (D.cut n) ++ L)) := by
 have le0 := G.le.refl g
 refine enter Tryz.func29 rfl Tryz.ntmps29 rfl ?_
 refine W_seq ?_; refine W_region ?_; refine P1 T.ok rfl rfl rfl ?_; refine WL_nil ?_; (with_reducible refine T_then ?_); refine W_seq ?_; refine W_seq ?_; refine W_region ?_; refine P1 T.ok rfl rfl rfl ?_
 refine WL_o rfl rfl (OpR_ret cl46 allF rfl rfl rfl rfl rfl (dcheck_c hs) ?_); rintro g1 _ hf1 rfl; replace hs := hs.call hf1; have hqe := hf1.le; replace le0 := G.le.trans le0 hqe
 rw [show D.check = 0 from if_neg (by simp [ho])]
 refine P1 T.ok rfl rfl rfl ?_; refine WL_nil ?_; (with_reducible refine T_then ?_); refine W_seq ?_; refine W_region ?_; refine P1 T.ok rfl rfl rfl ?_; refine P1 T.ok rfl rfl rfl ?_; refine WL_nil ?_; (with_reducible refine T_then ?_)
 refine W_no rfl rfl ?_
 refine W_skip ?_; (with_reducible refine T_then ?_); refine W_seq ?_; refine W_seq ?_; refine W_region ?_; refine P1 T.ok rfl rfl rfl ?_; refine P1 T.ok rfl rfl rfl ?_; refine WL_nil ?_; (with_reducible refine T_then ?_)
 refine W_no (b := decide (n < 0)) (decide_eq_false (by omega)) rfl ?_
 rw [dkL_cons] at hs
 refine W_skip ?_; (with_reducible refine T_then ?_); refine W_seq ?_; refine W_region ?_; (iterate 4 refine P1 T.ok rfl rfl rfl ?_)
 refine WL_o rfl rfl (OpR_build T.ok rfl (vs := [(0, .bool (n == 0)), (1, .int .i64 n)]) (cells := [.bool (n == 0), .int .i64 n]) rfl rfl rfl rfl [(0, 1), (1, 1)] rfl (by kernel_rfl) ?_)
 refine P1 T.ok rfl rfl rfl ?_; refine P1 T.ok rfl rfl rfl ?_
 refine WL_n rfl (OpR_storeO T.ok 0 rfl hs rfl rfl rfl rfl rfl rfl rfl rfl rfl ?_); replace hs := hs; rintro g1 hs hqe; replace le0 := G.le.trans le0 hqe
 refine WL_nil ?_; (with_reducible refine T_then ?_); refine W_seq ?_; refine W_region ?_; refine P1 T.ok rfl rfl rfl ?_; refine WL_nil ?_; (with_reducible refine T_then ?_)
 exact W_ret (ret1 rfl rfl (RetS.intro le0 ⟨rfl, hs⟩))

theorem content_c {A : DkA} {D : DiskM} (hD : D.ok) {g0 g : G} {L : List Ent} (hs : St g0 g (dkL A D ++ L)) :
  CallsIn Wd 0 Tryz.prog 22 #[.pointer (some ⟨A.b, 0, none⟩)] g.w (Ret g fun _ r => r = .string (bs (if D.off = true then [] else D.vis))) := by
 have le0 := G.le.refl g
 have hf0 := Fr0.refl g
 refine enter Tryz.func22 rfl Tryz.ntmps22 rfl ?_
 refine W_seq ?_; refine W_region ?_; refine P1 T.ok rfl rfl rfl ?_; refine WL_nil ?_; (with_reducible refine T_then ?_); refine W_seq ?_; refine W_region ?_; refine P1 T.ok rfl rfl rfl ?_; refine P1 T.ok rfl rfl rfl ?_
 refine WL_o rfl rfl (OpR_ret cl51 allF rfl rfl rfl rfl rfl (dsize_c hs) ?_); rintro g1 _ hf1 rfl; replace hs := hs.call hf1; have hqe := hf1.le; replace le0 := G.le.trans le0 hqe
 replace hf0 := hf0.trans hf1
 cases ho : D.off with
 | true =>
  refine WL_o rfl rfl (OpR_ret cl52 allF rfl rfl rfl rfl rfl (dread_off ho 0 (D.dur.length : Int) hs) ?_); rintro g1 _ hf1 rfl; replace hs := hs.call hf1; have hqe := hf1.le; replace le0 := G.le.trans le0 hqe
  replace hf0 := hf0.trans hf1
  (iterate 5 refine P1 T.ok rfl rfl rfl ?_); refine WL_nil ?_; (with_reducible refine T_then ?_); refine W_seq ?_; refine W_region ?_; refine P1 T.ok rfl rfl rfl ?_; refine P1 T.ok rfl rfl rfl ?_; refine WL_nil ?_; (with_reducible refine T_then ?_)
  exact W_ret (ret1 rfl rfl (Ret.of hf0 rfl))
 | false =>
  refine WL_o rfl rfl (OpR_ret cl52 allF rfl rfl rfl rfl rfl (dread_c hD ho hs) ?_); rintro g1 _ hf1 rfl; replace hs := hs.call hf1; have hqe := hf1.le; replace le0 := G.le.trans le0 hqe
  replace hf0 := hf0.trans hf1
  (iterate 5 refine P1 T.ok rfl rfl rfl ?_); refine WL_nil ?_; (with_reducible refine T_then ?_); refine W_seq ?_; refine W_region ?_; refine P1 T.ok rfl rfl rfl ?_; refine P1 T.ok rfl rfl rfl ?_; refine WL_nil ?_; (with_reducible refine T_then ?_)
  exact W_ret (ret1 rfl rfl (Ret.of hf0 rfl))
end Go.Proofs.YteohjgndanlldaaGreatDoor
