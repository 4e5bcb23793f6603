/- The tape, the journal's small functions, the law's helpers. -/
import Derived.Test.YteohjgndanlldaaGreatDoorWc
import Derived.Test.YteohjgndanlldaaGreatDoorWa
import Derived.Test.YteohjgndanlldaaGreatDoorKd

/- Package journal: the tape. -/
namespace Go.Proofs.YteohjgndanlldaaGreatDoor
open Go Go.K
set_option maxRecDepth 10000
attribute [local irreducible] W WL OpR bitAnd bitOr bitXor bitClr bitNot shlI shrI
set_option maxHeartbeats 2000000

structure TapeM where
 recs : List (List UInt8)
 head : List UInt8
 size : Nat
def strL (l : List (List UInt8)) : List Value := l.map fun s => .string (bs s)
theorem RcL.strs (g : G) : ∀ l : List (List UInt8), RcL g (strL l) (l.map Str.mk)
 | [] => rfl
 | s :: l => ⟨[.string (bs s)], strL l, rfl, rfl, RcL.strs g l⟩
theorem RcL.strs_inv {g : G} : ∀ {l : List (List UInt8)} {cs : List Value}, RcL g cs (l.map Str.mk) → cs = strL l
 | [], _, h => h
 | s :: r, _, ⟨c1, c2, e, h1, h2⟩ => by rw [e, show c1 = [.string (bs s)] from h1, RcL.strs_inv h2]; rfl
theorem strL_len (l : List (List UInt8)) : (strL l).length = l.length := by simp [strL]
def outM (head r : List UInt8) : List UInt8 := [1] ++ (putIntM r.length ++ r) ++ chainM head r
def TapeM.add (Y : TapeM) (r : List UInt8) : TapeM := ⟨Y.recs ++ [r], chainM Y.head r, Y.size + (outM Y.head r).length⟩
structure TapeM.ok (Y : TapeM) : Prop where
 recs : Y.recs.length ≤ 1099511627776
 head : Y.head.length = 32
 size : Y.size ≤ 1099511627776
def tpL (b E : Nat) (ra : Option Addr) (rc : Nat) (rest : List Value) (Y : TapeM) : List Ent :=
 [.obj b (.cells (.slice ra Y.recs.length rc :: .string (bs Y.head) :: .int .i64 (Y.size : Int) :: rest).toArray E (0, 0)),
  .row 9 1 (.slice ra Y.recs.length rc) Y.recs.length (strL Y.recs)]
theorem tpL_cons (b E : Nat) (ra : Option Addr) (rc : Nat) (rest : List Value) (Y : TapeM) (L : List Ent) : tpL b E ra rc rest Y ++ L =
 .obj b (.cells (.slice ra Y.recs.length rc :: .string (bs Y.head) :: .int .i64 (Y.size : Int) :: rest).toArray E (0, 0)) :: .row 9 1 (.slice ra Y.recs.length rc) Y.recs.length (strL Y.recs) :: L := rfl

theorem outM_len {head r : List UInt8} (hr : r.length ≤ 65536) : (outM head r).length ≤ 65600 := by
 unfold outM
 have := putIntM_len (r.length : Int)
 simp only [List.length_append, List.length_cons, List.length_nil, chainM_len]; omega

theorem putStr2_c (r : List UInt8) (g : G) (hr : r.length ≤ 65536) : CallsIn Wd 0 Tryz.prog 71 #[.string (bs r)] g.w (Ret g fun _ x => x = .tuple #[.string (bs (putIntM r.length ++ r)), .int .i64 0]) := by
 have h := putStr_c r g (by omega)
 rw [show putStrM r = (putIntM r.length ++ r, 0) from if_neg (by omega)] at h
 exact h

theorem tadd_c {b E : Nat} {ra : Option Addr} {rc : Nat} {rest : List Value} {Y : TapeM} (hT : Y.ok) (r : List UInt8) (hr : r.length ≤ 65536) {g0 g : G} {L : List Ent} (hrk : RoundAt g) (hs : St g0 g (tpL b E ra rc rest Y ++ L)) :
  CallsIn Wd 0 Tryz.prog 38 #[.pointer (some ⟨b, 0, none⟩), .string (bs r)] g.w
   (RetS g fun g' v => v = .string (bs (outM Y.head r)) ∧ ∃ ra rc, St g0 g' (tpL b E ra rc rest (Y.add r) ++ L)) := by
 have le0 := G.le.refl g
 rw [tpL_cons] at hs
 have hh := hT.head
 have hz := hT.size
 have hn := hT.recs
 refine enter Tryz.func38 rfl Tryz.ntmps38 rfl ?_
 refine W_seq ?_; refine W_region ?_; refine P1 T.ok rfl rfl rfl ?_; refine WL_nil ?_; (with_reducible refine T_then ?_); refine W_seq ?_; refine W_region ?_; (iterate 4 refine P1 T.ok rfl rfl rfl ?_); refine WL_o rfl rfl (OpR_loadO T.ok 0 rfl hs rfl rfl rfl ?_); refine P1 T.ok rfl rfl rfl ?_
 refine WL_o rfl rfl (OpR_ret cl70 allF rfl rfl rfl rfl rfl (chain_c Y.head r _ hrk (by omega)) ?_); rintro g1 _ hf1 rfl; replace hs := hs.call hf1; have hqe := hf1.le; replace le0 := G.le.trans le0 hqe
 replace hrk := hrk.mono hqe
 have hcl := chainM_len Y.head r
 have hol := outM_len (head := Y.head) hr
 have hadd : Y.add r = ⟨Y.recs ++ [r], chainM Y.head r, Y.size + (outM Y.head r).length⟩ := rfl
 have hout : outM Y.head r = [1] ++ (putIntM r.length ++ r) ++ chainM Y.head r := rfl
 have hput := fun gq : G => putStr2_c r gq hr
 have hpl := putIntM_len (r.length : Int)
 generalize Y.add r = Ta at *
 generalize putIntM (r.length : Int) = pm at *
 generalize chainM Y.head r = ch at *
 generalize outM Y.head r = out at *
 refine P1 T.ok rfl rfl rfl ?_; refine P1 T.ok rfl rfl rfl ?_
 refine WL_n rfl (OpR_storeO T.ok 0 rfl hs rfl rfl rfl rfl rfl rfl rfl rfl rfl ?_); replace hs := hs; rintro g1 hs hqe; replace le0 := G.le.trans le0 hqe
 refine WL_nil ?_; (with_reducible refine T_then ?_); refine W_seq ?_; refine W_region ?_; (iterate 4 refine P1 T.ok rfl rfl rfl ?_); refine WL_o rfl rfl (OpR_loadO T.ok 0 rfl hs rfl rfl rfl ?_); refine P1 T.ok rfl rfl rfl ?_
 refine WL_o rfl rfl (OpR_lit T.ok rfl hs (vs := [(0, .string (bs r))]) (cells := [.string (bs r)]) rfl rfl rfl rfl rfl rfl (by decide) (by decide) (by kernel_rfl) rfl ?_)
 rintro bl gl hs hqe; replace le0 := G.le.trans le0 hqe
 obtain ⟨gz, hwz, hsz, hqz, hrl⟩ := hs.fzRow (α := Str) (xs := [Str.mk r]) (i := 0) rfl (RcL.strs _ [r])
 clear hqe; have hqe := hqz; rw [← hwz]; replace hs := hsz; clear hsz; replace le0 := G.le.trans le0 hqe
 skip
 obtain ⟨_, news, hnw, hsrc⟩ := Src.of_rs hrl
 refine WL_o rfl rfl (OpR_append T.ok 1 rfl hs rfl rfl rfl rfl rfl rfl rfl (by decide) rfl hsrc hnw.one (by show (Y.recs.length + 1) * 16 ≤ _; omega) (by unfold maxLen; show Y.recs.length + 1 ≤ _; omega) ?_)
 rintro ra2 rc2 g5 hs hqe; replace le0 := G.le.trans le0 hqe
 obtain rfl := RcL.strs_inv (l := [r]) hnw
 refine P1 T.ok rfl rfl rfl ?_; refine P1 T.ok rfl rfl rfl ?_
 refine WL_n rfl (OpR_storeO T.ok 0 rfl hs rfl rfl rfl rfl rfl rfl rfl rfl rfl ?_); replace hs := hs; rintro g1 hs hqe; replace le0 := G.le.trans le0 hqe
 refine WL_nil ?_; (with_reducible refine T_then ?_); refine W_seq ?_; refine W_region ?_; refine P1 T.ok rfl rfl rfl ?_
 refine WL_o rfl rfl (OpR_ret cl71 allF rfl rfl rfl rfl rfl (hput _) ?_); rintro g1 _ hf1 rfl; replace hs := hs.call hf1; have hqe := hf1.le; replace le0 := G.le.trans le0 hqe
 (iterate 5 refine P1 T.ok rfl rfl rfl ?_); refine WL_nil ?_; (with_reducible refine T_then ?_); refine W_seq ?_
 apply W_draw allF rfl ((Fact.rs ([1] : List UInt8)) :: Fact.eq _ :: Fact.eq _ :: Fact.eq _ :: Fact.eq _ :: Fact.eq _ :: Fact.eq _ :: Fact.eq _ :: Fact.eq _ :: []) 9 [(8, 40)] rfl rfl
 ·refine D_cons (D_step2 (js := []) (by kernel_rfl) fun gd hf => ?_) ?_
  ·have hsd := hs.dr.call hf; have hfe := (G.le_dr _).trans hf.le
   refine QA_nil ?_
   refine D_yes rfl ?_
   refine OpR_lit T.ok rfl (St.start gd) (vs := [(0, .int .u8 1)]) (cells := [.int .u8 1]) rfl rfl rfl rfl rfl rfl (by decide) (by decide) (by kernel_rfl) rfl ?_
   intro b2 g2 hs1 hqe1
   obtain ⟨g3, hw3, hs3, hqe3, hrl⟩ := hs1.fzRow (α := UInt8) (xs := [1]) (i := 0) rfl (RcL.bytes _ [1])
   exact ⟨g3, hw3, hs3.fr0, hrl⟩
  refine D_cons (D_step2 (js := [(0, 32)]) (by kernel_rfl) fun gd hf => ?_) ?_
  ·have hsd := hs.dr.call hf; have hfe := (G.le_dr _).trans hf.le
   refine QA_any fun v0 h0 => ?_
   refine QA_nil ?_
   obtain ⟨ax, cx, rfl⟩ := Rs.isSlice h0
   obtain ⟨_, news, hnw, hsrc⟩ := Src.of_rs h0
   obtain rfl := RcL.bytes_inv hnw
   refine D_yes rfl ?_
   refine OpR_bytesStr (ns := [1]) T.ok rfl rfl rfl rfl rfl rfl rfl rfl hsrc ?_
   exact ⟨_, rfl, Fr0.refl _, rfl⟩
  refine D_s (js := []) (by kernel_rfl) (fun _ _ => QA_nil (DPu T.ok rfl rfl rfl)) ?_
  refine D_cons (D_step2 (js := [(1, 33), (2, 34)]) (by kernel_rfl) fun gd hf => ?_) ?_
  ·have hsd := hs.dr.call hf; have hfe := (G.le_dr _).trans hf.le
   refine QA_eq rfl ?_; refine QA_eq rfl ?_
   refine QA_nil ?_
   refine D_yes rfl ?_
   refine OpR_addS (p := [1]) (q := pm ++ r) rfl rfl rfl (by simp only [List.length_append, List.length_cons, List.length_nil]; omega) ?_
   exact ⟨_, rfl, Fr0.refl _, rfl⟩
  refine D_s (js := []) (by kernel_rfl) (fun _ _ => QA_nil (DPu T.ok rfl rfl rfl)) ?_
  refine D_s (js := [(4, 36)]) (by kernel_rfl) (fun _ _ => QA_eq rfl (QA_nil (DPu T.ok rfl rfl rfl))) ?_
  refine D_s (js := [(5, 37)]) (by kernel_rfl) (fun _ _ => QA_eq rfl (QA_nil (DPu T.ok rfl rfl rfl))) ?_
  refine D_s (js := [(6, 38)]) (by kernel_rfl) (fun _ hf => QA_eq rfl (QA_nil (DLo T.ok 0 rfl rfl (hs.dr.call hf) rfl rfl rfl rfl))) ?_
  refine D_cons (D_step2 (js := [(3, 35), (7, 39)]) (by kernel_rfl) fun gd hf => ?_) ?_
  ·have hsd := hs.dr.call hf; have hfe := (G.le_dr _).trans hf.le
   refine QA_eq rfl ?_; refine QA_eq rfl ?_
   refine QA_nil ?_
   refine D_yes rfl ?_
   refine OpR_addS (p := [1] ++ (pm ++ r)) (q := ch) rfl rfl rfl (by simp only [List.length_append, List.length_cons, List.length_nil]; omega) ?_
   exact ⟨_, rfl, Fr0.refl _, rfl⟩
  exact D_nil
 intro g1 hf1; refine QA_eq rfl ?_; refine QA_nil ?_
 replace hs := hs.dr.call hf1; have hqe := (G.le_dr _).trans hf1.le; replace le0 := G.le.trans le0 hqe
 rw [← hout]
 clear hout
 refine P1 T.ok rfl rfl rfl ?_; refine WL_nil ?_; (with_reducible refine T_then ?_); refine W_seq ?_; refine W_region ?_; (iterate 3 refine P1 T.ok rfl rfl rfl ?_); refine WL_o rfl rfl (OpR_loadO T.ok 0 rfl hs rfl rfl rfl ?_); (iterate 5 refine P1 T.ok rfl rfl rfl ?_)
 refine WL_re (.int .i64 ((Y.size + out.length : Nat) : Int)) (t := 47) rfl (congrArg (Value.int .i64) (by rw [bs_size, wr (by omega) (by omega)]; omega)) ?_
 skip
 refine WL_n rfl (OpR_storeO T.ok 0 rfl hs rfl rfl rfl rfl rfl rfl rfl rfl rfl ?_); replace hs := hs; rintro g1 hs hqe; replace le0 := G.le.trans le0 hqe
 refine WL_nil ?_; (with_reducible refine T_then ?_); refine W_seq ?_; refine W_region ?_; refine P1 T.ok rfl rfl rfl ?_; refine P1 T.ok rfl rfl rfl ?_; refine WL_nil ?_; (with_reducible refine T_then ?_)
 refine W_ret (ret1 rfl rfl (RetS.intro le0 ⟨rfl, ra2, rc2, ?_⟩))
 rw [hadd, tpL_cons]
 have e1 : (Y.recs ++ [r]).length = Y.recs.length + 1 := by simp
 have e2 : strL (Y.recs ++ [r]) = strL Y.recs ++ strL [r] := by simp [strL]
 simp only [e1, e2]
 exact hs
end Go.Proofs.YteohjgndanlldaaGreatDoor

/- Package journal: a list of calls until one fails; the calls themselves. -/
namespace Go.Proofs.YteohjgndanlldaaGreatDoor
open Go Go.K
set_option maxRecDepth 10000
attribute [local irreducible] W WL OpR bitAnd bitOr bitXor bitClr bitNot shlI shrI
set_option maxHeartbeats 2000000

/-- A function value. -/
structure Clo where
 f : Nat
 fst : List Value
 cap : List Value
def Clo.v (c : Clo) : Value := .func (.func c.f) c.fst.toArray c.cap.toArray
instance : El Clo where
 k := 1
 pos := by omega
 rc _ cs c := cs = [c.v]
 len h := by rw [h]; rfl
 mono _ h := h
 one h := by rw [h]; simp [Value.oneCell', Clo.v]

theorem first_c (cs : List Clo) (J : Nat → G → Prop) (S : Int → G → Prop) (v : Value) (g : G) (rs0 : Rs g v cs) (hJ : J 0 g)
  (hstep : ∀ i c, cs[i]? = some c → Callable Tryz.prog c.f ∧ ∀ gq : G, g.le gq → J i gq → CallsIn Wd 0 Tryz.prog c.f (c.fst ++ c.cap).toArray gq.w (RetS gq fun g' r => ∃ e : Int, r = .int .i64 e ∧ (e = 0 → J (i + 1) g') ∧ (e ≠ 0 → S e g'))) :
  CallsIn Wd 0 Tryz.prog 40 #[v] g.w (RetS g fun g' r => ∃ e : Int, r = .int .i64 e ∧ (e = 0 → J cs.length g') ∧ (e ≠ 0 → S e g')) := by
 obtain ⟨a, c, rfl⟩ := rs0.isSlice
 have hlen := rs0.len_le
 unfold maxLen at hlen
 have le0 := G.le.refl g
 refine enter Tryz.func40 rfl Tryz.ntmps40 rfl ?_
 refine W_seq ?_; refine W_region ?_; refine P1 T.ok rfl rfl rfl ?_; refine WL_nil ?_; (with_reducible refine T_then ?_); refine W_seq ?_; refine W_seq ?_; refine W_region ?_; (iterate 3 refine P1 T.ok rfl rfl rfl ?_); refine WL_nil ?_; (with_reducible refine T_then ?_); refine W_block ?_
 refine W_loop (fun m a' w => ∃ (k : Nat) (g2 : G), w = g2.w ∧ G.le g g2 ∧ J k g2 ∧ k ≤ cs.length ∧ m = cs.length - k ∧
   Fr 18 [] [(6, .slice a cs.length c), (7, .int .i64 (cs.length : Int)), (8, .int .i64 k)] a') cs.length
  (fun a' ha => ⟨0, g, rfl, le0, hJ, Nat.zero_le _, rfl, ha.keep (by (repeat (first | exact trivial | refine ⟨rfl, ?_⟩)))⟩) ?_
 clear le0 hJ
 rintro m a' _ ⟨k, g2, rfl, le0, hJ, hk, rfl, ha'⟩
 have rs1 := rs0.mono le0
 revert a'
 (with_reducible refine T_wp ?_); refine W_seq ?_; refine W_region ?_; refine P1 T.ok rfl rfl rfl ?_; refine WL_nil ?_; (with_reducible refine T_then ?_); refine W_seq ?_
 by_cases hlt : k < cs.length
 ·refine W_yes (b := decide ((k : Int) < (cs.length : Int))) (by simp; omega) rfl ?_
  refine W_skip ?_; (with_reducible refine T_then ?_); refine W_seq ?_; refine W_block ?_; refine W_seq ?_; refine W_region ?_
  refine WL_o rfl rfl (OpR_idx T.ok rfl rs1 (y := cs[k]) (geti_of rfl hlt) rfl rfl rfl rfl rfl rfl ?_)
  intro b p ys hep hrc
  obtain rfl : ys = [(cs[k]).v] := hrc
  have hc := List.getElem?_eq_getElem hlt
  obtain ⟨hcl, hst⟩ := hstep k _ hc
  replace hst := hst g2 le0 hJ
  generalize cs[k] = x at *
  have ep0 := hep
  refine WL_o rfl rfl (OpR_loadE T.ok 0 rfl ep0 rfl rfl ?_)
  rw [show x.v = .func (.func x.f) x.fst.toArray x.cap.toArray from rfl]
  refine P1 T.ok rfl rfl rfl ?_; refine WL_nil ?_; (with_reducible refine T_then ?_); refine W_seq ?_; refine W_region ?_; refine P1 T.ok rfl rfl rfl ?_
  refine WL_o rfl rfl (OpR_st hcl allF rfl (first := x.fst.toArray) (captured := x.cap.toArray) rfl rfl rfl (by simp) hst ?_)
  rintro g3 _ hqe ⟨e, rfl, h0, h1⟩; replace le0 := G.le.trans le0 hqe; replace ep0 := ep0.mono hqe; replace rs1 := rs1.mono hqe
  refine P1 T.ok rfl rfl rfl ?_; refine WL_nil ?_; (with_reducible refine T_then ?_); refine W_seq ?_; refine W_region ?_; refine P1 T.ok rfl rfl rfl ?_; refine P1 T.ok rfl rfl rfl ?_; refine WL_nil ?_; (with_reducible refine T_then ?_)
  by_cases he : e = 0
  ·refine W_no (b := e != 0) (by simpa using he) rfl ?_
   have hJ2 := h0 he
   refine W_skip ?_; (with_reducible refine T_bn ?_); (with_reducible refine T_then ?_); refine W_region ?_; refine P1 T.ok rfl rfl rfl ?_; refine P1 T.ok rfl rfl rfl ?_; refine WL_nil ?_
   exact fun a ha => ⟨cs.length - (k + 1), by omega, k + 1, g3, rfl, le0, hJ2, by omega, rfl, ha.keep ⟨rfl, rfl, kI rfl (by rw [wr (by omega) (by omega)]; omega), trivial⟩⟩
  ·refine W_yes (b := e != 0) (by simpa using he) rfl ?_
   refine W_seq ?_; refine W_region ?_; refine P1 T.ok rfl rfl rfl ?_; refine P1 T.ok rfl rfl rfl ?_; refine WL_nil ?_; (with_reducible refine T_then ?_)
   exact W_ret (ret1 rfl rfl (RetS.intro le0 ⟨e, rfl, fun h => absurd h he, h1⟩))
 ·refine W_no (b := decide ((k : Int) < (cs.length : Int))) (by simp; omega) rfl ?_
  obtain rfl : k = cs.length := by omega
  refine W_exit ?_; (with_reducible refine T_tx ?_; with_reducible refine T_tx ?_); (with_reducible refine T_bx ?_); (with_reducible refine T_then ?_); refine W_seq ?_; refine W_region ?_; refine P1 T.ok rfl rfl rfl ?_; refine WL_nil ?_; (with_reducible refine T_then ?_)
  exact W_ret (ret1 rfl rfl (RetS.intro le0 ⟨0, rfl, fun _ => hJ, fun h => absurd rfl h⟩))

/-- What a journal's block holds. -/
def jnC (A : DkA) (broken : Bool) : List Value := [.pointer (some ⟨A.b, 0, none⟩), .bool broken]

theorem writing_c (bj : Nat) (k : Nat) (s : List UInt8) (g : G) : CallsIn Wd 0 Tryz.prog 41 #[.pointer (some ⟨bj, 0, none⟩), .int .i64 (k : Int), .string (bs s)] g.w
  (Ret g fun g' r => ∃ b1 b2 b3, r = .func (.func 72) #[] #[.pointer (some ⟨b1, 0, none⟩), .pointer (some ⟨b2, 0, none⟩), .pointer (some ⟨b3, 0, none⟩)] ∧
   EP g' b1 0 [.pointer (some ⟨bj, 0, none⟩)] ∧ EP g' b2 0 [.int .i64 (k : Int)] ∧ EP g' b3 0 [.string (bs s)]) := by
 have hs := St.start g
 have le0 := G.le.refl g
 refine enter Tryz.func41 rfl Tryz.ntmps41 rfl ?_
 refine W_seq ?_; refine W_region ?_
 refine WL_o rfl rfl (OpR_box rfl hs rfl rfl ?_); clear hs; rintro b1 g1 hs hqe; replace le0 := G.le.trans le0 hqe
 obtain ⟨g2, hw2, hs2, hqe, hep⟩ := hs.fzObj (i := 0) rfl; replace hs := hs2; clear hs2; rw [← hw2]; replace le0 := G.le.trans le0 hqe
 have ep0 := hep; clear hep
 skip
 refine WL_o rfl rfl (OpR_box rfl hs rfl rfl ?_); clear hs; rintro b2 g1 hs hqe; replace le0 := G.le.trans le0 hqe; replace ep0 := ep0.mono hqe
 obtain ⟨g2, hw2, hs2, hqe, hep⟩ := hs.fzObj (i := 0) rfl; replace hs := hs2; clear hs2; rw [← hw2]; replace le0 := G.le.trans le0 hqe; replace ep0 := ep0.mono hqe
 have ep1 := hep; clear hep
 skip
 refine WL_o rfl rfl (OpR_box rfl hs rfl rfl ?_); clear hs; rintro b3 g1 hs hqe; replace le0 := G.le.trans le0 hqe; replace ep0 := ep0.mono hqe; replace ep1 := ep1.mono hqe
 obtain ⟨g2, hw2, hs2, hqe, hep⟩ := hs.fzObj (i := 0) rfl; replace hs := hs2; clear hs2; rw [← hw2]; replace le0 := G.le.trans le0 hqe; replace ep0 := ep0.mono hqe; replace ep1 := ep1.mono hqe
 have ep2 := hep; clear hep
 refine P1 T.ok rfl rfl rfl ?_; refine WL_nil ?_; (with_reducible refine T_then ?_); refine W_seq ?_; refine W_region ?_; refine P1 T.ok rfl rfl rfl ?_; refine P1 T.ok rfl rfl rfl ?_; refine WL_nil ?_; (with_reducible refine T_then ?_)
 exact W_ret (ret1 rfl rfl (hs.ret ⟨b1, b2, b3, rfl, ep0, ep1, ep2⟩))

/-- A write by a closure: it goes well. -/
theorem write1_c {A : DkA} {D : DiskM} (hD : D.ok) (ho : D.off = false) (k : Nat) (s : List UInt8) (hi : k + s.length ≤ D.dur.length) {b1 b2 b3 bj E : Nat} {j0 j1 j2 : Value} {br : Bool} {g0 g : G} {L : List Ent}
  (ep0 : EP g b1 0 [.pointer (some ⟨bj, 0, none⟩)]) (ep1 : EP g b2 0 [.int .i64 (k : Int)]) (ep2 : EP g b3 0 [.string (bs s)])
  (hs : St g0 g (.obj bj (.cells (j0 :: j1 :: j2 :: jnC A br).toArray E (0, 0)) :: (dkL A D ++ L))) :
  CallsIn Wd 0 Tryz.prog 72 #[.pointer (some ⟨b1, 0, none⟩), .pointer (some ⟨b2, 0, none⟩), .pointer (some ⟨b3, 0, none⟩)] g.w
   (RetS g fun g' r => r = .int .i64 0 ∧ ∃ pa pc, St g0 g' (.obj bj (.cells (j0 :: j1 :: j2 :: jnC A br).toArray E (0, 0)) :: (dkL ⟨A.b, A.bd, A.bv, pa, pc⟩ (D.put k s) ++ L))) := by
 have le0 := G.le.refl g
 unfold jnC at *
 refine enter Tryz.func72 rfl Tryz.ntmps72 rfl ?_
 refine W_seq ?_; refine W_region ?_; refine P1 T.ok rfl rfl rfl ?_; refine WL_nil ?_; (with_reducible refine T_then ?_); refine W_seq ?_
 apply W_draw allF rfl (Fact.eq _ :: Fact.eq _ :: Fact.eq _ :: Fact.eq _ :: Fact.eq _ :: Fact.eq _ :: []) 6 [(3, 7), (4, 8), (5, 9)] rfl rfl
 ·refine D_s (js := []) (by kernel_rfl) (fun _ hf => QA_nil (DLe T.ok 0 rfl rfl (ep0.mono ((G.le_dr _).trans hf.le)) rfl rfl rfl)) ?_
  refine D_s (js := [(0, 4)]) (by kernel_rfl) (fun _ _ => QA_eq rfl (QA_nil (DPu T.ok rfl rfl rfl))) ?_
  refine D_s (js := [(1, 5)]) (by kernel_rfl) (fun _ _ => QA_eq rfl (QA_nil (DPu T.ok rfl rfl rfl))) ?_
  refine D_s (js := [(2, 6)]) (by kernel_rfl) (fun _ hf => QA_eq rfl (QA_nil (DLo T.ok 0 rfl rfl (hs.dr.call hf) rfl rfl rfl rfl))) ?_
  refine D_s (js := []) (by kernel_rfl) (fun _ hf => QA_nil (DLe T.ok 0 rfl rfl (ep1.mono ((G.le_dr _).trans hf.le)) rfl rfl rfl)) ?_
  refine D_s (js := []) (by kernel_rfl) (fun _ hf => QA_nil (DLe T.ok 0 rfl rfl (ep2.mono ((G.le_dr _).trans hf.le)) rfl rfl rfl)) ?_
  exact D_nil
 intro g1 hf1; refine QA_eq rfl ?_; refine QA_eq rfl ?_; refine QA_eq rfl ?_; refine QA_nil ?_
 replace hs := hs.dr.call hf1; have hqe := (G.le_dr _).trans hf1.le; replace le0 := G.le.trans le0 hqe; replace ep0 := ep0.mono hqe; replace ep1 := ep1.mono hqe; replace ep2 := ep2.mono hqe
 skip
 have hs2 := hs.in1
 refine WL_o rfl rfl (OpR_st cl13 allF rfl rfl rfl rfl rfl (dwrite_c hD ho k s hi hs2) ?_)
 rintro g7 _ hqe ⟨rfl, pa, pc, hs3⟩; replace le0 := G.le.trans le0 hqe; replace ep0 := ep0.mono hqe; replace ep1 := ep1.mono hqe; replace ep2 := ep2.mono hqe
 replace hs := hs3.out1
 refine P1 T.ok rfl rfl rfl ?_; refine WL_nil ?_; (with_reducible refine T_then ?_)
 exact W_ret (ret1 rfl rfl (RetS.intro le0 ⟨rfl, pa, pc, hs⟩))
/-- A write by a closure: no power. -/
theorem write1_off {A : DkA} {D : DiskM} (ho : D.off = true) (k : Nat) (s : List UInt8) {b1 b2 b3 bj E : Nat} {j0 j1 j2 : Value} {br : Bool} {g0 g : G} {L : List Ent}
  (ep0 : EP g b1 0 [.pointer (some ⟨bj, 0, none⟩)]) (ep1 : EP g b2 0 [.int .i64 (k : Int)]) (ep2 : EP g b3 0 [.string (bs s)])
  (hs : St g0 g (.obj bj (.cells (j0 :: j1 :: j2 :: jnC A br).toArray E (0, 0)) :: (dkL A D ++ L))) :
  CallsIn Wd 0 Tryz.prog 72 #[.pointer (some ⟨b1, 0, none⟩), .pointer (some ⟨b2, 0, none⟩), .pointer (some ⟨b3, 0, none⟩)] g.w
   (RetS g fun g' r => r = .int .i64 241 ∧ St g0 g' (.obj bj (.cells (j0 :: j1 :: j2 :: jnC A br).toArray E (0, 0)) :: (dkL A D ++ L))) := by
 have le0 := G.le.refl g
 unfold jnC at *
 refine enter Tryz.func72 rfl Tryz.ntmps72 rfl ?_
 refine W_seq ?_; refine W_region ?_; refine P1 T.ok rfl rfl rfl ?_; refine WL_nil ?_; (with_reducible refine T_then ?_); refine W_seq ?_
 apply W_draw allF rfl (Fact.eq _ :: Fact.eq _ :: Fact.eq _ :: Fact.eq _ :: Fact.eq _ :: Fact.eq _ :: []) 6 [(3, 7), (4, 8), (5, 9)] rfl rfl
 ·refine D_s (js := []) (by kernel_rfl) (fun _ hf => QA_nil (DLe T.ok 0 rfl rfl (ep0.mono ((G.le_dr _).trans hf.le)) rfl rfl rfl)) ?_
  refine D_s (js := [(0, 4)]) (by kernel_rfl) (fun _ _ => QA_eq rfl (QA_nil (DPu T.ok rfl rfl rfl))) ?_
  refine D_s (js := [(1, 5)]) (by kernel_rfl) (fun _ _ => QA_eq rfl (QA_nil (DPu T.ok rfl rfl rfl))) ?_
  refine D_s (js := [(2, 6)]) (by kernel_rfl) (fun _ hf => QA_eq rfl (QA_nil (DLo T.ok 0 rfl rfl (hs.dr.call hf) rfl rfl rfl rfl))) ?_
  refine D_s (js := []) (by kernel_rfl) (fun _ hf => QA_nil (DLe T.ok 0 rfl rfl (ep1.mono ((G.le_dr _).trans hf.le)) rfl rfl rfl)) ?_
  refine D_s (js := []) (by kernel_rfl) (fun _ hf => QA_nil (DLe T.ok 0 rfl rfl (ep2.mono ((G.le_dr _).trans hf.le)) rfl rfl rfl)) ?_
  exact D_nil
 intro g1 hf1; refine QA_eq rfl ?_; refine QA_eq rfl ?_; refine QA_eq rfl ?_; refine QA_nil ?_
 replace hs := hs.dr.call hf1; have hqe := (G.le_dr _).trans hf1.le; replace le0 := G.le.trans le0 hqe; replace ep0 := ep0.mono hqe; replace ep1 := ep1.mono hqe; replace ep2 := ep2.mono hqe
 skip
 have hs2 := hs.in1
 refine WL_o rfl rfl (OpR_ret cl13 allF rfl rfl rfl rfl rfl (dwrite_off ho k s hs2) ?_); rintro g1 _ hf1 rfl; replace hs := hs.call hf1; have hqe := hf1.le; replace le0 := G.le.trans le0 hqe; replace ep0 := ep0.mono hqe; replace ep1 := ep1.mono hqe; replace ep2 := ep2.mono hqe
 refine P1 T.ok rfl rfl rfl ?_; refine WL_nil ?_; (with_reducible refine T_then ?_)
 exact W_ret (ret1 rfl rfl (RetS.intro le0 ⟨rfl, hs⟩))
end Go.Proofs.YteohjgndanlldaaGreatDoor

/- Package journal: small walks; package slices. -/
namespace Go.Proofs.YteohjgndanlldaaGreatDoor
open Go Go.K
set_option maxRecDepth 10000
attribute [local irreducible] W WL OpR bitAnd bitOr bitXor bitClr bitNot shlI shrI
set_option maxHeartbeats 2000000

theorem clone_c {ad : Option Addr} {n c i : Nat} {xs : List (List UInt8)} {g0 g : G} {L : List Ent} (hsC : St g0 g L) (hi : L[i]? = some (.row 9 1 (.slice ad n c) n (strL xs))) (hn : n = xs.length) (hb : n ≤ 1099511627776) :
  CallsIn Wd 0 Tryz.prog 36 #[.slice ad n c] g.w (Ret g (OwnR 9 g (xs.map Str.mk))) := by
 have hs := St.start g
 have le0 := G.le.refl g
 refine enter Tryz.func36 rfl Tryz.ntmps36 rfl ?_
 refine W_seq ?_; refine W_region ?_; refine P1 T.ok rfl rfl rfl ?_; refine WL_nil ?_; (with_reducible refine T_then ?_); refine W_seq ?_; refine W_seq ?_; refine W_region ?_; refine P1 T.ok rfl rfl rfl ?_
 refine WL_o rfl rfl (OpR_eqNilSlice T.ok (neg := false) rfl rfl rfl rfl rfl ?_)
 refine WL_nil ?_
 (with_reducible refine T_then ?_)
 cases ad with
 | none =>
  refine W_yes rfl rfl ?_
  have h0 : n = 0 := by
   rcases (hsC.own i _ hi).1.2 with h | ⟨b, off, cap, cur, e1, _⟩
   ·exact h.1
   ·simp at e1
  have hx : xs = [] := List.eq_nil_of_length_eq_zero (by omega)
  subst hx
  refine W_seq ?_; refine W_region ?_; refine P1 T.ok rfl rfl rfl ?_; refine WL_nil ?_; (with_reducible refine T_then ?_)
  exact W_ret (ret1 rfl rfl (hs.ret (OwnR.nil (α := Str) _ _ _ _)))
 | some a =>
  refine W_no rfl rfl ?_
  refine W_skip ?_; (with_reducible refine T_then ?_); refine W_seq ?_; refine W_region ?_
  refine WL_o rfl rfl (OpR_lit T.ok rfl hs (vs := []) (cells := []) rfl rfl rfl rfl rfl rfl (by decide) (by decide) (by kernel_rfl) rfl ?_)
  rintro b2 g2 hs hqe
  have hsC2 := hsC.call hs.fr0
  replace le0 := G.le.trans le0 hqe
  refine P1 T.ok rfl rfl rfl ?_
  obtain ⟨_, hsrc⟩ := Src.of_row (hsC2.own i _ hi).1
  refine WL_o rfl rfl (OpR_append T.ok 0 rfl hs rfl rfl rfl rfl rfl rfl rfl (by decide) rfl hsrc (RcL.strs g2 xs).one (by show (0 + n) * 16 ≤ _; omega) (by unfold maxLen; omega) ?_)
  rintro a3 c3 g3 hs hqe; replace le0 := G.le.trans le0 hqe
  refine P1 T.ok rfl rfl rfl ?_; refine WL_nil ?_; (with_reducible refine T_then ?_)
  refine W_ret (ret1 rfl rfl (hs.ret ⟨strL xs, ?_, RcL.strs _ _⟩))
  have := hs.own 0 _ rfl
  rw [List.nil_append, Nat.zero_add, hn] at this
  rw [List.length_map, Nat.zero_add, hn]
  exact this

theorem isLong_c (s : List UInt8) (g : G) : CallsIn Wd 0 Tryz.prog 34 #[.string (bs s)] g.w (Ret g fun _ r => r = .bool (decide (65536 < s.length))) := by
 have hs := St.start g
 have le0 := G.le.refl g
 refine enter Tryz.func34 rfl Tryz.ntmps34 rfl ?_
 refine W_seq ?_; refine W_region ?_; refine P1 T.ok rfl rfl rfl ?_; refine WL_nil ?_; (with_reducible refine T_then ?_); refine W_seq ?_; refine W_region ?_; (iterate 4 refine P1 T.ok rfl rfl rfl ?_); refine WL_nil ?_; (with_reducible refine T_then ?_)
 refine W_ret (ret1 rfl rfl (hs.ret ?_))
 rw [bs_size]
 congr 1
 exact decide_eq_decide.2 (by omega)

def longS (x : Str) : Bool := decide (65536 < x.s.length)
theorem indexLong_c (v : Value) (xs : List Str) (g : G) (rs0 : Rs g v xs) : CallsIn Wd 0 Tryz.prog 68 #[v, .func (.func 34) #[] #[]] g.w
  (Ret g fun _ r => ∃ e : Int, r = .int .i64 e ∧ decide (0 ≤ e) = xs.any longS) := by
 obtain ⟨a, c, rfl⟩ := rs0.isSlice
 have hlen := rs0.len_le
 unfold maxLen at hlen
 have hs := St.start g
 have le0 := G.le.refl g
 refine enter Tryz.func68 rfl Tryz.ntmps68 rfl ?_
 refine W_seq ?_; refine W_region ?_; refine P1 T.ok rfl rfl rfl ?_; refine WL_nil ?_; (with_reducible refine T_then ?_); refine W_seq ?_; refine W_seq ?_; refine W_region ?_; (iterate 3 refine P1 T.ok rfl rfl rfl ?_); refine WL_nil ?_; (with_reducible refine T_then ?_); refine W_block ?_
 refine W_loop (fun m a' w => ∃ (k : Nat) (g2 : G), w = g2.w ∧ St g g2 [] ∧ G.le g g2 ∧ k ≤ xs.length ∧ m = xs.length - k ∧ (xs.take k).any longS = false ∧
   Fr 19 [] [(0, .slice a xs.length c), (1, .func (.func 34) #[] #[]), (7, .int .i64 (xs.length : Int)), (8, .int .i64 k)] a') xs.length
  (fun a' ha => ⟨0, g, rfl, hs, le0, Nat.zero_le _, rfl, by simp, ha.keep (by (repeat (first | exact trivial | refine ⟨rfl, ?_⟩)))⟩) ?_
 clear hs le0
 rintro m a' _ ⟨k, g2, rfl, hs, le0, hk, rfl, hno, ha'⟩
 have rs1 := rs0.mono le0
 revert a'
 (with_reducible refine T_wp ?_); refine W_seq ?_; refine W_region ?_; refine P1 T.ok rfl rfl rfl ?_; refine WL_nil ?_; (with_reducible refine T_then ?_); refine W_seq ?_
 by_cases hlt : k < xs.length
 ·refine W_yes (b := decide ((k : Int) < (xs.length : Int))) (by simp; omega) rfl ?_
  refine W_skip ?_; (with_reducible refine T_then ?_); refine W_seq ?_; refine W_block ?_; refine W_seq ?_; refine W_region ?_; refine P1 T.ok rfl rfl rfl ?_; refine P1 T.ok rfl rfl rfl ?_; refine WL_nil ?_; (with_reducible refine T_then ?_); refine W_seq ?_; refine W_region ?_; (iterate 3 refine P1 T.ok rfl rfl rfl ?_)
  refine WL_o rfl rfl (OpR_idx T.ok rfl rs1 (y := xs[k]) (geti_of rfl hlt) rfl rfl rfl rfl rfl rfl ?_)
  intro b p ys hep hrc
  have hc := List.getElem?_eq_getElem hlt
  obtain rfl : ys = [.string (bs (xs[k]).s)] := hrc
  have htk : (xs.take (k + 1)).any longS = longS xs[k] := by
   rw [List.take_add_one, hc, List.any_append, hno]; simp
  have hal : xs.any longS = ((xs.take (k + 1)).any longS || (xs.drop (k + 1)).any longS) := by rw [← List.any_append, List.take_append_drop]
  generalize xs[k] = x at *
  have ep0 := hep
  refine WL_o rfl rfl (OpR_loadE T.ok 0 rfl ep0 rfl rfl ?_)
  skip
  refine WL_o rfl rfl (OpR_ret cl34 allF rfl rfl rfl rfl rfl (isLong_c x.s _) ?_); rintro g1 _ hf1 rfl; replace hs := hs.call hf1; have hqe := hf1.le; replace le0 := G.le.trans le0 hqe; replace ep0 := ep0.mono hqe; replace rs1 := rs1.mono hqe
  refine WL_nil ?_; (with_reducible refine T_then ?_)
  by_cases hl : 65536 < x.s.length
  ·refine W_yes (b := decide (65536 < x.s.length)) (decide_eq_true hl) rfl ?_
   refine W_seq ?_; refine W_region ?_; refine P1 T.ok rfl rfl rfl ?_; refine P1 T.ok rfl rfl rfl ?_; refine WL_nil ?_; (with_reducible refine T_then ?_)
   refine W_ret (ret1 rfl rfl (hs.ret ⟨(k : Int), rfl, ?_⟩))
   rw [hal, htk, show longS x = true from decide_eq_true hl]
   simp
  ·refine W_no (b := decide (65536 < x.s.length)) (decide_eq_false hl) rfl ?_
   refine W_skip ?_; (with_reducible refine T_bn ?_); (with_reducible refine T_then ?_); refine W_region ?_; refine P1 T.ok rfl rfl rfl ?_; refine P1 T.ok rfl rfl rfl ?_; refine WL_nil ?_
   exact fun a ha => ⟨xs.length - (k + 1), by omega, k + 1, g1, rfl, hs, le0, by omega, rfl, by rw [htk]; exact decide_eq_false hl, ha.keep ⟨rfl, rfl, rfl, kI rfl (by rw [wr (by omega) (by omega)]; omega), trivial⟩⟩
 ·refine W_no (b := decide ((k : Int) < (xs.length : Int))) (by simp; omega) rfl ?_
  obtain rfl : k = xs.length := by omega
  rw [List.take_length] at hno
  refine W_exit ?_; (with_reducible refine T_tx ?_; with_reducible refine T_tx ?_); (with_reducible refine T_bx ?_); (with_reducible refine T_then ?_); refine W_seq ?_; refine W_region ?_; refine P1 T.ok rfl rfl rfl ?_; refine WL_nil ?_; (with_reducible refine T_then ?_)
  exact W_ret (ret1 rfl rfl (hs.ret ⟨-1, rfl, by rw [hno]; rfl⟩))

theorem anyLong_c (v : Value) (xs : List Str) (g : G) (rs0 : Rs g v xs) : CallsIn Wd 0 Tryz.prog 35 #[v, .func (.func 34) #[] #[]] g.w
  (Ret g fun _ r => r = .bool (xs.any longS)) := by
 have hs := St.start g
 have le0 := G.le.refl g
 refine enter Tryz.func35 rfl Tryz.ntmps35 rfl ?_
 refine W_seq ?_; refine W_region ?_; refine P1 T.ok rfl rfl rfl ?_; refine WL_nil ?_; (with_reducible refine T_then ?_); refine W_seq ?_; refine W_region ?_; refine P1 T.ok rfl rfl rfl ?_; refine P1 T.ok rfl rfl rfl ?_
 refine WL_o rfl rfl (OpR_ret cl68 allF rfl rfl rfl rfl rfl (indexLong_c _ xs _ rs0) ?_); rintro g1 _ hf1 ⟨e, rfl, he⟩; replace hs := hs.call hf1; have hqe := hf1.le; replace le0 := G.le.trans le0 hqe; replace rs0 := rs0.mono hqe
 refine P1 T.ok rfl rfl rfl ?_; refine P1 T.ok rfl rfl rfl ?_; refine WL_nil ?_; (with_reducible refine T_then ?_)
 exact W_ret (ret1 rfl rfl (hs.ret (by rw [← he])))

/-- A journal: its own block, its row of records, its disk. -/
structure JnA where
 b : Nat
 ra : Option Addr
 rc : Nat
def jnL (B : JnA) (A : DkA) (br : Bool) (Y : TapeM) : List Ent := tpL B.b 74 B.ra B.rc (jnC A br) Y

theorem room_c {B : JnA} {A : DkA} {br : Bool} {Y : TapeM} {D : DiskM} (hD : D.ok) (hY : Y.ok) {g0 g : G} {L : List Ent} (hs : St g0 g (jnL B A br Y ++ (dkL A D ++ L))) :
  CallsIn Wd 0 Tryz.prog 20 #[.pointer (some ⟨B.b, 0, none⟩)] g.w (Ret g fun _ r => r = .int .i64 ((D.dur.length : Int) - Y.size)) := by
 have le0 := G.le.refl g
 have hz := hY.size
 have hN := hD.le
 unfold jnL jnC at hs
 rw [tpL_cons] at hs
 refine enter Tryz.func20 rfl Tryz.ntmps20 rfl ?_
 refine W_seq ?_; refine W_region ?_; refine P1 T.ok rfl rfl rfl ?_; refine WL_nil ?_; (with_reducible refine T_then ?_); refine W_seq ?_; refine W_seq ?_; refine W_region ?_; refine P1 T.ok rfl rfl rfl ?_
 refine WL_o rfl rfl (OpR_eqNilPtr T.ok (neg := false) rfl rfl rfl rfl rfl ?_)
 refine WL_nil ?_
 (with_reducible refine T_then ?_)
 refine W_no rfl rfl ?_
 refine W_skip ?_; (with_reducible refine T_then ?_); refine W_seq ?_
 have hf0 := Fr0.dr g
 apply W_draw allF rfl (Fact.eq _ :: Fact.eq _ :: Fact.eq _ :: Fact.eq _ :: Fact.eq _ :: Fact.eq _ :: Fact.eq _ :: Fact.eq _ :: Fact.eq _ :: Fact.eq _ :: Fact.eq _ :: []) 11 [(10, 15)] rfl rfl
 ·refine D_s (js := []) (by kernel_rfl) (fun _ _ => QA_nil (DPu T.ok rfl rfl rfl)) ?_
  refine D_s (js := [(0, 5)]) (by kernel_rfl) (fun _ _ => QA_eq rfl (QA_nil (DPu T.ok rfl rfl rfl))) ?_
  refine D_s (js := [(1, 6)]) (by kernel_rfl) (fun _ _ => QA_eq rfl (QA_nil (DPu T.ok rfl rfl rfl))) ?_
  refine D_s (js := [(2, 7)]) (by kernel_rfl) (fun _ hf => QA_eq rfl (QA_nil (DLo T.ok 0 rfl rfl (hs.dr.call hf) rfl rfl rfl rfl))) ?_
  refine D_cons (D_step2 (js := [(3, 8)]) (by kernel_rfl) fun gd hf => ?_) ?_
  ·have hsd := hs.dr.call hf; have hfe := (G.le_dr _).trans hf.le
   refine QA_eq rfl ?_
   refine QA_nil ?_
   refine D_yes rfl ?_
   refine OpR_ret cl51 allF rfl rfl rfl rfl rfl (dsize_c (A := A) (D := D) (hsd.perm (List.perm_append_comm_assoc [_, _] (dkL A D) L))) fun g' v h1 h2 => ⟨g', rfl, h1, ?_⟩
   exact h2
  refine D_s (js := []) (by kernel_rfl) (fun _ _ => QA_nil (DPu T.ok rfl rfl rfl)) ?_
  refine D_s (js := [(5, 10)]) (by kernel_rfl) (fun _ _ => QA_eq rfl (QA_nil (DPu T.ok rfl rfl rfl))) ?_
  refine D_s (js := [(6, 11)]) (by kernel_rfl) (fun _ _ => QA_eq rfl (QA_nil (DPu T.ok rfl rfl rfl))) ?_
  refine D_s (js := [(7, 12)]) (by kernel_rfl) (fun _ _ => QA_eq rfl (QA_nil (DPu T.ok rfl rfl rfl))) ?_
  refine D_s (js := [(8, 13)]) (by kernel_rfl) (fun _ hf => QA_eq rfl (QA_nil (DLo T.ok 0 rfl rfl (hs.dr.call hf) rfl rfl rfl rfl))) ?_
  refine D_s (js := [(4, 9), (9, 14)]) (by kernel_rfl) (fun _ _ => QA_eq rfl (QA_eq rfl (QA_nil (DPu T.ok rfl rfl rfl)))) ?_
  exact D_nil
 intro g1 hf1; refine QA_eq rfl ?_; refine QA_nil ?_
 replace hs := hs.dr.call hf1; have hqe := (G.le_dr _).trans hf1.le; replace le0 := G.le.trans le0 hqe
 replace hf0 := hf0.trans hf1
 refine P1 T.ok rfl rfl rfl ?_; refine WL_nil ?_; (with_reducible refine T_then ?_)
 refine W_ret (ret1 rfl rfl (Ret.of hf0 ?_))
 rw [wr (by omega) (by omega)]
theorem room_nil (g : G) : CallsIn Wd 0 Tryz.prog 20 #[.pointer none] g.w (Ret g fun _ r => r = .int .i64 0) := by
 have le0 := G.le.refl g
 refine enter Tryz.func20 rfl Tryz.ntmps20 rfl ?_
 refine W_seq ?_; refine W_region ?_; refine P1 T.ok rfl rfl rfl ?_; refine WL_nil ?_; (with_reducible refine T_then ?_); refine W_seq ?_; refine W_seq ?_; refine W_region ?_; refine P1 T.ok rfl rfl rfl ?_
 refine WL_o rfl rfl (OpR_eqNilPtr T.ok (neg := false) rfl rfl rfl rfl rfl ?_)
 refine WL_nil ?_
 (with_reducible refine T_then ?_)
 refine W_yes rfl rfl ?_
 refine W_seq ?_; refine W_region ?_; refine P1 T.ok rfl rfl rfl ?_; refine WL_nil ?_; (with_reducible refine T_then ?_)
 exact W_ret (ret1 rfl rfl (Ret.same rfl))

theorem records_c {B : JnA} {A : DkA} {br : Bool} {Y : TapeM} {g0 g : G} {L : List Ent} (hY : Y.ok) (hs : St g0 g (jnL B A br Y ++ L)) :
  CallsIn Wd 0 Tryz.prog 19 #[.pointer (some ⟨B.b, 0, none⟩)] g.w (Ret g (OwnR 9 g (Y.recs.map Str.mk))) := by
 have le0 := G.le.refl g
 unfold jnL jnC at hs
 rw [tpL_cons] at hs
 refine enter Tryz.func19 rfl Tryz.ntmps19 rfl ?_
 refine W_seq ?_; refine W_region ?_; refine P1 T.ok rfl rfl rfl ?_; refine WL_nil ?_; (with_reducible refine T_then ?_); refine W_seq ?_; refine W_seq ?_; refine W_region ?_; refine P1 T.ok rfl rfl rfl ?_
 refine WL_o rfl rfl (OpR_eqNilPtr T.ok (neg := false) rfl rfl rfl rfl rfl ?_)
 refine WL_nil ?_
 (with_reducible refine T_then ?_)
 refine W_no rfl rfl ?_
 refine W_skip ?_; (with_reducible refine T_then ?_); refine W_seq ?_; refine W_region ?_; (iterate 4 refine P1 T.ok rfl rfl rfl ?_); refine WL_o rfl rfl (OpR_loadO T.ok 0 rfl hs rfl rfl rfl ?_)
 refine WL_o rfl rfl (OpR_ret cl36 allF rfl rfl rfl rfl rfl (clone_c (i := 1) hs rfl rfl hY.recs) ?_)
 rintro g1 r hf1 hown
 refine P1 T.ok rfl rfl rfl ?_; refine WL_nil ?_; (with_reducible refine T_then ?_)
 exact W_ret (ret1 rfl rfl (Ret.of hf1 hown))
theorem records_nil (g : G) : CallsIn Wd 0 Tryz.prog 19 #[.pointer none] g.w (Ret g fun _ r => r = .slice none 0 0) := by
 have le0 := G.le.refl g
 refine enter Tryz.func19 rfl Tryz.ntmps19 rfl ?_
 refine W_seq ?_; refine W_region ?_; refine P1 T.ok rfl rfl rfl ?_; refine WL_nil ?_; (with_reducible refine T_then ?_); refine W_seq ?_; refine W_seq ?_; refine W_region ?_; refine P1 T.ok rfl rfl rfl ?_
 refine WL_o rfl rfl (OpR_eqNilPtr T.ok (neg := false) rfl rfl rfl rfl rfl ?_)
 refine WL_nil ?_
 (with_reducible refine T_then ?_)
 refine W_yes rfl rfl ?_
 refine W_seq ?_; refine W_region ?_; refine P1 T.ok rfl rfl rfl ?_; refine WL_nil ?_; (with_reducible refine T_then ?_)
 exact W_ret (ret1 rfl rfl (Ret.same rfl))
end Go.Proofs.YteohjgndanlldaaGreatDoor

/- The law's own helpers. -/
namespace Go.Proofs.YteohjgndanlldaaGreatDoor
open Go Go.K
set_option maxRecDepth 10000
attribute [local irreducible] W WL OpR bitAnd bitOr bitXor bitClr bitNot shlI shrI
set_option maxHeartbeats 2000000

def pickM (c n : Int) : Int := (if c < 0 then -(c + 1) else c).tmod n
theorem pickM_range {c n : Int} (hn : 0 < n) : 0 ≤ pickM c n ∧ pickM c n < n := by
 unfold pickM
 have h : 0 ≤ (if c < 0 then -(c + 1) else c) := by split <;> omega
 exact ⟨Int.tmod_nonneg _ h, Int.tmod_lt_of_pos _ hn⟩
def I64 (n : Int) : Prop := -9223372036854775808 ≤ n ∧ n ≤ 9223372036854775807
theorem pick_c (c n : Int) (g : G) (hc : I64 c) (hn : n ≠ 0) : CallsIn Wd 0 Tryz.prog 14 #[.int .i64 c, .int .i64 n] g.w (Ret g fun _ r => r = .int .i64 (pickM c n)) := by
 have hs := St.start g
 refine enter Tryz.func14 rfl Tryz.ntmps14 rfl ?_
 unfold I64 at hc
 refine W_seq ?_; refine W_region ?_; refine P1 T.ok rfl rfl rfl ?_; refine WL_nil ?_; (with_reducible refine T_then ?_); refine W_seq ?_; refine W_seq ?_; refine W_region ?_; refine P1 T.ok rfl rfl rfl ?_; refine P1 T.ok rfl rfl rfl ?_; refine WL_nil ?_; (with_reducible refine T_then ?_)
 by_cases hneg : c < 0
 ·refine W_yes (b := decide (c < 0)) (by simp [hneg]) rfl ?_
  refine W_region ?_; (iterate 4 refine P1 T.ok rfl rfl rfl ?_); refine WL_nil ?_; (with_reducible refine T_then ?_); refine W_seq ?_; refine W_region ?_; refine P1 T.ok rfl rfl rfl ?_; refine P1 T.ok rfl rfl rfl ?_
  refine WL_o rfl rfl (OpR_rem rfl rfl rfl hn ?_)
  refine P1 T.ok rfl rfl rfl ?_; refine WL_nil ?_; (with_reducible refine T_then ?_)
  refine W_ret (ret1 rfl rfl (hs.ret ?_))
  unfold pickM
  rw [if_pos hneg, wr (n := c + 1) (by omega) (by omega), wr (by omega) (by omega), Int.zero_sub]
 ·refine W_no (b := decide (c < 0)) (by simp; omega) rfl ?_
  refine W_skip ?_; (with_reducible refine T_then ?_); refine W_seq ?_; refine W_region ?_; refine P1 T.ok rfl rfl rfl ?_; refine P1 T.ok rfl rfl rfl ?_
  refine WL_o rfl rfl (OpR_rem rfl rfl rfl hn ?_)
  refine P1 T.ok rfl rfl rfl ?_; refine WL_nil ?_; (with_reducible refine T_then ?_)
  refine W_ret (ret1 rfl rfl (hs.ret ?_))
  unfold pickM
  rw [if_neg hneg]

def sizeM (n : Int) : Nat := 1 + (pickM n 1500).toNat
theorem sizeM_range (n : Int) : 1 ≤ sizeM n ∧ sizeM n ≤ 1500 := by
 have := pickM_range (c := n) (n := 1500) (by decide)
 unfold sizeM; omega
theorem size_c (n : Int) (g : G) (hn : I64 n) : CallsIn Wd 0 Tryz.prog 15 #[.int .i64 n] g.w (Ret g fun _ r => r = .int .i64 (sizeM n : Int)) := by
 have hs := St.start g
 have le0 := G.le.refl g
 refine enter Tryz.func15 rfl Tryz.ntmps15 rfl ?_
 refine W_seq ?_; refine W_region ?_; refine P1 T.ok rfl rfl rfl ?_; refine WL_nil ?_; (with_reducible refine T_then ?_); refine W_seq ?_; refine W_region ?_; refine P1 T.ok rfl rfl rfl ?_
 refine WL_o rfl rfl (OpR_ret cl14 allF rfl rfl rfl rfl rfl (pick_c n 1500 _ hn (by decide)) ?_); rintro g1 _ hf1 rfl; replace hs := hs.call hf1; have hqe := hf1.le; replace le0 := G.le.trans le0 hqe
 have := pickM_range (c := n) (n := 1500) (by decide)
 refine P1 T.ok rfl rfl rfl ?_; refine P1 T.ok rfl rfl rfl ?_; refine WL_nil ?_; (with_reducible refine T_then ?_)
 refine W_ret (ret1 rfl rfl (hs.ret ?_))
 rw [wr (by omega) (by omega)]
 unfold sizeM
 congr 1
 omega

def strPtr (s : List UInt8) : Fact := Fact.ep (fun b p g => EP g b p [.string (bs s)]) fun _ _ _ _ hf h => h.mono hf.le

theorem same_c (v u : Value) (l r : List Str) (g : G) (rs0 : Rs g v l) (rs1 : Rs g u r) : CallsIn Wd 0 Tryz.prog 18 #[v, u] g.w (Ret g fun _ x => ∃ b, x = .bool b ∧ (b = true ↔ l = r)) := by
 obtain ⟨a, c, rfl⟩ := rs0.isSlice
 obtain ⟨a2, c2, rfl⟩ := rs1.isSlice
 have hlen := rs0.len_le
 unfold maxLen at hlen
 have hs := St.start g
 refine enter Tryz.func18 rfl Tryz.ntmps18 rfl ?_
 refine W_seq ?_; refine W_region ?_; refine P1 T.ok rfl rfl rfl ?_; refine WL_nil ?_; (with_reducible refine T_then ?_); refine W_seq ?_; refine W_seq ?_; refine W_region ?_; (iterate 5 refine P1 T.ok rfl rfl rfl ?_); refine WL_nil ?_; (with_reducible refine T_then ?_)
 by_cases hll : l.length = r.length
 ·refine W_no (b := (l.length : Int) != (r.length : Int)) (by simp; omega) rfl ?_
  refine W_skip ?_; (with_reducible refine T_then ?_); refine W_seq ?_; refine W_seq ?_; refine W_region ?_; refine P1 T.ok rfl rfl rfl ?_; refine WL_nil ?_; (with_reducible refine T_then ?_); refine W_block ?_
  have rs0c := rs0; have rs1c := rs1; have le5 := G.le.refl g
  refine W_loop (fun m a' w => ∃ (k : Nat) (g2 : G), w = g2.w ∧ St g g2 [] ∧ G.le g g2 ∧ k ≤ l.length ∧ m = l.length - k ∧ l.take k = r.take k ∧
    Fr 26 [] [(0, .slice a l.length c), (1, .slice a2 r.length c2), (5, .int .i64 k)] a') l.length
   (fun a' ha => ⟨0, g, rfl, hs, le5, Nat.zero_le _, rfl, by simp, ha.keep (by (repeat (first | exact trivial | refine ⟨rfl, ?_⟩)))⟩) ?_
  clear hs le5 rs0 rs1
  rintro m a' _ ⟨k, g2, rfl, hs, le5, hk, rfl, hno, ha'⟩
  have rs0 := rs0c.mono le5; have rs1 := rs1c.mono le5
  revert a'
  (with_reducible refine T_wp ?_); refine W_seq ?_; refine W_seq ?_; refine W_region ?_; (iterate 4 refine P1 T.ok rfl rfl rfl ?_); refine WL_nil ?_; (with_reducible refine T_then ?_)
  by_cases hlt : k < l.length
  ·refine W_yes (b := decide ((k : Int) < (l.length : Int))) (by simp; omega) rfl ?_
   have hlr : k < r.length := by omega
   refine W_skip ?_; (with_reducible refine T_then ?_); refine W_seq ?_; refine W_block ?_; refine W_seq ?_
   apply W_draw allF rfl (Fact.eq _ :: Fact.eq _ :: (strPtr l[k].s) :: Fact.eq _ :: Fact.eq _ :: Fact.eq _ :: (strPtr r[k].s) :: Fact.eq _ :: Fact.eq _ :: []) 9 [(8, 25)] rfl rfl
   ·refine D_s (js := []) (by kernel_rfl) (fun _ _ => QA_nil (DPu T.ok rfl rfl rfl)) ?_
    refine D_s (js := []) (by kernel_rfl) (fun _ _ => QA_nil (DPu T.ok rfl rfl rfl)) ?_
    refine D_cons (D_step2 (js := [(0, 17), (1, 18)]) (by kernel_rfl) fun gd hf => ?_) ?_
    ·have hsd := hs.dr.call hf; have hfe := (G.le_dr _).trans hf.le
     refine QA_eq rfl ?_; refine QA_eq rfl ?_
     refine QA_nil ?_
     refine D_yes rfl ?_
     refine OpR_idx T.ok rfl (rs0.mono hfe) (y := l[k]) (geti_of rfl hlt) rfl rfl rfl rfl rfl rfl ?_
     intro b p ys hep hrc
     exact ⟨_, rfl, Fr0.refl _, b, p, rfl, by rw [← show ys = [Value.string (bs l[k].s)] from hrc]; exact hep⟩
    refine D_cons (D_step2 (js := [(2, 19)]) (by kernel_rfl) fun gd hf => ?_) ?_
    ·have hsd := hs.dr.call hf; have hfe := (G.le_dr _).trans hf.le
     refine QA_any fun v2 h2 => ?_
     refine QA_nil ?_
     obtain ⟨b, p, rfl, hep⟩ := h2
     refine D_yes rfl ?_
     refine OpR_loadE T.ok 0 rfl hep rfl rfl ?_
     refine ⟨_, rfl, Fr0.refl _, ?_⟩
     exact rfl
    refine D_s (js := []) (by kernel_rfl) (fun _ _ => QA_nil (DPu T.ok rfl rfl rfl)) ?_
    refine D_s (js := []) (by kernel_rfl) (fun _ _ => QA_nil (DPu T.ok rfl rfl rfl)) ?_
    refine D_cons (D_step2 (js := [(4, 21), (5, 22)]) (by kernel_rfl) fun gd hf => ?_) ?_
    ·have hsd := hs.dr.call hf; have hfe := (G.le_dr _).trans hf.le
     refine QA_eq rfl ?_; refine QA_eq rfl ?_
     refine QA_nil ?_
     refine D_yes rfl ?_
     refine OpR_idx T.ok rfl (rs1.mono hfe) (y := r[k]) (geti_of rfl hlr) rfl rfl rfl rfl rfl rfl ?_
     intro b p ys hep hrc
     exact ⟨_, rfl, Fr0.refl _, b, p, rfl, by rw [← show ys = [Value.string (bs r[k].s)] from hrc]; exact hep⟩
    refine D_cons (D_step2 (js := [(6, 23)]) (by kernel_rfl) fun gd hf => ?_) ?_
    ·have hsd := hs.dr.call hf; have hfe := (G.le_dr _).trans hf.le
     refine QA_any fun v6 h6 => ?_
     refine QA_nil ?_
     obtain ⟨b, p, rfl, hep⟩ := h6
     refine D_yes rfl ?_
     refine OpR_loadE T.ok 0 rfl hep rfl rfl ?_
     refine ⟨_, rfl, Fr0.refl _, ?_⟩
     exact rfl
    refine D_cons (D_step2 (js := [(3, 20), (7, 24)]) (by kernel_rfl) fun gd hf => ?_) ?_
    ·have hsd := hs.dr.call hf; have hfe := (G.le_dr _).trans hf.le
     refine QA_eq rfl ?_; refine QA_eq rfl ?_
     refine QA_nil ?_
     refine D_yes rfl ?_
     refine OpR_eqS (neg := true) rfl rfl rfl ?_
     refine ⟨_, rfl, Fr0.refl _, ?_⟩
     exact rfl
    exact D_nil
   intro g1 hf1; refine QA_eq rfl ?_; refine QA_nil ?_
   replace hs := hs.dr.call hf1; have hqe := (G.le_dr _).trans hf1.le; replace rs0 := rs0.mono hqe; replace rs1 := rs1.mono hqe
   refine WL_nil ?_; (with_reducible refine T_then ?_)
   have hsl : l[k].s = r[k].s ↔ l[k] = r[k] := ⟨fun h => by cases hx : l[k]; cases hy : r[k]; rw [hx, hy] at h; exact congrArg Str.mk h, fun h => by rw [h]⟩
   have hll1 : l.take (k + 1) = l.take k ++ [l[k]] := by rw [List.take_add_one, List.getElem?_eq_getElem hlt]; rfl
   have hrr1 : r.take (k + 1) = r.take k ++ [r[k]] := by rw [List.take_add_one, List.getElem?_eq_getElem hlr]; rfl
   by_cases he : l[k] = r[k]
   ·refine W_no (b := true != (l[k].s == r[k].s)) (by simp [hsl.2 he]) rfl ?_
    refine W_skip ?_; (with_reducible refine T_bn ?_); (with_reducible refine T_then ?_); refine W_region ?_; (iterate 3 refine P1 T.ok rfl rfl rfl ?_); refine WL_nil ?_
    exact fun a ha => ⟨l.length - (k + 1), by omega, k + 1, _, rfl, hs, le5.trans hqe, by omega, rfl, by rw [hll1, hrr1, hno, he], ha.keep ⟨rfl, rfl, kI rfl (by rw [wr (by omega) (by omega)]; omega), trivial⟩⟩
   ·refine W_yes (b := true != (l[k].s == r[k].s)) (by simp; exact fun h => he (hsl.1 h)) rfl ?_
    refine W_seq ?_; refine W_region ?_; refine P1 T.ok rfl rfl rfl ?_; refine WL_nil ?_; (with_reducible refine T_then ?_)
    refine W_ret (ret1 rfl rfl (hs.ret ⟨false, rfl, ?_⟩))
    simp only [Bool.false_eq_true, false_iff]
    intro e; subst e; exact he rfl
  ·refine W_no (b := decide ((k : Int) < (l.length : Int))) (by simp; omega) rfl ?_
   obtain rfl : k = l.length := by omega
   refine W_exit ?_; (with_reducible refine T_tx ?_; with_reducible refine T_tx ?_); (with_reducible refine T_bx ?_); (with_reducible refine T_then ?_); refine W_seq ?_; refine W_region ?_; refine P1 T.ok rfl rfl rfl ?_; refine WL_nil ?_; (with_reducible refine T_then ?_)
   refine W_ret (ret1 rfl rfl (hs.ret ⟨true, rfl, ?_⟩))
   rw [List.take_length, hll, List.take_length] at hno
   simp [hno]
 ·refine W_yes (b := (l.length : Int) != (r.length : Int)) (by simp; omega) rfl ?_
  refine W_seq ?_; refine W_region ?_; refine P1 T.ok rfl rfl rfl ?_; refine WL_nil ?_; (with_reducible refine T_then ?_)
  refine W_ret (ret1 rfl rfl (hs.ret ⟨false, rfl, ?_⟩))
  simp only [Bool.false_eq_true, false_iff]
  intro e; subst e; exact hll rfl
end Go.Proofs.YteohjgndanlldaaGreatDoor

/- The law's few; the reference's PutString. -/
namespace Go.Proofs.YteohjgndanlldaaGreatDoor
open Go Go.K
set_option maxRecDepth 10000
attribute [local irreducible] W WL OpR bitAnd bitOr bitXor bitClr bitNot shlI shrI
set_option maxHeartbeats 2000000

def fewM (xs : List Str) : List Str := (xs.take 6).map fun s => ⟨s.s.take 100⟩
theorem few_c (v : Value) (xs : List Str) (g : G) (rs0 : Rs g v xs) : CallsIn Wd 0 Tryz.prog 11 #[v] g.w (Ret g (OwnR 9 g (fewM xs))) := by
 obtain ⟨a, c, rfl⟩ := rs0.isSlice
 have hlen := rs0.len_le
 unfold maxLen at hlen
 have hs := St.start g
 have le0 := G.le.refl g
 refine enter Tryz.func11 rfl Tryz.ntmps11 rfl ?_
 refine W_seq ?_; refine W_region ?_; refine P1 T.ok rfl rfl rfl ?_; refine WL_nil ?_; (with_reducible refine T_then ?_); refine W_seq ?_; refine W_region ?_; refine P1 T.ok rfl rfl rfl ?_; refine WL_nil ?_; (with_reducible refine T_then ?_); refine W_seq ?_; refine W_seq ?_; refine W_region ?_; refine P1 T.ok rfl rfl rfl ?_; refine WL_nil ?_; (with_reducible refine T_then ?_); refine W_block ?_
 replace hs := hs.nilrow 9 1 none
 refine W_loop (fun m a' w => ∃ (k : Nat) (g2 : G) (oa : Option Addr) (oc : Nat) (cells : List Value), w = g2.w ∧ St g g2 [.row 9 1 (.slice oa k oc) k cells] ∧ RcL g2 cells (fewM (xs.take k)) ∧ G.le g g2 ∧ k ≤ xs.length ∧ k ≤ 6 ∧ m = 6 - k ∧
   Fr 30 [] [(0, .slice a xs.length c), (3, .slice oa k oc), (4, .int .i64 k)] a') 6
  (fun a' ha => ⟨0, g, none, 0, [], rfl, hs, rfl, le0, Nat.zero_le _, by omega, rfl, ha.keep (by (repeat (first | exact trivial | refine ⟨rfl, ?_⟩)))⟩) ?_
 clear hs le0
 rintro m a' _ ⟨k, g2, oa, oc, cells, rfl, hs, hrc, le0, hk, hk6, rfl, ha'⟩
 have rs1 := rs0.mono le0
 revert a'
 (with_reducible refine T_wp ?_); refine W_seq ?_; refine W_seq ?_; refine W_region ?_; (iterate 5 refine P1 T.ok rfl rfl rfl ?_)
 by_cases hlt : k < xs.length
 ·refine WL_know 9 (b' := true) (decide_eq_true (by omega)) rfl ?_
  (iterate 3 refine P1 T.ok rfl rfl rfl ?_); refine WL_nil ?_; (with_reducible refine T_then ?_)
  by_cases h6 : k < 6
  ·refine W_yes (b := decide ((k : Int) < 6)) (decide_eq_true (by omega)) rfl ?_
   have hfk : fewM (xs.take (k + 1)) = fewM (xs.take k) ++ [⟨xs[k].s.take 100⟩] := by
    unfold fewM
    rw [List.take_take, List.take_take, Nat.min_eq_right (by omega), Nat.min_eq_right (by omega), List.take_add_one, List.getElem?_eq_getElem hlt, List.map_append]
    rfl
   have hgi : geti xs (k : Int) = some xs[k] := geti_of rfl hlt
   generalize xs[k] = x at *
   refine W_skip ?_; (with_reducible refine T_then ?_); refine W_seq ?_; refine W_block ?_
   apply W_draw allF rfl (Fact.eq _ :: Fact.eq _ :: Fact.eq _ :: (strPtr x.s) :: Fact.eq _ :: Fact.eq _ :: Fact.eq _ :: (strPtr x.s) :: Fact.eq _ :: Fact.eq _ :: Fact.eq _ :: (Fact.eq (.string (bs (x.s.take 100)))) :: (Fact.rs [(⟨x.s.take 100⟩ : Str)]) :: []) 13 [(0, 15), (12, 27)] rfl rfl
   ·refine D_s (js := []) (by kernel_rfl) (fun _ _ => QA_nil (DPu T.ok rfl rfl rfl)) ?_
    refine D_s (js := []) (by kernel_rfl) (fun _ _ => QA_nil (DPu T.ok rfl rfl rfl)) ?_
    refine D_s (js := []) (by kernel_rfl) (fun _ _ => QA_nil (DPu T.ok rfl rfl rfl)) ?_
    refine D_cons (D_step2 (js := [(1, 16), (2, 17)]) (by kernel_rfl) fun gd hf => ?_) ?_
    ·have hsd := hs.dr.call hf; have hfe := (G.le_dr _).trans hf.le
     refine QA_eq rfl ?_; refine QA_eq rfl ?_
     refine QA_nil ?_
     refine D_yes rfl ?_
     refine OpR_idx T.ok rfl (rs1.mono hfe) (y := x) hgi rfl rfl rfl rfl rfl rfl ?_
     intro b p ys hep hrc
     exact ⟨_, rfl, Fr0.refl _, b, p, rfl, by rw [← show ys = [Value.string (bs x.s)] from hrc]; exact hep⟩
    refine D_cons (D_step2 (js := [(3, 18)]) (by kernel_rfl) fun gd hf => ?_) ?_
    ·have hsd := hs.dr.call hf; have hfe := (G.le_dr _).trans hf.le
     refine QA_any fun v3 h3 => ?_
     refine QA_nil ?_
     obtain ⟨b, p, rfl, hep⟩ := h3
     refine D_yes rfl ?_
     refine OpR_loadE T.ok 0 rfl hep rfl rfl ?_
     refine ⟨_, rfl, Fr0.refl _, ?_⟩
     exact rfl
    refine D_s (js := []) (by kernel_rfl) (fun _ _ => QA_nil (DPu T.ok rfl rfl rfl)) ?_
    refine D_s (js := []) (by kernel_rfl) (fun _ _ => QA_nil (DPu T.ok rfl rfl rfl)) ?_
    refine D_cons (D_step2 (js := [(5, 20), (6, 21)]) (by kernel_rfl) fun gd hf => ?_) ?_
    ·have hsd := hs.dr.call hf; have hfe := (G.le_dr _).trans hf.le
     refine QA_eq rfl ?_; refine QA_eq rfl ?_
     refine QA_nil ?_
     refine D_yes rfl ?_
     refine OpR_idx T.ok rfl (rs1.mono hfe) (y := x) hgi rfl rfl rfl rfl rfl rfl ?_
     intro b p ys hep hrc
     exact ⟨_, rfl, Fr0.refl _, b, p, rfl, by rw [← show ys = [Value.string (bs x.s)] from hrc]; exact hep⟩
    refine D_cons (D_step2 (js := [(7, 22)]) (by kernel_rfl) fun gd hf => ?_) ?_
    ·have hsd := hs.dr.call hf; have hfe := (G.le_dr _).trans hf.le
     refine QA_any fun v7 h7 => ?_
     refine QA_nil ?_
     obtain ⟨b, p, rfl, hep⟩ := h7
     refine D_yes rfl ?_
     refine OpR_loadE T.ok 0 rfl hep rfl rfl ?_
     refine ⟨_, rfl, Fr0.refl _, ?_⟩
     exact rfl
    refine D_s (js := [(8, 23)]) (by kernel_rfl) (fun _ _ => QA_eq rfl (QA_nil (DPu T.ok rfl rfl rfl))) ?_
    refine D_s (js := [(9, 24)]) (by kernel_rfl) (fun _ _ => QA_eq rfl (QA_nil (DPu T.ok rfl rfl rfl))) ?_
    refine D_cons (D_step2 (js := [(4, 19), (10, 25)]) (by kernel_rfl) fun gd hf => ?_) ?_
    ·have hsd := hs.dr.call hf; have hfe := (G.le_dr _).trans hf.le
     refine QA_eq rfl ?_; refine QA_eq rfl ?_
     refine QA_nil ?_
     refine D_yes rfl ?_
     refine OpR_cutS T.ok (a := 0) (b := min x.s.length 100) rfl rfl rfl rfl rfl ⟨_, congrArg some (congrArg (Value.int .i64) ?_)⟩ (by omega) (by omega) ?_
     ·rw [bs_size]; omega
     refine ⟨_, rfl, Fr0.refl _, ?_⟩
     show Value.string _ = _
     rw [List.drop_zero]
     congr 2
     by_cases h : x.s.length ≤ 100
     ·rw [Nat.min_eq_left h, List.take_of_length_le (by omega), List.take_of_length_le h]
     ·rw [Nat.min_eq_right (by omega)]
    refine D_cons (D_step2 (js := [(11, 26)]) (by kernel_rfl) fun gd hf => ?_) ?_
    ·have hsd := hs.dr.call hf; have hfe := (G.le_dr _).trans hf.le
     refine QA_any fun v11 h11 => ?_
     refine QA_nil ?_
     obtain rfl := h11
     refine D_yes rfl ?_
     refine OpR_lit T.ok rfl (St.start gd) (vs := [(0, .string (bs (x.s.take 100)))]) (cells := [.string (bs (x.s.take 100))]) rfl rfl rfl rfl rfl rfl (by decide) (by decide) (by kernel_rfl) rfl ?_
     intro b2 g2 hs1 hqe1
     obtain ⟨g3, hw3, hs3, hqe3, hrl⟩ := hs1.fzRow (α := Str) (xs := [⟨x.s.take 100⟩]) (i := 0) rfl ⟨_, [], by rw [List.append_nil], rfl, rfl⟩
     exact ⟨g3, hw3, hs3.fr0, hrl⟩
    exact D_nil
   intro g1 hf1; refine QA_eq rfl ?_; refine QA_any fun v12 h12 => ?_; refine QA_nil ?_
   replace hs := hs.dr.call hf1; have hqe := (G.le_dr _).trans hf1.le; replace le0 := G.le.trans le0 hqe; replace rs1 := rs1.mono hqe
   replace hrc := hrc.mono hqe
   obtain ⟨ax, cx, rfl⟩ := Rs.isSlice h12
   obtain ⟨_, news, hnw, hsrc⟩ := Src.of_rs h12
   refine WL_o rfl rfl (OpR_append T.ok 0 rfl hs rfl rfl rfl rfl rfl rfl rfl (by decide) rfl hsrc hnw.one (by show (k + 1) * 16 ≤ _; omega) (by unfold maxLen; show k + 1 ≤ _; omega) ?_)
   rintro oa2 oc2 g8 hs hqe; replace le0 := G.le.trans le0 hqe; replace rs1 := rs1.mono hqe
   refine P1 T.ok rfl rfl rfl ?_; refine WL_nil ?_; (with_reducible refine T_bn ?_); (with_reducible refine T_then ?_); refine W_region ?_; (iterate 3 refine P1 T.ok rfl rfl rfl ?_); refine WL_nil ?_
   exact fun a ha => ⟨6 - (k + 1), by omega, k + 1, g8, oa2, oc2, _, rfl, hs, by rw [hfk]; exact RcL.app (hnw.mono hqe) (hrc.mono hqe), le0, by omega, by omega, rfl, ha.keep ⟨rfl, rfl, kI rfl (by rw [wr (by omega) (by omega)]; omega), trivial⟩⟩
  ·refine W_no (b := decide ((k : Int) < 6)) (decide_eq_false (by omega)) rfl ?_
   obtain rfl : k = 6 := by omega
   refine W_exit ?_; (with_reducible refine T_tx ?_; with_reducible refine T_tx ?_); (with_reducible refine T_bx ?_); (with_reducible refine T_then ?_); refine W_seq ?_; refine W_region ?_; refine P1 T.ok rfl rfl rfl ?_; refine P1 T.ok rfl rfl rfl ?_; refine WL_nil ?_; (with_reducible refine T_then ?_)
   refine W_ret (ret1 rfl rfl (hs.ret ?_))
   have e : fewM (xs.take 6) = fewM xs := by unfold fewM; rw [List.take_take]; rfl
   rw [e] at hrc
   have el : (fewM xs).length = 6 := by unfold fewM; rw [List.length_map, List.length_take]; omega
   exact ⟨cells, by rw [el]; exact hs.own 0 _ rfl, hrc⟩
 ·refine WL_know 9 (b' := false) (decide_eq_false (by omega)) rfl ?_
  refine S1 allF rfl rfl ?_; refine S1 allF rfl rfl ?_; refine P1 T.ok rfl rfl rfl ?_; refine WL_nil ?_; (with_reducible refine T_then ?_)
  refine W_no rfl rfl ?_
  obtain rfl : k = xs.length := by omega
  rw [List.take_length] at hrc
  refine W_exit ?_; (with_reducible refine T_tx ?_; with_reducible refine T_tx ?_); (with_reducible refine T_bx ?_); (with_reducible refine T_then ?_); refine W_seq ?_; refine W_region ?_; refine P1 T.ok rfl rfl rfl ?_; refine P1 T.ok rfl rfl rfl ?_; refine WL_nil ?_; (with_reducible refine T_then ?_)
  refine W_ret (ret1 rfl rfl (hs.ret ?_))
  have el : (fewM xs).length = xs.length := by unfold fewM; rw [List.length_map, List.length_take]; omega
  exact ⟨cells, by rw [el]; exact hs.own 0 _ rfl, hrc⟩
end Go.Proofs.YteohjgndanlldaaGreatDoor
