/- The walks through load, open and Open. -/
import Derived.Test.YteohjgndanlldaaGreatDoorWe
import Derived.Test.YteohjgndanlldaaGreatDoorChecked
import Derived.WalkKit
import Derived.LaidEql
import Derived.Stop.Asserts
import Derived.RowKitTokens
import Derived.Test.YteohjgndanlldaaGreatDoorKh

/- Package journal: reading a tape. -/
namespace Go.Proofs.YteohjgndanlldaaGreatDoor
open Go Go.K
set_option maxRecDepth 10000
attribute [local irreducible] W WL OpR bitAnd bitOr bitXor bitClr bitNot shlI shrI
set_option maxHeartbeats 2000000

theorem stringM_next {s : List UInt8} {a : Nat} (h : (stringM s a).2.2 = 0) : ∃ n : Nat, (stringM s a).2.1 = (n : Int) ∧ a < n ∧ n ≤ s.length ∧ (stringM s a).1.length ≤ 65536 := by
 unfold stringM at h ⊢
 split at h
 ·exact absurd h (by assumption)
 ·rename_i h0
  rw [if_neg h0]
  obtain ⟨q, h1, h2, h3⟩ := intM_next (Classical.not_not.1 h0)
  split at h
  ·simp at h
  ·rename_i h4
   rw [if_neg h4]
   simp only [not_or] at h4
   refine ⟨q + (intM s a).1.toNat, ?_, by omega, ?_, ?_⟩
   ·simp only [h1]; omega
   ·omega
   ·simp only [List.length_take]; omega
theorem stringM_err (s : List UInt8) (a : Nat) : (stringM s a).2.2 = 0 ∨ (stringM s a).2.1 = 0 := by
 unfold stringM
 split
 ·exact .inr rfl
 ·split
  ·exact .inr rfl
  ·exact .inl rfl

def tapF (g0 : G) (b E : Nat) (rest : List Value) (Y : TapeM) (L : List Ent) (out : List UInt8) : Fact :=
 ⟨fun v g => v = .string (bs out) ∧ ∃ ra rc, St g0 g (tpL b E ra rc rest Y ++ L), fun _ _ _ hf h => by obtain ⟨e, ra, rc, h⟩ := h; exact ⟨e, ra, rc, h.call hf⟩⟩

def loadPost (b E : Nat) (rest : List Value) (L : List Ent) (g0 g : G) (e : Addr) (res : Option TapeM) (en : Ending) (w' : World) : Prop :=
 match res with
 | some Y' => RetS g (fun g' r => r = .tuple #[] ∧ ∃ ra rc, St g0 g' (tpL b E ra rc rest Y' ++ L)) en w'
 | none => BoomS g (damaged e) (fun g' => ∃ Lx, St g0 g' (Lx ++ L)) en w'
theorem loadPost_no {b E : Nat} {rest : List Value} {L : List Ent} {g0 g g' : G} {e : Addr} {res : Option TapeM} {Lx : List Ent} (hr : res = none) (hle : g.le g') (hs : St g0 g' (Lx ++ L)) : loadPost b E rest L g0 g e res (.panicked (damaged e)) g'.w := by
 subst hr; exact BoomS.intro hle ⟨Lx, hs⟩

theorem load_c {b E : Nat} {ra : Option Addr} {rc : Nat} {rest : List Value} {Y : TapeM} (hY : Y.ok) (hrz : Y.recs.length ≤ Y.size) (s : List UInt8) (hl : s.length ≤ 4194304) (hz : Y.size ≤ s.length) {e : Addr} {g0 g : G} {L : List Ent} (hrk0 : RoundAt g) (hE0 : ErrAt e g) (hs : St g0 g (tpL b E ra rc rest Y ++ L)) :
  CallsIn Wd 0 Tryz.prog 78 #[.pointer (some ⟨b, 0, none⟩), .string (bs s)] g.w (loadPost b E rest L g0 g e (loadGo (s.length + 1) Y s)) := by
 have le0 := G.le.refl g
 refine enter Tryz.func78 rfl Tryz.ntmps78 rfl ?_
 refine W_block ?_
 refine W_loop (fun m a' w => ∃ (g2 : G) (ra : Option Addr) (rc : Nat) (Z : TapeM), w = g2.w ∧ St g0 g2 (tpL b E ra rc rest Z ++ L) ∧ g.le g2 ∧ Z.ok ∧ Z.recs.length ≤ Z.size ∧ Z.size ≤ s.length ∧ s.length + 1 ≤ m + Z.size ∧ loadGo m Z s = loadGo (s.length + 1) Y s ∧
   Fr 61 [] [(0, .pointer (some ⟨b, 0, none⟩)), (1, .string (bs s))] a') (s.length + 1)
  (fun a' ha => ⟨g, ra, rc, Y, rfl, hs, le0, hY, hrz, hz, by omega, rfl, ha.keep (by (repeat (first | exact trivial | refine ⟨rfl, ?_⟩)))⟩) ?_
 clear hs le0
 rintro m a' _ ⟨g2, ra, rc, Z, rfl, hs, le0, hZ, hrz2, hz2, hm, hgo, ha'⟩
 have hrk := hrk0.mono le0
 have hE := hE0.mono le0
 obtain ⟨m, rfl⟩ : ∃ m', m = m' + 1 := ⟨m - 1, by omega⟩
 revert a'
 rw [tpL_cons] at hs
 (with_reducible refine T_wp ?_); refine W_seq ?_; refine W_seq ?_; refine W_region ?_; (iterate 3 refine P1 T.ok rfl rfl rfl ?_); refine WL_o rfl rfl (OpR_loadO T.ok 0 rfl hs rfl rfl rfl ?_); (iterate 4 refine P1 T.ok rfl rfl rfl ?_)
 by_cases h1 : Z.size < s.length
 ·refine WL_know 15 (b' := true) (decide_eq_true (by rw [bs_size]; omega)) rfl ?_
  (iterate 4 refine P1 T.ok rfl rfl rfl ?_); refine WL_o rfl rfl (OpR_loadO T.ok 0 rfl hs rfl rfl rfl ?_)
  have hlt1 : ((Z.size : Nat) : Int).toNat < s.length := by omega
  have hgx : s[((Z.size : Nat) : Int).toNat] = s.getD Z.size 0 := by rw [List.getD_eq_getElem?_getD, List.getElem?_eq_getElem h1]; rfl
  obtain ⟨x, hx⟩ : ∃ x, x = s.getD Z.size 0 := ⟨_, rfl⟩
  rw [← hx] at hgx
  have hb : x.toNat < 256 := UInt8.toNat_lt _
  have hb0 : x = 0 ↔ x.toNat = 0 := ⟨fun h => by rw [h]; rfl, fun h => UInt8.toNat_inj.1 h⟩
  have hb1 : x = 1 ↔ x.toNat = 1 := ⟨fun h => by rw [h]; rfl, fun h => UInt8.toNat_inj.1 h⟩
  refine WL_o rfl rfl (OpR_idxS T.ok rfl rfl rfl rfl rfl (by omega) hlt1 ?_)
  rw [hgx]
  refine P1 T.ok rfl rfl rfl ?_; refine P1 T.ok rfl rfl rfl ?_; refine WL_nil ?_; (with_reducible refine T_then ?_)
  by_cases hx0 : x.toNat = 0
  ·refine W_no (b := (x.toNat : Int) != 0) (by simp [hx0]) rfl ?_
   have hr : loadGo (s.length + 1) Y s = some Z := by rw [← hgo]; unfold loadGo; rw [if_neg (fun h => h.2 (by rw [← hx]; exact hb0.2 hx0))]
   refine W_exit ?_; (with_reducible refine T_tx ?_; with_reducible refine T_tx ?_); (with_reducible refine T_bx ?_)
   refine end0 rfl ?_
   unfold loadPost
   rw [hr]
   exact RetS.intro le0 ⟨rfl, ra, rc, hs⟩
  ·refine W_yes (b := (x.toNat : Int) != 0) (by simp; omega) rfl ?_
   have hx0' : ¬ x = 0 := fun h => hx0 (hb0.1 h)
   unfold loadGo at hgo
   rw [if_pos ⟨h1, by rw [← hx]; exact hx0'⟩, ← hx] at hgo
   refine W_skip ?_; (with_reducible refine T_then ?_); refine W_block ?_; refine W_seq ?_; refine W_region ?_; (iterate 3 refine P1 T.ok rfl rfl rfl ?_); refine WL_o rfl rfl (OpR_loadO T.ok 0 rfl hs rfl rfl rfl ?_); refine P1 T.ok rfl rfl rfl ?_; refine WL_nil ?_; (with_reducible refine T_then ?_); refine W_seq ?_; refine W_region ?_; refine P1 T.ok rfl rfl rfl ?_; refine P1 T.ok rfl rfl rfl ?_
   refine WL_o rfl rfl (OpR_idxS T.ok rfl rfl rfl rfl rfl (by omega) hlt1 ?_)
   rw [hgx]
   refine P1 T.ok rfl rfl rfl ?_
   by_cases hx1 : x.toNat = 1
   ·rw [if_neg (by rw [Classical.not_not]; exact hb1.2 hx1)] at hgo
    have hw : IntKind.i64.wrap ((Z.size : Int) + 1) = ((Z.size + 1 : Nat) : Int) := by rw [wr (by omega) (by omega)]; omega
    rw [show ((x.toNat : Int) == 1) = true from by rw [hx1]; rfl]
    refine WL_o rfl rfl (OpR_ret cl100 allF rfl rfl rfl rfl rfl (check_yes _) ?_); rintro g1 _ hf1 rfl; replace hs := hs.call hf1; have hqe := hf1.le; replace le0 := G.le.trans le0 hqe
    replace hrk := hrk.mono hqe; replace hE := hE.mono hqe
    refine WL_nil ?_; (with_reducible refine T_then ?_); refine W_seq ?_; refine W_region ?_; (iterate 3 refine P1 T.ok rfl rfl rfl ?_)
    refine WL_re (.int .i64 ((Z.size + 1 : Nat) : Int)) (t := 36) rfl (congrArg (Value.int .i64) hw) ?_
    refine WL_o rfl rfl (OpR_ret cl101 allF rfl rfl rfl rfl rfl (string_c s (Z.size + 1) _ (by omega) (by omega)) ?_); rintro g1 _ hf1 rfl; replace hs := hs.call hf1; have hqe := hf1.le; replace le0 := G.le.trans le0 hqe
    replace hrk := hrk.mono hqe; replace hE := hE.mono hqe
    have hnx := stringM_next (s := s) (a := Z.size + 1)
    generalize stringM s (Z.size + 1) = res at *
    obtain ⟨r, q, e1⟩ := res
    simp only at hnx hgo
    (iterate 7 refine P1 T.ok rfl rfl rfl ?_); refine WL_nil ?_; (with_reducible refine T_then ?_); refine W_seq ?_; refine W_region ?_; (iterate 3 refine P1 T.ok rfl rfl rfl ?_)
    by_cases he : e1 = 0
    ·subst he
     obtain ⟨n, rfl, hn1, hn2, hr⟩ := hnx rfl
     have hw2 : IntKind.i64.wrap ((n : Int) + 32) = ((n + 32 : Nat) : Int) := by rw [wr (by omega) (by omega)]; omega
     refine WL_know 43 (b' := true) rfl rfl ?_
     (iterate 6 refine P1 T.ok rfl rfl rfl ?_)
     by_cases h32 : n + 32 ≤ s.length
     ·rw [if_neg (by simp; omega)] at hgo
      rw [show decide (IntKind.i64.wrap ((n : Int) + 32) ≤ ((bs s).size : Int)) = true from decide_eq_true (by rw [hw2, bs_size]; omega)]
      refine WL_o rfl rfl (OpR_ret cl100 allF rfl rfl rfl rfl rfl (check_yes _) ?_); rintro g1 _ hf1 rfl; replace hs := hs.call hf1; have hqe := hf1.le; replace le0 := G.le.trans le0 hqe
      replace hrk := hrk.mono hqe; replace hE := hE.mono hqe
      have hol := outM_len (head := Z.head) hr
      refine WL_nil ?_; (with_reducible refine T_then ?_)
      apply W_drawM allF rfl (Fact.eq _ :: Fact.eq _ :: (tapF g0 b E rest (Z.add r) L (outM Z.head r)) :: Fact.eq _ :: Fact.eq _ :: Fact.eq _ :: (Fact.eq (.int .i64 ((n + 32 : Nat) : Int))) :: (Fact.eq (.string (bs ((s.take (n + 32)).drop Z.size)))) :: []) 8 [(2, 53), (7, 58)] [] [0, 1] 2 rfl (by kernel_rfl) (by kernel_rfl)
      case houts => exact rfl
      case hsoft => (repeat (first | exact softN | apply softE | refine softC (soft_eq _) ?_ | refine softC (soft_rs _) ?_ | refine softC (soft_step _ _) ?_ | refine softC (soft_stepV _) ?_ | refine softC (soft_wayV _) ?_ | refine softC (soft_intPtr _) ?_ | refine softC (soft_y6 _) ?_ | refine softC (soft_lst _) ?_ | refine softO (by exact rfl) ?_))
      ·refine M_cons (M_anc (js := []) (by kernel_rfl) (by exact rfl) (by exact rfl) fun gd hf => ?_) ?_
       ·have hsd := hs.dr.call hf; have hfe := (G.le_dr _).trans hf.le
        refine QA_nil ?_
        (refine D_yes rfl ?_; refine OpR_pure _ T.ok rfl ?_; refine ⟨_, rfl, Fr0.refl _, ?_⟩; exact rfl)
       refine M_cons (M_anc (js := []) (by kernel_rfl) (by exact rfl) (by exact rfl) fun gd hf => ?_) ?_
       ·have hsd := hs.dr.call hf; have hfe := (G.le_dr _).trans hf.le
        refine QA_nil ?_
        (refine D_yes rfl ?_; refine OpR_pure _ T.ok rfl ?_; refine ⟨_, rfl, Fr0.refl _, ?_⟩; exact rfl)
       refine M_cons (M_eat (js := [(0, 51), (1, 52)]) (by kernel_rfl) fun gd hf => ?_) ?_
       ·have hsd := hs.dr.call hf; have hfe := (G.le_dr _).trans hf.le
        refine QA_eq rfl ?_; refine QA_eq rfl ?_
        refine QA_nil ?_
        refine ⟨rfl, ?_⟩
        refine OpR_st cl38 allF rfl rfl rfl rfl rfl (tadd_c hZ r hr (hrk.mono hfe) hsd) ?_
        rintro g8 v8 hqe8 ⟨rfl, ra', rc', hs8⟩
        exact ⟨g8, rfl, hqe8, rfl, ra', rc', hs8⟩
       refine M_cons (M_free (js := []) (by kernel_rfl) (by exact rfl) fun gd hf => ?_) ?_
       ·have hfe := (G.le_dr _).trans hf
        refine QA_nil ?_
        (refine D_yes rfl ?_; refine OpR_pure _ T.ok rfl ?_; refine ⟨_, rfl, Fr0.refl _, ?_⟩; exact rfl)
       refine M_cons (M_free (js := []) (by kernel_rfl) (by exact rfl) fun gd hf => ?_) ?_
       ·have hfe := (G.le_dr _).trans hf
        refine QA_nil ?_
        (refine D_yes rfl ?_; refine OpR_pure _ T.ok rfl ?_; refine ⟨_, rfl, Fr0.refl _, ?_⟩; exact rfl)
       refine M_cons (M_free (js := []) (by kernel_rfl) (by exact rfl) fun gd hf => ?_) ?_
       ·have hfe := (G.le_dr _).trans hf
        refine QA_nil ?_
        (refine D_yes rfl ?_; refine OpR_pure _ T.ok rfl ?_; refine ⟨_, rfl, Fr0.refl _, ?_⟩; exact rfl)
       refine M_cons (M_free (js := [(5, 56)]) (by kernel_rfl) (by exact rfl) fun gd hf => ?_) ?_
       ·have hfe := (G.le_dr _).trans hf
        refine QA_eq rfl ?_
        refine QA_nil ?_
        refine D_yes rfl ?_
        refine OpR_pure _ T.ok rfl ?_
        refine ⟨_, rfl, Fr0.refl _, ?_⟩
        exact congrArg (Value.int .i64) hw2
       refine M_cons (M_free (js := [(3, 54), (4, 55), (6, 57)]) (by kernel_rfl) (by exact rfl) fun gd hf => ?_) ?_
       ·have hfe := (G.le_dr _).trans hf
        refine QA_eq rfl ?_; refine QA_eq rfl ?_; refine QA_any fun v6 h6 => ?_
        refine QA_nil ?_
        obtain rfl := h6
        refine D_yes rfl ?_
        refine OpR_cutS T.ok (s := s) (a := Z.size) (b := n + 32) rfl rfl rfl rfl ⟨_, rfl⟩ ⟨_, rfl⟩ (by omega) h32 ?_
        exact ⟨_, rfl, Fr0.refl _, rfl⟩
       exact M_nil
      intro g1 hf1; refine QA_any fun v2 h2 => ?_; refine QA_any fun v7 h7 => ?_; refine QA_nil ?_
      have hqe := (G.le_dr _).trans hf1; replace le0 := G.le.trans le0 hqe
      obtain ⟨rfl, ra2, rc2, hs⟩ := h2
      obtain rfl := h7
      replace hE := hE.mono hqe
      have hdt : (s.take (n + 32)).drop Z.size = (s.drop Z.size).take (((n : Int) + 32).toNat - Z.size) := by
       rw [List.drop_take]; congr 1
      rw [hdt]
      have hdl : ((s.drop Z.size).take (((n : Int) + 32).toNat - Z.size)).length = n + 32 - Z.size := by rw [List.length_take, List.length_drop]; omega
      have hsz' : (Z.add r).size = Z.size + (outM Z.head r).length := by unfold TapeM.add; rfl
      have hrc' : (Z.add r).recs.length = Z.recs.length + 1 := by unfold TapeM.add; simp
      have hhd' : (Z.add r).head.length = 32 := by unfold TapeM.add; dsimp only; exact chainM_len _ _
      generalize (s.drop Z.size).take (((n : Int) + 32).toNat - Z.size) = cut at *
      generalize hZ' : Z.add r = Z' at *
      generalize outM Z.head r = out at *
      refine P1 T.ok rfl rfl rfl ?_
      have hbe : ((bs out).toList == (bs cut).toList) = (out == cut) := by rw [bs_toList, bs_toList]
      rw [hbe]
      by_cases heq : out = cut
      ·rw [if_neg (by simp [heq])] at hgo
       rw [show (out == cut) = true from by simp [heq]]
       have hol2 : out.length = n + 32 - Z.size := by rw [heq, hdl]
       refine WL_o rfl rfl (OpR_ret cl100 allF rfl rfl rfl rfl rfl (check_yes _) ?_); rintro g1 _ hf1 rfl; replace hs := hs.call hf1; have hqe := hf1.le; replace le0 := G.le.trans le0 hqe
       refine WL_nil ?_; (with_reducible refine T_bn ?_)
       exact fun a ha => ⟨m, by omega, g1, ra2, rc2, Z', rfl, hs, le0, ⟨by omega, hhd', by omega⟩, by omega, by omega, by omega, hgo, ha.keep (by (repeat (first | exact trivial | refine ⟨rfl, ?_⟩)))⟩
      ·rw [if_pos heq] at hgo
       rw [show (out == cut) = false from by simp [heq]]
       refine WL_o rfl rfl (OpR_boom cl100 allF rfl rfl rfl rfl rfl (check_no hE) ?_)
       rintro g3 hqe rfl
       repeat (first | with_reducible refine T_tp ?_ | with_reducible refine T_bp ?_ | with_reducible refine T_gp ?_)
       exact panic0 (loadPost_no (Lx := tpL b E ra2 rc2 rest Z') hgo.symm (le0.trans hqe) hs)
     ·rw [if_pos (.inr (by omega))] at hgo
      rw [show decide (IntKind.i64.wrap ((n : Int) + 32) ≤ ((bs s).size : Int)) = false from decide_eq_false (by rw [hw2, bs_size]; omega)]
      refine WL_o rfl rfl (OpR_boom cl100 allF rfl rfl rfl rfl rfl (check_no hE) ?_)
      rintro g3 hqe rfl
      repeat (first | with_reducible refine T_tp ?_ | with_reducible refine T_bp ?_ | with_reducible refine T_gp ?_)
      exact panic0 (loadPost_no (Lx := tpL b E ra rc rest Z) hgo.symm (le0.trans hqe) hs)
    ·rw [if_pos (.inl he)] at hgo
     refine WL_know 43 (b' := false) (by simpa using he) rfl ?_
     (iterate 5 refine S1 allF rfl rfl ?_); refine P1 T.ok rfl rfl rfl ?_
     refine WL_o rfl rfl (OpR_boom cl100 allF rfl rfl rfl rfl rfl (check_no hE) ?_)
     rintro g3 hqe rfl
     repeat (first | with_reducible refine T_tp ?_ | with_reducible refine T_bp ?_ | with_reducible refine T_gp ?_)
     exact panic0 (loadPost_no (Lx := tpL b E ra rc rest Z) hgo.symm (le0.trans hqe) hs)
   ·rw [if_pos (by intro h; exact hx1 (hb1.1 h))] at hgo
    rw [show ((x.toNat : Int) == 1) = false from by simp; omega]
    refine WL_o rfl rfl (OpR_boom cl100 allF rfl rfl rfl rfl rfl (check_no hE) ?_)
    rintro g3 hqe rfl
    repeat (first | with_reducible refine T_tp ?_ | with_reducible refine T_bp ?_ | with_reducible refine T_gp ?_)
    exact panic0 (loadPost_no (Lx := tpL b E ra rc rest Z) hgo.symm (le0.trans hqe) hs)
 ·refine WL_know 15 (b' := false) (decide_eq_false (by rw [bs_size]; omega)) rfl ?_
  (iterate 7 refine S1 allF rfl rfl ?_); refine P1 T.ok rfl rfl rfl ?_; refine WL_nil ?_; (with_reducible refine T_then ?_)
  refine W_no rfl rfl ?_
  refine W_exit ?_; (with_reducible refine T_tx ?_; with_reducible refine T_tx ?_); (with_reducible refine T_bx ?_)
  have hr : loadGo (s.length + 1) Y s = some Z := by rw [← hgo]; unfold loadGo; rw [if_neg (fun h => h1 h.1)]
  refine end0 rfl ?_
  unfold loadPost
  rw [hr]
  exact RetS.intro le0 ⟨rfl, ra, rc, hs⟩
end Go.Proofs.YteohjgndanlldaaGreatDoor

/- errors.Is of an error and itself. -/
namespace Go.Proofs.YteohjgndanlldaaGreatDoor
set_option maxRecDepth 100000
set_option maxHeartbeats 4000000
open Go.RowKit Go.Extern.Stop Go.Stop Go.Extern

theorem isTypeOf (v : Value) (w : World) : (Extern.ReflectliteType.typeOf #[.iface 222 v]).run Tryz.prog w = .ok (.iface 171 (.agg #[.pointer (some ⟨5, 222, none⟩)])) w := by kernel_rfl
theorem isComparable (w : World) : ((Extern.ReflectliteType.method fun t => do Go.Extern.Rtype.noPackHeld "Comparable" t; (Functor.map (fun a => Value.bool a.comparable) (typeInfo t))) #[.agg #[.pointer (some ⟨5, 222, none⟩)]]).run Tryz.prog w = .ok (.bool true) w := by kernel_rfl
theorem isMethodComparable (v : Value) (w : World) : (Go.method 355 171 v "Comparable").run Tryz.prog w = .ok (171, v) w := by kernel_rfl
theorem isComp : (Tryz.prog.info? 222).map (·.comparable) = some true := by kernel_rfl
theorem isSize : (Tryz.prog.info? 244).map (·.size) = some 1 := by kernel_rfl

theorem is_same (a : Addr) (w : World) :
  Calls Tryz.prog 77 #[.iface 222 (.pointer (some a)), .iface 222 (.pointer (some a))] w fun e w' => e = .returned (.bool true) ∧ w' = w := by
 obtain ⟨i, hi, hcmp⟩ := Option.map_eq_some_iff.1 isComp
 obtain ⟨j, hj, hjs⟩ := Option.map_eq_some_iff.1 isSize
 have h8 := @run_callFunc_extern Tryz.prog 98 _ Extern.ReflectliteType.typeOf Tryz.func98 (by kernel_rfl) (by kernel_rfl) (by kernel_rfl) (by kernel_rfl)
 have h32 := @run_callFunc_extern Tryz.prog 171 _ (Extern.ReflectliteType.method fun t => do Go.Extern.Rtype.noPackHeld "Comparable" t; pure (.bool (← typeInfo t).comparable)) Tryz.func171 (by kernel_rfl) (by kernel_rfl) (by kernel_rfl) (by kernel_rfl)
 have tT := isTypeOf
 have cT := isComparable
 have mR := isMethodComparable
 have heq := run_eql_iface_ptr_same (P := Tryz.prog) w a Tryz.underlying80 Tryz.underlying222 hi hcmp hj
 go_enter Tryz.func77, Tryz.ntmps77
 go_wp2
 refine wp_loop_rounds 1 ?_
 rw [rounds_succ]
 go_wp2
 go_ret
 exact ⟨rfl, rfl⟩
end Go.Proofs.YteohjgndanlldaaGreatDoor

/- What open defers. -/
namespace Go.Proofs.YteohjgndanlldaaGreatDoor
open Go Go.K
set_option maxRecDepth 10000
attribute [local irreducible] W WL OpR bitAnd bitOr bitXor bitClr bitNot shlI shrI
set_option maxHeartbeats 2000000
theorem assertE (v : Value) (w : World) : (Instr.typeAssert (.iface 222 v) 20 80 true).run Tryz.prog w = .ok (.tuple #[.iface 222 v, .bool true]) w := run_typeAssert_hasB Tryz.underlying80 (by kernel_rfl) v 20 w

theorem assertNil (w : World) : (Instr.typeAssert .nilIface 20 80 true).run Tryz.prog w = .ok (.tuple #[.nilIface, .bool false]) w := by kernel_rfl

theorem catch_boom {b4 b5 : Nat} {v4 v5 : Value} {e : Addr} {g0 g : G} {L : List Ent} (hE : ErrAt e g) (hs : St g0 g (.obj b4 (.cells [v4].toArray 28 (0, 0)) :: .obj b5 (.cells [v5].toArray 33 (0, 0)) :: L)) :
  CallsDIn Wd 0 Tryz.prog 76 #[.pointer (some ⟨b4, 0, none⟩), .pointer (some ⟨b5, 0, none⟩)] (.panicking (damaged e)) g.w fun en u' w' => en = .returned (.tuple #[]) ∧ u' = .panicking [{ v := .iface 222 (.pointer (some e)), recovered := true }] ∧
   ∃ g', g'.w = w' ∧ g.le g' ∧ St g0 g' (.obj b4 (.cells [.pointer none].toArray 28 (0, 0)) :: .obj b5 (.cells [.int .i64 252].toArray 33 (0, 0)) :: L) := by
 refine callsDIn_of_wpSIn Tryz.func76 rfl trivial fun c₀ cs hu => ?_
 apply wpSIn_seq
 apply wpSIn_region
 have hA := fun w => assertE (.pointer (some e)) w
 simp [wpOpsSIn, go_sem, recoverD, hu, damaged, Tryz.ntmps76, Exit.thenS, hA, Instr.extract]
 refine W_fromS (N := 15) (l := [(0, .pointer (some ⟨b4, 0, none⟩)), (1, .pointer (some ⟨b5, 0, none⟩)), (2, .iface 222 (.pointer (some e))), (3, .bool true)]) rfl (by simp) (by simp [tmpsOk]) ?_
 have le0 := G.le.refl g
 have ep0 := hE
 unfold ErrAt at ep0
 refine W_seq ?_; refine W_region ?_; (iterate 3 refine P1 T.ok rfl rfl rfl ?_); refine WL_o rfl rfl (OpR_loadE T.ok 0 rfl ep0 rfl rfl ?_)
 refine WL_o rfl rfl (OpR_ret cl77 allF rfl rfl rfl rfl rfl (ret_of_calls ((is_same e g.w).mono fun e w' h => ⟨h.1, h.2 ▸ RowKit.Below.refl _ _⟩) (R := fun _ r => r = .bool true) fun _ _ => rfl) ?_)
 rintro g1 _ hf1 rfl
 replace hs := hs.call hf1
 have hqe := hf1.le; replace le0 := G.le.trans le0 hqe; replace ep0 := ep0.mono hqe
 refine P1 T.ok rfl rfl rfl ?_; refine WL_nil ?_; (with_reducible refine T_then ?_)
 refine W_yes rfl rfl ?_
 refine W_region ?_
 refine WL_n rfl (OpR_storeO T.ok 0 rfl hs rfl rfl rfl rfl rfl rfl rfl rfl rfl ?_); replace hs := hs; rintro g1 hs hqe; replace le0 := G.le.trans le0 hqe; replace ep0 := ep0.mono hqe
 skip
 refine WL_n rfl (OpR_storeO T.ok 1 rfl hs rfl rfl rfl rfl rfl rfl rfl rfl rfl ?_); replace hs := hs; rintro g1 hs hqe; replace le0 := G.le.trans le0 hqe; replace ep0 := ep0.mono hqe
 refine WL_nil ?_
 exact endS _ rfl rfl ⟨rfl, rfl, g1, rfl, le0, hs⟩

theorem catch_calm {b4 b5 : Nat} (w : World) : CallsDIn Wd 0 Tryz.prog 76 #[.pointer (some ⟨b4, 0, none⟩), .pointer (some ⟨b5, 0, none⟩)] .returning w fun en u' w' => en = .returned (.tuple #[]) ∧ u' = .returning ∧ w' = w := by
 refine callsDIn_of_wpSIn Tryz.func76 rfl trivial fun c₀ cs hu => ?_
 apply wpSIn_seq
 apply wpSIn_region
 have hA := fun w => assertNil w
 simp [wpOpsSIn, go_sem, recoverD, hu, Tryz.ntmps76, Exit.thenS, hA, Instr.extract]
 refine W_fromS (N := 15) (l := [(0, .pointer (some ⟨b4, 0, none⟩)), (1, .pointer (some ⟨b5, 0, none⟩)), (2, .nilIface), (3, .bool false)]) rfl (by simp) (by simp [tmpsOk]) ?_
 refine W_seq ?_; refine W_region ?_; refine P1 T.ok rfl rfl rfl ?_; refine P1 T.ok rfl rfl rfl ?_; (iterate 3 refine S1 allF rfl rfl ?_); refine P1 T.ok rfl rfl rfl ?_; refine WL_nil ?_; (with_reducible refine T_then ?_)
 refine W_no rfl rfl ?_
 refine W_skip ?_
 exact endS _ rfl (by cases c₀; simp_all) ⟨rfl, rfl, rfl⟩
end Go.Proofs.YteohjgndanlldaaGreatDoor

/- Package journal: open. -/
namespace Go.Proofs.YteohjgndanlldaaGreatDoor
open Go Go.K
set_option maxRecDepth 10000
attribute [local irreducible] W WL OpR bitAnd bitOr bitXor bitClr bitNot shlI shrI
set_option maxHeartbeats 2000000

def zeroH : List UInt8 := List.replicate 32 0
def tape0 : TapeM := ⟨[], zeroH, 0⟩
theorem tape0_ok : tape0.ok := ⟨by simp [tape0], by simp [tape0, zeroH], by simp [tape0]⟩
def openPost (A : DkA) (L : List Ent) (g0 g' : G) (res : Option TapeM) (r : Value) : Prop :=
 match res with
 | some Y => ∃ B : JnA, r = .tuple #[.pointer (some ⟨B.b, 0, none⟩), .int .i64 0] ∧ St g0 g' (jnL B A false Y ++ L)
 | none => r = .tuple #[.pointer none, .int .i64 252] ∧ St g0 g' L

theorem open_c {A : DkA} (s : List UInt8) (hl : s.length ≤ 4194304) {e : Addr} {g0 g : G} {L : List Ent} (hrk : RoundAt g) (hE : ErrAt e g) (hs : St g0 g L) :
  CallsIn Wd 0 Tryz.prog 54 #[.pointer (some ⟨A.b, 0, none⟩), .string (bs s)] g.w (RetS g fun g' r => openPost A L g0 g' (loadGo (s.length + 1) tape0 s) r) := by
 have le0 := G.le.refl g
 refine enterD Tryz.func54 rfl Tryz.ntmps54 rfl ?_
 refine W_seq ?_; refine W_region ?_
 refine WL_o rfl rfl (OpR_alloc T.ok rfl hs rfl rfl ?_); clear hs; rintro b4 g1 hs hqe; replace le0 := G.le.trans le0 hqe
 skip
 refine WL_o rfl rfl (OpR_alloc T.ok rfl hs rfl rfl ?_); clear hs; rintro b5 g1 hs hqe; replace le0 := G.le.trans le0 hqe
 refine WL_nil ?_; (with_reducible refine T_then ?_); refine W_seq ?_; refine W_region ?_; refine P1 T.ok rfl rfl rfl ?_
 refine WL_defer rfl allF rfl rfl rfl rfl ?_
 refine WL_nil ?_; (with_reducible refine T_then ?_); refine W_seq ?_; refine W_region ?_; refine P1 T.ok rfl rfl rfl ?_
 refine WL_o rfl rfl (OpR_makeX T.ok rfl hs rfl rfl rfl rfl rfl rfl (by decide) rfl (by decide) (by decide) (zeros_flat 32) ?_)
 clear hs
 rintro bz g1 hs hqe; replace le0 := G.le.trans le0 hqe
 obtain ⟨gz, hwz, hsz, hqz, hrl⟩ := hs.fzRow (α := UInt8) (xs := List.replicate 32 0) (i := 0) rfl (RcL.bytes _ _)
 have hqe := hqz; rw [← hwz]; replace hs := hsz; clear hsz hqz; replace le0 := G.le.trans le0 hqe
 skip
 obtain ⟨_, news, hnw, hsrc⟩ := Src.of_rs hrl
 obtain rfl := RcL.bytes_inv hnw
 refine WL_o rfl rfl (OpR_bytesStr T.ok (ns := List.replicate 32 0) rfl rfl rfl rfl rfl rfl rfl rfl hsrc ?_)
 rw [show (List.replicate 32 (0 : Int)).map (fun m => UInt8.ofNat m.toNat) = zeroH from by simp [zeroH]]
 skip
 refine WL_o rfl rfl (OpR_build T.ok rfl (vs := [(1, .string (bs zeroH))]) (cells := [.slice none 0 0, .string (bs zeroH), .int .i64 0]) rfl rfl rfl rfl [(0, 1), (1, 1), (2, 1)] rfl (by kernel_rfl) ?_)
 skip
 refine WL_o rfl rfl (OpR_build T.ok rfl (vs := [(1, .pointer (some ⟨A.b, 0, none⟩)), (0, .agg #[.slice none 0 0, .string (bs zeroH), .int .i64 0])]) (cells := [.slice none 0 0, .string (bs zeroH), .int .i64 0, .pointer (some ⟨A.b, 0, none⟩), .bool false]) rfl rfl rfl rfl [(0, 3), (3, 1), (4, 1)] rfl (by kernel_rfl) ?_)
 skip
 refine WL_o rfl rfl (OpR_box rfl hs rfl rfl ?_); clear hs; rintro bj g1 hs hqe; replace le0 := G.le.trans le0 hqe
 skip
 refine WL_n rfl (OpR_storeO T.ok 2 rfl hs rfl rfl rfl rfl rfl rfl rfl rfl rfl ?_); replace hs := hs; rintro g1 hs hqe; replace le0 := G.le.trans le0 hqe
 have hrk := hrk.mono le0; have hE := hE.mono le0
 have hs1 := hs.nilrow 9 1 none
 have hs : St g0 g1 (tpL bj 74 none 0 (jnC A false) tape0 ++ (.obj b4 (.cells [.pointer (some ⟨bj, 0, none⟩)].toArray 28 (0, 0)) :: .obj b5 (.cells [.int .i64 0].toArray 33 (0, 0)) :: L)) :=
  hs1.perm ((List.Perm.swap _ _ _).trans (((List.Perm.swap _ _ _).cons _).cons _))
 clear hs1
 refine WL_nil ?_; (with_reducible refine T_then ?_); refine W_seq ?_; refine W_region ?_; refine WL_o rfl rfl (OpR_loadO T.ok 2 rfl hs rfl rfl rfl ?_); (iterate 3 refine P1 T.ok rfl rfl rfl ?_)
 have hld := load_c tape0_ok (Nat.le_refl _) s hl (Nat.zero_le _) hrk hE hs
 cases hres : loadGo (s.length + 1) tape0 s with
 | some Y =>
  rw [hres] at hld
  refine WL_o rfl rfl (OpR_st cl78 allF rfl rfl rfl rfl rfl hld ?_)
  clear hs hld
  rintro g3 _ hqe ⟨rfl, ra, rc, hs⟩; replace le0 := G.le.trans le0 hqe
  refine WL_nil ?_; (with_reducible refine T_then ?_); refine W_seq ?_; refine W_region ?_; refine WL_o rfl rfl (OpR_loadO T.ok 2 rfl hs rfl rfl rfl ?_)
  refine WL_n rfl (OpR_storeO T.ok 2 rfl hs rfl rfl rfl rfl rfl rfl rfl rfl rfl ?_); replace hs := hs; rintro g1 hs hqe; replace le0 := G.le.trans le0 hqe
  skip
  refine WL_n rfl (OpR_storeO T.ok 3 rfl hs rfl rfl rfl rfl rfl rfl rfl rfl rfl ?_); replace hs := hs; rintro g1 hs hqe; replace le0 := G.le.trans le0 hqe
  refine WL_nil ?_; (with_reducible refine T_then ?_)
  refine W_ret (retD cl76 fun tmps hget => (catch_calm _).mono ?_)
  rintro e u' w'' ⟨rfl, rfl, rfl⟩
  refine ⟨_, results_cell2 T.ok 2 3 rfl hs (hget _ _ rfl) (hget _ _ rfl) rfl rfl rfl rfl, ?_⟩
  refine RetS.intro le0 ⟨⟨bj, ra, rc⟩, rfl, ?_⟩
  have hs2 : St g0 g1 (tpL bj 74 ra rc (jnC A false) Y ++ (.obj b4 (.cells [.pointer (some ⟨bj, 0, none⟩)].toArray 28 (0, 0)) :: .obj b5 (.cells [.int .i64 0].toArray 33 (0, 0)) :: L)) := hs
  exact (hs2.drop 2).drop 2
 | none =>
  rw [hres] at hld
  refine WL_o rfl rfl (OpR_boom cl78 allF rfl rfl rfl rfl rfl hld ?_)
  clear hs hld
  rintro g3 hqe ⟨Lx, hs⟩
  replace le0 := le0.trans hqe
  have hE := hE.mono hqe
  replace hs := hs.tail
  repeat (first | with_reducible refine T_tp ?_ | with_reducible refine T_bp ?_ | with_reducible refine T_gp ?_)
  refine panicD cl76 fun tmps hget => (catch_boom hE hs).mono ?_
  rintro e u' w'' ⟨rfl, rfl, g4, rfl, hle4, hs4⟩
  refine ⟨_, results_cell2 T.ok 0 1 rfl hs4 (hget _ _ rfl) (hget _ _ rfl) rfl rfl rfl rfl, ?_⟩
  exact RetS.intro (le0.trans hle4) ⟨rfl, (hs4.drop 0).drop 0⟩
end Go.Proofs.YteohjgndanlldaaGreatDoor

/- What reading a tape comes to: in plain Lean. -/
namespace Go.Proofs.YteohjgndanlldaaGreatDoor
open Go Go.K
set_option maxRecDepth 10000
attribute [local irreducible] W WL OpR bitAnd bitOr bitXor bitClr bitNot shlI shrI

theorem tadd_size (Z : TapeM) (r : List UInt8) : (Z.add r).size = Z.size + (outM Z.head r).length := by unfold TapeM.add; rfl
theorem tadd_recs (Z : TapeM) (r : List UInt8) : (Z.add r).recs = Z.recs ++ [r] := by unfold TapeM.add; rfl
theorem outM_pos (h r : List UInt8) : 33 ≤ (outM h r).length := by unfold outM; simp only [List.length_append, List.length_cons, List.length_nil, chainM_len]; omega
/-- What was read lies on the disk as it is written. -/
structure Reads (Z Y : TapeM) (s : List UInt8) (rs : List (List UInt8)) : Prop where
 eq : Y = Z.adds rs
 short : ∀ r ∈ rs, r.length ≤ 65536
 wire : (s.drop Z.size).take (Y.size - Z.size) = wireM Z rs
 le : Y.size ≤ s.length
theorem loadGo_reads (s : List UInt8) : ∀ (k : Nat) (Z Y : TapeM), Z.size ≤ s.length → loadGo k Z s = some Y → ∃ rs, Reads Z Y s rs := by
 intro k
 induction k with
 | zero =>
  intro Z Y hz h
  obtain rfl : Z = Y := by simpa [loadGo] using h
  exact ⟨[], rfl, fun r hr => by simp at hr, by simp [wireM], hz⟩
 | succ k ih =>
  intro Z Y hz h
  unfold loadGo at h
  split at h
  ·rename_i h1
   split at h
   ·cases h
   ·rename_i h2
    split at h
    ·cases h
    ·rename_i h3
     split at h
     ·cases h
     ·rename_i h4
      simp only [not_or, Classical.not_not] at h3 h4
      obtain ⟨n, hn1, hn2, hn3, hr⟩ := stringM_next h3.1
      rw [hn1] at h4 h3
      generalize (stringM s (Z.size + 1)).1 = r at *
      have hol : (outM Z.head r).length = n + 32 - Z.size := by rw [h4, List.length_take, List.length_drop]; omega
      have hsz := tadd_size Z r
      obtain ⟨rs, h5⟩ := ih (Z.add r) Y (by omega) h
      refine ⟨r :: rs, ?_, fun x hx => ?_, ?_, h5.le⟩
      ·rw [adds_cons]; exact h5.eq
      ·rcases List.mem_cons.1 hx with rfl | hx
       ·exact hr
       ·exact h5.short x hx
      ·have h6 := h5.wire
       have h7 := adds_size rs (Z.add r)
       rw [← h5.eq] at h7
       rw [wireM, ← h6, h4, hsz, ← List.drop_drop, hol]
       rw [show ((n : Int) + 32).toNat - Z.size = n + 32 - Z.size from by omega]
       rw [show Y.size - Z.size = (n + 32 - Z.size) + (Y.size - (Z.size + (n + 32 - Z.size))) from by omega, List.take_add]
  ·obtain rfl : Z = Y := by simpa using h
   exact ⟨[], rfl, fun r hr => by simp at hr, by simp [wireM], hz⟩
theorem Reads.recs {Z Y : TapeM} {s : List UInt8} {rs : List (List UInt8)} (h : Reads Z Y s rs) : Y.recs = Z.recs ++ rs := by rw [h.eq, adds_recs]
theorem wireM_pos : ∀ (rs : List (List UInt8)) (Z : TapeM), 33 * rs.length ≤ (wireM Z rs).length := by
 intro rs
 induction rs with
 | nil => intro Z; simp
 | cons r rs ih =>
  intro Z
  rw [wireM, List.length_append, List.length_cons]
  have := outM_pos Z.head r
  have := ih (Z.add r)
  omega
theorem Reads.size {Z Y : TapeM} {s : List UInt8} {rs : List (List UInt8)} (h : Reads Z Y s rs) : Y.size = Z.size + (wireM Z rs).length := by rw [h.eq, adds_size]
theorem Reads.ok {Y : TapeM} {s : List UInt8} {rs : List (List UInt8)} (h : Reads tape0 Y s rs) (hl : s.length ≤ 4194304) : Y.ok := by
 have h1 := h.size
 have h2 := wireM_pos rs tape0
 have h3 := h.le
 have h0 : tape0.size = 0 := rfl
 have h5 : tape0.recs = [] := rfl
 refine ⟨?_, ?_, by omega⟩
 ·rw [h.recs, h5, List.nil_append]; omega
 ·rw [h.eq]; exact adds_head rs tape0_ok.head

/-- Opening a disk. -/
def isZero (s : List UInt8) : Bool := s.all fun b => b == 0
def clearFs (k n : Nat) : List (DiskM → DiskM × Int) := [fun D => D.wr k (List.replicate n 0), DiskM.sy]
def openM (D : DiskM) : Option TapeM × DiskM × Int :=
 if D.off = true then (none, D, 241)
 else match loadGo (D.vis.length + 1) tape0 D.vis with
  | none => (none, D, 252)
  | some Y =>
   if isZero (D.vis.drop Y.size) = true then (some Y, D, 0)
   else if (runM (clearFs Y.size (D.vis.length - Y.size)) D).2 = 0 then (some Y, (runM (clearFs Y.size (D.vis.length - Y.size)) D).1, 0)
   else (none, (runM (clearFs Y.size (D.vis.length - Y.size)) D).1, (runM (clearFs Y.size (D.vis.length - Y.size)) D).2)
end Go.Proofs.YteohjgndanlldaaGreatDoor

/- Package journal: Open. -/
namespace Go.Proofs.YteohjgndanlldaaGreatDoor
open Go Go.K
set_option maxRecDepth 10000
attribute [local irreducible] W WL OpR bitAnd bitOr bitXor bitClr bitNot shlI shrI
set_option maxHeartbeats 2000000

theorem dropWhile_nil {l : List UInt8} : l.dropWhile (· == 0) = [] ↔ isZero l = true := by
 induction l with
 | nil => simp [isZero]
 | cons x r ih =>
  unfold isZero at *
  rw [List.dropWhile_cons]
  cases hx : x == 0 <;> simp [hx]
  simpa using ih
theorem trim_zero (l : List UInt8) : Lib.trimB l 0 = [] ↔ isZero l = true := by
 unfold Lib.trimB Lib.trimLeftB Lib.trimRightB
 rw [dropWhile_nil]
 constructor
 ·intro h
  unfold isZero at *
  by_cases h2 : l.reverse.dropWhile (· == 0) = []
  ·have := dropWhile_nil.1 h2
   unfold isZero at this
   simpa using this
  ·have h3 := List.head_dropWhile_not (p := fun b : UInt8 => b == 0) (l := l.reverse) h2
   have h4 : (List.dropWhile (fun b : UInt8 => b == 0) l.reverse).head h2 ∈ (List.dropWhile (fun b : UInt8 => b == 0) l.reverse).reverse := by
    rw [List.mem_reverse]; exact List.head_mem h2
   have h5 := (List.all_eq_true.1 h) _ h4
   rw [h5] at h3
   simp at h3
 ·intro h
  have h2 : isZero l.reverse = true := by unfold isZero at *; simpa using h
  rw [dropWhile_nil.2 h2]
  rfl
theorem trim_c (s : List UInt8) (g : G) (hl : s.length ≤ 4194304) : CallsIn Wd 0 Tryz.prog 55 #[.string (bs s), .string (bs [0])] g.w (Ret g fun _ r => ∃ t, r = .string (bs t) ∧ (t = [] ↔ isZero s = true)) := by
 refine ret_of_calls (v := .string (bs (Lib.trimB s 0))) ((Tryz.strings_Trim_one (bs s) 0 (by decide) g.w (by rw [bs_size]; omega)).mono ?_) fun _ _ => ⟨_, rfl, trim_zero s⟩
 rintro e w' ⟨rfl, h⟩
 refine ⟨?_, ?_⟩
 ·rfl
 ·rcases h with rfl | rfl
  ·exact RowKit.Below.refl _ _
  ·exact (RowKit.Below.refl _ _).drew

def twosFact (bj k : Nat) (s : List UInt8) (ab : Nat) : Fact :=
 ⟨fun v g => ∃ c, Rs g v [c, cloS ab] ∧ cloIs bj k s c g, fun _ _ _ hf h => by obtain ⟨c, h, h1⟩ := h; exact ⟨c, h.mono hf.le, h1.mono hf.le⟩⟩

theorem clears_c {A : DkA} {D : DiskM} (hD : D.ok) (hp : D.pend.length ≤ 999990) {bj E k n : Nat} {j0 j1 j2 : Value} {br : Bool} (hk : k + n ≤ D.dur.length) {g0 g : G} {L : List Ent}
  {c : Clo} {v : Value} (rs : Rs g v [c, cloS A.b]) (hc : cloIs bj k (List.replicate n 0) c g) (hs : St g0 g (jnO bj E j0 j1 j2 A br :: (dkL A D ++ L))) :
  CallsIn Wd 0 Tryz.prog 40 #[v] g.w (RetS g fun g' r => r = .int .i64 (runM (clearFs k n) D).2 ∧ (runM (clearFs k n) D).1.ok ∧ (runM (clearFs k n) D).1.dur.length = D.dur.length ∧ (runM (clearFs k n) D).1.pend.length ≤ D.pend.length + 4 ∧
   ∃ pa pc, St g0 g' (jnO bj E j0 j1 j2 A br :: (dkL ⟨A.b, A.bd, A.bv, pa, pc⟩ (runM (clearFs k n) D).1 ++ L))) := by
 have := runs_c [c, cloS A.b] (clearFs k n) (fun i D1 gq => g.le gq ∧ D1.ok ∧ D1.dur.length = D.dur.length ∧ D1.pend.length ≤ D.pend.length + i ∧ ∃ pa pc, St g0 gq (jnO bj E j0 j1 j2 A br :: (dkL ⟨A.b, A.bd, A.bv, pa, pc⟩ D1 ++ L))) rfl D v g rs
  ⟨G.le.refl g, hD, rfl, Nat.le_refl _, A.pa, A.pc, hs⟩ ?_
 ·refine this.mono ?_
  rintro e w' ⟨g', v, hw, he, hle, rfl, i, hi, _, h1, h2, h3, h4⟩
  have hi' : i ≤ 2 := hi
  exact ⟨g', _, hw, he, hle, rfl, h1, h2, by omega, h4⟩
 ·intro i cc f hci hfi
  match i, hci, hfi with
  | 0, hci, hfi =>
   obtain rfl := Option.some.inj hci
   obtain rfl := Option.some.inj hfi
   obtain ⟨b1, b2, b3, rfl, e1, e2, e3⟩ := hc
   refine ⟨cl72, ?_⟩
   rintro D1 gq hle ⟨_, hok, hl, hpn, pa, pc, hst⟩
   have := wr_pend D1 k (List.replicate n 0)
   have hk2 : k + (List.replicate n (0 : UInt8)).length ≤ D1.dur.length := by rw [List.length_replicate]; omega
   refine (wr1_c (A := ⟨A.b, A.bd, A.bv, pa, pc⟩) hok k (List.replicate n 0) hk2 (e1.mono hle) (e2.mono hle) (e3.mono hle) hst).mono ?_
   rintro e w' ⟨g', v, hw, he, hle', rfl, pa', pc', h⟩
   exact ⟨g', _, hw, he, hle', rfl, hle.trans hle', hok.wr hk2 (by omega), by rw [wr_len]; exact hl, Nat.le_trans this (by omega), pa', pc', h⟩
  | 1, hci, hfi =>
   obtain rfl := Option.some.inj hci
   obtain rfl := Option.some.inj hfi
   refine ⟨cl42, ?_⟩
   rintro D1 gq hle ⟨_, hok, hl, hpn, pa, pc, hst⟩
   have := sy_pend D1
   refine (sy1_c (A := ⟨A.b, A.bd, A.bv, pa, pc⟩) hok hst).mono ?_
   rintro e w' ⟨g', v, hw, he, hle', rfl, pa', pc', h⟩
   exact ⟨g', _, hw, he, hle', rfl, hle.trans hle', hok.sy, by rw [sy_len hok]; exact hl, Nat.le_trans this (by omega), pa', pc', h⟩
  | i + 2, hci, hfi => simp at hci

def openRes (A : DkA) (D : DiskM) (L : List Ent) (g0 g' : G) (r : Value) : Prop :=
 (openM D).2.1.ok ∧ (openM D).2.1.dur.length = D.dur.length ∧ (openM D).2.1.pend.length ≤ D.pend.length + 4 ∧ ∃ pa pc, match (openM D).1 with
  | some Y => ∃ B : JnA, r = .tuple #[.pointer (some ⟨B.b, 0, none⟩), .int .i64 (openM D).2.2] ∧ St g0 g' (jnL B A false Y ++ (dkL ⟨A.b, A.bd, A.bv, pa, pc⟩ (openM D).2.1 ++ L))
  | none => r = .tuple #[.pointer none, .int .i64 (openM D).2.2] ∧ St g0 g' (dkL ⟨A.b, A.bd, A.bv, pa, pc⟩ (openM D).2.1 ++ L)
theorem openRes.no {A : DkA} {D D' : DiskM} {L : List Ent} {g0 g' : G} {e : Int} {pa : Option Addr} {pc : Nat} (h : openM D = (none, D', e)) (h1 : D'.ok) (h2 : D'.dur.length = D.dur.length) (h3 : D'.pend.length ≤ D.pend.length + 4) (hs : St g0 g' (dkL ⟨A.b, A.bd, A.bv, pa, pc⟩ D' ++ L)) :
  openRes A D L g0 g' (.tuple #[.pointer none, .int .i64 e]) := by
 unfold openRes
 rw [h]
 exact ⟨h1, h2, h3, pa, pc, rfl, hs⟩
theorem openRes.yes {A : DkA} {D D' : DiskM} {L : List Ent} {g0 g' : G} {e : Int} {pa : Option Addr} {pc : Nat} {B : JnA} {Y : TapeM} (h : openM D = (some Y, D', e)) (h1 : D'.ok) (h2 : D'.dur.length = D.dur.length) (h3 : D'.pend.length ≤ D.pend.length + 4) (hs : St g0 g' (jnL B A false Y ++ (dkL ⟨A.b, A.bd, A.bv, pa, pc⟩ D' ++ L))) :
  openRes A D L g0 g' (.tuple #[.pointer (some ⟨B.b, 0, none⟩), .int .i64 e]) := by
 unfold openRes
 rw [h]
 exact ⟨h1, h2, h3, pa, pc, B, rfl, hs⟩

theorem jopen_nil (g : G) : CallsIn Wd 0 Tryz.prog 25 #[.pointer none] g.w (Ret g fun _ r => r = .tuple #[.pointer none, .int .i64 1]) := by
 have le0 := G.le.refl g
 refine enter Tryz.func25 rfl Tryz.ntmps25 rfl ?_
 refine W_seq ?_; refine W_region ?_; refine P1 T.ok rfl rfl rfl ?_; refine P1 T.ok rfl rfl rfl ?_; refine WL_nil ?_; (with_reducible refine T_then ?_); refine W_seq ?_; refine W_seq ?_; refine W_region ?_; refine P1 T.ok rfl rfl rfl ?_
 refine WL_o rfl rfl (OpR_eqNilPtr T.ok (neg := false) rfl rfl rfl rfl rfl ?_)
 refine WL_nil ?_
 (with_reducible refine T_then ?_)
 refine W_yes rfl rfl ?_
 refine W_seq ?_; refine W_region ?_; refine P1 T.ok rfl rfl rfl ?_; refine P1 T.ok rfl rfl rfl ?_; refine WL_nil ?_; (with_reducible refine T_then ?_)
 exact W_ret (ret2 rfl rfl rfl (Ret.same rfl))

theorem jopen_c {A : DkA} {D : DiskM} (hD : D.ok) (hp : D.pend.length ≤ 999990) {e : Addr} {g0 g : G} {L : List Ent} (hrk : RoundAt g) (hE : ErrAt e g) (hs : St g0 g (dkL A D ++ L)) :
  CallsIn Wd 0 Tryz.prog 25 #[.pointer (some ⟨A.b, 0, none⟩)] g.w (RetS g (openRes A D L g0)) := by
 have le0 := G.le.refl g
 have hN := hD.le
 have hV := hD.len
 refine enter Tryz.func25 rfl Tryz.ntmps25 rfl ?_
 refine W_seq ?_; refine W_region ?_; refine P1 T.ok rfl rfl rfl ?_; refine P1 T.ok rfl rfl rfl ?_; refine WL_nil ?_; (with_reducible refine T_then ?_); refine W_seq ?_; refine W_seq ?_; refine W_region ?_; refine P1 T.ok rfl rfl rfl ?_
 refine WL_o rfl rfl (OpR_eqNilPtr T.ok (neg := false) rfl rfl rfl rfl rfl ?_)
 refine WL_nil ?_
 (with_reducible refine T_then ?_)
 refine W_no rfl rfl ?_
 refine W_skip ?_; (with_reducible refine T_then ?_); refine W_seq ?_; refine W_region ?_; refine P1 T.ok rfl rfl rfl ?_; refine P1 T.ok rfl rfl rfl ?_
 refine WL_o rfl rfl (OpR_ret cl51 allF rfl rfl rfl rfl rfl (dsize_c hs) ?_); rintro g1 _ hf1 rfl; replace hs := hs.call hf1; have hqe := hf1.le; replace le0 := G.le.trans le0 hqe
 skip
 cases ho : D.off with
 | true =>
  refine WL_o rfl rfl (OpR_ret cl52 allF rfl rfl rfl rfl rfl (dread_off ho 0 _ hs) ?_); rintro g1 _ hf1 rfl; replace hs := hs.call hf1; have hqe := hf1.le; replace le0 := G.le.trans le0 hqe
  (iterate 5 refine P1 T.ok rfl rfl rfl ?_); refine WL_nil ?_; (with_reducible refine T_then ?_); refine W_seq ?_; refine W_seq ?_; refine W_region ?_; refine P1 T.ok rfl rfl rfl ?_; refine P1 T.ok rfl rfl rfl ?_; refine WL_nil ?_; (with_reducible refine T_then ?_)
  refine W_yes rfl rfl ?_
  refine W_seq ?_; refine W_region ?_; (iterate 3 refine P1 T.ok rfl rfl rfl ?_); refine WL_nil ?_; (with_reducible refine T_then ?_)
  exact W_ret (ret2 rfl rfl rfl (RetS.intro le0 (openRes.no (if_pos ho) hD rfl (Nat.le_add_right _ _) hs)))
 | false =>
  refine WL_o rfl rfl (OpR_ret cl52 allF rfl rfl rfl rfl rfl (dread_c hD ho hs) ?_); rintro g1 _ hf1 rfl; replace hs := hs.call hf1; have hqe := hf1.le; replace le0 := G.le.trans le0 hqe
  replace hrk := hrk.mono le0; replace hE := hE.mono le0
  (iterate 5 refine P1 T.ok rfl rfl rfl ?_); refine WL_nil ?_; (with_reducible refine T_then ?_); refine W_seq ?_; refine W_seq ?_; refine W_region ?_; refine P1 T.ok rfl rfl rfl ?_; refine P1 T.ok rfl rfl rfl ?_; refine WL_nil ?_; (with_reducible refine T_then ?_)
  refine W_no rfl rfl ?_
  refine W_skip ?_; (with_reducible refine T_then ?_); refine W_seq ?_; refine W_region ?_; refine P1 T.ok rfl rfl rfl ?_; refine P1 T.ok rfl rfl rfl ?_
  refine WL_o rfl rfl (OpR_st cl54 allF rfl rfl rfl rfl rfl (open_c (A := A) D.vis (by omega) hrk hE hs) ?_)
  clear hs
  rintro g3 r hqe hpo; replace le0 := G.le.trans le0 hqe
  cases hres : loadGo (D.vis.length + 1) tape0 D.vis with
  | none =>
   rw [hres] at hpo
   obtain ⟨rfl, hs⟩ := hpo
   (iterate 5 refine P1 T.ok rfl rfl rfl ?_); refine WL_nil ?_; (with_reducible refine T_then ?_); refine W_seq ?_; refine W_seq ?_; refine W_region ?_; refine P1 T.ok rfl rfl rfl ?_; refine P1 T.ok rfl rfl rfl ?_; refine WL_nil ?_; (with_reducible refine T_then ?_)
   refine W_yes rfl rfl ?_
   refine W_seq ?_; refine W_region ?_; (iterate 3 refine P1 T.ok rfl rfl rfl ?_); refine WL_nil ?_; (with_reducible refine T_then ?_)
   refine W_ret (ret2 rfl rfl rfl (RetS.intro le0 (openRes.no ?_ hD rfl (Nat.le_add_right _ _) hs)))
   unfold openM
   rw [if_neg (by simp [ho]), hres]
  | some Y =>
   rw [hres] at hpo
   obtain ⟨B, rfl, hs⟩ := hpo
   obtain ⟨rs, hrd⟩ := loadGo_reads D.vis _ _ _ (Nat.zero_le _) hres
   have hle := hrd.le
   (iterate 5 refine P1 T.ok rfl rfl rfl ?_); refine WL_nil ?_; (with_reducible refine T_then ?_); refine W_seq ?_; refine W_seq ?_; refine W_region ?_; refine P1 T.ok rfl rfl rfl ?_; refine P1 T.ok rfl rfl rfl ?_; refine WL_nil ?_; (with_reducible refine T_then ?_)
   refine W_no rfl rfl ?_
   refine W_skip ?_; (with_reducible refine T_then ?_); refine W_seq ?_; refine W_seq ?_; refine W_region ?_; (iterate 5 refine P1 T.ok rfl rfl rfl ?_); refine WL_o rfl rfl (OpR_loadO T.ok 0 rfl hs rfl rfl rfl ?_)
   refine WL_o rfl rfl (OpR_cutS T.ok (s := D.vis) (a := Y.size) (b := D.vis.length) rfl rfl rfl rfl ⟨_, rfl⟩ rfl hle (Nat.le_refl _) ?_)
   rw [List.take_length]
   refine WL_o rfl rfl (OpR_ret cl55 allF rfl rfl rfl rfl rfl (trim_c (D.vis.drop Y.size) _ (by rw [List.length_drop]; omega)) ?_)
   rintro g4 _ hf4 ⟨t, rfl, ht⟩
   replace hs := hs.call hf4
   have hqe := hf4.le; replace le0 := G.le.trans le0 hqe
   refine P1 T.ok rfl rfl rfl ?_; refine WL_nil ?_; (with_reducible refine T_then ?_)
   have hbe : (!((bs t).toList == (bs []).toList)) = !(isZero (D.vis.drop Y.size)) := by
    rw [bs_toList, bs_toList]
    cases hz : isZero (D.vis.drop Y.size) with
    | true => rw [ht.2 hz]; rfl
    | false =>
     have : t ≠ [] := fun h => by rw [ht.1 h] at hz; cases hz
     simpa using this
   cases hz : isZero (D.vis.drop Y.size) with
   | true =>
    refine W_no (b := !((bs t).toList == (bs []).toList)) (by rw [hbe, hz]; rfl) rfl ?_
    refine W_skip ?_; (with_reducible refine T_then ?_); refine W_seq ?_; refine W_seq ?_; refine W_region ?_; refine P1 T.ok rfl rfl rfl ?_; refine P1 T.ok rfl rfl rfl ?_; refine WL_nil ?_; (with_reducible refine T_then ?_)
    refine W_no rfl rfl ?_
    refine W_skip ?_; (with_reducible refine T_then ?_); refine W_seq ?_; refine W_region ?_; (iterate 3 refine P1 T.ok rfl rfl rfl ?_); refine WL_nil ?_; (with_reducible refine T_then ?_)
    refine W_ret (ret2 rfl rfl rfl (RetS.intro le0 (openRes.yes (B := B) ?_ hD rfl (Nat.le_add_right _ _) hs)))
    unfold openM
    rw [if_neg (by simp [ho]), hres]
    exact if_pos hz
   | false =>
    refine W_yes (b := !((bs t).toList == (bs []).toList)) (by rw [hbe, hz]; rfl) rfl ?_
    have hs1 : St g0 g4 (jnO B.b 74 (.slice B.ra Y.recs.length B.rc) (.string (bs Y.head)) (.int .i64 (Y.size : Int)) A false :: (dkL A D ++ (.row 9 1 (.slice B.ra Y.recs.length B.rc) Y.recs.length (strL Y.recs) :: L))) := by
     have hj : St g0 g4 (jnO B.b 74 (.slice B.ra Y.recs.length B.rc) (.string (bs Y.head)) (.int .i64 (Y.size : Int)) A false :: (.row 9 1 (.slice B.ra Y.recs.length B.rc) Y.recs.length (strL Y.recs) :: (dkL A D ++ L))) := hs
     exact hj.perm (List.perm_middle.symm.cons _)
    replace hs := hs1
    clear hs1
    obtain ⟨n, hn⟩ : ∃ n, n = D.vis.length - Y.size := ⟨_, rfl⟩
    skip
    apply W_draw allF rfl (Fact.eq _ :: Fact.eq _ :: Fact.eq _ :: Fact.eq _ :: Fact.eq _ :: Fact.eq _ :: Fact.eq _ :: Fact.eq _ :: Fact.eq _ :: Fact.eq _ :: Fact.eq _ :: Fact.eq _ :: Fact.eq _ :: (Fact.eq (.int .i64 (n : Int))) :: (Fact.rs (List.replicate n (0 : UInt8))) :: (Fact.eq (.string (bs (List.replicate n 0)))) :: (cloFact B.b Y.size (List.replicate n 0)) :: Fact.eq _ :: Fact.eq _ :: (twosFact B.b Y.size (List.replicate n 0) A.b) :: []) 20 [(19, 56)] rfl rfl
    ·refine D_s (js := []) (by kernel_rfl) (fun _ _ => QA_nil (DPu T.ok rfl rfl rfl)) ?_
     refine D_s (js := []) (by kernel_rfl) (fun _ _ => QA_nil (DPu T.ok rfl rfl rfl)) ?_
     refine D_s (js := [(1, 38)]) (by kernel_rfl) (fun _ _ => QA_eq rfl (QA_nil (DPu T.ok rfl rfl rfl))) ?_
     refine D_s (js := [(2, 39)]) (by kernel_rfl) (fun _ _ => QA_eq rfl (QA_nil (DPu T.ok rfl rfl rfl))) ?_
     refine D_s (js := [(3, 40)]) (by kernel_rfl) (fun _ _ => QA_eq rfl (QA_nil (DPu T.ok rfl rfl rfl))) ?_
     refine D_s (js := [(4, 41)]) (by kernel_rfl) (fun _ hf => QA_eq rfl (QA_nil (DLo T.ok 0 rfl rfl (hs.dr.call hf) rfl rfl rfl rfl))) ?_
     refine D_s (js := []) (by kernel_rfl) (fun _ _ => QA_nil (DPu T.ok rfl rfl rfl)) ?_
     refine D_s (js := [(6, 43)]) (by kernel_rfl) (fun _ _ => QA_eq rfl (QA_nil (DPu T.ok rfl rfl rfl))) ?_
     refine D_s (js := []) (by kernel_rfl) (fun _ _ => QA_nil (DPu T.ok rfl rfl rfl)) ?_
     refine D_s (js := [(8, 45)]) (by kernel_rfl) (fun _ _ => QA_eq rfl (QA_nil (DPu T.ok rfl rfl rfl))) ?_
     refine D_s (js := [(9, 46)]) (by kernel_rfl) (fun _ _ => QA_eq rfl (QA_nil (DPu T.ok rfl rfl rfl))) ?_
     refine D_s (js := [(10, 47)]) (by kernel_rfl) (fun _ _ => QA_eq rfl (QA_nil (DPu T.ok rfl rfl rfl))) ?_
     refine D_s (js := [(11, 48)]) (by kernel_rfl) (fun _ hf => QA_eq rfl (QA_nil (DLo T.ok 0 rfl rfl (hs.dr.call hf) rfl rfl rfl rfl))) ?_
     refine D_cons (D_step2 (js := [(7, 44), (12, 49)]) (by kernel_rfl) fun gd hf => ?_) ?_
     ·have hsd := hs.dr.call hf; have hfe := (G.le_dr _).trans hf.le
      refine QA_eq rfl ?_; refine QA_eq rfl ?_
      refine QA_nil ?_
      refine D_yes rfl ?_
      refine OpR_pure _ T.ok rfl ?_
      refine ⟨_, rfl, Fr0.refl _, ?_⟩
      exact congrArg (Value.int .i64) (by rw [bs_size, wr (by omega) (by omega)]; omega)
     refine D_cons (D_step2 (js := [(13, 50), (13, 50)]) (by kernel_rfl) fun gd hf => ?_) ?_
     ·have hsd := hs.dr.call hf; have hfe := (G.le_dr _).trans hf.le
      refine QA_any fun v13 h13 => ?_; refine QA_any fun v13 h13 => ?_
      refine QA_nil ?_
      obtain rfl := h13
      refine D_yes rfl ?_
      refine OpR_makeX T.ok rfl (St.start gd) rfl rfl rfl rfl rfl rfl (by decide) rfl (by show 1 * n ≤ _; omega) (by unfold maxLen; omega) (zeros_flat n) ?_
      intro b2 g2 hs1 hqe1
      obtain ⟨g3, hw3, hs3, hqe3, hrl⟩ := hs1.fzRow (α := UInt8) (xs := List.replicate n 0) (i := 0) rfl (RcL.bytes _ _)
      exact ⟨g3, hw3, hs3.fr0, hrl⟩
     refine D_cons (D_step2 (js := [(14, 51)]) (by kernel_rfl) fun gd hf => ?_) ?_
     ·have hsd := hs.dr.call hf; have hfe := (G.le_dr _).trans hf.le
      refine QA_any fun v14 h14 => ?_
      refine QA_nil ?_
      obtain ⟨ax, cx, rfl⟩ := Rs.isSlice h14
      obtain ⟨_, news, hnw, hsrc⟩ := Src.of_rs h14
      obtain rfl := RcL.bytes_inv hnw
      have hsr2 : Src gd.w ax (List.replicate n (0 : UInt8)).length 1 ((List.replicate n (0 : Int)).map (Value.int .u8)) := by
       have h := hsrc
       rw [show byteV (List.replicate n 0) = (List.replicate n (0 : Int)).map (Value.int .u8) from by simp [byteV]] at h
       exact h
      refine D_yes rfl ?_
      refine OpR_bytesStr (ns := List.replicate n 0) T.ok rfl rfl rfl rfl rfl rfl rfl rfl hsr2 ?_
      refine ⟨_, rfl, Fr0.refl _, ?_⟩
      show Value.string _ = _
      simp
     refine D_cons (D_step2 (js := [(0, 37), (5, 42), (15, 52)]) (by kernel_rfl) fun gd hf => ?_) ?_
     ·have hsd := hs.dr.call hf; have hfe := (G.le_dr _).trans hf.le
      refine QA_eq rfl ?_; refine QA_eq rfl ?_; refine QA_any fun v15 h15 => ?_
      refine QA_nil ?_
      obtain rfl := h15
      refine D_yes rfl ?_
      refine OpR_ret cl41 allF rfl rfl rfl rfl rfl (writing_c B.b Y.size (List.replicate n 0) gd) fun g' v h1 h2 => ⟨g', rfl, h1, ?_⟩
      obtain ⟨b1, b2, b3, rfl, e1, e2, e3⟩ := h2
      exact ⟨cloW b1 b2 b3, rfl, b1, b2, b3, rfl, e1, e2, e3⟩
     refine D_s (js := []) (by kernel_rfl) (fun _ _ => QA_nil (DPu T.ok rfl rfl rfl)) ?_
     refine D_s (js := [(17, 54)]) (by kernel_rfl) (fun _ _ => QA_eq rfl (QA_nil (DPu T.ok rfl rfl rfl))) ?_
     refine D_cons (D_step2 (js := [(16, 53), (18, 55)]) (by kernel_rfl) fun gd hf => ?_) ?_
     ·have hsd := hs.dr.call hf; have hfe := (G.le_dr _).trans hf.le
      refine QA_any fun v16 h16 => ?_; refine QA_eq rfl ?_
      refine QA_nil ?_
      obtain ⟨c, rfl, hc⟩ := h16
      refine D_yes rfl ?_
      refine OpR_lit T.ok rfl (St.start gd) (vs := [(0, c.v), (1, (cloS A.b).v)]) (cells := [c.v, (cloS A.b).v]) rfl rfl rfl rfl rfl rfl (by decide) (by decide) (by kernel_rfl) rfl ?_
      intro b2 g2 hs1 hqe1
      obtain ⟨g3, hw3, hs3, hqe3, hrl⟩ := hs1.fzRow (α := Clo) (xs := [c, cloS A.b]) (i := 0) rfl (RcL.clos _ [c, cloS A.b])
      exact ⟨g3, hw3, hs3.fr0, c, hrl, hc.mono (hqe1.trans hqe3)⟩
     exact D_nil
    intro g1 hf1; refine QA_any fun v19 h19 => ?_; refine QA_nil ?_
    replace hs := hs.dr.call hf1; have hqe := (G.le_dr _).trans hf1.le; replace le0 := G.le.trans le0 hqe
    obtain ⟨cc, rs9, hcc⟩ := h19
    refine WL_o rfl rfl (OpR_st cl40 allF rfl rfl rfl rfl rfl (clears_c hD hp (k := Y.size) (n := n) (by omega) rs9 hcc hs) ?_)
    clear hs
    rintro g6 _ hqe ⟨rfl, hok, hdl, hpl, pa, pc, hs⟩; replace le0 := G.le.trans le0 hqe; replace rs9 := rs9.mono hqe
    have hA : openM D = (if (runM (clearFs Y.size n) D).2 = 0 then (some Y, (runM (clearFs Y.size n) D).1, 0) else (none, (runM (clearFs Y.size n) D).1, (runM (clearFs Y.size n) D).2)) := by
     rw [hn]
     unfold openM
     rw [if_neg (by simp [ho]), hres]
     exact if_neg (by rw [hz]; simp)
    generalize runM (clearFs Y.size n) D = res at *
    obtain ⟨D', e2⟩ := res
    refine P1 T.ok rfl rfl rfl ?_; refine WL_nil ?_; (with_reducible refine T_then ?_); refine W_seq ?_; refine W_seq ?_; refine W_region ?_; refine P1 T.ok rfl rfl rfl ?_; refine P1 T.ok rfl rfl rfl ?_; refine WL_nil ?_; (with_reducible refine T_then ?_)
    by_cases he : e2 = 0
    ·subst he
     refine W_no rfl rfl ?_
     refine W_skip ?_; (with_reducible refine T_then ?_); refine W_seq ?_; refine W_region ?_; (iterate 3 refine P1 T.ok rfl rfl rfl ?_); refine WL_nil ?_; (with_reducible refine T_then ?_)
     refine W_ret (ret2 rfl rfl rfl (RetS.intro le0 (openRes.yes (B := B) (pa := pa) (pc := pc) (hA.trans (if_pos rfl)) hok hdl hpl ?_)))
     have hj : St g0 g6 (jnO B.b 74 (.slice B.ra Y.recs.length B.rc) (.string (bs Y.head)) (.int .i64 (Y.size : Int)) A false :: (.row 9 1 (.slice B.ra Y.recs.length B.rc) Y.recs.length (strL Y.recs) :: (dkL ⟨A.b, A.bd, A.bv, pa, pc⟩ D' ++ L))) := hs.perm (List.perm_middle.cons _)
     exact hj
    ·refine W_yes (b := e2 != 0) (by simpa using he) rfl ?_
     refine W_seq ?_; refine W_region ?_; (iterate 3 refine P1 T.ok rfl rfl rfl ?_); refine WL_nil ?_; (with_reducible refine T_then ?_)
     refine W_ret (ret2 rfl rfl rfl (RetS.intro le0 (openRes.no (pa := pa) (pc := pc) (hA.trans (if_neg he)) hok hdl hpl ?_)))
     have hj : St g0 g6 (jnO B.b 74 (.slice B.ra Y.recs.length B.rc) (.string (bs Y.head)) (.int .i64 (Y.size : Int)) A false :: (.row 9 1 (.slice B.ra Y.recs.length B.rc) Y.recs.length (strL Y.recs) :: (dkL ⟨A.b, A.bd, A.bv, pa, pc⟩ D' ++ L))) := hs.perm (List.perm_middle.cons _)
     exact (hj.drop 0).drop 0
end Go.Proofs.YteohjgndanlldaaGreatDoor
