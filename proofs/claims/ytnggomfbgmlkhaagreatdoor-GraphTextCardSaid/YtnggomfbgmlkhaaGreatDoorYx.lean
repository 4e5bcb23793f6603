/- The walk through the reference's Same. -/
import Derived.Test.YtnggomfbgmlkhaaGreatDoorYq
import Derived.Laws.StructEq
import Derived.Test.YtnggomfbgmlkhaaGreatDoorYt

/- Equality of flows: plain, and of windows as values. -/
namespace Go.Proofs.YtnggomfbgmlkhaaGreatDoor
open Go Go.K
set_option maxRecDepth 10000
attribute [local irreducible] W WL OpR bitAnd bitOr bitXor bitClr bitNot shlI shrI
set_option maxHeartbeats 4000000

theorem OpR_eqAgg {F : Fence} {P : Program} {N : Nat} {ds : List Deferred} {l : Env} {w : World} {Q : Exit → Act → World → Prop} {o : Oper} {K : Value → World → Prop} {t t' : TypeId} {x y : Operand} {neg b : Bool} {xs ys : Array Value} (ho : o.op = .binOp (if neg then .neq else .eql) t x y t') (hx : ev l x = some (.agg xs)) (hy : ev l y = some (.agg ys))
  (hg : P.eqGuardType P.depth t = false) (he : (Op.equal t (.agg xs) (.agg ys)).run P w = .ok b w) (k : K (.bool (neg != b)) w) : OpR F P N ds o l w Q K := by
 refine OpR_value (fun c => ⟨by rw [ho]; simp, by rw [ho]; simp⟩) (fun a ha => ?_) k
 have hq : ∀ op, (eqGuard op t x y (.agg xs) (.agg ys)).run P w = .ok () w := fun op => by unfold eqGuard; split <;> simp [hg]
 have he' : (Op.equalIn 10000 t (.agg xs) (.agg ys)).run P w = .ok b w := he
 cases neg <;> simp [execOp, ho, ha.ev hx, ha.ev hy, hq, run_eql_struct, run_neq_struct, he']
theorem fieldsW : Tryz.prog.underlying 54 = some (.struct (Tryz.prog.fieldsOf 54)) := by kernel_rfl
theorem eqW (v u : Window) (w : World) : (Op.equal 54 (.agg #[.int .i64 v.src, .int .i64 v.dst, .int .i64 v.limit]) (.agg #[.int .i64 u.src, .int .i64 u.dst, .int .i64 u.limit])).run Tryz.prog w = .ok (v.src == u.src && v.dst == u.dst && v.limit == u.limit) w := by
 show (Op.equalIn (9999 + 1) _ _ _).run _ _ = _
 rw [run_equalIn_struct w 9999 _ _ _ fieldsW (by kernel_rfl)]
 have hf : ((Tryz.prog.fieldsOf 54).toList.map fun f => (f.name == "_", f.type, f.offset)) = [(false, 3, 0), (false, 3, 1), (false, 3, 2)] := by kernel_rfl
 generalize (Tryz.prog.fieldsOf 54).toList = fs at hf
 obtain ⟨f1, f2, f3, rfl⟩ : ∃ a b c, fs = [a, b, c] := by
  have hl := congrArg List.length hf
  rw [List.length_map] at hl
  match fs, hl with
  | [a, b, c], _ => exact ⟨a, b, c, rfl⟩
 ·simp only [List.map_cons, List.map_nil, List.cons.injEq, Prod.mk.injEq, and_true] at hf
  obtain ⟨⟨n1, t1, o1⟩, ⟨n2, t2, o2⟩, n3, t3, o3⟩ := hf
  have hsz : ∀ w : World, (sizeOf 3).run Tryz.prog w = .ok 1 w := fun w => by kernel_rfl
  have hi : Tryz.prog.underlying 3 = some (.int .i64) := by kernel_rfl
  have e1 : f1.name ≠ "_" := by simpa using n1
  have e2 : f2.name ≠ "_" := by simpa using n2
  have e3 : f3.name ≠ "_" := by simpa using n3
  simp only [Op.eqFields, e1, e2, e3, t1, t2, t3, o1, o2, o3, Sem.run_bind, if_true, ne_eq, not_false_eq_true]
  simp [go_sem, hsz, hi]
  repeat' split
  all_goals simp_all

def eqBy {α : Type} (p : α → α → Bool) : List α → List α → Bool
 | [], [] => true
 | x :: l, y :: m => p x y && eqBy p l m
 | _, _ => false
theorem eqBy_iff {α : Type} {p : α → α → Bool} (hp : ∀ x y, p x y = true ↔ x = y) : ∀ {l m : List α}, eqBy p l m = true ↔ l = m
 | [], [] => by simp [eqBy]
 | x :: l, y :: m => by simp [eqBy, hp, eqBy_iff hp]
 | [], _ :: _ => by simp [eqBy]
 | _ :: _, [] => by simp [eqBy]
theorem eqBy_len {α : Type} {p : α → α → Bool} : ∀ {l m : List α}, l.length ≠ m.length → eqBy p l m = false
 | [], [], h => absurd rfl h
 | x :: l, y :: m, h => by unfold eqBy; rw [eqBy_len (l := l) (m := m) (by simpa using h), Bool.and_false]
 | [], _ :: _, _ => rfl
 | _ :: _, [], _ => rfl
def sameW (v u : Window) : Bool := v.src == u.src && v.dst == u.dst && v.limit == u.limit
theorem sameW_iff (v u : Window) : sameW v u = true ↔ v = u := by
 unfold sameW
 cases v; cases u
 simp [and_assoc]
def sameI (a b : List Int) : Bool := decide (a = b)
def same5 (s t : Step) : Bool := s.recipe == t.recipe && s.min == t.min && s.max == t.max && s.back == t.back && s.limit == t.limit
def sameS (s t : Step) : Bool := same5 s t && sameI s.tools t.tools && sameI s.next t.next
theorem sameS_iff (s t : Step) : sameS s t = true ↔ s = t := by
 unfold sameS same5 sameI
 cases s; cases t
 simp
 constructor
 ·rintro ⟨⟨⟨⟨⟨⟨rfl, rfl⟩, rfl⟩, rfl⟩, rfl⟩, rfl⟩, rfl⟩; simp
 ·rintro ⟨rfl, rfl, rfl, rfl, rfl, rfl, rfl⟩; simp
def sameF (f h : Flow) : Bool := eqBy sameS f.steps h.steps && f.moveMin == h.moveMin && f.moveMax == h.moveMax && eqBy sameW f.windows h.windows
theorem sameF_iff (f h : Flow) : sameF f h = true ↔ f = h := by
 unfold sameF
 cases f; cases h
 simp only [Bool.and_eq_true, beq_iff_eq, eqBy_iff sameS_iff, eqBy_iff sameW_iff, Flow.mk.injEq]
 constructor
 ·rintro ⟨⟨⟨rfl, rfl⟩, rfl⟩, rfl⟩; exact ⟨rfl, rfl, rfl, rfl⟩
 ·rintro ⟨rfl, rfl, rfl, rfl⟩; exact ⟨⟨⟨rfl, rfl⟩, rfl⟩, rfl⟩
end Go.Proofs.YtnggomfbgmlkhaaGreatDoor

/- The reference's SameInts and Same. -/
namespace Go.Proofs.YtnggomfbgmlkhaaGreatDoor
open Go Go.K
set_option maxRecDepth 10000
attribute [local irreducible] W WL OpR bitAnd bitOr bitXor bitClr bitNot shlI shrI
set_option maxHeartbeats 8000000

def winP (w : Window) : Fact := ⟨fun v g => ∃ b p, v = .pointer (some ⟨b, p, none⟩) ∧ EP g b p (winV w), fun _ _ _ hf ⟨b, p, e, h⟩ => ⟨b, p, e, h.mono hf.le⟩⟩
theorem eqBy_drop {α : Type} {p : α → α → Bool} {l m : List α} {k : Nat} (h1 : k < l.length) (h2 : k < m.length) : eqBy p (l.drop k) (m.drop k) = (p l[k] m[k] && eqBy p (l.drop (k + 1)) (m.drop (k + 1))) := by
 rw [List.drop_eq_getElem_cons h1, List.drop_eq_getElem_cons h2]; rfl
theorem eqBy_end {α : Type} {p : α → α → Bool} {l m : List α} {k : Nat} (h1 : l.length ≤ k) (h2 : m.length ≤ k) : eqBy p (l.drop k) (m.drop k) = true := by
 rw [List.drop_of_length_le h1, List.drop_of_length_le h2]; rfl
theorem sameI_eqBy (l m : List Int) : eqBy (fun a b : Int => a == b) l m = sameI l m := by
 unfold sameI
 by_cases h : l = m
 ·subst h; simp only [decide_true]; exact (eqBy_iff fun x y => by simp).2 rfl
 ·rw [decide_eq_false h]
  cases hq : eqBy (fun a b : Int => a == b) l m with
  | false => rfl
  | true => exact absurd ((eqBy_iff fun x y => by simp).1 hq) h


theorem rsameInts_c (v u : Value) (l m : List Int) (g : G) (hv : Rs g v l) (hu : Rs g u m) : CallsIn Wd 0 Tryz.prog 36 #[v, u] g.w (Ret g fun _ r => r = .bool (sameI l m)) := by
 obtain ⟨a, c, rfl⟩ := hv.isSlice
 obtain ⟨a2, c2, rfl⟩ := hu.isSlice
 have h1 := hv.len_le
 have h2 := hu.len_le
 unfold maxLen at h1 h2
 have hs := St.start g
 refine enter Tryz.func36 rfl Tryz.ntmps36 rfl ?_
 rw [← sameI_eqBy]
 refine W_seq ?_; refine W_region ?_; refine P1 T.ok rfl rfl rfl ?_; refine WL_nil ?_; (with_reducible refine T_then ?_); refine W_seq ?_; refine W_seq ?_; refine W_region ?_; (iterate 5 refine P1 T.ok rfl rfl rfl ?_); refine WL_nil ?_; (with_reducible refine T_then ?_)
 by_cases hl : l.length = m.length
 ·refine W_no (b := _) ?_ rfl ?_
  ·simp [hl]
  refine W_skip ?_; (with_reducible refine T_then ?_); refine W_seq ?_; refine W_seq ?_; refine W_region ?_; refine P1 T.ok rfl rfl rfl ?_; refine WL_nil ?_; (with_reducible refine T_then ?_); refine W_block ?_
  refine W_loop (fun mm a' w => ∃ (k : Nat) (g' : G), w = g'.w ∧ St g g' [] ∧ G.le g g' ∧ k ≤ l.length ∧ mm = l.length - k ∧ eqBy (fun a b : Int => a == b) (l.drop k) (m.drop k) = eqBy (fun a b : Int => a == b) l m ∧
   Fr 26 [] [(0, .slice a l.length c), (1, .slice a2 m.length c2), (5, .int .i64 k)] a') l.length (fun a' ha => ⟨0, g, rfl, hs, G.le.refl g, Nat.zero_le _, rfl, rfl, ha.keep (by (repeat (first | exact trivial | refine ⟨rfl, ?_⟩)))⟩) ?_
  clear hs
  rintro mm a' _ ⟨k, g', rfl, hs, le0, hk, rfl, hno, ha'⟩
  have rs0 := hv.mono le0
  have rs1 := hu.mono le0
  revert a'
  (with_reducible refine T_wp ?_); refine W_seq ?_; refine W_seq ?_; refine W_region ?_; (iterate 4 refine P1 T.ok rfl rfl rfl ?_); refine WL_nil ?_; (with_reducible refine T_then ?_)
  by_cases hlt : k < l.length
  ·refine W_yes (b := decide ((k : Int) < (l.length : Int))) (by simp; omega) rfl ?_
   have hltm : k < m.length := by omega
   rw [eqBy_drop hlt hltm] at hno
   have hg1 : geti l (k : Int) = some l[k] := by simp [geti, hlt]
   have hg2 : geti m (k : Int) = some m[k] := by simp [geti, hltm]
   generalize l[k] = x at *
   generalize m[k] = y at *
   refine W_skip ?_; (with_reducible refine T_then ?_); refine W_seq ?_; refine W_block ?_; refine W_seq ?_
   apply W_draw allF rfl (Fact.eq _ :: Fact.eq _ :: (intPtr (x)) :: Fact.eq _ :: Fact.eq _ :: Fact.eq _ :: (intPtr (y)) :: Fact.eq _ :: Fact.eq _ :: []) 9 [(8, 25)] rfl rfl
   ·refine D_s (js := []) (by kernel_rfl) (fun _ _ => QA_nil (DPu T.ok rfl rfl rfl)) ?_
    refine D_s (js := []) (by kernel_rfl) (fun _ _ => QA_nil (DPu T.ok rfl rfl rfl)) ?_
    refine D_cons (D_step2 (js := [(0, 17), (1, 18)]) (by kernel_rfl) fun gd hf => ?_) ?_
    ·have hsd := hs.dr.call hf; have hfe := (G.le_dr _).trans hf.le
     refine QA_eq rfl ?_; refine QA_eq rfl ?_
     refine QA_nil ?_
     refine D_yes rfl ?_
     refine OpR_idx T.ok rfl (rs0.mono hfe) (y := x) hg1 rfl rfl rfl rfl rfl rfl ?_
     rintro b p ys hep rfl
     exact ⟨_, rfl, Fr0.refl _, b, p, rfl, hep⟩
    refine D_cons (D_step2 (js := [(2, 19)]) (by kernel_rfl) fun gd hf => ?_) ?_
    ·have hsd := hs.dr.call hf; have hfe := (G.le_dr _).trans hf.le
     refine QA_any fun v2 h2 => ?_
     refine QA_nil ?_
     obtain ⟨b, p, rfl, hep⟩ := h2
     refine D_yes rfl ?_
     refine OpR_loadE T.ok 0 rfl hep rfl rfl ?_
     refine ⟨_, rfl, Fr0.refl _, ?_⟩
     exact rfl
    refine D_s (js := []) (by kernel_rfl) (fun _ _ => QA_nil (DPu T.ok rfl rfl rfl)) ?_
    refine D_s (js := []) (by kernel_rfl) (fun _ _ => QA_nil (DPu T.ok rfl rfl rfl)) ?_
    refine D_cons (D_step2 (js := [(4, 21), (5, 22)]) (by kernel_rfl) fun gd hf => ?_) ?_
    ·have hsd := hs.dr.call hf; have hfe := (G.le_dr _).trans hf.le
     refine QA_eq rfl ?_; refine QA_eq rfl ?_
     refine QA_nil ?_
     refine D_yes rfl ?_
     refine OpR_idx T.ok rfl (rs1.mono hfe) (y := y) hg2 rfl rfl rfl rfl rfl rfl ?_
     rintro b p ys hep rfl
     exact ⟨_, rfl, Fr0.refl _, b, p, rfl, hep⟩
    refine D_cons (D_step2 (js := [(6, 23)]) (by kernel_rfl) fun gd hf => ?_) ?_
    ·have hsd := hs.dr.call hf; have hfe := (G.le_dr _).trans hf.le
     refine QA_any fun v6 h6 => ?_
     refine QA_nil ?_
     obtain ⟨b, p, rfl, hep⟩ := h6
     refine D_yes rfl ?_
     refine OpR_loadE T.ok 0 rfl hep rfl rfl ?_
     refine ⟨_, rfl, Fr0.refl _, ?_⟩
     exact rfl
    refine D_s (js := [(3, 20), (7, 24)]) (by kernel_rfl) (fun _ _ => QA_eq rfl (QA_eq rfl (QA_nil (DPu T.ok rfl rfl rfl)))) ?_
    exact D_nil
   intro g1 hf1; refine QA_eq rfl ?_; refine QA_nil ?_
   replace hs := hs.dr.call hf1; have hqe := (G.le_dr _).trans hf1.le; replace le0 := G.le.trans le0 hqe; replace rs0 := rs0.mono hqe; replace rs1 := rs1.mono hqe
   refine WL_nil ?_; (with_reducible refine T_then ?_)
   by_cases hxy : x = y
   ·subst hxy
    refine W_no (b := _) ?_ rfl ?_
    ·simp
    refine W_skip ?_; (with_reducible refine T_bn ?_); (with_reducible refine T_then ?_); refine W_region ?_; (iterate 3 refine P1 T.ok rfl rfl rfl ?_); refine WL_nil ?_
    refine fun a ha => ⟨l.length - (k + 1), by omega, k + 1, _, rfl, hs, le0, by omega, rfl, ?_, ha.keep ⟨rfl, rfl, kI rfl (by rw [wr (by omega) (by omega)]; omega), trivial⟩⟩
    rw [← hno]; simp
   ·refine W_yes (b := _) ?_ rfl ?_
    ·simp [hxy]
    refine W_seq ?_; refine W_region ?_; refine P1 T.ok rfl rfl rfl ?_; refine WL_nil ?_; (with_reducible refine T_then ?_)
    refine W_ret (ret1 rfl rfl (hs.ret ?_))
    rw [← hno]; simp [hxy]
  ·refine W_no (b := decide ((k : Int) < (l.length : Int))) (by simp; omega) rfl ?_
   refine W_exit ?_; (with_reducible refine T_tx ?_; with_reducible refine T_tx ?_); (with_reducible refine T_bx ?_); (with_reducible refine T_then ?_); refine W_seq ?_; refine W_region ?_; refine P1 T.ok rfl rfl rfl ?_; refine WL_nil ?_; (with_reducible refine T_then ?_)
   refine W_ret (ret1 rfl rfl (hs.ret ?_))
   rw [← hno, eqBy_end (by omega) (by omega)]
 ·refine W_yes (b := _) ?_ rfl ?_
  ·simp; omega
  refine W_seq ?_; refine W_region ?_; refine P1 T.ok rfl rfl rfl ?_; refine WL_nil ?_; (with_reducible refine T_then ?_)
  refine W_ret (ret1 rfl rfl (hs.ret ?_))
  rw [eqBy_len hl]


theorem sameS_parts (x y : Step) : sameS x y = (x.recipe == y.recipe && x.min == y.min && x.max == y.max && x.back == y.back && x.limit == y.limit && sameI x.tools y.tools && sameI x.next y.next) := rfl
theorem rsame_c (v u : Value) (f h : Flow) (g : G) (hv : RFlow g v f) (hu : RFlow g u h) : CallsIn Wd 0 Tryz.prog 12 #[v, u] g.w (Ret g fun _ r => r = .bool (sameF f h)) := by
 obtain ⟨a1, n1, c1, a2, n2, c2, rfl, rs0, rs1⟩ := hv
 obtain ⟨a3, n3, c3, a4, n4, c4, rfl, rs2, rs3⟩ := hu
 obtain ⟨_, _, e⟩ := rs0.isSlice; obtain ⟨rfl, rfl, rfl⟩ := Value.slice.inj e; clear e
 obtain ⟨_, _, e⟩ := rs1.isSlice; obtain ⟨rfl, rfl, rfl⟩ := Value.slice.inj e; clear e
 obtain ⟨_, _, e⟩ := rs2.isSlice; obtain ⟨rfl, rfl, rfl⟩ := Value.slice.inj e; clear e
 obtain ⟨_, _, e⟩ := rs3.isSlice; obtain ⟨rfl, rfl, rfl⟩ := Value.slice.inj e; clear e
 have hc0 := rs0.len_le; have hc1 := rs1.len_le
 unfold maxLen at hc0 hc1
 have hs := St.start g
 have le0 := G.le.refl g
 have hsame : sameF f h = (eqBy sameS f.steps h.steps && f.moveMin == h.moveMin && f.moveMax == h.moveMax && eqBy sameW f.windows h.windows) := rfl
 refine enter Tryz.func12 rfl Tryz.ntmps12 rfl ?_
 refine W_seq ?_; refine W_region ?_
 refine WL_o rfl rfl (OpR_box rfl hs rfl rfl ?_); clear hs; rintro bx g1 hs hqe; replace le0 := G.le.trans le0 hqe; replace rs0 := rs0.mono hqe; replace rs1 := rs1.mono hqe; replace rs2 := rs2.mono hqe; replace rs3 := rs3.mono hqe
 obtain ⟨g2, hw2, hs2, hqe, hep⟩ := hs.fzObj (i := 0) rfl; replace hs := hs2; clear hs2; rw [← hw2]; replace le0 := G.le.trans le0 hqe; replace rs0 := rs0.mono hqe; replace rs1 := rs1.mono hqe; replace rs2 := rs2.mono hqe; replace rs3 := rs3.mono hqe
 have ep0 := hep
 clear hep hw2 hqe
 skip
 refine WL_o rfl rfl (OpR_box rfl hs rfl rfl ?_); clear hs; rintro by1 g1 hs hqe; replace le0 := G.le.trans le0 hqe; replace ep0 := ep0.mono hqe; replace rs0 := rs0.mono hqe; replace rs1 := rs1.mono hqe; replace rs2 := rs2.mono hqe; replace rs3 := rs3.mono hqe
 obtain ⟨g2, hw2, hs2, hqe, hep⟩ := hs.fzObj (i := 0) rfl; replace hs := hs2; clear hs2; rw [← hw2]; replace le0 := G.le.trans le0 hqe; replace ep0 := ep0.mono hqe; replace rs0 := rs0.mono hqe; replace rs1 := rs1.mono hqe; replace rs2 := rs2.mono hqe; replace rs3 := rs3.mono hqe
 have ep1 := hep
 clear hep hw2 hqe
 refine P1 T.ok rfl rfl rfl ?_; refine WL_nil ?_; (with_reducible refine T_then ?_); refine W_seq ?_; refine W_seq ?_; refine W_region ?_; refine P1 T.ok rfl rfl rfl ?_; refine WL_o rfl rfl (OpR_loadE T.ok 0 rfl ep0 rfl rfl ?_); refine P1 T.ok rfl rfl rfl ?_; refine WL_o rfl rfl (OpR_loadE T.ok 0 rfl ep1 rfl rfl ?_); refine P1 T.ok rfl rfl rfl ?_; refine P1 T.ok rfl rfl rfl ?_
 cases e1 : (f.moveMin != h.moveMin) with
 | true =>
  (iterate 5 refine S1 allF rfl rfl ?_); refine P1 T.ok rfl rfl rfl ?_; refine P1 T.ok rfl rfl rfl ?_; (iterate 7 refine S1 allF rfl rfl ?_); refine P1 T.ok rfl rfl rfl ?_; refine P1 T.ok rfl rfl rfl ?_; (iterate 7 refine S1 allF rfl rfl ?_); refine P1 T.ok rfl rfl rfl ?_; refine WL_nil ?_; (with_reducible refine T_then ?_)
  refine W_yes rfl rfl ?_
  refine W_seq ?_; refine W_region ?_; refine P1 T.ok rfl rfl rfl ?_; refine WL_nil ?_; (with_reducible refine T_then ?_)
  refine W_ret (ret1 rfl rfl (hs.ret ?_))
  have : (f.moveMin == h.moveMin) = false := by simpa using e1
  rw [hsame, this]; simp
 | false =>
 have e1' : (f.moveMin == h.moveMin) = true := by simpa using e1
 refine P1 T.ok rfl rfl rfl ?_; refine WL_o rfl rfl (OpR_loadE T.ok 1 rfl ep0 rfl rfl ?_); refine P1 T.ok rfl rfl rfl ?_; refine WL_o rfl rfl (OpR_loadE T.ok 1 rfl ep1 rfl rfl ?_); (iterate 3 refine P1 T.ok rfl rfl rfl ?_)
 cases e2 : (f.moveMax != h.moveMax) with
 | true =>
  (iterate 7 refine S1 allF rfl rfl ?_); refine P1 T.ok rfl rfl rfl ?_; refine P1 T.ok rfl rfl rfl ?_; (iterate 7 refine S1 allF rfl rfl ?_); refine P1 T.ok rfl rfl rfl ?_; refine WL_nil ?_; (with_reducible refine T_then ?_)
  refine W_yes rfl rfl ?_
  refine W_seq ?_; refine W_region ?_; refine P1 T.ok rfl rfl rfl ?_; refine WL_nil ?_; (with_reducible refine T_then ?_)
  refine W_ret (ret1 rfl rfl (hs.ret ?_))
  have : (f.moveMax == h.moveMax) = false := by simpa using e2
  rw [hsame, this]; simp
 | false =>
 have e2' : (f.moveMax == h.moveMax) = true := by simpa using e2
 refine P1 T.ok rfl rfl rfl ?_; refine WL_o rfl rfl (OpR_loadE T.ok 2 rfl ep0 rfl rfl ?_); refine P1 T.ok rfl rfl rfl ?_; refine P1 T.ok rfl rfl rfl ?_; refine WL_o rfl rfl (OpR_loadE T.ok 2 rfl ep1 rfl rfl ?_); (iterate 4 refine P1 T.ok rfl rfl rfl ?_)
 cases e3 : ((f.steps.length : Int) != (h.steps.length : Int)) with
 | true =>
  (iterate 7 refine S1 allF rfl rfl ?_); refine P1 T.ok rfl rfl rfl ?_; refine WL_nil ?_; (with_reducible refine T_then ?_)
  refine W_yes rfl rfl ?_
  refine W_seq ?_; refine W_region ?_; refine P1 T.ok rfl rfl rfl ?_; refine WL_nil ?_; (with_reducible refine T_then ?_)
  refine W_ret (ret1 rfl rfl (hs.ret ?_))
  have : f.steps.length ≠ h.steps.length := by simp at e3; omega
  rw [hsame, eqBy_len this]; simp
 | false =>
 have e3' : f.steps.length = h.steps.length := by simp at e3; omega
 refine P1 T.ok rfl rfl rfl ?_; refine WL_o rfl rfl (OpR_loadE T.ok 3 rfl ep0 rfl rfl ?_); refine P1 T.ok rfl rfl rfl ?_; refine P1 T.ok rfl rfl rfl ?_; refine WL_o rfl rfl (OpR_loadE T.ok 3 rfl ep1 rfl rfl ?_); (iterate 3 refine P1 T.ok rfl rfl rfl ?_); refine WL_nil ?_; (with_reducible refine T_then ?_)
 cases e4 : ((f.windows.length : Int) != (h.windows.length : Int)) with
 | true =>
  skip
  refine W_yes rfl rfl ?_
  refine W_seq ?_; refine W_region ?_; refine P1 T.ok rfl rfl rfl ?_; refine WL_nil ?_; (with_reducible refine T_then ?_)
  refine W_ret (ret1 rfl rfl (hs.ret ?_))
  have : f.windows.length ≠ h.windows.length := by simp at e4; omega
  rw [hsame, eqBy_len this]; simp
 | false =>
 have e4' : f.windows.length = h.windows.length := by simp at e4; omega
 rw [e1', e2', Bool.and_true, Bool.and_true] at hsame
 refine W_no rfl rfl ?_
 refine W_skip ?_; (with_reducible refine T_then ?_); refine W_seq ?_; refine W_seq ?_; refine W_region ?_; refine P1 T.ok rfl rfl rfl ?_; refine WL_nil ?_; (with_reducible refine T_then ?_); refine W_block ?_
 have rs0c := rs0; have rs1c := rs1; have rs2c := rs2; have rs3c := rs3; have ep0c := ep0; have ep1c := ep1
 refine W_loop (fun m a' w => ∃ (k : Nat) (g4 : G), w = g4.w ∧ St g g4 [] ∧ G.le g2 g4 ∧ k ≤ f.steps.length ∧ m = f.steps.length - k ∧ eqBy sameS (f.steps.drop k) (h.steps.drop k) = eqBy sameS f.steps h.steps ∧
   Fr 123 [] [(2, .pointer (some ⟨bx, 0, none⟩)), (3, .pointer (some ⟨by1, 0, none⟩)), (5, .int .i64 k)] a') f.steps.length (fun a' ha => ⟨0, g2, rfl, hs, G.le.refl _, Nat.zero_le _, rfl, rfl, ha.keep (by (repeat (first | exact trivial | refine ⟨rfl, ?_⟩)))⟩) ?_
 clear hs le0 rs0 rs1 rs2 rs3 ep0 ep1
 rintro m a' _ ⟨k, g4, rfl, hs, le8, hk, rfl, hno, ha'⟩
 have rs0 := rs0c.mono le8
 have rs1 := rs1c.mono le8
 have rs2 := rs2c.mono le8
 have rs3 := rs3c.mono le8
 have ep0 := ep0c.mono le8
 have ep1 := ep1c.mono le8
 revert a'
 (with_reducible refine T_wp ?_); refine W_seq ?_; refine W_seq ?_; refine W_region ?_; refine P1 T.ok rfl rfl rfl ?_; refine P1 T.ok rfl rfl rfl ?_; refine WL_o rfl rfl (OpR_loadE T.ok 2 rfl ep0 rfl rfl ?_); refine P1 T.ok rfl rfl rfl ?_; refine P1 T.ok rfl rfl rfl ?_; refine WL_nil ?_; (with_reducible refine T_then ?_)
 by_cases hlt : k < f.steps.length
 ·refine W_yes (b := _) ?_ rfl ?_
  ·simp; omega
  have hlt2 : k < h.steps.length := by omega
  rw [eqBy_drop hlt hlt2] at hno
  have hg1 : geti f.steps (k : Int) = some f.steps[k] := by simp [geti, hlt]
  have hg2 : geti h.steps (k : Int) = some h.steps[k] := by simp [geti, hlt2]
  generalize f.steps[k] = x at *
  generalize h.steps[k] = y at *
  refine W_skip ?_; (with_reducible refine T_then ?_); refine W_seq ?_; refine W_block ?_; refine W_seq ?_; refine W_region ?_; refine P1 T.ok rfl rfl rfl ?_; refine WL_o rfl rfl (OpR_loadE T.ok 2 rfl ep0 rfl rfl ?_); refine P1 T.ok rfl rfl rfl ?_
  refine WL_o rfl rfl (OpR_idx T.ok rfl rs0 (y := x) hg1 rfl rfl rfl rfl rfl rfl ?_)
  rintro bq pq ys hep ⟨xa, xn, xc, na, nn, nc, rfl, rs4, rs5⟩
  refine WL_o rfl rfl (OpR_loadE T.ok 0 rfl hep rfl rfl ?_)
  skip
  refine WL_o rfl rfl (OpR_alloc T.ok rfl hs rfl rfl ?_); clear hs; rintro b6 g1 hs hqe; replace le8 := G.le.trans le8 hqe; replace ep0 := ep0.mono hqe; replace ep1 := ep1.mono hqe; replace rs0 := rs0.mono hqe; replace rs1 := rs1.mono hqe; replace rs2 := rs2.mono hqe; replace rs3 := rs3.mono hqe; replace rs4 := rs4.mono hqe; replace rs5 := rs5.mono hqe
  skip
  refine WL_n rfl (OpR_storeO T.ok 0 rfl hs rfl rfl rfl rfl rfl rfl rfl rfl rfl ?_); replace hs := hs; rintro g1 hs hqe; replace le8 := G.le.trans le8 hqe; replace ep0 := ep0.mono hqe; replace ep1 := ep1.mono hqe; replace rs0 := rs0.mono hqe; replace rs1 := rs1.mono hqe; replace rs2 := rs2.mono hqe; replace rs3 := rs3.mono hqe; replace rs4 := rs4.mono hqe; replace rs5 := rs5.mono hqe
  refine WL_nil ?_; (with_reducible refine T_then ?_); refine W_seq ?_; refine W_region ?_; refine P1 T.ok rfl rfl rfl ?_; refine WL_o rfl rfl (OpR_loadE T.ok 2 rfl ep1 rfl rfl ?_); refine P1 T.ok rfl rfl rfl ?_
  refine WL_o rfl rfl (OpR_idx T.ok rfl rs2 (y := y) hg2 rfl rfl rfl rfl rfl rfl ?_)
  rintro bq pq ys hep ⟨ya, yn, yc, ma, mn, mc, rfl, rs6, rs7⟩
  refine WL_o rfl rfl (OpR_loadE T.ok 0 rfl hep rfl rfl ?_)
  skip
  refine WL_o rfl rfl (OpR_alloc T.ok rfl hs rfl rfl ?_); clear hs; rintro b7 g1 hs hqe; replace le8 := G.le.trans le8 hqe; replace ep0 := ep0.mono hqe; replace ep1 := ep1.mono hqe; replace rs0 := rs0.mono hqe; replace rs1 := rs1.mono hqe; replace rs2 := rs2.mono hqe; replace rs3 := rs3.mono hqe; replace rs4 := rs4.mono hqe; replace rs5 := rs5.mono hqe; replace rs6 := rs6.mono hqe; replace rs7 := rs7.mono hqe
  skip
  refine WL_n rfl (OpR_storeO T.ok 0 rfl hs rfl rfl rfl rfl rfl rfl rfl rfl rfl ?_); replace hs := hs; rintro g1 hs hqe; replace le8 := G.le.trans le8 hqe; replace ep0 := ep0.mono hqe; replace ep1 := ep1.mono hqe; replace rs0 := rs0.mono hqe; replace rs1 := rs1.mono hqe; replace rs2 := rs2.mono hqe; replace rs3 := rs3.mono hqe; replace rs4 := rs4.mono hqe; replace rs5 := rs5.mono hqe; replace rs6 := rs6.mono hqe; replace rs7 := rs7.mono hqe
  have hxs : sameS x y = _ := sameS_parts x y
  refine WL_nil ?_; (with_reducible refine T_then ?_); refine W_seq ?_; refine W_region ?_; refine P1 T.ok rfl rfl rfl ?_; refine WL_o rfl rfl (OpR_loadO T.ok 1 rfl hs rfl rfl rfl ?_); refine P1 T.ok rfl rfl rfl ?_; refine WL_o rfl rfl (OpR_loadO T.ok 0 rfl hs rfl rfl rfl ?_); refine P1 T.ok rfl rfl rfl ?_; refine P1 T.ok rfl rfl rfl ?_
  cases d1 : (x.recipe != y.recipe) with
  | true =>
   have d1' : (x.recipe == y.recipe) = false := by simpa using d1
   rw [d1'] at hxs
   simp only [Bool.false_and, Bool.and_false] at hxs
   (iterate 5 refine S1 allF rfl rfl ?_); refine P1 T.ok rfl rfl rfl ?_; refine P1 T.ok rfl rfl rfl ?_; (iterate 5 refine S1 allF rfl rfl ?_); refine P1 T.ok rfl rfl rfl ?_; refine P1 T.ok rfl rfl rfl ?_; (iterate 5 refine S1 allF rfl rfl ?_); refine P1 T.ok rfl rfl rfl ?_; refine P1 T.ok rfl rfl rfl ?_; (iterate 5 refine S1 allF rfl rfl ?_); refine P1 T.ok rfl rfl rfl ?_; refine P1 T.ok rfl rfl rfl ?_; (iterate 6 refine S1 allF rfl rfl ?_); refine P1 T.ok rfl rfl rfl ?_; refine P1 T.ok rfl rfl rfl ?_; (iterate 6 refine S1 allF rfl rfl ?_); refine P1 T.ok rfl rfl rfl ?_; refine WL_nil ?_; (with_reducible refine T_then ?_)
   refine W_yes rfl rfl ?_
   refine W_seq ?_; refine W_region ?_; refine P1 T.ok rfl rfl rfl ?_; refine WL_nil ?_; (with_reducible refine T_then ?_)
   refine W_ret (ret1 rfl rfl (hs.ret ?_))
   rw [hsame, ← hno, hxs, Bool.false_and]; simp
  | false =>
  have d1' : (x.recipe == y.recipe) = true := by simpa using d1
  refine P1 T.ok rfl rfl rfl ?_; refine WL_o rfl rfl (OpR_loadO T.ok 1 rfl hs rfl rfl rfl ?_); refine P1 T.ok rfl rfl rfl ?_; refine WL_o rfl rfl (OpR_loadO T.ok 0 rfl hs rfl rfl rfl ?_); (iterate 3 refine P1 T.ok rfl rfl rfl ?_)
  cases d2 : (x.min != y.min) with
  | true =>
   have d2' : (x.min == y.min) = false := by simpa using d2
   rw [d2'] at hxs
   simp only [Bool.false_and, Bool.and_false] at hxs
   (iterate 5 refine S1 allF rfl rfl ?_); refine P1 T.ok rfl rfl rfl ?_; refine P1 T.ok rfl rfl rfl ?_; (iterate 5 refine S1 allF rfl rfl ?_); refine P1 T.ok rfl rfl rfl ?_; refine P1 T.ok rfl rfl rfl ?_; (iterate 5 refine S1 allF rfl rfl ?_); refine P1 T.ok rfl rfl rfl ?_; refine P1 T.ok rfl rfl rfl ?_; (iterate 6 refine S1 allF rfl rfl ?_); refine P1 T.ok rfl rfl rfl ?_; refine P1 T.ok rfl rfl rfl ?_; (iterate 6 refine S1 allF rfl rfl ?_); refine P1 T.ok rfl rfl rfl ?_; refine WL_nil ?_; (with_reducible refine T_then ?_)
   refine W_yes rfl rfl ?_
   refine W_seq ?_; refine W_region ?_; refine P1 T.ok rfl rfl rfl ?_; refine WL_nil ?_; (with_reducible refine T_then ?_)
   refine W_ret (ret1 rfl rfl (hs.ret ?_))
   rw [hsame, ← hno, hxs, Bool.false_and]; simp
  | false =>
  have d2' : (x.min == y.min) = true := by simpa using d2
  refine P1 T.ok rfl rfl rfl ?_; refine WL_o rfl rfl (OpR_loadO T.ok 1 rfl hs rfl rfl rfl ?_); refine P1 T.ok rfl rfl rfl ?_; refine WL_o rfl rfl (OpR_loadO T.ok 0 rfl hs rfl rfl rfl ?_); (iterate 3 refine P1 T.ok rfl rfl rfl ?_)
  cases d3 : (x.max != y.max) with
  | true =>
   have d3' : (x.max == y.max) = false := by simpa using d3
   rw [d3'] at hxs
   simp only [Bool.false_and, Bool.and_false] at hxs
   (iterate 5 refine S1 allF rfl rfl ?_); refine P1 T.ok rfl rfl rfl ?_; refine P1 T.ok rfl rfl rfl ?_; (iterate 5 refine S1 allF rfl rfl ?_); refine P1 T.ok rfl rfl rfl ?_; refine P1 T.ok rfl rfl rfl ?_; (iterate 6 refine S1 allF rfl rfl ?_); refine P1 T.ok rfl rfl rfl ?_; refine P1 T.ok rfl rfl rfl ?_; (iterate 6 refine S1 allF rfl rfl ?_); refine P1 T.ok rfl rfl rfl ?_; refine WL_nil ?_; (with_reducible refine T_then ?_)
   refine W_yes rfl rfl ?_
   refine W_seq ?_; refine W_region ?_; refine P1 T.ok rfl rfl rfl ?_; refine WL_nil ?_; (with_reducible refine T_then ?_)
   refine W_ret (ret1 rfl rfl (hs.ret ?_))
   rw [hsame, ← hno, hxs, Bool.false_and]; simp
  | false =>
  have d3' : (x.max == y.max) = true := by simpa using d3
  refine P1 T.ok rfl rfl rfl ?_; refine WL_o rfl rfl (OpR_loadO T.ok 1 rfl hs rfl rfl rfl ?_); refine P1 T.ok rfl rfl rfl ?_; refine WL_o rfl rfl (OpR_loadO T.ok 0 rfl hs rfl rfl rfl ?_); (iterate 3 refine P1 T.ok rfl rfl rfl ?_)
  cases d4 : (x.back != y.back) with
  | true =>
   have d4' : (x.back == y.back) = false := by simpa using d4
   rw [d4'] at hxs
   simp only [Bool.false_and, Bool.and_false] at hxs
   (iterate 5 refine S1 allF rfl rfl ?_); refine P1 T.ok rfl rfl rfl ?_; refine P1 T.ok rfl rfl rfl ?_; (iterate 6 refine S1 allF rfl rfl ?_); refine P1 T.ok rfl rfl rfl ?_; refine P1 T.ok rfl rfl rfl ?_; (iterate 6 refine S1 allF rfl rfl ?_); refine P1 T.ok rfl rfl rfl ?_; refine WL_nil ?_; (with_reducible refine T_then ?_)
   refine W_yes rfl rfl ?_
   refine W_seq ?_; refine W_region ?_; refine P1 T.ok rfl rfl rfl ?_; refine WL_nil ?_; (with_reducible refine T_then ?_)
   refine W_ret (ret1 rfl rfl (hs.ret ?_))
   rw [hsame, ← hno, hxs, Bool.false_and]; simp
  | false =>
  have d4' : (x.back == y.back) = true := by simpa using d4
  refine P1 T.ok rfl rfl rfl ?_; refine WL_o rfl rfl (OpR_loadO T.ok 1 rfl hs rfl rfl rfl ?_); refine P1 T.ok rfl rfl rfl ?_; refine WL_o rfl rfl (OpR_loadO T.ok 0 rfl hs rfl rfl rfl ?_); (iterate 3 refine P1 T.ok rfl rfl rfl ?_)
  cases d5 : (x.limit != y.limit) with
  | true =>
   have d5' : (x.limit == y.limit) = false := by simpa using d5
   rw [d5'] at hxs
   simp only [Bool.false_and, Bool.and_false] at hxs
   (iterate 6 refine S1 allF rfl rfl ?_); refine P1 T.ok rfl rfl rfl ?_; refine P1 T.ok rfl rfl rfl ?_; (iterate 6 refine S1 allF rfl rfl ?_); refine P1 T.ok rfl rfl rfl ?_; refine WL_nil ?_; (with_reducible refine T_then ?_)
   refine W_yes rfl rfl ?_
   refine W_seq ?_; refine W_region ?_; refine P1 T.ok rfl rfl rfl ?_; refine WL_nil ?_; (with_reducible refine T_then ?_)
   refine W_ret (ret1 rfl rfl (hs.ret ?_))
   rw [hsame, ← hno, hxs, Bool.false_and]; simp
  | false =>
  have d5' : (x.limit == y.limit) = true := by simpa using d5
  rw [d1', d2', d3', d4', d5'] at hxs
  simp only [Bool.true_and] at hxs
  refine P1 T.ok rfl rfl rfl ?_; refine WL_o rfl rfl (OpR_loadO T.ok 1 rfl hs rfl rfl rfl ?_); refine P1 T.ok rfl rfl rfl ?_; refine WL_o rfl rfl (OpR_loadO T.ok 0 rfl hs rfl rfl rfl ?_)
  refine WL_o rfl rfl (OpR_ret cl36 allF rfl rfl rfl rfl rfl (rsameInts_c _ _ x.tools y.tools _ rs4 rs6) ?_); rintro g1 _ hf1 rfl; replace hs := hs.call hf1; have hqe := hf1.le; replace le8 := G.le.trans le8 hqe; replace ep0 := ep0.mono hqe; replace ep1 := ep1.mono hqe; replace rs0 := rs0.mono hqe; replace rs1 := rs1.mono hqe; replace rs2 := rs2.mono hqe; replace rs3 := rs3.mono hqe; replace rs4 := rs4.mono hqe; replace rs5 := rs5.mono hqe; replace rs6 := rs6.mono hqe; replace rs7 := rs7.mono hqe
  (iterate 3 refine P1 T.ok rfl rfl rfl ?_)
  cases d6 : sameI x.tools y.tools with
  | false =>
   rw [d6, Bool.false_and] at hxs
   (iterate 6 refine S1 allF rfl rfl ?_); refine P1 T.ok rfl rfl rfl ?_; refine WL_nil ?_; (with_reducible refine T_then ?_)
   refine W_yes rfl rfl ?_
   refine W_seq ?_; refine W_region ?_; refine P1 T.ok rfl rfl rfl ?_; refine WL_nil ?_; (with_reducible refine T_then ?_)
   refine W_ret (ret1 rfl rfl (hs.ret ?_))
   rw [hsame, ← hno, hxs, Bool.false_and]; simp
  | true =>
  rw [d6, Bool.true_and] at hxs
  refine P1 T.ok rfl rfl rfl ?_; refine WL_o rfl rfl (OpR_loadO T.ok 1 rfl hs rfl rfl rfl ?_); refine P1 T.ok rfl rfl rfl ?_; refine WL_o rfl rfl (OpR_loadO T.ok 0 rfl hs rfl rfl rfl ?_)
  refine WL_o rfl rfl (OpR_ret cl36 allF rfl rfl rfl rfl rfl (rsameInts_c _ _ x.next y.next _ rs5 rs7) ?_); rintro g1 _ hf1 rfl; replace hs := hs.call hf1; have hqe := hf1.le; replace le8 := G.le.trans le8 hqe; replace ep0 := ep0.mono hqe; replace ep1 := ep1.mono hqe; replace rs0 := rs0.mono hqe; replace rs1 := rs1.mono hqe; replace rs2 := rs2.mono hqe; replace rs3 := rs3.mono hqe; replace rs4 := rs4.mono hqe; replace rs5 := rs5.mono hqe; replace rs6 := rs6.mono hqe; replace rs7 := rs7.mono hqe
  refine P1 T.ok rfl rfl rfl ?_; refine P1 T.ok rfl rfl rfl ?_; refine WL_nil ?_; (with_reducible refine T_then ?_)
  cases d7 : sameI x.next y.next with
  | false =>
   rw [d7] at hxs
   skip
   refine W_yes rfl rfl ?_
   refine W_seq ?_; refine W_region ?_; refine P1 T.ok rfl rfl rfl ?_; refine WL_nil ?_; (with_reducible refine T_then ?_)
   refine W_ret (ret1 rfl rfl (hs.ret ?_))
   rw [hsame, ← hno, hxs, Bool.false_and]; simp
  | true =>
  rw [d7] at hxs
  rw [hxs, Bool.true_and] at hno
  refine W_no rfl rfl ?_
  replace hs := hs.tail (M := [_, _])
  refine W_skip ?_; (with_reducible refine T_bn ?_); (with_reducible refine T_then ?_); refine W_region ?_; (iterate 3 refine P1 T.ok rfl rfl rfl ?_); refine WL_nil ?_
  exact fun a ha => ⟨f.steps.length - (k + 1), by omega, k + 1, _, rfl, hs, le8, by omega, rfl, hno, ha.keep ⟨rfl, rfl, kI rfl (by rw [wr (by omega) (by omega)]; omega), trivial⟩⟩
 ·refine W_no (b := _) ?_ rfl ?_
  ·simp; omega
  rw [eqBy_end (by omega) (by omega)] at hno
  rw [← hno, Bool.true_and] at hsame
  clear hno
  refine W_exit ?_; (with_reducible refine T_tx ?_; with_reducible refine T_tx ?_); (with_reducible refine T_bx ?_); (with_reducible refine T_then ?_); refine W_seq ?_; refine W_seq ?_; refine W_region ?_; refine P1 T.ok rfl rfl rfl ?_; refine WL_nil ?_; (with_reducible refine T_then ?_); refine W_block ?_
  have rs1d := rs1; have rs3d := rs3; have ep0d := ep0; have ep1d := ep1
  refine W_loop (fun m a' w => ∃ (k : Nat) (g5 : G), w = g5.w ∧ St g g5 [] ∧ G.le g4 g5 ∧ k ≤ f.windows.length ∧ m = f.windows.length - k ∧ eqBy sameW (f.windows.drop k) (h.windows.drop k) = eqBy sameW f.windows h.windows ∧
    Fr 123 [] [(2, .pointer (some ⟨bx, 0, none⟩)), (3, .pointer (some ⟨by1, 0, none⟩)), (8, .int .i64 k)] a') f.windows.length (fun a' ha => ⟨0, g4, rfl, hs, G.le.refl _, Nat.zero_le _, rfl, rfl, ha.keep (by (repeat (first | exact trivial | refine ⟨rfl, ?_⟩)))⟩) ?_
  clear hs le8 rs0 rs1 rs2 rs3 ep0 ep1 hlt hk
  rintro m a' _ ⟨k, g5, rfl, hs, le8, hk, rfl, hno, ha'⟩
  have rs1 := rs1d.mono le8
  have rs3 := rs3d.mono le8
  have ep0 := ep0d.mono le8
  have ep1 := ep1d.mono le8
  revert a'
  (with_reducible refine T_wp ?_); refine W_seq ?_; refine W_seq ?_; refine W_region ?_; refine P1 T.ok rfl rfl rfl ?_; refine P1 T.ok rfl rfl rfl ?_; refine WL_o rfl rfl (OpR_loadE T.ok 3 rfl ep0 rfl rfl ?_); refine P1 T.ok rfl rfl rfl ?_; refine P1 T.ok rfl rfl rfl ?_; refine WL_nil ?_; (with_reducible refine T_then ?_)
  by_cases hlt : k < f.windows.length
  ·refine W_yes (b := _) ?_ rfl ?_
   ·simp; omega
   have hlt2 : k < h.windows.length := by omega
   rw [eqBy_drop hlt hlt2] at hno
   have hg1 : geti f.windows (k : Int) = some f.windows[k] := by simp [geti, hlt]
   have hg2 : geti h.windows (k : Int) = some h.windows[k] := by simp [geti, hlt2]
   generalize f.windows[k] = x at *
   generalize h.windows[k] = y at *
   cases d1 : sameW x y with
   | true =>
    rw [d1, Bool.true_and] at hno
    refine W_skip ?_; (with_reducible refine T_then ?_); refine W_seq ?_; refine W_block ?_; refine W_seq ?_
    apply W_draw allF rfl (Fact.eq _ :: Fact.eq _ :: Fact.eq _ :: (winP (x)) :: Fact.eq _ :: Fact.eq _ :: Fact.eq _ :: Fact.eq _ :: (winP (y)) :: Fact.eq _ :: Fact.eq _ :: []) 11 [(10, 122)] rfl rfl
    ·refine D_s (js := []) (by kernel_rfl) (fun _ _ => QA_nil (DPu T.ok rfl rfl rfl)) ?_
     refine D_s (js := [(0, 112)]) (by kernel_rfl) (fun _ hf => QA_eq rfl (QA_nil (DLe T.ok 3 rfl rfl (ep0.mono ((G.le_dr _).trans hf.le)) rfl rfl rfl))) ?_
     refine D_s (js := []) (by kernel_rfl) (fun _ _ => QA_nil (DPu T.ok rfl rfl rfl)) ?_
     refine D_cons (D_step2 (js := [(1, 113), (2, 114)]) (by kernel_rfl) fun gd hf => ?_) ?_
     ·have hsd := hs.dr.call hf; have hfe := (G.le_dr _).trans hf.le
      refine QA_eq rfl ?_; refine QA_eq rfl ?_
      refine QA_nil ?_
      refine D_yes rfl ?_
      refine OpR_idx T.ok rfl (rs1.mono hfe) (y := x) hg1 rfl rfl rfl rfl rfl rfl ?_
      rintro b p ys hep rfl
      exact ⟨_, rfl, Fr0.refl _, b, p, rfl, hep⟩
     refine D_cons (D_step2 (js := [(3, 115)]) (by kernel_rfl) fun gd hf => ?_) ?_
     ·have hsd := hs.dr.call hf; have hfe := (G.le_dr _).trans hf.le
      refine QA_any fun v3 h3 => ?_
      refine QA_nil ?_
      obtain ⟨b, p, rfl, hep⟩ := h3
      refine D_yes rfl ?_
      refine OpR_loadE T.ok 0 rfl hep rfl rfl ?_
      refine ⟨_, rfl, Fr0.refl _, ?_⟩
      exact rfl
     refine D_s (js := []) (by kernel_rfl) (fun _ _ => QA_nil (DPu T.ok rfl rfl rfl)) ?_
     refine D_s (js := [(5, 117)]) (by kernel_rfl) (fun _ hf => QA_eq rfl (QA_nil (DLe T.ok 3 rfl rfl (ep1.mono ((G.le_dr _).trans hf.le)) rfl rfl rfl))) ?_
     refine D_s (js := []) (by kernel_rfl) (fun _ _ => QA_nil (DPu T.ok rfl rfl rfl)) ?_
     refine D_cons (D_step2 (js := [(6, 118), (7, 119)]) (by kernel_rfl) fun gd hf => ?_) ?_
     ·have hsd := hs.dr.call hf; have hfe := (G.le_dr _).trans hf.le
      refine QA_eq rfl ?_; refine QA_eq rfl ?_
      refine QA_nil ?_
      refine D_yes rfl ?_
      refine OpR_idx T.ok rfl (rs3.mono hfe) (y := y) hg2 rfl rfl rfl rfl rfl rfl ?_
      rintro b p ys hep rfl
      exact ⟨_, rfl, Fr0.refl _, b, p, rfl, hep⟩
     refine D_cons (D_step2 (js := [(8, 120)]) (by kernel_rfl) fun gd hf => ?_) ?_
     ·have hsd := hs.dr.call hf; have hfe := (G.le_dr _).trans hf.le
      refine QA_any fun v8 h8 => ?_
      refine QA_nil ?_
      obtain ⟨b, p, rfl, hep⟩ := h8
      refine D_yes rfl ?_
      refine OpR_loadE T.ok 0 rfl hep rfl rfl ?_
      refine ⟨_, rfl, Fr0.refl _, ?_⟩
      exact rfl
     refine D_cons (D_step2 (js := [(4, 116), (9, 121)]) (by kernel_rfl) fun gd hf => ?_) ?_
     ·have hsd := hs.dr.call hf; have hfe := (G.le_dr _).trans hf.le
      refine QA_eq rfl ?_; refine QA_eq rfl ?_
      refine QA_nil ?_
      refine D_yes rfl ?_
      refine OpR_eqAgg (neg := true) rfl rfl rfl (by kernel_rfl) (eqW x y _) ?_
      refine ⟨_, rfl, Fr0.refl _, ?_⟩
      exact congrArg Value.bool (show _ = false from by rw [show (x.src == y.src && x.dst == y.dst && x.limit == y.limit) = true from d1]; rfl)
     exact D_nil
    intro g1 hf1; refine QA_eq rfl ?_; refine QA_nil ?_
    replace hs := hs.dr.call hf1; have hqe := (G.le_dr _).trans hf1.le; replace le8 := G.le.trans le8 hqe; replace ep0 := ep0.mono hqe; replace ep1 := ep1.mono hqe; replace rs1 := rs1.mono hqe; replace rs3 := rs3.mono hqe
    refine WL_nil ?_; (with_reducible refine T_then ?_)
    refine W_no rfl rfl ?_
    refine W_skip ?_; (with_reducible refine T_bn ?_); (with_reducible refine T_then ?_); refine W_region ?_; (iterate 3 refine P1 T.ok rfl rfl rfl ?_); refine WL_nil ?_
    exact fun a ha => ⟨f.windows.length - (k + 1), by omega, k + 1, _, rfl, hs, le8, by omega, rfl, hno, ha.keep ⟨rfl, rfl, kI rfl (by rw [wr (by omega) (by omega)]; omega), trivial⟩⟩
   | false =>
    rw [d1, Bool.false_and] at hno
    refine W_skip ?_; (with_reducible refine T_then ?_); refine W_seq ?_; refine W_block ?_; refine W_seq ?_
    apply W_draw allF rfl (Fact.eq _ :: Fact.eq _ :: Fact.eq _ :: (winP (x)) :: Fact.eq _ :: Fact.eq _ :: Fact.eq _ :: Fact.eq _ :: (winP (y)) :: Fact.eq _ :: Fact.eq _ :: []) 11 [(10, 122)] rfl rfl
    ·refine D_s (js := []) (by kernel_rfl) (fun _ _ => QA_nil (DPu T.ok rfl rfl rfl)) ?_
     refine D_s (js := [(0, 112)]) (by kernel_rfl) (fun _ hf => QA_eq rfl (QA_nil (DLe T.ok 3 rfl rfl (ep0.mono ((G.le_dr _).trans hf.le)) rfl rfl rfl))) ?_
     refine D_s (js := []) (by kernel_rfl) (fun _ _ => QA_nil (DPu T.ok rfl rfl rfl)) ?_
     refine D_cons (D_step2 (js := [(1, 113), (2, 114)]) (by kernel_rfl) fun gd hf => ?_) ?_
     ·have hsd := hs.dr.call hf; have hfe := (G.le_dr _).trans hf.le
      refine QA_eq rfl ?_; refine QA_eq rfl ?_
      refine QA_nil ?_
      refine D_yes rfl ?_
      refine OpR_idx T.ok rfl (rs1.mono hfe) (y := x) hg1 rfl rfl rfl rfl rfl rfl ?_
      rintro b p ys hep rfl
      exact ⟨_, rfl, Fr0.refl _, b, p, rfl, hep⟩
     refine D_cons (D_step2 (js := [(3, 115)]) (by kernel_rfl) fun gd hf => ?_) ?_
     ·have hsd := hs.dr.call hf; have hfe := (G.le_dr _).trans hf.le
      refine QA_any fun v3 h3 => ?_
      refine QA_nil ?_
      obtain ⟨b, p, rfl, hep⟩ := h3
      refine D_yes rfl ?_
      refine OpR_loadE T.ok 0 rfl hep rfl rfl ?_
      refine ⟨_, rfl, Fr0.refl _, ?_⟩
      exact rfl
     refine D_s (js := []) (by kernel_rfl) (fun _ _ => QA_nil (DPu T.ok rfl rfl rfl)) ?_
     refine D_s (js := [(5, 117)]) (by kernel_rfl) (fun _ hf => QA_eq rfl (QA_nil (DLe T.ok 3 rfl rfl (ep1.mono ((G.le_dr _).trans hf.le)) rfl rfl rfl))) ?_
     refine D_s (js := []) (by kernel_rfl) (fun _ _ => QA_nil (DPu T.ok rfl rfl rfl)) ?_
     refine D_cons (D_step2 (js := [(6, 118), (7, 119)]) (by kernel_rfl) fun gd hf => ?_) ?_
     ·have hsd := hs.dr.call hf; have hfe := (G.le_dr _).trans hf.le
      refine QA_eq rfl ?_; refine QA_eq rfl ?_
      refine QA_nil ?_
      refine D_yes rfl ?_
      refine OpR_idx T.ok rfl (rs3.mono hfe) (y := y) hg2 rfl rfl rfl rfl rfl rfl ?_
      rintro b p ys hep rfl
      exact ⟨_, rfl, Fr0.refl _, b, p, rfl, hep⟩
     refine D_cons (D_step2 (js := [(8, 120)]) (by kernel_rfl) fun gd hf => ?_) ?_
     ·have hsd := hs.dr.call hf; have hfe := (G.le_dr _).trans hf.le
      refine QA_any fun v8 h8 => ?_
      refine QA_nil ?_
      obtain ⟨b, p, rfl, hep⟩ := h8
      refine D_yes rfl ?_
      refine OpR_loadE T.ok 0 rfl hep rfl rfl ?_
      refine ⟨_, rfl, Fr0.refl _, ?_⟩
      exact rfl
     refine D_cons (D_step2 (js := [(4, 116), (9, 121)]) (by kernel_rfl) fun gd hf => ?_) ?_
     ·have hsd := hs.dr.call hf; have hfe := (G.le_dr _).trans hf.le
      refine QA_eq rfl ?_; refine QA_eq rfl ?_
      refine QA_nil ?_
      refine D_yes rfl ?_
      refine OpR_eqAgg (neg := true) rfl rfl rfl (by kernel_rfl) (eqW x y _) ?_
      refine ⟨_, rfl, Fr0.refl _, ?_⟩
      exact congrArg Value.bool (show _ = true from by rw [show (x.src == y.src && x.dst == y.dst && x.limit == y.limit) = false from d1]; rfl)
     exact D_nil
    intro g1 hf1; refine QA_eq rfl ?_; refine QA_nil ?_
    replace hs := hs.dr.call hf1; have hqe := (G.le_dr _).trans hf1.le; replace le8 := G.le.trans le8 hqe; replace ep0 := ep0.mono hqe; replace ep1 := ep1.mono hqe; replace rs1 := rs1.mono hqe; replace rs3 := rs3.mono hqe
    refine WL_nil ?_; (with_reducible refine T_then ?_)
    refine W_yes rfl rfl ?_
    refine W_seq ?_; refine W_region ?_; refine P1 T.ok rfl rfl rfl ?_; refine WL_nil ?_; (with_reducible refine T_then ?_)
    refine W_ret (ret1 rfl rfl (hs.ret ?_))
    rw [hsame, ← hno]
  ·refine W_no (b := _) ?_ rfl ?_
   ·simp; omega
   refine W_exit ?_; (with_reducible refine T_tx ?_; with_reducible refine T_tx ?_); (with_reducible refine T_bx ?_); (with_reducible refine T_then ?_); refine W_seq ?_; refine W_region ?_; refine P1 T.ok rfl rfl rfl ?_; refine WL_nil ?_; (with_reducible refine T_then ?_)
   refine W_ret (ret1 rfl rfl (hs.ret ?_))
   rw [hsame, ← hno, eqBy_end (by omega) (by omega)]
end Go.Proofs.YtnggomfbgmlkhaaGreatDoor
