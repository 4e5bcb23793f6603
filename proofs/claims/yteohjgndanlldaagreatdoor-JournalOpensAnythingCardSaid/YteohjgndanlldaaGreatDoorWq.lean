/- The walks through the reference disk. -/
import Derived.Test.YteohjgndanlldaaGreatDoorWi
import Derived.Test.YteohjgndanlldaaGreatDoorWp

/- Which writes survive a power failure: in their order. In plain Lean. -/
namespace Go.Proofs.YteohjgndanlldaaGreatDoor
open Go Go.K
set_option maxRecDepth 10000
attribute [local irreducible] W WL OpR bitAnd bitOr bitXor bitClr bitNot shlI shrI

theorem eq_of_mem : ∀ {l m : List Int}, l.Pairwise (· < ·) → m.Pairwise (· < ·) → (∀ x, x ∈ l ↔ x ∈ m) → l = m
 | [], [], _, _, _ => rfl
 | [], y :: m, _, _, h => absurd ((h y).2 (by simp)) (by simp)
 | x :: l, [], _, _, h => absurd ((h x).1 (by simp)) (by simp)
 | x :: l, y :: m, hl, hm, h => by
  rw [List.pairwise_cons] at hl hm
  have e : x = y := by
   rcases List.mem_cons.1 ((h x).1 (by simp)) with e | h1
   ·exact e
   ·rcases List.mem_cons.1 ((h y).2 (by simp)) with e | h2
    ·exact e.symm
    ·have := hm.1 x h1
     have := hl.1 y h2
     omega
  subst e
  rw [eq_of_mem hl.2 hm.2 fun z => ?_]
  have := h z
  rw [List.mem_cons, List.mem_cons] at this
  constructor
  ·intro hz
   have h1 := hl.1 z hz
   rcases this.1 (.inr hz) with rfl | h2
   ·omega
   ·exact h2
  ·intro hz
   have h1 := hm.1 z hz
   rcases this.2 (.inr hz) with rfl | h2
   ·omega
   ·exact h2

theorem compact_sorted {zs : List Int} (h : zs.Pairwise (· ≤ ·)) : ∀ m, m ≤ zs.length → (Lib.compactUpTo zs.toArray m).Pairwise (· < ·) ∧ ∀ x, x ∈ Lib.compactUpTo zs.toArray m ↔ x ∈ zs.take m := by
 have hget : ∀ i j, i ≤ j → j < zs.length → zs.getD i 0 ≤ zs.getD j 0 := by
  intro i j hij hj
  rcases Nat.lt_or_eq_of_le hij with hlt | rfl
  ·have := List.pairwise_iff_getElem.1 h i j (by omega) hj hlt
   rw [List.getD_eq_getElem?_getD, List.getD_eq_getElem?_getD, List.getElem?_eq_getElem (by omega), List.getElem?_eq_getElem hj]
   exact this
  ·omega
 have hbang : ∀ i, zs.toArray[i]! = zs.getD i 0 := by
  intro i
  rw [List.getElem!_toArray, List.getD_eq_getElem?_getD]
  cases hz : zs[i]? with
  | none => simp [hz]
  | some x => simp [hz]
 intro m
 induction m with
 | zero => intro _; exact ⟨by simp [Lib.compactUpTo], by simp [Lib.compactUpTo]⟩
 | succ m ih =>
  intro hm
  obtain ⟨h1, h2⟩ := ih (by omega)
  rw [Lib.compactUpTo_succ]
  have htk : zs.take (m + 1) = zs.take m ++ [zs.getD m 0] := by
   rw [List.take_add_one, List.getD_eq_getElem?_getD, List.getElem?_eq_getElem (by omega)]; rfl
  rw [htk, hbang]
  cases hk : Lib.keeps zs.toArray m with
  | true =>
   rw [if_pos rfl]
   refine ⟨?_, fun x => by rw [List.mem_append, List.mem_append, h2]⟩
   rw [List.pairwise_append]
   refine ⟨h1, by simp, fun x hx y hy => ?_⟩
   obtain rfl := List.mem_singleton.1 hy
   rw [h2] at hx
   obtain ⟨i, hi, rfl⟩ := List.mem_take_iff_getElem.1 hx
   unfold Lib.keeps at hk
   rw [decide_eq_true_eq] at hk
   rw [hbang, hbang] at hk
   have hm0 : m ≠ 0 := by omega
   have h3 := hget i (m - 1) (by omega) (by omega)
   have h4 := hget (m - 1) m (by omega) (by omega)
   have h5 : zs.getD m 0 ≠ zs.getD (m - 1) 0 := hk.resolve_left hm0
   have h6 : zs.getD i 0 = zs[i] := by rw [List.getD_eq_getElem?_getD, List.getElem?_eq_getElem (by omega)]; rfl
   omega
  | false =>
   rw [if_neg (by simp), List.append_nil]
   refine ⟨h1, fun x => ?_⟩
   rw [h2, List.mem_append, List.mem_singleton]
   constructor
   ·exact .inl
   ·rintro (hx | rfl)
    ·exact hx
    ·unfold Lib.keeps at hk
     rw [decide_eq_false_iff_not, not_or, Classical.not_not] at hk
     rw [hbang, hbang] at hk
     rw [hk.2, List.mem_take_iff_getElem]
     refine ⟨m - 1, by omega, ?_⟩
     rw [List.getD_eq_getElem?_getD, List.getElem?_eq_getElem (by omega)]; rfl

/-- The places of the writes that survive. -/
def keptI (n : Nat) (keep : List Int) : List Int := ((List.range n).map fun i : Nat => (i : Int)).filter fun i => keep.contains i
theorem crashOrd_kept (D : DiskM) (keep : List Int) : crashOrd D keep = keptI D.pend.length keep := by
 have hs : (sortI keep).Pairwise (· ≤ ·) := by
  have := List.pairwise_mergeSort (le := fun x y : Int => decide (x ≤ y)) (fun a b c h1 h2 => by simp at *; omega) (fun a b => by simp; omega) keep
  unfold sortI
  exact this.imp fun h => by simpa using h
 obtain ⟨h1, h2⟩ := compact_sorted hs (sortI keep).length (Nat.le_refl _)
 refine eq_of_mem ?_ ?_ fun x => ?_
 ·unfold crashOrd
  exact h1.filter _
 ·unfold keptI
  refine List.Pairwise.filter _ ?_
  rw [List.pairwise_map]
  exact (List.pairwise_lt_range).imp fun h => by omega
 ·unfold crashOrd keptI
  rw [List.mem_filter, List.mem_filter]
  rw [show Lib.compact (sortI keep) = Lib.compactUpTo (sortI keep).toArray (sortI keep).length from rfl, h2, List.take_length]
  unfold sortI badM
  rw [List.mem_mergeSort]
  simp only [Bool.not_eq_true', decide_eq_false_iff_not, List.mem_map, List.mem_range, List.contains_iff_mem]
  constructor
  ·rintro ⟨h3, h4⟩
   exact ⟨⟨x.toNat, by omega, by omega⟩, h3⟩
  ·rintro ⟨⟨a, h3, rfl⟩, h4⟩
   exact ⟨h4, by omega⟩
end Go.Proofs.YteohjgndanlldaaGreatDoor

/- The reference disk's visible content, in plain Lean: the pending writes, laid in order. -/
namespace Go.Proofs.YteohjgndanlldaaGreatDoor
open Go Go.K
set_option maxRecDepth 10000
attribute [local irreducible] W WL OpR bitAnd bitOr bitXor bitClr bitNot shlI shrI

def layM (p : List Wr) (d : List UInt8) : List UInt8 := p.foldl (fun v w => ontoM v w.off.toNat w.s) d
/-- The visible content is what the pending writes make of the durable one, and each of them lies on the disk. -/
structure RefOk (D : DiskM) : Prop where
 lay : D.vis = layM D.pend D.dur
 pend : PendOk D
 left : 0 ≤ D.left ∧ D.left ≤ 1000
theorem layM_len : ∀ (p : List Wr) (d : List UInt8), (∀ w ∈ p, ∃ k : Nat, w.off = (k : Int) ∧ k + w.s.length ≤ d.length) → (layM p d).length = d.length
 | [], _, _ => rfl
 | w :: p, d, h => by
  obtain ⟨k, hk, hl⟩ := h w (by simp)
  have h1 : (ontoM d w.off.toNat w.s).length = d.length := ontoM_len (by rw [hk, Int.toNat_natCast]; exact hl)
  have h2 := layM_len p (ontoM d w.off.toNat w.s) fun x hx => by rw [h1]; exact h x (by simp [hx])
  show (layM p (ontoM d w.off.toNat w.s)).length = _
  rw [h2, h1]
theorem layM_snoc (p : List Wr) (w : Wr) (d : List UInt8) : layM (p ++ [w]) d = ontoM (layM p d) w.off.toNat w.s := by unfold layM; rw [List.foldl_append]; rfl
theorem used_left {off : Bool} {left : Int} (h : 0 ≤ left ∧ left ≤ 1000) : 0 ≤ (usedM off left).2 ∧ (usedM off left).2 ≤ 1000 := by
 unfold usedM
 split
 ·exact h
 ·rename_i h0
  rw [wr (by omega) (by omega)]; simp only; omega
theorem RefOk.put {D : DiskM} (h : RefOk D) {k : Nat} {s : List UInt8} (hk : k + s.length ≤ D.dur.length) : RefOk (D.put k s) := by
 refine ⟨?_, ?_, used_left h.left⟩
 ·show ontoM D.vis k s = layM (D.pend ++ [⟨k, s⟩]) D.dur
  rw [layM_snoc, ← h.lay]; rfl
 ·intro w hw
  rcases List.mem_append.1 hw with hw | hw
  ·exact h.pend w hw
  ·obtain rfl := List.mem_singleton.1 hw
   exact ⟨k, rfl, hk⟩
theorem RefOk.sync {D : DiskM} (h : RefOk D) : RefOk D.sync := ⟨rfl, fun w hw => by simp [DiskM.sync] at hw, h.left⟩
theorem RefOk.cut {D : DiskM} (h : RefOk D) {n : Int} (h1 : 0 ≤ n) (h2 : n ≤ 1000) : RefOk (D.cut n) := ⟨h.lay, h.pend, ⟨h1, h2⟩⟩
theorem RefOk.crash (D : DiskM) (keep : List Int) (torn : Int) : RefOk (D.crash keep torn) := ⟨rfl, fun w hw => by simp [DiskM.crash] at hw, ⟨Int.le_refl _, by show (0 : Int) ≤ 1000; decide⟩⟩
theorem RefOk.new (n : Nat) : RefOk (DiskM.new n) := ⟨rfl, fun w hw => by simp [DiskM.new] at hw, ⟨Int.le_refl _, by show (0 : Int) ≤ 1000; decide⟩⟩
theorem RefOk.wr {D : DiskM} (h : RefOk D) {k : Nat} {s : List UInt8} (hk : k + s.length ≤ D.dur.length) : RefOk (D.wr k s).1 := by
 unfold DiskM.wr; split; exact h; exact h.put hk
theorem RefOk.sy {D : DiskM} (h : RefOk D) : RefOk D.sy.1 := by unfold DiskM.sy; split; exact h; exact h.sync
theorem RefOk.clear {D : DiskM} (h : RefOk D) {k n : Nat} (hk : k + n ≤ D.dur.length) : RefOk (runM (clearFs k n) D).1 := by
 have h1 : RefOk (D.wr k (List.replicate n 0)).1 := h.wr (by rw [List.length_replicate]; exact hk)
 unfold clearFs
 simp only [runM]
 split
 ·split
  ·exact h1.sy
  ·exact h1.sy
 ·exact h1
theorem RefOk.store {D : DiskM} (hD : D.ok) (h : RefOk D) {k : Nat} {out : List UInt8} (hk : k + out.length ≤ D.dur.length) (h1 : 1 ≤ out.length) : RefOk (storeM D k out).1 := by
 have e1 : RefOk (D.wr (k + 1) (out.drop 1)).1 := h.wr (by rw [List.length_drop]; omega)
 have l1 := wr_len D (k + 1) (out.drop 1)
 have l2 : ((D.wr (k + 1) (out.drop 1)).1.sy).1.dur.length = D.dur.length := by
  unfold DiskM.sy
  split
  ·exact l1
  ·show (D.wr (k + 1) (out.drop 1)).1.vis.length = _
   unfold DiskM.wr
   split
   ·exact hD.len
   ·show (ontoM D.vis (k + 1) (out.drop 1)).length = _
    rw [ontoM_len (by rw [hD.len, List.length_drop]; omega), hD.len]
 have e3 : RefOk (((D.wr (k + 1) (out.drop 1)).1.sy).1.wr k (out.take 1)).1 := e1.sy.wr (by rw [l2, List.length_take]; omega)
 unfold storeM storeFs
 simp only [runM]
 split
 ·split
  ·split
   ·split
    ·exact e3.sy
    ·exact e3.sy
   ·exact e3
  ·exact e1.sy
 ·exact e1
end Go.Proofs.YteohjgndanlldaaGreatDoor

/- Reading a tape: the reference looks at the heads alone. In plain Lean. -/
namespace Go.Proofs.YteohjgndanlldaaGreatDoor
open Go Go.K
set_option maxRecDepth 10000
attribute [local irreducible] W WL OpR bitAnd bitOr bitXor bitClr bitNot shlI shrI

theorem rload_step {s : List UInt8} {Y : TapeM} (h1 : Y.size < s.length) (hb : s.getD Y.size 0 = 1) (h2 : (stringM s (Y.size + 1)).2.2 = 0) :
  ∃ n : Nat, (stringM s (Y.size + 1)).2.1 = (n : Int) ∧ Y.size + 1 ≤ n ∧ n ≤ s.length ∧ (stringM s (Y.size + 1)).1.length ≤ 65536 ∧
   (n + 32 ≤ s.length → (outM Y.head (stringM s (Y.size + 1)).1 = (s.drop Y.size).take (n + 32 - Y.size) ↔ (s.drop n).take 32 = chainM Y.head (stringM s (Y.size + 1)).1)) ∧
   (n + 32 ≤ s.length → (outM Y.head (stringM s (Y.size + 1)).1).length = n + 32 - Y.size) := by
 obtain ⟨q, e1, e2, e3, e4⟩ := stringM_canon (s := s) (a := Y.size + 1) (by omega) h2
 refine ⟨Y.size + 1 + q, e1, by omega, e2, e4, fun hle => ?_, fun hle => ?_⟩
 ·have hd : s.drop Y.size = 1 :: s.drop (Y.size + 1) := by
   rw [List.drop_eq_getElem_cons h1]
   congr 1
   rw [← hb, List.getD_eq_getElem?_getD, List.getElem?_eq_getElem h1]; rfl
  have hsplit : (s.drop Y.size).take (Y.size + 1 + q + 32 - Y.size) = [1] ++ ((s.drop (Y.size + 1)).take q) ++ (s.drop (Y.size + 1 + q)).take 32 := by
   rw [hd, show Y.size + 1 + q + 32 - Y.size = (q + 32) + 1 from by omega, List.take_succ_cons, List.take_add, List.drop_drop]
   rfl
  rw [hsplit, ← e3]
  unfold outM
  rw [List.append_cancel_left_eq]
  exact ⟨fun h => h.symm, fun h => h.symm⟩
 ·have hl := congrArg List.length e3
  rw [List.length_append, List.length_take, List.length_drop] at hl
  unfold outM
  simp only [List.length_append, List.length_cons, List.length_nil, chainM_len]
  omega
end Go.Proofs.YteohjgndanlldaaGreatDoor

/- The reference disk: its visible content. -/
namespace Go.Proofs.YteohjgndanlldaaGreatDoor
open Go Go.K
set_option maxRecDepth 10000
attribute [local irreducible] W WL OpR bitAnd bitOr bitXor bitClr bitNot shlI shrI
set_option maxHeartbeats 1000000

theorem layM_take {p : List Wr} {d : List UInt8} {i : Nat} (h : i < p.length) : layM (p.take (i + 1)) d = ontoM (layM (p.take i) d) p[i].off.toNat p[i].s := by
 rw [List.take_add_one, List.getElem?_eq_getElem h]
 exact layM_snoc _ _ _
theorem wrL_get {p : List Wr} {i : Nat} (h : i < p.length) : ((wrL p).drop (i * 2)).take 2 = [.int .i64 p[i].off, .string (bs p[i].s)] := by
 rw [wrL_at h, List.getD_eq_getElem?_getD, List.getElem?_eq_getElem h]; rfl
theorem wrL_off {p : List Wr} {i : Nat} (h : i < p.length) : (wrL p)[i * 2]? = some (.int .i64 p[i].off) := by
 have := congrArg (fun l : List Value => l[0]?) (wrL_get h)
 simpa using this
theorem wrL_str {p : List Wr} {i : Nat} (h : i < p.length) : (wrL p)[i * 2 + 1]? = some (.string (bs p[i].s)) := by
 have := congrArg (fun l : List Value => l[1]?) (wrL_get h)
 simpa using this
theorem rvis_c {A : RkA} {D : DiskM} (hD : D.ok) (hR : RefOk D) {g0 g : G} {L : List Ent} (hs0 : St g0 g (rkL A D ++ L)) :
  CallsIn Wd 0 Tryz.prog 23 #[.pointer (some ⟨A.b, 0, none⟩)] g.w (Ret g fun g' v => OwnR 5 g D.vis g' v) := by
 have hs := St.start g
 have le0 := G.le.refl g
 have hmax := hD.le
 have hmin := hD.pos
 have hpl := hD.pend
 rw [rkL_cons] at hs0
 have hsC := hs0.call hs.fr0
 refine enter Tryz.func23 rfl Tryz.ntmps23 rfl ?_
 refine W_seq ?_; refine W_region ?_; refine P1 T.ok rfl rfl rfl ?_; refine WL_nil ?_; (with_reducible refine T_then ?_); refine W_seq ?_; refine W_region ?_
 refine WL_o rfl rfl (OpR_lit T.ok rfl hs (vs := []) (cells := []) rfl rfl rfl rfl rfl rfl (by decide) (by decide) (by kernel_rfl) rfl ?_)
 clear hs
 rintro b1 g1 hs hqe; replace le0 := G.le.trans le0 hqe
 replace hsC := hs0.call hs.fr0
 (iterate 3 refine P1 T.ok rfl rfl rfl ?_)
 refine WL_o rfl rfl (OpR_loadO T.ok 0 rfl hsC rfl rfl rfl ?_)
 obtain ⟨_, hsrc⟩ := Src.of_row (hsC.own 1 _ rfl).1
 refine WL_o rfl rfl (OpR_append T.ok 0 rfl hs rfl rfl rfl rfl rfl rfl rfl (by decide) rfl hsrc (by intro x hx; obtain ⟨y, _, rfl⟩ := List.mem_map.1 hx; simp [Value.oneCell']) (by show (0 + D.dur.length) * 1 ≤ _; omega) (by unfold maxLen; omega) ?_)
 clear hs hsrc
 rintro ad c g2 hs hqe; replace le0 := G.le.trans le0 hqe
 replace hsC := hs0.call hs.fr0
 have hpl0 := (hs.own 0 _ rfl).1
 rw [show 0 + D.dur.length = D.dur.length from by omega] at hpl0 hs ⊢
 obtain ⟨bv, pv, rfl⟩ := hpl0.pos (by omega)
 clear hpl0 hqe
 have hs : St g g2 [.row 5 1 (.slice (some ⟨bv, pv, none⟩) D.dur.length c) D.dur.length (byteV D.dur)] := hs
 refine P1 T.ok rfl rfl rfl ?_; refine WL_nil ?_; (with_reducible refine T_then ?_); refine W_seq ?_; refine W_seq ?_; refine W_region ?_; refine P1 T.ok rfl rfl rfl ?_; refine WL_nil ?_; (with_reducible refine T_then ?_); refine W_block ?_
 refine W_loop (fun m a' w => ∃ (i : Nat) (g2 : G), w = g2.w ∧ St g g2 [.row 5 1 (.slice (some ⟨bv, pv, none⟩) D.dur.length c) D.dur.length (byteV (layM (D.pend.take i) D.dur))] ∧ G.le g g2 ∧ i ≤ D.pend.length ∧ m = D.pend.length - i ∧
   Fr 39 [] [(0, .pointer (some ⟨A.b, 0, none⟩)), (3, .slice (some ⟨bv, pv, none⟩) D.dur.length c), (4, .int .i64 i)] a') D.pend.length
  (fun a' ha => ⟨0, _, rfl, hs, le0, Nat.zero_le _, rfl, ha.keep (by (repeat (first | exact trivial | refine ⟨rfl, ?_⟩)))⟩) ?_
 clear hs le0 hsC
 rintro m a' _ ⟨i, g2, rfl, hs, le0, hi, rfl, ha'⟩
 have hsC := hs0.call hs.fr0
 revert a'
 (with_reducible refine T_wp ?_); refine W_seq ?_; refine W_seq ?_; refine W_region ?_; (iterate 4 refine P1 T.ok rfl rfl rfl ?_)
 refine WL_o rfl rfl (OpR_loadO T.ok 0 rfl hsC rfl rfl rfl ?_)
 refine P1 T.ok rfl rfl rfl ?_; refine P1 T.ok rfl rfl rfl ?_; refine WL_nil ?_; (with_reducible refine T_then ?_)
 by_cases hlt : i < D.pend.length
 ·refine W_yes (b := decide ((i : Int) < (D.pend.length : Int))) (decide_eq_true (by omega)) rfl ?_
  have hw := hR.pend D.pend[i] (List.getElem_mem hlt)
  have ho1 := wrL_off hlt
  have ho2 := wrL_str hlt
  have htk := layM_take (d := D.dur) hlt
  have hll : (layM (D.pend.take i) D.dur).length = D.dur.length := layM_len _ _ fun w hw => hR.pend w (List.mem_of_mem_take hw)
  obtain ⟨bp, pp, hpa⟩ := ((hsC.own 2 _ rfl).1).pos (by omega)
  generalize D.pend[i] = x at *
  obtain ⟨k, hk, hkl⟩ := hw
  rw [hk] at ho1 htk
  rw [Int.toNat_natCast] at htk
  generalize x.s = s at *
  generalize A.pa = pa at *
  subst hpa
  refine W_skip ?_; (with_reducible refine T_then ?_); refine W_seq ?_; refine W_block ?_
  apply W_draw allF rfl (Fact.eq _ :: Fact.eq _ :: Fact.eq _ :: Fact.eq _ :: Fact.eq _ :: Fact.eq _ :: Fact.eq _ :: Fact.eq _ :: Fact.eq _ :: Fact.eq _ :: Fact.eq _ :: Fact.eq _ :: Fact.eq _ :: Fact.eq _ :: Fact.eq _ :: Fact.eq _ :: Fact.eq _ :: []) 17 [(0, 20), (8, 28), (16, 36)] rfl rfl
  ·refine D_s (js := []) (by kernel_rfl) (fun _ _ => QA_nil (DPu T.ok rfl rfl rfl)) ?_
   refine D_s (js := []) (by kernel_rfl) (fun _ _ => QA_nil (DPu T.ok rfl rfl rfl)) ?_
   refine D_s (js := [(1, 21)]) (by kernel_rfl) (fun _ _ => QA_eq rfl (QA_nil (DPu T.ok rfl rfl rfl))) ?_
   refine D_s (js := [(2, 22)]) (by kernel_rfl) (fun _ _ => QA_eq rfl (QA_nil (DPu T.ok rfl rfl rfl))) ?_
   refine D_cons (D_step2 (js := [(3, 23)]) (by kernel_rfl) fun gd hf => ?_) ?_
   ·have hsd := hs.dr.call hf; have hfe := (G.le_dr _).trans hf.le
    refine QA_eq rfl ?_
    refine QA_nil ?_
    refine D_yes rfl ?_
    refine OpR_loadO T.ok 0 rfl (hsC.dr.call hf) rfl rfl rfl ?_
    exact ⟨_, rfl, Fr0.refl _, rfl⟩
   refine D_s (js := []) (by kernel_rfl) (fun _ _ => QA_nil (DPu T.ok rfl rfl rfl)) ?_
   refine D_cons (D_step2 (js := [(4, 24), (5, 25)]) (by kernel_rfl) fun gd hf => ?_) ?_
   ·have hsd := hs.dr.call hf; have hfe := (G.le_dr _).trans hf.le
    refine QA_eq rfl ?_; refine QA_eq rfl ?_
    refine QA_nil ?_
    refine D_yes rfl ?_
    refine OpR_idxR T.ok rfl ((hsC.dr.call hf).own 2 _ rfl).1 (n := (i : Int)) (by omega) (by omega) rfl rfl rfl rfl rfl rfl ?_
    rintro _ _ he
    cases he
    exact ⟨_, rfl, Fr0.refl _, rfl⟩
   refine D_s (js := [(6, 26)]) (by kernel_rfl) (fun _ _ => QA_eq rfl (QA_nil (DPu T.ok rfl rfl rfl))) ?_
   refine D_cons (D_step2 (js := [(7, 27)]) (by kernel_rfl) fun gd hf => ?_) ?_
   ·have hsd := hs.dr.call hf; have hfe := (G.le_dr _).trans hf.le
    refine QA_eq rfl ?_
    refine QA_nil ?_
    refine D_yes rfl ?_
    refine OpR_loadR T.ok (i * 2) rfl ((hsC.dr.call hf).own 2 _ rfl).1 rfl (v := .int .i64 (k : Int)) ho1 ?_
    exact ⟨_, rfl, Fr0.refl _, rfl⟩
   refine D_s (js := []) (by kernel_rfl) (fun _ _ => QA_nil (DPu T.ok rfl rfl rfl)) ?_
   refine D_s (js := [(9, 29)]) (by kernel_rfl) (fun _ _ => QA_eq rfl (QA_nil (DPu T.ok rfl rfl rfl))) ?_
   refine D_s (js := [(10, 30)]) (by kernel_rfl) (fun _ _ => QA_eq rfl (QA_nil (DPu T.ok rfl rfl rfl))) ?_
   refine D_cons (D_step2 (js := [(11, 31)]) (by kernel_rfl) fun gd hf => ?_) ?_
   ·have hsd := hs.dr.call hf; have hfe := (G.le_dr _).trans hf.le
    refine QA_eq rfl ?_
    refine QA_nil ?_
    refine D_yes rfl ?_
    refine OpR_loadO T.ok 0 rfl (hsC.dr.call hf) rfl rfl rfl ?_
    exact ⟨_, rfl, Fr0.refl _, rfl⟩
   refine D_s (js := []) (by kernel_rfl) (fun _ _ => QA_nil (DPu T.ok rfl rfl rfl)) ?_
   refine D_cons (D_step2 (js := [(12, 32), (13, 33)]) (by kernel_rfl) fun gd hf => ?_) ?_
   ·have hsd := hs.dr.call hf; have hfe := (G.le_dr _).trans hf.le
    refine QA_eq rfl ?_; refine QA_eq rfl ?_
    refine QA_nil ?_
    refine D_yes rfl ?_
    refine OpR_idxR T.ok rfl ((hsC.dr.call hf).own 2 _ rfl).1 (n := (i : Int)) (by omega) (by omega) rfl rfl rfl rfl rfl rfl ?_
    rintro _ _ he
    cases he
    exact ⟨_, rfl, Fr0.refl _, rfl⟩
   refine D_s (js := [(14, 34)]) (by kernel_rfl) (fun _ _ => QA_eq rfl (QA_nil (DPu T.ok rfl rfl rfl))) ?_
   refine D_cons (D_step2 (js := [(15, 35)]) (by kernel_rfl) fun gd hf => ?_) ?_
   ·have hsd := hs.dr.call hf; have hfe := (G.le_dr _).trans hf.le
    refine QA_eq rfl ?_
    refine QA_nil ?_
    refine D_yes rfl ?_
    refine OpR_loadR T.ok (i * 2 + 1) rfl ((hsC.dr.call hf).own 2 _ rfl).1 rfl (v := .string (bs s)) ho2 ?_
    exact ⟨_, rfl, Fr0.refl _, rfl⟩
   exact D_nil
  intro g1 hf1; refine QA_eq rfl ?_; refine QA_eq rfl ?_; refine QA_eq rfl ?_; refine QA_nil ?_
  replace hs := hs.dr.call hf1; have hqe := (G.le_dr _).trans hf1.le; replace le0 := G.le.trans le0 hqe
  refine WL_o rfl rfl (OpR_st cl53 allF rfl rfl rfl rfl rfl (rapply_c (layM (D.pend.take i) D.dur) s k hll.symm (by rw [hll]; exact hkl) (by rw [hll]; exact hmax) hs) ?_)
  clear hs
  rintro g6 _ hqe ⟨rfl, hs⟩; replace le0 := G.le.trans le0 hqe
  refine WL_nil ?_; (with_reducible refine T_bn ?_); (with_reducible refine T_then ?_); refine W_region ?_; (iterate 3 refine P1 T.ok rfl rfl rfl ?_); refine WL_nil ?_
  exact fun a ha => ⟨D.pend.length - (i + 1), by omega, i + 1, g6, rfl, by rw [htk]; exact hs, le0, by omega, rfl, ha.keep ⟨rfl, rfl, kI rfl (by rw [wr (by omega) (by omega)]; omega), trivial⟩⟩
 ·refine W_no (b := decide ((i : Int) < (D.pend.length : Int))) (decide_eq_false (by omega)) rfl ?_
  rw [List.take_of_length_le (by omega), ← hR.lay] at hs
  refine W_exit ?_; (with_reducible refine T_tx ?_; with_reducible refine T_tx ?_); (with_reducible refine T_bx ?_); (with_reducible refine T_then ?_); refine W_seq ?_; refine W_region ?_; refine P1 T.ok rfl rfl rfl ?_; refine P1 T.ok rfl rfl rfl ?_; refine WL_nil ?_; (with_reducible refine T_then ?_)
  refine W_ret (ret1 rfl rfl (hs.ret ?_))
  rw [← hD.len] at hs ⊢
  exact hs.toOwn (i := 0) rfl (RcL.bytes _ D.vis)
end Go.Proofs.YteohjgndanlldaaGreatDoor

/- The reference disk: Write. -/
namespace Go.Proofs.YteohjgndanlldaaGreatDoor
open Go Go.K
set_option maxRecDepth 10000
attribute [local irreducible] W WL OpR bitAnd bitOr bitXor bitClr bitNot shlI shrI
set_option maxHeartbeats 1000000

theorem rwriteD_c {A : RkA} {D : DiskM} (ho : D.off = true) (off : Int) (s : List UInt8) {g0 g : G} {L : List Ent} (hs : St g0 g (rkL A D ++ L)) :
  CallsIn Wd 0 Tryz.prog 16 #[.pointer (some ⟨A.b, 0, none⟩), .int .i64 off, .string (bs s)] g.w (RetS g fun g' r => r = .int .i64 241 ∧ St g0 g' (rkL A D ++ L)) := by
 have le0 := G.le.refl g
 have hs0 := hs
 rw [rkL_cons, ho] at hs
 refine enter Tryz.func16 rfl Tryz.ntmps16 rfl ?_
 refine W_seq ?_; refine W_region ?_; refine P1 T.ok rfl rfl rfl ?_; refine WL_nil ?_; (with_reducible refine T_then ?_); refine W_seq ?_; refine W_seq ?_; refine W_region ?_; (iterate 3 refine P1 T.ok rfl rfl rfl ?_); refine WL_o rfl rfl (OpR_loadO T.ok 0 rfl hs rfl rfl rfl ?_); refine WL_nil ?_; (with_reducible refine T_then ?_)
 refine W_yes rfl rfl ?_
 refine W_seq ?_; refine W_region ?_; refine P1 T.ok rfl rfl rfl ?_; refine WL_nil ?_; (with_reducible refine T_then ?_)
 exact W_ret (ret1 rfl rfl (RetS.intro le0 ⟨rfl, hs0⟩))


theorem rwrite_c {A : RkA} {D : DiskM} (hD : D.ok) (hp : D.pend.length < 1000000) (hl : 0 ≤ D.left ∧ D.left ≤ 1000) (ho : D.off = false) {k : Nat} {s : List UInt8} (hk : k + s.length ≤ D.dur.length) {g0 g : G} {L : List Ent} (hs : St g0 g (rkL A D ++ L)) :
  CallsIn Wd 0 Tryz.prog 16 #[.pointer (some ⟨A.b, 0, none⟩), .int .i64 (k : Int), .string (bs s)] g.w
   (RetS g fun g' r => r = .int .i64 0 ∧ ∃ pa pc, St g0 g' (rkL ⟨A.b, A.bd, A.dp, A.dc, pa, pc⟩ (D.put k s) ++ L)) := by
 have le0 := G.le.refl g
 have hmax := hD.le
 rw [rkL_cons, ho] at hs
 refine enter Tryz.func16 rfl Tryz.ntmps16 rfl ?_
 refine W_seq ?_; refine W_region ?_; refine P1 T.ok rfl rfl rfl ?_; refine WL_nil ?_; (with_reducible refine T_then ?_); refine W_seq ?_; refine W_seq ?_; refine W_region ?_; (iterate 3 refine P1 T.ok rfl rfl rfl ?_); refine WL_o rfl rfl (OpR_loadO T.ok 0 rfl hs rfl rfl rfl ?_); refine WL_nil ?_; (with_reducible refine T_then ?_)
 refine W_no rfl rfl ?_
 refine W_skip ?_; (with_reducible refine T_then ?_); refine W_seq ?_; refine W_seq ?_; refine W_region ?_; (iterate 7 refine P1 T.ok rfl rfl rfl ?_); refine WL_o rfl rfl (OpR_loadO T.ok 0 rfl hs rfl rfl rfl ?_); (iterate 4 refine P1 T.ok rfl rfl rfl ?_)
 refine WL_know 13 (b := decide ((k : Int) < 0)) (b' := false) (decide_eq_false (by omega)) rfl ?_
 skip
 refine WL_know 22 (b := decide ((D.dur.length : Int) < (k : Int))) (b' := false) (decide_eq_false (by omega)) rfl ?_
 (iterate 5 refine P1 T.ok rfl rfl rfl ?_); refine WL_o rfl rfl (OpR_loadO T.ok 0 rfl hs rfl rfl rfl ?_); (iterate 5 refine P1 T.ok rfl rfl rfl ?_); refine WL_nil ?_; (with_reducible refine T_then ?_)
 refine W_no (b := decide (IntKind.i64.wrap ((D.dur.length : Int) - (k : Int)) < ((bs s).size : Int))) (decide_eq_false (by rw [wr (by omega) (by omega), bs_size]; omega)) rfl ?_
 refine W_skip ?_; (with_reducible refine T_then ?_); refine W_seq ?_; refine W_region ?_; (iterate 4 refine P1 T.ok rfl rfl rfl ?_); refine WL_o rfl rfl (OpR_loadO T.ok 0 rfl hs rfl rfl rfl ?_); refine P1 T.ok rfl rfl rfl ?_; refine P1 T.ok rfl rfl rfl ?_
 refine WL_o rfl rfl (OpR_build T.ok rfl (vs := [(0, .int .i64 (k : Int)), (1, .string (bs s))]) (cells := [.int .i64 (k : Int), .string (bs s)]) rfl rfl rfl rfl [(0, 1), (1, 1)] rfl (by kernel_rfl) ?_)
 refine WL_o rfl rfl (OpR_lit T.ok rfl hs (vs := [(0, .agg #[.int .i64 (k : Int), .string (bs s)])]) (cells := [.int .i64 (k : Int), .string (bs s)]) rfl rfl rfl rfl rfl rfl (by decide) (by decide) (by kernel_rfl) rfl ?_)
 clear hs
 rintro bl gl hs hqe; replace le0 := G.le.trans le0 hqe
 obtain ⟨gz, hwz, hsz, hqz, hrl⟩ := hs.fzRow (α := Wr) (xs := [⟨k, s⟩]) (i := 0) rfl (RcL.wr _ [⟨k, s⟩])
 clear hqe; have hqe := hqz; rw [← hwz]; replace hs := hsz; clear hsz; replace le0 := G.le.trans le0 hqe
 skip
 obtain ⟨_, news, hnw, hsrc⟩ := Src.of_rs hrl
 refine WL_o rfl rfl (OpR_append T.ok 2 rfl hs rfl rfl rfl rfl rfl rfl rfl (by decide) rfl hsrc hnw.one (by show (D.pend.length + 1) * 24 ≤ _; omega) (by unfold maxLen; show D.pend.length + 1 ≤ _; omega) ?_)
 clear hs hsrc
 rintro pa pc g5 hs hqe; replace le0 := G.le.trans le0 hqe
 obtain rfl := RcL.wr_inv hnw
 clear hnw hrl
 refine P1 T.ok rfl rfl rfl ?_; refine P1 T.ok rfl rfl rfl ?_
 refine WL_n rfl (OpR_storeO T.ok 0 rfl hs rfl rfl rfl rfl rfl rfl rfl rfl rfl ?_); replace hs := hs; rintro g1 hs hqe; replace le0 := G.le.trans le0 hqe
 refine WL_nil ?_; (with_reducible refine T_then ?_); refine W_seq ?_; refine W_seq ?_; refine W_region ?_; (iterate 3 refine P1 T.ok rfl rfl rfl ?_); refine WL_o rfl rfl (OpR_loadO T.ok 0 rfl hs rfl rfl rfl ?_); refine P1 T.ok rfl rfl rfl ?_; refine WL_nil ?_; (with_reducible refine T_then ?_)
 by_cases h0 : D.left = 0
 ·have hu : usedM D.off D.left = (false, D.left) := by rw [ho]; unfold usedM; rw [if_pos h0]
  refine W_no (b := decide (0 < D.left)) (decide_eq_false (by omega)) rfl ?_
  refine W_skip ?_; (with_reducible refine T_then ?_); refine W_seq ?_; refine W_region ?_; refine P1 T.ok rfl rfl rfl ?_; refine WL_nil ?_; (with_reducible refine T_then ?_)
  refine W_ret (ret1 rfl rfl (RetS.intro le0 ⟨rfl, pa, pc, ?_⟩))
  have e1 : (D.put k s).pend.length = D.pend.length + 1 := by simp [DiskM.put]
  rw [rkL_cons, e1]
  simp only [DiskM.put, hu, wrL_app]
  exact hs
 ·refine W_yes (b := decide (0 < D.left)) (decide_eq_true (by omega)) rfl ?_
  have hw : IntKind.i64.wrap (D.left - 1) = D.left - 1 := wr (by omega) (by omega)
  refine W_seq ?_; refine W_region ?_; (iterate 3 refine P1 T.ok rfl rfl rfl ?_); refine WL_o rfl rfl (OpR_loadO T.ok 0 rfl hs rfl rfl rfl ?_); (iterate 3 refine P1 T.ok rfl rfl rfl ?_)
  refine WL_re (.int .i64 (D.left - 1)) (t := 55) rfl (congrArg (Value.int .i64) hw) ?_
  refine WL_n rfl (OpR_storeO T.ok 0 rfl hs rfl rfl rfl rfl rfl rfl rfl rfl rfl ?_); replace hs := hs; rintro g1 hs hqe; replace le0 := G.le.trans le0 hqe
  refine WL_nil ?_; (with_reducible refine T_then ?_); refine W_seq ?_; refine W_region ?_; (iterate 3 refine P1 T.ok rfl rfl rfl ?_); refine WL_o rfl rfl (OpR_loadO T.ok 0 rfl hs rfl rfl rfl ?_); refine P1 T.ok rfl rfl rfl ?_; refine WL_nil ?_; (with_reducible refine T_then ?_)
  by_cases h1 : D.left - 1 = 0
  ·have hu : usedM D.off D.left = (true, D.left - 1) := by unfold usedM; rw [if_neg h0, hw]; simp [h1]
   refine W_yes (b := D.left - 1 == 0) (by simp; exact h1) rfl ?_
   refine W_region ?_; (iterate 3 refine P1 T.ok rfl rfl rfl ?_)
   refine WL_n rfl (OpR_storeO T.ok 0 rfl hs rfl rfl rfl rfl rfl rfl rfl rfl rfl ?_); replace hs := hs; rintro g1 hs hqe; replace le0 := G.le.trans le0 hqe
   refine WL_nil ?_; (with_reducible refine T_then ?_); refine W_seq ?_; refine W_region ?_; refine P1 T.ok rfl rfl rfl ?_; refine WL_nil ?_; (with_reducible refine T_then ?_)
   refine W_ret (ret1 rfl rfl (RetS.intro le0 ⟨rfl, pa, pc, ?_⟩))
   have e1 : (D.put k s).pend.length = D.pend.length + 1 := by simp [DiskM.put]
   rw [rkL_cons, e1]
   simp only [DiskM.put, hu, wrL_app]
   exact hs
  ·have hu : usedM D.off D.left = (false, D.left - 1) := by unfold usedM; rw [if_neg h0, hw]; simp [h1]
   refine W_no (b := D.left - 1 == 0) (by simp; exact h1) rfl ?_
   refine W_skip ?_; (with_reducible refine T_then ?_); refine W_seq ?_; refine W_region ?_; refine P1 T.ok rfl rfl rfl ?_; refine WL_nil ?_; (with_reducible refine T_then ?_)
   refine W_ret (ret1 rfl rfl (RetS.intro le0 ⟨rfl, pa, pc, ?_⟩))
   have e1 : (D.put k s).pend.length = D.pend.length + 1 := by simp [DiskM.put]
   rw [rkL_cons, e1]
   simp only [DiskM.put, hu, wrL_app]
   exact hs
end Go.Proofs.YteohjgndanlldaaGreatDoor

/- The reference disk: Sync, Read. -/
namespace Go.Proofs.YteohjgndanlldaaGreatDoor
open Go Go.K
set_option maxRecDepth 10000
attribute [local irreducible] W WL OpR bitAnd bitOr bitXor bitClr bitNot shlI shrI
set_option maxHeartbeats 1000000

theorem rsyncD_c {A : RkA} {D : DiskM} (ho : D.off = true) {g0 g : G} {L : List Ent} (hs : St g0 g (rkL A D ++ L)) :
  CallsIn Wd 0 Tryz.prog 45 #[.pointer (some ⟨A.b, 0, none⟩)] g.w (RetS g fun g' r => r = .int .i64 241 ∧ St g0 g' (rkL A D ++ L)) := by
 have le0 := G.le.refl g
 have hs0 := hs
 rw [rkL_cons, ho] at hs
 refine enter Tryz.func45 rfl Tryz.ntmps45 rfl ?_
 refine W_seq ?_; refine W_region ?_; refine P1 T.ok rfl rfl rfl ?_; refine WL_nil ?_; (with_reducible refine T_then ?_); refine W_seq ?_; refine W_seq ?_; refine W_region ?_; (iterate 3 refine P1 T.ok rfl rfl rfl ?_); refine WL_o rfl rfl (OpR_loadO T.ok 0 rfl hs rfl rfl rfl ?_); refine WL_nil ?_; (with_reducible refine T_then ?_)
 refine W_yes rfl rfl ?_
 refine W_seq ?_; refine W_region ?_; refine P1 T.ok rfl rfl rfl ?_; refine WL_nil ?_; (with_reducible refine T_then ?_)
 exact W_ret (ret1 rfl rfl (RetS.intro le0 ⟨rfl, hs0⟩))
theorem rsync_c {A : RkA} {D : DiskM} (hD : D.ok) (hR : RefOk D) (ho : D.off = false) {g0 g : G} {L : List Ent} (hs : St g0 g (rkL A D ++ L)) :
  CallsIn Wd 0 Tryz.prog 45 #[.pointer (some ⟨A.b, 0, none⟩)] g.w (RetS g fun g' r => r = .int .i64 0 ∧ ∃ bd dp dc, St g0 g' (rkL ⟨A.b, bd, dp, dc, none, 0⟩ D.sync ++ L)) := by
 have le0 := G.le.refl g
 have hmin := hD.pos
 have hlen := hD.len
 have hvis := rvis_c hD hR hs
 rw [rkL_cons, ho] at hs
 refine enter Tryz.func45 rfl Tryz.ntmps45 rfl ?_
 refine W_seq ?_; refine W_region ?_; refine P1 T.ok rfl rfl rfl ?_; refine WL_nil ?_; (with_reducible refine T_then ?_); refine W_seq ?_; refine W_seq ?_; refine W_region ?_; (iterate 3 refine P1 T.ok rfl rfl rfl ?_); refine WL_o rfl rfl (OpR_loadO T.ok 0 rfl hs rfl rfl rfl ?_); refine WL_nil ?_; (with_reducible refine T_then ?_)
 refine W_no rfl rfl ?_
 refine W_skip ?_; (with_reducible refine T_then ?_); refine W_seq ?_; refine W_region ?_; refine P1 T.ok rfl rfl rfl ?_; refine P1 T.ok rfl rfl rfl ?_
 refine WL_o rfl rfl (OpR_ret cl23 allF rfl rfl rfl rfl rfl hvis ?_)
 rintro g1 vo hf1 ⟨cells, hh, hrc⟩
 obtain rfl := RcL.bytes_inv hrc
 obtain ⟨bv, pv, rfl⟩ := hh.1.form
 replace hs := hs.getOwn hf1 hh
 have hqe := hf1.le; replace le0 := G.le.trans le0 hqe
 obtain ⟨bv, dv, rfl⟩ := ((hs.own 0 _ rfl).1).pos (by omega)
 refine P1 T.ok rfl rfl rfl ?_; refine P1 T.ok rfl rfl rfl ?_
 refine WL_n rfl (OpR_storeO T.ok 1 rfl hs rfl rfl rfl rfl rfl rfl rfl rfl rfl ?_); replace hs := hs; rintro g1 hs hqe; replace le0 := G.le.trans le0 hqe
 refine WL_nil ?_; (with_reducible refine T_then ?_); refine W_seq ?_; refine W_region ?_; (iterate 3 refine P1 T.ok rfl rfl rfl ?_)
 refine WL_n rfl (OpR_storeO T.ok 1 rfl hs rfl rfl rfl rfl rfl rfl rfl rfl rfl ?_); replace hs := hs; rintro g1 hs hqe; replace le0 := G.le.trans le0 hqe
 refine WL_nil ?_; (with_reducible refine T_then ?_); refine W_seq ?_; refine W_region ?_; refine P1 T.ok rfl rfl rfl ?_; refine WL_nil ?_; (with_reducible refine T_then ?_)
 refine W_ret (ret1 rfl rfl (RetS.intro le0 ⟨rfl, bv, dv, pv, ?_⟩))
 replace hs := (((((hs.drop 2).drop 2).nilrow 100 2 none).front (i := 1) rfl).front (i := 2) rfl)
 rw [rkL_cons]
 simp only [DiskM.sync, ho]
 exact hs

theorem rreadD_c {A : RkA} {D : DiskM} (ho : D.off = true) (off n : Int) {g0 g : G} {L : List Ent} (hs : St g0 g (rkL A D ++ L)) :
  CallsIn Wd 0 Tryz.prog 74 #[.pointer (some ⟨A.b, 0, none⟩), .int .i64 off, .int .i64 n] g.w (Ret g fun _ r => r = .tuple #[.string (bs []), .int .i64 241]) := by
 have le0 := G.le.refl g
 rw [rkL_cons, ho] at hs
 refine enter Tryz.func74 rfl Tryz.ntmps74 rfl ?_
 refine W_seq ?_; refine W_region ?_; refine P1 T.ok rfl rfl rfl ?_; refine P1 T.ok rfl rfl rfl ?_; refine WL_nil ?_; (with_reducible refine T_then ?_); refine W_seq ?_; refine W_seq ?_; refine W_region ?_; (iterate 3 refine P1 T.ok rfl rfl rfl ?_); refine WL_o rfl rfl (OpR_loadO T.ok 0 rfl hs rfl rfl rfl ?_); refine WL_nil ?_; (with_reducible refine T_then ?_)
 refine W_yes rfl rfl ?_
 refine W_seq ?_; refine W_region ?_; refine P1 T.ok rfl rfl rfl ?_; refine P1 T.ok rfl rfl rfl ?_; refine WL_nil ?_; (with_reducible refine T_then ?_)
 exact W_ret (ret2 rfl rfl rfl (Ret.same rfl))
/-- All that is visible. -/
theorem rread_c {A : RkA} {D : DiskM} (hD : D.ok) (hR : RefOk D) (ho : D.off = false) {g0 g : G} {L : List Ent} (hs : St g0 g (rkL A D ++ L)) :
  CallsIn Wd 0 Tryz.prog 74 #[.pointer (some ⟨A.b, 0, none⟩), .int .i64 0, .int .i64 (D.dur.length : Int)] g.w (Ret g fun _ r => r = .tuple #[.string (bs D.vis), .int .i64 0]) := by
 have le0 := G.le.refl g
 have hmax := hD.le
 have hmin := hD.pos
 have hlen := hD.len
 have hvis := rvis_c hD hR hs
 rw [rkL_cons, ho] at hs
 refine enter Tryz.func74 rfl Tryz.ntmps74 rfl ?_
 refine W_seq ?_; refine W_region ?_; refine P1 T.ok rfl rfl rfl ?_; refine P1 T.ok rfl rfl rfl ?_; refine WL_nil ?_; (with_reducible refine T_then ?_); refine W_seq ?_; refine W_seq ?_; refine W_region ?_; (iterate 3 refine P1 T.ok rfl rfl rfl ?_); refine WL_o rfl rfl (OpR_loadO T.ok 0 rfl hs rfl rfl rfl ?_); refine WL_nil ?_; (with_reducible refine T_then ?_)
 refine W_no rfl rfl ?_
 refine W_skip ?_; (with_reducible refine T_then ?_); refine W_seq ?_; refine W_seq ?_; refine W_region ?_; (iterate 11 refine P1 T.ok rfl rfl rfl ?_); refine WL_o rfl rfl (OpR_loadO T.ok 0 rfl hs rfl rfl rfl ?_); (iterate 8 refine P1 T.ok rfl rfl rfl ?_); refine WL_o rfl rfl (OpR_loadO T.ok 0 rfl hs rfl rfl rfl ?_); (iterate 5 refine P1 T.ok rfl rfl rfl ?_); refine WL_nil ?_; (with_reducible refine T_then ?_)
 refine W_no (b := decide (IntKind.i64.wrap ((D.dur.length : Int) - 0) < (D.dur.length : Int))) (decide_eq_false (by rw [wr (by omega) (by omega)]; omega)) rfl ?_
 refine W_skip ?_; (with_reducible refine T_then ?_); refine W_seq ?_; refine W_region ?_; refine P1 T.ok rfl rfl rfl ?_
 refine WL_o rfl rfl (OpR_ret cl23 allF rfl rfl rfl rfl rfl hvis ?_)
 rintro g1 vo hf1 ⟨cells, hh, hrc⟩
 obtain rfl := RcL.bytes_inv hrc
 obtain ⟨bv, pv, rfl⟩ := hh.1.form
 have hr1 := hh.1
 clear hs
 obtain ⟨bv, dv, rfl⟩ := hr1.pos (by omega)
 (iterate 4 refine P1 T.ok rfl rfl rfl ?_)
 have hcap : D.vis.length ≤ pv := by
  rcases hr1.2 with ⟨h0, _⟩ | ⟨_, _, _, _, e, _, _, h, _⟩
  ·omega
  ·cases e; exact h
 have hcv : IntKind.i64.wrap (0 + (D.dur.length : Int)) = ((D.vis.length : Nat) : Int) := by rw [hlen, wr (by omega) (by omega)]; omega
 refine WL_o rfl rfl (OpR_cut T.ok (a := 0) (b := D.vis.length) rfl rfl rfl rfl rfl ⟨_, rfl⟩ ⟨_, congrArg some (congrArg (Value.int .i64) hcv)⟩ (by omega) hcap ?_)
 refine WL_re (.slice (some ⟨bv, dv, none⟩) D.vis.length pv) (t := 44) rfl (by rw [if_neg (by omega), Nat.sub_zero, Nat.sub_zero]; rfl) ?_
 obtain ⟨_, hsrc⟩ := Src.of_row hr1
 have hsr2 : Src g1.w (some ⟨bv, dv, none⟩) D.vis.length 1 ((D.vis.map fun b => (b.toNat : Int)).map (Value.int .u8)) := by
  have e : (D.vis.map fun b => (b.toNat : Int)).map (Value.int .u8) = byteV D.vis := by simp [byteV]
  rw [e]; exact hsrc
 refine WL_o rfl rfl (OpR_bytesStr (ns := D.vis.map fun b => (b.toNat : Int)) T.ok rfl rfl rfl rfl rfl rfl rfl rfl hsr2 ?_)
 rw [bytesL]
 refine P1 T.ok rfl rfl rfl ?_; refine P1 T.ok rfl rfl rfl ?_; refine WL_nil ?_; (with_reducible refine T_then ?_)
 exact W_ret (ret2 rfl rfl rfl (Ret.of hf1 rfl))
end Go.Proofs.YteohjgndanlldaaGreatDoor

/- The reference disk: Crash. -/
namespace Go.Proofs.YteohjgndanlldaaGreatDoor
open Go Go.K
set_option maxRecDepth 10000
attribute [local irreducible] W WL OpR bitAnd bitOr bitXor bitClr bitNot shlI shrI
set_option maxHeartbeats 1000000

theorem keptI_succ (n : Nat) (keep : List Int) : keptI (n + 1) keep = keptI n keep ++ if keep.contains (n : Int) then [(n : Int)] else [] := by
 unfold keptI
 rw [List.range_succ, List.map_append, List.filter_append]
 congr 1
 cases h : keep.contains (n : Int) <;> simp at h <;> simp [h]
/-- The writes that survive. -/
def keptW (p : List Wr) (o : List Int) : List Wr := o.map fun i => p.getD i.toNat ⟨0, []⟩
theorem keptW_len (p : List Wr) (o : List Int) : (keptW p o).length = o.length := List.length_map _
theorem keptI_len (n : Nat) (keep : List Int) : (keptI n keep).length ≤ n := by
 unfold keptI
 have := List.length_filter_le (fun i => keep.contains i) ((List.range n).map fun i : Nat => (i : Int))
 rwa [List.length_map, List.length_range] at this

theorem rcrash_c {A : RkA} {D : DiskM} (hD : D.ok) (hP : PendOk D) (v : Value) (keep : List Int) (torn : Int) {g0 g : G} {L : List Ent} (htn : I64 torn) (rsk : Rs g v keep) (hs : St g0 g (rkL A D ++ L)) :
  CallsIn Wd 0 Tryz.prog 67 #[.pointer (some ⟨A.b, 0, none⟩), v, .int .i64 torn] g.w
   (RetS g fun g' r => r = .tuple #[] ∧ St g0 g' (rkL ⟨A.b, A.bd, A.dp, A.dc, none, 0⟩ (D.crash keep torn) ++ L)) := by
 obtain ⟨ak, ck, rfl⟩ := rsk.isSlice
 have le0 := G.le.refl g
 have hmax := hD.le
 have hpl := hD.pend
 unfold I64 at htn
 refine enter Tryz.func67 rfl Tryz.ntmps67 rfl ?_
 refine W_seq ?_; refine W_region ?_; refine P1 T.ok rfl rfl rfl ?_; refine WL_nil ?_; (with_reducible refine T_then ?_); refine W_seq ?_; refine W_seq ?_; refine W_region ?_; refine P1 T.ok rfl rfl rfl ?_; refine WL_nil ?_; (with_reducible refine T_then ?_); refine W_block ?_
 replace hs := hs.nilrow 100 2 none
 refine W_loop (fun m a' w => ∃ (i : Nat) (g2 : G) (oa : Option Addr) (oc : Nat), w = g2.w ∧ St g0 g2 (.row 100 2 (.slice oa (keptW D.pend (keptI i keep)).length oc) (keptW D.pend (keptI i keep)).length (wrL (keptW D.pend (keptI i keep))) :: (rkL A D ++ L)) ∧ G.le g g2 ∧ i ≤ D.pend.length ∧ m = D.pend.length - i ∧
   Fr 81 [] [(0, .pointer (some ⟨A.b, 0, none⟩)), (1, .slice ak keep.length ck), (2, .int .i64 torn), (6, .slice oa (keptW D.pend (keptI i keep)).length oc), (7, .int .i64 i)] a') D.pend.length
  (fun a' ha => ⟨0, g, none, 0, rfl, hs, le0, Nat.zero_le _, rfl, ha.keep (by (repeat (first | exact trivial | refine ⟨rfl, ?_⟩)))⟩) ?_
 clear hs le0
 rintro m a' _ ⟨i, g2, oa, oc, rfl, hs, le0, hi, rfl, ha'⟩
 have rs0 := rsk.mono le0
 rw [rkL_cons] at hs
 revert a'
 (with_reducible refine T_wp ?_); refine W_seq ?_; refine W_seq ?_; refine W_region ?_; (iterate 4 refine P1 T.ok rfl rfl rfl ?_); refine WL_o rfl rfl (OpR_loadO T.ok 1 rfl hs rfl rfl rfl ?_); refine P1 T.ok rfl rfl rfl ?_; refine P1 T.ok rfl rfl rfl ?_; refine WL_nil ?_; (with_reducible refine T_then ?_)
 by_cases hlt : i < D.pend.length
 ·refine W_yes (b := decide ((i : Int) < (D.pend.length : Int))) (decide_eq_true (by omega)) rfl ?_
  have hsucc := keptI_succ i keep
  have hkl := keptI_len i keep
  have hwl := wrL_at hlt
  have hwn : (wrL D.pend).length = D.pend.length * 2 := wrL_len _
  have hgd : D.pend.getD i ⟨0, []⟩ = D.pend.getD (i : Int).toNat ⟨0, []⟩ := by rw [Int.toNat_natCast]
  have hkw := keptW_len D.pend (keptI i keep)
  generalize hq : keptI i keep = q at *
  refine W_skip ?_; (with_reducible refine T_then ?_); refine W_seq ?_; refine W_block ?_; refine W_seq ?_; refine W_region ?_; refine P1 T.ok rfl rfl rfl ?_; refine P1 T.ok rfl rfl rfl ?_
  refine WL_o rfl rfl (OpR_ret cl93 allF rfl rfl rfl rfl rfl (rhas_c _ keep (i : Int) _ rs0) ?_); rintro g1 _ hf1 rfl; replace hs := hs.call hf1; have hqe := hf1.le; replace le0 := G.le.trans le0 hqe; replace rs0 := rs0.mono hqe
  refine WL_nil ?_; (with_reducible refine T_then ?_)
  cases hc : keep.contains (i : Int) with
  | false =>
   rw [hc, if_neg (by simp), List.append_nil] at hsucc
   refine W_no rfl rfl ?_
   refine W_skip ?_; (with_reducible refine T_bn ?_); (with_reducible refine T_then ?_); refine W_region ?_; (iterate 3 refine P1 T.ok rfl rfl rfl ?_); refine WL_nil ?_
   exact fun a ha => ⟨D.pend.length - (i + 1), by omega, i + 1, _, oa, oc, rfl, by rw [hsucc]; exact hs, le0, by omega, rfl, by rw [hsucc]; exact ha.keep ⟨rfl, rfl, rfl, rfl, kI rfl (by rw [wr (by omega) (by omega)]; omega), trivial⟩⟩
  | true =>
   rw [hc, if_pos rfl] at hsucc
   refine W_yes rfl rfl ?_
   have hkw2 : keptW D.pend (q ++ [(i : Int)]) = keptW D.pend q ++ [D.pend.getD i ⟨0, []⟩] := by unfold keptW; rw [List.map_append, hgd]; rfl
   generalize D.pend.getD i ⟨0, []⟩ = x at *
   refine W_region ?_; (iterate 4 refine P1 T.ok rfl rfl rfl ?_); refine WL_o rfl rfl (OpR_loadO T.ok 1 rfl hs rfl rfl rfl ?_); refine P1 T.ok rfl rfl rfl ?_
   obtain ⟨bp, pp, hpa⟩ := ((hs.own 3 _ rfl).1).pos (by omega)
   have hpr := (hs.own 3 _ rfl).1
   refine WL_o rfl rfl (OpR_idxR T.ok rfl hpr (n := (i : Int)) (by omega) (by rw [Int.toNat_natCast]; exact hlt) rfl rfl rfl rfl rfl rfl ?_)
   rintro bp pp2 hpa
   rw [Int.toNat_natCast]
   have hpr2 : Row g0.w.heap.size 100 2 (.slice (some ⟨bp, pp2, none⟩) D.pend.length A.pc) D.pend.length (wrL D.pend) g1.w := by rw [← hpa]; exact hpr
   refine WL_o rfl rfl (OpR_loadR T.ok (i * 2) rfl hpr2 rfl (v := .agg #[.int .i64 x.off, .string (bs x.s)]) (by
    show (bif Nat.ble (i * 2 + 2) (wrL D.pend).length then some (Value.agg (((wrL D.pend).drop (i * 2)).take 2).toArray) else none) = _
    rw [hwl, show Nat.ble (i * 2 + 2) (wrL D.pend).length = true from Nat.ble_eq_true_of_le (by omega)]; rfl) ?_)
   clear hpr hpr2
   skip
   refine WL_o rfl rfl (OpR_lit T.ok rfl hs (vs := [(0, .agg #[.int .i64 x.off, .string (bs x.s)])]) (cells := [.int .i64 x.off, .string (bs x.s)]) rfl rfl rfl rfl rfl rfl (by decide) (by decide) (by kernel_rfl) rfl ?_)
   clear hs
   rintro bl gl hs hqe; replace le0 := G.le.trans le0 hqe; replace rs0 := rs0.mono hqe
   obtain ⟨gz, hwz, hsz, hqz, hrl⟩ := hs.fzRow (α := Wr) (xs := [x]) (i := 0) rfl (RcL.wr _ [x])
   clear hqe; have hqe := hqz; rw [← hwz]; replace hs := hsz; clear hsz; replace le0 := G.le.trans le0 hqe; replace rs0 := rs0.mono hqe
   skip
   obtain ⟨_, news, hnw, hsrc⟩ := Src.of_rs hrl
   refine WL_o rfl rfl (OpR_append T.ok 0 rfl hs rfl rfl rfl rfl rfl rfl rfl (by decide) rfl hsrc hnw.one (by show ((keptW D.pend q).length + 1) * 24 ≤ _; omega) (by unfold maxLen; show (keptW D.pend q).length + 1 ≤ _; omega) ?_)
   clear hs hsrc
   rintro oa2 oc2 g5 hs hqe; replace le0 := G.le.trans le0 hqe; replace rs0 := rs0.mono hqe
   obtain rfl := RcL.wr_inv hnw
   clear hnw hrl
   have hl1 : (keptW D.pend q).length + 1 = (keptW D.pend (keptI (i + 1) keep)).length := by rw [hsucc, hkw2, List.length_append]; rfl
   have hl2 : wrL (keptW D.pend q) ++ wrL [x] = wrL (keptW D.pend (keptI (i + 1) keep)) := by rw [hsucc, hkw2, wrL_app]
   replace hs : St g0 g5 (.row 100 2 (.slice oa2 ((keptW D.pend q).length + 1) oc2) ((keptW D.pend q).length + 1) (wrL (keptW D.pend q) ++ wrL [x]) :: (rkL A D ++ L)) := hs
   rw [hl1, hl2] at hs
   rw [hl1]
   refine P1 T.ok rfl rfl rfl ?_; refine WL_nil ?_; (with_reducible refine T_bn ?_); (with_reducible refine T_then ?_); refine W_region ?_; (iterate 3 refine P1 T.ok rfl rfl rfl ?_); refine WL_nil ?_
   exact fun a ha => ⟨D.pend.length - (i + 1), by omega, i + 1, g5, oa2, oc2, rfl, hs, le0, by omega, rfl, ha.keep ⟨rfl, rfl, rfl, rfl, kI rfl (by rw [wr (by omega) (by omega)]; omega), trivial⟩⟩
 ·refine W_no (b := decide ((i : Int) < (D.pend.length : Int))) (decide_eq_false (by omega)) rfl ?_
  obtain rfl : i = D.pend.length := by omega
  have hcd : D.crash keep torn = ⟨false, 0, crashGo D.pend torn (crashOrd D keep) D.dur, crashGo D.pend torn (crashOrd D keep) D.dur, []⟩ := rfl
  have hgood : ∀ i ∈ crashOrd D keep, 0 ≤ i ∧ i.toNat < D.pend.length := fun i hi => crashOrd_good hi
  rw [← crashOrd_kept] at *
  have hol : (crashOrd D keep).length ≤ D.pend.length := by rw [crashOrd_kept]; exact keptI_len _ _
  generalize crashOrd D keep = ord at *
  have hcr : crashGo D.pend torn (ord.drop 0) D.dur = crashGo D.pend torn ord D.dur := rfl
  replace hs : St g0 g2 (.row 100 2 (.slice oa (keptW D.pend ord).length oc) (keptW D.pend ord).length (wrL (keptW D.pend ord)) :: (rkL A { D with dur := D.dur } ++ L)) := hs
  have hkl := keptW_len D.pend ord
  rw [hkl] at hs ⊢
  refine W_exit ?_; (with_reducible refine T_tx ?_; with_reducible refine T_tx ?_); (with_reducible refine T_bx ?_); (with_reducible refine T_then ?_); refine W_seq ?_; refine W_seq ?_; refine W_region ?_; refine P1 T.ok rfl rfl rfl ?_; refine WL_nil ?_; (with_reducible refine T_then ?_); refine W_block ?_
  refine W_loop (fun m a' w => ∃ (k : Nat) (g2 : G) (dk : List UInt8), w = g2.w ∧ St g0 g2 (.row 100 2 (.slice oa ord.length oc) ord.length (wrL (keptW D.pend ord)) :: (rkL A { D with dur := dk } ++ L)) ∧ G.le g g2 ∧ dk.length = D.dur.length ∧
    crashGo D.pend torn (ord.drop k) dk = crashGo D.pend torn ord D.dur ∧ k ≤ ord.length ∧ m = ord.length - k ∧
    Fr 81 [] [(0, .pointer (some ⟨A.b, 0, none⟩)), (2, .int .i64 torn), (6, .slice oa ord.length oc), (8, .int .i64 k)] a') ord.length
   (fun a' ha => ⟨0, g2, D.dur, rfl, hs, le0, rfl, hcr, Nat.zero_le _, rfl, ha.keep (by (repeat (first | exact trivial | refine ⟨rfl, ?_⟩)))⟩) ?_
  clear hs le0 hcr rs0
  rintro m a' _ ⟨k, g2, dk, rfl, hs, le0, hdk, hcr, hk, rfl, ha'⟩
  rw [rkL_cons] at hs
  revert a'
  (with_reducible refine T_wp ?_); refine W_seq ?_; refine W_seq ?_; refine W_region ?_; (iterate 4 refine P1 T.ok rfl rfl rfl ?_); refine WL_nil ?_; (with_reducible refine T_then ?_)
  by_cases hlt : k < ord.length
  ·refine W_yes (b := decide ((k : Int) < (ord.length : Int))) (decide_eq_true (by omega)) rfl ?_
   have hz := hgood ord[k] (List.getElem_mem hlt)
   have hdrop : ord.drop k = ord[k] :: ord.drop (k + 1) := List.drop_eq_getElem_cons hlt
   rw [hdrop, crashGo] at hcr
   have hlast : ord.drop (k + 1) = [] ↔ k + 1 = ord.length := by rw [List.drop_eq_nil_iff]; omega
   have hkq : (keptW D.pend ord)[k]'(by omega) = D.pend.getD ord[k].toNat ⟨0, []⟩ := by unfold keptW; rw [List.getElem_map]
   have ho1 := wrL_off (p := keptW D.pend ord) (i := k) (by omega)
   have ho2 := wrL_str (p := keptW D.pend ord) (i := k) (by omega)
   rw [hkq] at ho1 ho2
   obtain ⟨w, hw⟩ : ∃ w, w = D.pend.getD ord[k].toNat ⟨0, []⟩ := ⟨_, rfl⟩
   have hwm : w ∈ D.pend := by rw [hw, List.getD_eq_getElem?_getD, List.getElem?_eq_getElem hz.2]; exact List.getElem_mem hz.2
   rw [← hw] at ho1 ho2 hcr
   clear hkq hdrop hw
   obtain ⟨kk, hkk, hkl2⟩ := hP w hwm
   rw [hkk] at ho1
   rw [hkk, Int.toNat_natCast] at hcr
   clear hwm hkk
   generalize w.s = ws at *
   obtain ⟨bp, pp, rfl⟩ := ((hs.own 0 _ rfl).1).pos (by omega)
   refine W_skip ?_; (with_reducible refine T_then ?_); refine W_seq ?_; refine W_block ?_; refine W_seq ?_; refine W_region ?_; refine P1 T.ok rfl rfl rfl ?_; refine P1 T.ok rfl rfl rfl ?_
   refine WL_o rfl rfl (OpR_idxR T.ok rfl (hs.own 0 _ rfl).1 (n := (k : Int)) (by omega) (by omega) rfl rfl rfl rfl rfl rfl ?_)
   rintro _ _ he
   cases he
   refine P1 T.ok rfl rfl rfl ?_
   refine WL_o rfl rfl (OpR_loadR T.ok (k * 2 + 1) rfl (hs.own 0 _ rfl).1 rfl (v := .string (bs ws)) ho2 ?_)
   have hwrn : IntKind.i64.wrap ((ord.length : Int) - 1) = (ord.length : Int) - 1 := wr (by omega) (by omega)
   refine P1 T.ok rfl rfl rfl ?_; refine WL_nil ?_; (with_reducible refine T_then ?_); refine W_seq ?_; refine W_seq ?_; refine W_region ?_; (iterate 6 refine P1 T.ok rfl rfl rfl ?_)
   by_cases hla : k + 1 = ord.length
   ·refine WL_know 48 (b := (k : Int) == IntKind.i64.wrap ((ord.length : Int) - 1)) (b' := true) (by rw [hwrn]; simp; omega) rfl ?_
    (iterate 4 refine P1 T.ok rfl rfl rfl ?_)
    by_cases ht : 0 ≤ torn
    ·refine WL_know 52 (b := decide (0 ≤ torn)) (b' := true) (decide_eq_true ht) rfl ?_
     rw [if_pos ⟨hlast.2 hla, ht⟩] at hcr
     obtain ⟨tn, rfl⟩ : ∃ tn : Nat, torn = (tn : Int) := ⟨torn.toNat, by omega⟩
     rw [Int.toNat_natCast] at hcr
     (iterate 5 refine P1 T.ok rfl rfl rfl ?_); refine WL_nil ?_; (with_reducible refine T_then ?_)
     by_cases hcut : tn < ws.length
     ·refine W_yes (b := decide ((tn : Int) < ((bs ws).size : Int))) (decide_eq_true (by rw [bs_size]; omega)) rfl ?_
      refine W_region ?_; refine P1 T.ok rfl rfl rfl ?_; refine P1 T.ok rfl rfl rfl ?_
      refine WL_o rfl rfl (OpR_cutS T.ok (s := ws) (a := 0) (b := tn) rfl rfl rfl rfl rfl ⟨_, rfl⟩ (Nat.zero_le _) (by omega) ?_)
      rw [List.drop_zero]
      refine P1 T.ok rfl rfl rfl ?_; refine WL_nil ?_; (with_reducible refine T_then ?_)
      apply W_draw allF rfl (Fact.eq _ :: Fact.eq _ :: Fact.eq _ :: Fact.eq _ :: Fact.eq _ :: Fact.eq _ :: Fact.eq _ :: Fact.eq _ :: Fact.eq _ :: Fact.eq _ :: []) 10 [(3, 64), (8, 69), (9, 70)] rfl rfl
      ·refine D_s (js := []) (by kernel_rfl) (fun _ _ => QA_nil (DPu T.ok rfl rfl rfl)) ?_
       refine D_s (js := [(0, 61)]) (by kernel_rfl) (fun _ _ => QA_eq rfl (QA_nil (DPu T.ok rfl rfl rfl))) ?_
       refine D_s (js := [(1, 62)]) (by kernel_rfl) (fun _ _ => QA_eq rfl (QA_nil (DPu T.ok rfl rfl rfl))) ?_
       refine D_s (js := [(2, 63)]) (by kernel_rfl) (fun _ hf => QA_eq rfl (QA_nil (DLo T.ok 1 rfl rfl (hs.dr.call hf) rfl rfl rfl rfl))) ?_
       refine D_s (js := []) (by kernel_rfl) (fun _ _ => QA_nil (DPu T.ok rfl rfl rfl)) ?_
       refine D_s (js := []) (by kernel_rfl) (fun _ _ => QA_nil (DPu T.ok rfl rfl rfl)) ?_
       refine D_cons (D_step2 (js := [(4, 65), (5, 66)]) (by kernel_rfl) fun gd hf => ?_) ?_
       ·have hsd := hs.dr.call hf; have hfe := (G.le_dr _).trans hf.le
        refine QA_eq rfl ?_; refine QA_eq rfl ?_
        refine QA_nil ?_
        refine D_yes rfl ?_
        refine OpR_idxR T.ok rfl ((hsd).own 0 _ rfl).1 (n := (k : Int)) (by omega) (by omega) rfl rfl rfl rfl rfl rfl ?_
        rintro _ _ he
        cases he
        exact ⟨_, rfl, Fr0.refl _, rfl⟩
       refine D_s (js := [(6, 67)]) (by kernel_rfl) (fun _ _ => QA_eq rfl (QA_nil (DPu T.ok rfl rfl rfl))) ?_
       refine D_cons (D_step2 (js := [(7, 68)]) (by kernel_rfl) fun gd hf => ?_) ?_
       ·have hsd := hs.dr.call hf; have hfe := (G.le_dr _).trans hf.le
        refine QA_eq rfl ?_
        refine QA_nil ?_
        refine D_yes rfl ?_
        refine OpR_loadR T.ok (k * 2) rfl ((hsd).own 0 _ rfl).1 rfl (v := .int .i64 (kk : Int)) ho1 ?_
        exact ⟨_, rfl, Fr0.refl _, rfl⟩
       refine D_s (js := []) (by kernel_rfl) (fun _ _ => QA_nil (DPu T.ok rfl rfl rfl)) ?_
       exact D_nil
      intro g1 hf1; refine QA_eq rfl ?_; refine QA_eq rfl ?_; refine QA_eq rfl ?_; refine QA_nil ?_
      replace hs := hs.dr.call hf1; have hqe := (G.le_dr _).trans hf1.le; replace le0 := G.le.trans le0 hqe
      have hle : kk + (ws.take tn).length ≤ dk.length := by rw [List.length_take]; omega
      have hon := ontoM_len (xs := dk) (k := kk) (s := ws.take tn) hle
      replace hs := hs.front (i := 2) rfl
      refine WL_o rfl rfl (OpR_st cl53 allF rfl rfl rfl rfl rfl (rapply_c dk (ws.take tn) kk (N := dk.length) rfl hle (by omega) hs) ?_)
      clear hs
      rintro g8 _ hqe ⟨rfl, hs⟩; replace le0 := G.le.trans le0 hqe
      replace hs : St g0 g8 (.row 100 2 (.slice (some ⟨bp, pp, none⟩) ord.length oc) ord.length (wrL (keptW D.pend ord)) :: (rkL A { D with dur := ontoM dk kk (ws.take tn) } ++ L)) := by
       have h := (hs.front (i := 2) rfl).front (i := 2) rfl
       rw [rkL_cons]
       simp only [hon]
       exact h
      refine WL_nil ?_; (with_reducible refine T_bn ?_); (with_reducible refine T_then ?_); refine W_region ?_; (iterate 3 refine P1 T.ok rfl rfl rfl ?_); refine WL_nil ?_
      exact fun a ha => ⟨ord.length - (k + 1), by omega, k + 1, g8, ontoM dk kk (ws.take tn), rfl, hs, le0, hon.trans hdk, hcr, by omega, rfl, ha.keep ⟨rfl, rfl, rfl, kI rfl (by rw [wr (by omega) (by omega)]; omega), trivial⟩⟩
     ·refine W_no (b := decide ((tn : Int) < ((bs ws).size : Int))) (decide_eq_false (by rw [bs_size]; omega)) rfl ?_
      rw [List.take_of_length_le (by omega)] at hcr
      refine W_skip ?_; (with_reducible refine T_then ?_)
      apply W_draw allF rfl (Fact.eq _ :: Fact.eq _ :: Fact.eq _ :: Fact.eq _ :: Fact.eq _ :: Fact.eq _ :: Fact.eq _ :: Fact.eq _ :: Fact.eq _ :: Fact.eq _ :: []) 10 [(3, 64), (8, 69), (9, 70)] rfl rfl
      ·refine D_s (js := []) (by kernel_rfl) (fun _ _ => QA_nil (DPu T.ok rfl rfl rfl)) ?_
       refine D_s (js := [(0, 61)]) (by kernel_rfl) (fun _ _ => QA_eq rfl (QA_nil (DPu T.ok rfl rfl rfl))) ?_
       refine D_s (js := [(1, 62)]) (by kernel_rfl) (fun _ _ => QA_eq rfl (QA_nil (DPu T.ok rfl rfl rfl))) ?_
       refine D_s (js := [(2, 63)]) (by kernel_rfl) (fun _ hf => QA_eq rfl (QA_nil (DLo T.ok 1 rfl rfl (hs.dr.call hf) rfl rfl rfl rfl))) ?_
       refine D_s (js := []) (by kernel_rfl) (fun _ _ => QA_nil (DPu T.ok rfl rfl rfl)) ?_
       refine D_s (js := []) (by kernel_rfl) (fun _ _ => QA_nil (DPu T.ok rfl rfl rfl)) ?_
       refine D_cons (D_step2 (js := [(4, 65), (5, 66)]) (by kernel_rfl) fun gd hf => ?_) ?_
       ·have hsd := hs.dr.call hf; have hfe := (G.le_dr _).trans hf.le
        refine QA_eq rfl ?_; refine QA_eq rfl ?_
        refine QA_nil ?_
        refine D_yes rfl ?_
        refine OpR_idxR T.ok rfl ((hsd).own 0 _ rfl).1 (n := (k : Int)) (by omega) (by omega) rfl rfl rfl rfl rfl rfl ?_
        rintro _ _ he
        cases he
        exact ⟨_, rfl, Fr0.refl _, rfl⟩
       refine D_s (js := [(6, 67)]) (by kernel_rfl) (fun _ _ => QA_eq rfl (QA_nil (DPu T.ok rfl rfl rfl))) ?_
       refine D_cons (D_step2 (js := [(7, 68)]) (by kernel_rfl) fun gd hf => ?_) ?_
       ·have hsd := hs.dr.call hf; have hfe := (G.le_dr _).trans hf.le
        refine QA_eq rfl ?_
        refine QA_nil ?_
        refine D_yes rfl ?_
        refine OpR_loadR T.ok (k * 2) rfl ((hsd).own 0 _ rfl).1 rfl (v := .int .i64 (kk : Int)) ho1 ?_
        exact ⟨_, rfl, Fr0.refl _, rfl⟩
       refine D_s (js := []) (by kernel_rfl) (fun _ _ => QA_nil (DPu T.ok rfl rfl rfl)) ?_
       exact D_nil
      intro g1 hf1; refine QA_eq rfl ?_; refine QA_eq rfl ?_; refine QA_eq rfl ?_; refine QA_nil ?_
      replace hs := hs.dr.call hf1; have hqe := (G.le_dr _).trans hf1.le; replace le0 := G.le.trans le0 hqe
      have hle : kk + (ws).length ≤ dk.length := by omega
      have hon := ontoM_len (xs := dk) (k := kk) (s := ws) hle
      replace hs := hs.front (i := 2) rfl
      refine WL_o rfl rfl (OpR_st cl53 allF rfl rfl rfl rfl rfl (rapply_c dk (ws) kk (N := dk.length) rfl hle (by omega) hs) ?_)
      clear hs
      rintro g8 _ hqe ⟨rfl, hs⟩; replace le0 := G.le.trans le0 hqe
      replace hs : St g0 g8 (.row 100 2 (.slice (some ⟨bp, pp, none⟩) ord.length oc) ord.length (wrL (keptW D.pend ord)) :: (rkL A { D with dur := ontoM dk kk (ws) } ++ L)) := by
       have h := (hs.front (i := 2) rfl).front (i := 2) rfl
       rw [rkL_cons]
       simp only [hon]
       exact h
      refine WL_nil ?_; (with_reducible refine T_bn ?_); (with_reducible refine T_then ?_); refine W_region ?_; (iterate 3 refine P1 T.ok rfl rfl rfl ?_); refine WL_nil ?_
      exact fun a ha => ⟨ord.length - (k + 1), by omega, k + 1, g8, ontoM dk kk (ws), rfl, hs, le0, hon.trans hdk, hcr, by omega, rfl, ha.keep ⟨rfl, rfl, rfl, kI rfl (by rw [wr (by omega) (by omega)]; omega), trivial⟩⟩
    ·refine WL_know 52 (b := decide (0 ≤ torn)) (b' := false) (decide_eq_false ht) rfl ?_
     rw [if_neg (fun h => ht h.2)] at hcr
     (iterate 4 refine S1 allF rfl rfl ?_); refine P1 T.ok rfl rfl rfl ?_; refine WL_nil ?_; (with_reducible refine T_then ?_)
     refine W_no rfl rfl ?_
     refine W_skip ?_; (with_reducible refine T_then ?_)
     apply W_draw allF rfl (Fact.eq _ :: Fact.eq _ :: Fact.eq _ :: Fact.eq _ :: Fact.eq _ :: Fact.eq _ :: Fact.eq _ :: Fact.eq _ :: Fact.eq _ :: Fact.eq _ :: []) 10 [(3, 64), (8, 69), (9, 70)] rfl rfl
     ·refine D_s (js := []) (by kernel_rfl) (fun _ _ => QA_nil (DPu T.ok rfl rfl rfl)) ?_
      refine D_s (js := [(0, 61)]) (by kernel_rfl) (fun _ _ => QA_eq rfl (QA_nil (DPu T.ok rfl rfl rfl))) ?_
      refine D_s (js := [(1, 62)]) (by kernel_rfl) (fun _ _ => QA_eq rfl (QA_nil (DPu T.ok rfl rfl rfl))) ?_
      refine D_s (js := [(2, 63)]) (by kernel_rfl) (fun _ hf => QA_eq rfl (QA_nil (DLo T.ok 1 rfl rfl (hs.dr.call hf) rfl rfl rfl rfl))) ?_
      refine D_s (js := []) (by kernel_rfl) (fun _ _ => QA_nil (DPu T.ok rfl rfl rfl)) ?_
      refine D_s (js := []) (by kernel_rfl) (fun _ _ => QA_nil (DPu T.ok rfl rfl rfl)) ?_
      refine D_cons (D_step2 (js := [(4, 65), (5, 66)]) (by kernel_rfl) fun gd hf => ?_) ?_
      ·have hsd := hs.dr.call hf; have hfe := (G.le_dr _).trans hf.le
       refine QA_eq rfl ?_; refine QA_eq rfl ?_
       refine QA_nil ?_
       refine D_yes rfl ?_
       refine OpR_idxR T.ok rfl ((hsd).own 0 _ rfl).1 (n := (k : Int)) (by omega) (by omega) rfl rfl rfl rfl rfl rfl ?_
       rintro _ _ he
       cases he
       exact ⟨_, rfl, Fr0.refl _, rfl⟩
      refine D_s (js := [(6, 67)]) (by kernel_rfl) (fun _ _ => QA_eq rfl (QA_nil (DPu T.ok rfl rfl rfl))) ?_
      refine D_cons (D_step2 (js := [(7, 68)]) (by kernel_rfl) fun gd hf => ?_) ?_
      ·have hsd := hs.dr.call hf; have hfe := (G.le_dr _).trans hf.le
       refine QA_eq rfl ?_
       refine QA_nil ?_
       refine D_yes rfl ?_
       refine OpR_loadR T.ok (k * 2) rfl ((hsd).own 0 _ rfl).1 rfl (v := .int .i64 (kk : Int)) ho1 ?_
       exact ⟨_, rfl, Fr0.refl _, rfl⟩
      refine D_s (js := []) (by kernel_rfl) (fun _ _ => QA_nil (DPu T.ok rfl rfl rfl)) ?_
      exact D_nil
     intro g1 hf1; refine QA_eq rfl ?_; refine QA_eq rfl ?_; refine QA_eq rfl ?_; refine QA_nil ?_
     replace hs := hs.dr.call hf1; have hqe := (G.le_dr _).trans hf1.le; replace le0 := G.le.trans le0 hqe
     have hle : kk + (ws).length ≤ dk.length := by omega
     have hon := ontoM_len (xs := dk) (k := kk) (s := ws) hle
     replace hs := hs.front (i := 2) rfl
     refine WL_o rfl rfl (OpR_st cl53 allF rfl rfl rfl rfl rfl (rapply_c dk (ws) kk (N := dk.length) rfl hle (by omega) hs) ?_)
     clear hs
     rintro g8 _ hqe ⟨rfl, hs⟩; replace le0 := G.le.trans le0 hqe
     replace hs : St g0 g8 (.row 100 2 (.slice (some ⟨bp, pp, none⟩) ord.length oc) ord.length (wrL (keptW D.pend ord)) :: (rkL A { D with dur := ontoM dk kk (ws) } ++ L)) := by
      have h := (hs.front (i := 2) rfl).front (i := 2) rfl
      rw [rkL_cons]
      simp only [hon]
      exact h
     refine WL_nil ?_; (with_reducible refine T_bn ?_); (with_reducible refine T_then ?_); refine W_region ?_; (iterate 3 refine P1 T.ok rfl rfl rfl ?_); refine WL_nil ?_
     exact fun a ha => ⟨ord.length - (k + 1), by omega, k + 1, g8, ontoM dk kk (ws), rfl, hs, le0, hon.trans hdk, hcr, by omega, rfl, ha.keep ⟨rfl, rfl, rfl, kI rfl (by rw [wr (by omega) (by omega)]; omega), trivial⟩⟩
   ·refine WL_know 48 (b := (k : Int) == IntKind.i64.wrap ((ord.length : Int) - 1)) (b' := false) (by rw [hwrn]; simp; omega) rfl ?_
    rw [if_neg (fun h => hla (hlast.1 h.1))] at hcr
    refine S1 allF rfl rfl ?_; refine S1 allF rfl rfl ?_; refine P1 T.ok rfl rfl rfl ?_; refine P1 T.ok rfl rfl rfl ?_; (iterate 4 refine S1 allF rfl rfl ?_); refine P1 T.ok rfl rfl rfl ?_; refine WL_nil ?_; (with_reducible refine T_then ?_)
    refine W_no rfl rfl ?_
    refine W_skip ?_; (with_reducible refine T_then ?_)
    apply W_draw allF rfl (Fact.eq _ :: Fact.eq _ :: Fact.eq _ :: Fact.eq _ :: Fact.eq _ :: Fact.eq _ :: Fact.eq _ :: Fact.eq _ :: Fact.eq _ :: Fact.eq _ :: []) 10 [(3, 64), (8, 69), (9, 70)] rfl rfl
    ·refine D_s (js := []) (by kernel_rfl) (fun _ _ => QA_nil (DPu T.ok rfl rfl rfl)) ?_
     refine D_s (js := [(0, 61)]) (by kernel_rfl) (fun _ _ => QA_eq rfl (QA_nil (DPu T.ok rfl rfl rfl))) ?_
     refine D_s (js := [(1, 62)]) (by kernel_rfl) (fun _ _ => QA_eq rfl (QA_nil (DPu T.ok rfl rfl rfl))) ?_
     refine D_s (js := [(2, 63)]) (by kernel_rfl) (fun _ hf => QA_eq rfl (QA_nil (DLo T.ok 1 rfl rfl (hs.dr.call hf) rfl rfl rfl rfl))) ?_
     refine D_s (js := []) (by kernel_rfl) (fun _ _ => QA_nil (DPu T.ok rfl rfl rfl)) ?_
     refine D_s (js := []) (by kernel_rfl) (fun _ _ => QA_nil (DPu T.ok rfl rfl rfl)) ?_
     refine D_cons (D_step2 (js := [(4, 65), (5, 66)]) (by kernel_rfl) fun gd hf => ?_) ?_
     ·have hsd := hs.dr.call hf; have hfe := (G.le_dr _).trans hf.le
      refine QA_eq rfl ?_; refine QA_eq rfl ?_
      refine QA_nil ?_
      refine D_yes rfl ?_
      refine OpR_idxR T.ok rfl ((hsd).own 0 _ rfl).1 (n := (k : Int)) (by omega) (by omega) rfl rfl rfl rfl rfl rfl ?_
      rintro _ _ he
      cases he
      exact ⟨_, rfl, Fr0.refl _, rfl⟩
     refine D_s (js := [(6, 67)]) (by kernel_rfl) (fun _ _ => QA_eq rfl (QA_nil (DPu T.ok rfl rfl rfl))) ?_
     refine D_cons (D_step2 (js := [(7, 68)]) (by kernel_rfl) fun gd hf => ?_) ?_
     ·have hsd := hs.dr.call hf; have hfe := (G.le_dr _).trans hf.le
      refine QA_eq rfl ?_
      refine QA_nil ?_
      refine D_yes rfl ?_
      refine OpR_loadR T.ok (k * 2) rfl ((hsd).own 0 _ rfl).1 rfl (v := .int .i64 (kk : Int)) ho1 ?_
      exact ⟨_, rfl, Fr0.refl _, rfl⟩
     refine D_s (js := []) (by kernel_rfl) (fun _ _ => QA_nil (DPu T.ok rfl rfl rfl)) ?_
     exact D_nil
    intro g1 hf1; refine QA_eq rfl ?_; refine QA_eq rfl ?_; refine QA_eq rfl ?_; refine QA_nil ?_
    replace hs := hs.dr.call hf1; have hqe := (G.le_dr _).trans hf1.le; replace le0 := G.le.trans le0 hqe
    have hle : kk + (ws).length ≤ dk.length := by omega
    have hon := ontoM_len (xs := dk) (k := kk) (s := ws) hle
    replace hs := hs.front (i := 2) rfl
    refine WL_o rfl rfl (OpR_st cl53 allF rfl rfl rfl rfl rfl (rapply_c dk (ws) kk (N := dk.length) rfl hle (by omega) hs) ?_)
    clear hs
    rintro g8 _ hqe ⟨rfl, hs⟩; replace le0 := G.le.trans le0 hqe
    replace hs : St g0 g8 (.row 100 2 (.slice (some ⟨bp, pp, none⟩) ord.length oc) ord.length (wrL (keptW D.pend ord)) :: (rkL A { D with dur := ontoM dk kk (ws) } ++ L)) := by
     have h := (hs.front (i := 2) rfl).front (i := 2) rfl
     rw [rkL_cons]
     simp only [hon]
     exact h
    refine WL_nil ?_; (with_reducible refine T_bn ?_); (with_reducible refine T_then ?_); refine W_region ?_; (iterate 3 refine P1 T.ok rfl rfl rfl ?_); refine WL_nil ?_
    exact fun a ha => ⟨ord.length - (k + 1), by omega, k + 1, g8, ontoM dk kk (ws), rfl, hs, le0, hon.trans hdk, hcr, by omega, rfl, ha.keep ⟨rfl, rfl, rfl, kI rfl (by rw [wr (by omega) (by omega)]; omega), trivial⟩⟩
  ·refine W_no (b := decide ((k : Int) < (ord.length : Int))) (decide_eq_false (by omega)) rfl ?_
   rw [List.drop_of_length_le (by omega)] at hcr
   refine W_exit ?_; (with_reducible refine T_tx ?_; with_reducible refine T_tx ?_); (with_reducible refine T_bx ?_); (with_reducible refine T_then ?_); refine W_seq ?_; refine W_region ?_; (iterate 3 refine P1 T.ok rfl rfl rfl ?_)
   refine WL_n rfl (OpR_storeO T.ok 1 rfl hs rfl rfl rfl rfl rfl rfl rfl rfl rfl ?_); replace hs := hs; rintro g1 hs hqe; replace le0 := G.le.trans le0 hqe
   refine WL_nil ?_; (with_reducible refine T_then ?_); refine W_seq ?_; refine W_region ?_; (iterate 3 refine P1 T.ok rfl rfl rfl ?_)
   refine WL_n rfl (OpR_storeO T.ok 1 rfl hs rfl rfl rfl rfl rfl rfl rfl rfl rfl ?_); replace hs := hs; rintro g1 hs hqe; replace le0 := G.le.trans le0 hqe
   refine WL_nil ?_; (with_reducible refine T_then ?_); refine W_region ?_; (iterate 3 refine P1 T.ok rfl rfl rfl ?_)
   refine WL_n rfl (OpR_storeO T.ok 1 rfl hs rfl rfl rfl rfl rfl rfl rfl rfl rfl ?_); replace hs := hs; rintro g1 hs hqe; replace le0 := G.le.trans le0 hqe
   refine WL_nil ?_
   refine end0 rfl (RetS.intro le0 ⟨rfl, ?_⟩)
   replace hs := (((((hs.drop 0).drop 2).nilrow 100 2 none).front (i := 2) rfl).front (i := 2) rfl)
   rw [rkL_cons, hcd, ← hcr]
   exact hs
end Go.Proofs.YteohjgndanlldaaGreatDoor
