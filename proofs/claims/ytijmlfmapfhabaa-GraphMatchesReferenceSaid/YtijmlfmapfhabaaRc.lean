/- The walk through the reference's ways. -/
import Derived.Test.YtijmlfmapfhabaaRb
import Derived.Test.YtijmlfmapfhabaaMc

namespace Go.Proofs.Ytijmlfmapfhabaa
open Go Go.K
set_option maxRecDepth 10000
attribute [local irreducible] W WL OpR
set_option maxHeartbeats 2000000

def pws (out : List (Option Wy)) : List Pw := out.map Pw.mk
theorem pws_get {out : List (Option Wy)} {v : Int} (h0 : 0 ≤ v) (h : v.toNat < out.length) : (pws out)[v.toNat]? = some ⟨og out v⟩ := by
  unfold pws og
  rw [List.getElem?_map, List.getD_eq_getElem?_getD, List.getElem?_eq_getElem h]; rfl
theorem pws_set (out : List (Option Wy)) (i : Nat) (o : Option Wy) : (pws out).set i ⟨o⟩ = pws (out.set i o) := by
  unfold pws; rw [List.map_set]
/-- The cells of one element of a row. -/
theorem RcL.blk {α : Type} [El α] {g : G} {xs : List α} {cs : List Value} (h : RcL g cs xs) {i : Nat} {x : α} (hi : xs[i]? = some x) :
    ∃ ys, El.rc g ys x ∧ (cs.drop (i * El.k α)).take (El.k α) = ys ∧ ys.length = El.k α ∧ i * El.k α + El.k α ≤ cs.length ∧ ∀ (j : Nat) y, ys[j]? = some y → cs[i * El.k α + j]? = some y := by
  obtain ⟨ys, h1, h2, h3⟩ := h.at hi
  have hlt : i < xs.length := (List.getElem?_eq_some_iff.1 hi).1
  have hlen : i * El.k α + El.k α ≤ cs.length := by
    rw [h.len]
    calc i * El.k α + El.k α = (i + 1) * El.k α := by rw [Nat.add_mul, Nat.one_mul]
      _ ≤ xs.length * El.k α := Nat.mul_le_mul_right _ hlt
  refine ⟨ys, h1, ?_, h3, hlen, h2⟩
  apply List.ext_getElem?
  intro j
  by_cases hj : j < El.k α
  · rw [List.getElem?_take, if_pos hj, List.getElem?_drop]
    have : j < ys.length := by omega
    rw [List.getElem?_eq_getElem this]
    exact h2 j _ (List.getElem?_eq_getElem this)
  · rw [List.getElem?_eq_none (by rw [List.length_take]; omega), List.getElem?_eq_none (by omega)]
/-- A thing from some block on. -/
def objF (B : Nat) (cs : List Value) (t : TypeId) : Fact :=
  ⟨fun v g => ∃ b, v = .pointer (some ⟨b, 0, none⟩) ∧ Ent.holds B g (.obj b (.cells cs.toArray t (0, 0))), fun v g g' hf ⟨b, e, h⟩ => ⟨b, e, h.kept fun b hb => ⟨hf.below.block b (h.lt b hb).2.1, hf.im b (h.lt b hb).2.1⟩⟩⟩
def rowP (ob N : Nat) (cells : List Value) : Ent := .row 75 3 (.slice (some ⟨ob, 0, none⟩) N N) N cells







theorem rPaths_c (v : Value) (f : Flow) (n : Int) (g : G) (fl0 : RFlow g v f) (hval : valid f = true) (h1 : InR f n) :
    CallsIn Wd 0 Try.prog 45 #[v, .int .i64 n] g.w (Ret g fun g' r => Rs g' r (pws (ways f n))) := by
  obtain ⟨a1, n1, c1, a2, n2, c2, rfl, rs0, rs1⟩ := id fl0
  obtain ⟨_, _, e⟩ := rs0.isSlice; obtain ⟨rfl, rfl, rfl⟩ := Value.slice.inj e; clear e
  have hs := St.start g
  have le0 := G.le.refl g
  have hn40 := valid_n hval
  have hmv := valid_mv hval
  refine enter Try.func45 rfl Try.ntmps45 rfl ?_
  refine W_seq ?_; refine W_region ?_
  refine WL_o rfl rfl (OpR_box rfl hs rfl rfl ?_); clear hs; rintro bf g1 hs hqe; replace le0 := G.le.trans le0 hqe; replace rs0 := rs0.mono hqe; replace rs1 := rs1.mono hqe; replace fl0 := fl0.mono hqe
  refine P1 T.ok rfl rfl rfl ?_; refine WL_nil ?_; (with_reducible refine T_then ?_); refine W_seq ?_; refine W_region ?_; refine P1 T.ok rfl rfl rfl ?_; refine WL_o rfl rfl (OpR_loadO T.ok 0 rfl hs rfl rfl rfl ?_); refine P1 T.ok rfl rfl rfl ?_
  obtain ⟨g2, hw2, hs2, hqe, hep⟩ := hs.fzObj (i := 0) rfl; replace hs := hs2; clear hs2; rw [← hw2]; replace le0 := G.le.trans le0 hqe; replace rs0 := rs0.mono hqe; replace rs1 := rs1.mono hqe; replace fl0 := fl0.mono hqe
  have ep0 := hep
  clear hep
  skip
  refine WL_o rfl rfl (OpR_make T.ok rfl hs rfl rfl rfl rfl rfl rfl (by decide) rfl (by show 40 * f.steps.length ≤ _; omega) (by unfold maxLen; omega) ?_); rintro ob gm hs hqe; replace le0 := G.le.trans le0 hqe; replace ep0 := ep0.mono hqe; replace rs0 := rs0.mono hqe; replace rs1 := rs1.mono hqe; replace fl0 := fl0.mono hqe
  have rc0 : RcL gm (List.replicate f.steps.length [Value.int .i64 0, .slice none 0 0, .bool false]).flatten (pws (List.replicate f.steps.length none)) := by
    have h := RcL.replicate (α := Pw) (g := gm) (x := ⟨none⟩) (cs := [Value.int .i64 0, .slice none 0 0, .bool false]) rfl f.steps.length
    unfold pws; rw [List.map_replicate]; exact h
  have hst : St g gm [rowP ob f.steps.length (List.replicate f.steps.length [Value.int .i64 0, .slice none 0 0, .bool false]).flatten] := hs
  replace hs := hst; clear hst
  refine P1 T.ok rfl rfl rfl ?_; refine WL_nil ?_; (with_reducible refine T_then ?_); refine W_seq ?_; refine W_region ?_; refine WL_o rfl rfl (OpR_loadE T.ok 0 rfl ep0 rfl rfl ?_); refine P1 T.ok rfl rfl rfl ?_
  refine WL_o rfl rfl (OpR_ret cl48 allF rfl rfl rfl rfl rfl (rAfterS_c _ f n _ fl0 hval h1) ?_); rintro g1 vo hf1 hvo; obtain ⟨gz, hwz, hsz, hqz, rs3⟩ := hs.ownRs hf1 hvo; have hqe := hf1.le.trans hqz; rw [← hwz]; replace hs := hsz; clear hsz hvo; replace le0 := G.le.trans le0 hqe; replace ep0 := ep0.mono hqe; replace rs0 := rs0.mono hqe; replace rs1 := rs1.mono hqe; replace rc0 := rc0.mono hqe; replace fl0 := fl0.mono hqe
  obtain ⟨al, cl, rfl⟩ := rs3.isSlice
  have hll := rs3.len_le
  unfold maxLen at hll
  have hps := PSt.zero f n
  have hpn := fun out i => PSt.next hval h1 (out := out) (i := i)
  have hpf := fun out => PSt.start hval h1 (out := out)
  have hlr := after_range hval h1.1 h1.2
  generalize afterL (stepD f n) = l at *
  refine P1 T.ok rfl rfl rfl ?_; refine WL_nil ?_; (with_reducible refine T_then ?_); refine W_seq ?_; refine W_seq ?_; refine W_region ?_; refine P1 T.ok rfl rfl rfl ?_; refine WL_nil ?_; (with_reducible refine T_then ?_); refine W_block ?_
  have ep0c := ep0; have fl0c := fl0; have rs0c := rs0; have rs3c := rs3; have le8 := G.le.refl gz
  refine W_loop (fun m a' w => ∃ (i : Nat) (out : List (Option Wy)) (cells : List Value) (g2 : G), w = g2.w ∧ St g g2 [rowP ob f.steps.length cells] ∧ G.le gz g2 ∧ i ≤ l.length ∧ m = l.length - i ∧ RcL g2 cells (pws out) ∧ PSt f n out i ∧
      Fr 101 [] [(2, .pointer (some ⟨bf, 0, none⟩)), (5, .slice (some ⟨ob, 0, none⟩) f.steps.length f.steps.length), (6, .slice al l.length cl), (7, .int .i64 i)] a') l.length
    (fun a' ha => ⟨0, _, _, gz, rfl, hs, le8, Nat.zero_le _, rfl, rc0, hps, ha.keep (by (repeat (first | exact trivial | refine ⟨rfl, ?_⟩)))⟩) ?_
  clear hs le8 ep0 fl0 rs0 rs3 rc0 hps rs1
  rintro m a' _ ⟨i, out, cells, g2, rfl, hs, le8, hi, rfl, rc0, hps, ha'⟩
  have ep0 := ep0c.mono le8; have rs3 := rs3c.mono le8; have fl0 := fl0c.mono le8; have rs0 := rs0c.mono le8
  have hol := hps.len
  have hcl : cells.length = out.length * 3 := by have := rc0.len; unfold pws at this; rw [List.length_map] at this; exact this
  revert a'
  (with_reducible refine T_wp ?_); refine W_seq ?_; refine W_seq ?_; refine W_region ?_; (iterate 4 refine P1 T.ok rfl rfl rfl ?_); refine WL_nil ?_; (with_reducible refine T_then ?_)
  by_cases hlt : i < l.length
  · refine W_yes (b := decide ((i : Int) < (l.length : Int))) (decide_eq_true (by omega)) rfl ?_
    have hgi := geti_of (xs := l) (n := (i : Int)) rfl hlt
    have hvr : InR f l[i] := hlr _ (List.getElem_mem hlt)
    have hnx := hpn out i hps hlt
    generalize l[i] = y at *
    have hy0 := hvr.1; have hy1 := hvr.2
    refine W_skip ?_; (with_reducible refine T_then ?_); refine W_seq ?_; refine W_block ?_
    apply W_draw allF rfl (Fact.eq _ :: Fact.eq _ :: Fact.eq _ :: (intPtr y) :: Fact.eq _ :: Fact.eq _ :: Fact.eq _ :: Fact.eq _ :: Fact.eq _ :: []) 9 [(7, 33), (8, 34)] rfl rfl
    · refine D_cons (D_step2 (js := []) (by kernel_rfl) fun gd hf => ?_) ?_
      · have hsd := hs.dr.call hf; have hfe := (G.le_dr _).trans hf.le
        refine QA_nil ?_
        (refine D_yes rfl ?_; refine OpR_pure _ T.ok rfl ?_; refine ⟨_, rfl, Fr0.refl _, ?_⟩; exact rfl)
      refine D_cons (D_step2 (js := []) (by kernel_rfl) fun gd hf => ?_) ?_
      · have hsd := hs.dr.call hf; have hfe := (G.le_dr _).trans hf.le
        refine QA_nil ?_
        (refine D_yes rfl ?_; refine OpR_pure _ T.ok rfl ?_; refine ⟨_, rfl, Fr0.refl _, ?_⟩; exact rfl)
      refine D_cons (D_step2 (js := []) (by kernel_rfl) fun gd hf => ?_) ?_
      · have hsd := hs.dr.call hf; have hfe := (G.le_dr _).trans hf.le
        refine QA_nil ?_
        (refine D_yes rfl ?_; refine OpR_pure _ T.ok rfl ?_; refine ⟨_, rfl, Fr0.refl _, ?_⟩; exact rfl)
      refine D_cons (D_step2 (js := [(1, 27), (2, 28)]) (by kernel_rfl) fun gd hf => ?_) ?_
      · have hsd := hs.dr.call hf; have hfe := (G.le_dr _).trans hf.le
        refine QA_eq rfl ?_; refine QA_eq rfl ?_
        refine QA_nil ?_
        refine D_yes rfl ?_
        refine OpR_idx T.ok rfl (rs3.mono hfe) (y := y) hgi rfl rfl rfl rfl rfl rfl ?_
        intro b p ys hep hrc
        exact ⟨_, rfl, Fr0.refl _, b, p, rfl, by rw [← show ys = [Value.int .i64 (y)] from hrc]; exact hep⟩
      refine D_cons (D_step2 (js := [(3, 29)]) (by kernel_rfl) fun gd hf => ?_) ?_
      · have hsd := hs.dr.call hf; have hfe := (G.le_dr _).trans hf.le
        refine QA_any fun v3 h3 => ?_
        refine QA_nil ?_
        obtain ⟨b, p, rfl, hep⟩ := h3
        refine D_yes rfl ?_
        refine OpR_loadE T.ok 0 rfl hep rfl rfl ?_
        refine ⟨_, rfl, Fr0.refl _, ?_⟩
        exact rfl
      refine D_cons (D_step2 (js := []) (by kernel_rfl) fun gd hf => ?_) ?_
      · have hsd := hs.dr.call hf; have hfe := (G.le_dr _).trans hf.le
        refine QA_nil ?_
        (refine D_yes rfl ?_; refine OpR_pure _ T.ok rfl ?_; refine ⟨_, rfl, Fr0.refl _, ?_⟩; exact rfl)
      refine D_cons (D_step2 (js := [(5, 31)]) (by kernel_rfl) fun gd hf => ?_) ?_
      · have hsd := hs.dr.call hf; have hfe := (G.le_dr _).trans hf.le
        refine QA_eq rfl ?_
        refine QA_nil ?_
        (refine D_yes rfl ?_; refine OpR_loadE T.ok 0 rfl (ep0.mono hfe) rfl rfl ?_; refine ⟨_, rfl, Fr0.refl _, ?_⟩; exact rfl)
      refine D_cons (D_step2 (js := [(6, 32)]) (by kernel_rfl) fun gd hf => ?_) ?_
      · have hsd := hs.dr.call hf; have hfe := (G.le_dr _).trans hf.le
        refine QA_eq rfl ?_
        refine QA_nil ?_
        refine D_yes rfl ?_
        refine OpR_build T.ok rfl (vs := [(0, .int .i64 (f.moveMin)), (2, .bool true)]) (cells := [.int .i64 (f.moveMin), .slice none 0 0, .bool true]) rfl rfl rfl rfl [(0, 1), (1, 1), (2, 1)] rfl (by kernel_rfl) ?_
        exact ⟨_, rfl, Fr0.refl _, rfl⟩
      refine D_cons (D_step2 (js := [(0, 26), (4, 30), (0, 26), (4, 30)]) (by kernel_rfl) fun gd hf => ?_) ?_
      · have hsd := hs.dr.call hf; have hfe := (G.le_dr _).trans hf.le
        refine QA_eq rfl ?_; refine QA_eq rfl ?_; refine QA_eq rfl ?_; refine QA_eq rfl ?_
        refine QA_nil ?_
        refine D_yes rfl ?_
        refine OpR_idxR T.ok rfl (hsd.own 0 _ rfl).1 hy0 (by omega) rfl rfl rfl rfl rfl rfl ?_
        rintro b p hh; obtain ⟨rfl, rfl⟩ : ob = b ∧ 0 = p := by simpa using hh
        exact ⟨_, rfl, Fr0.refl _, rfl⟩
      exact D_nil
    intro g1 hf1; refine QA_eq rfl ?_; refine QA_eq rfl ?_; refine QA_nil ?_
    replace hs := hs.dr.call hf1; have hqe := (G.le_dr _).trans hf1.le; replace le8 := G.le.trans le8 hqe; replace ep0 := ep0.mono hqe; replace rs0 := rs0.mono hqe; replace rs3 := rs3.mono hqe; replace rc0 := rc0.mono hqe; replace fl0 := fl0.mono hqe
    skip
    refine WL_n rfl (OpR_storeR T.ok 0 (y.toNat * 3) (us := [.int .i64 f.moveMin, .slice none 0 0, .bool true]) rfl hs rfl rfl rfl rfl rfl rfl rfl (by simp) (by rw [hcl]; show y.toNat * 3 + 3 ≤ _; omega) rfl ?_)
    rintro g5 hs hqe; replace le8 := G.le.trans le8 hqe; replace ep0 := ep0.mono hqe; replace rs0 := rs0.mono hqe; replace rs3 := rs3.mono hqe; replace rc0 := rc0.mono hqe; replace fl0 := fl0.mono hqe
    have rc1 : RcL g5 (spl cells (y.toNat * 3) [.int .i64 f.moveMin, .slice none 0 0, .bool true]) (pws (out.set y.toNat (some ⟨f.moveMin, []⟩))) := by
      have h := RcL.upd (α := Pw) (us := [.int .i64 f.moveMin, .slice none 0 0, .bool true]) (off := 0) (x' := ⟨some ⟨f.moveMin, []⟩⟩) (by show 0 + 3 ≤ 3; decide) rc0 y.toNat _ (pws_get hy0 (by omega)) (fun ys hys => by
        obtain ⟨_, _, _, _, _, rfl⟩ := RPw.cells hys
        exact ⟨none, 0, 0, rfl, Rs.nil _⟩)
      rw [pws_set] at h; exact h
    refine WL_nil ?_; (with_reducible refine T_bn ?_); (with_reducible refine T_then ?_); refine W_region ?_; (iterate 3 refine P1 T.ok rfl rfl rfl ?_); refine WL_nil ?_
    exact fun a ha => ⟨l.length - (i + 1), by omega, i + 1, _, _, _, rfl, hs, le8, by omega, rfl, rc1, hnx, ha.keep ⟨rfl, rfl, rfl, kI rfl (by rw [wr (by omega) (by omega)]; omega), trivial⟩⟩
  · refine W_no (b := decide ((i : Int) < (l.length : Int))) (decide_eq_false (by omega)) rfl ?_
    obtain rfl : i = l.length := by omega
    have hpi := hpf out hps
    clear hps hpn hpf rs3
    refine W_exit ?_; (with_reducible refine T_tx ?_; with_reducible refine T_tx ?_); (with_reducible refine T_bx ?_); (with_reducible refine T_then ?_); refine W_seq ?_; refine W_seq ?_; refine W_region ?_; refine P1 T.ok rfl rfl rfl ?_; refine WL_nil ?_; (with_reducible refine T_then ?_); refine W_block ?_
    have hrow : St g g2 [rowP ob f.steps.length cells] := hs
    clear hs hol hcl
    have ep0d := ep0; have rs0d := rs0; have fl0d := fl0; have le9 := G.le.refl g2
    refine W_loop (fun m a' w => ∃ (r : Nat) (out : List (Option Wy)) (cells : List Value) (ch : Bool) (g3 : G), w = g3.w ∧ St g g3 [rowP ob f.steps.length cells] ∧ G.le g2 g3 ∧ RcL g3 cells (pws out) ∧ (ch = true → PInv f n out r 0 ∧ r ≤ f.steps.length) ∧ (ch = false → out = ways f n) ∧ m = (if ch then f.steps.length + 1 - r else 0) ∧
        Fr 101 [] [(2, .pointer (some ⟨bf, 0, none⟩)), (5, .slice (some ⟨ob, 0, none⟩) f.steps.length f.steps.length), (8, .bool ch)] a') (f.steps.length + 1)
      (fun a' ha => ⟨0, out, cells, true, g2, rfl, hrow, le9, rc0, fun _ => ⟨hpi, Nat.zero_le _⟩, fun h => (by cases h), rfl, ha.keep (by (repeat (first | exact trivial | refine ⟨rfl, ?_⟩)))⟩) ?_
    clear hrow le9 ep0 rs0 fl0 rc0 hpi
    rintro m a' _ ⟨r, out, cells, ch, g3, rfl, hs, le9, rc0, hy, hno, rfl, ha'⟩
    have ep0 := ep0d.mono le9; have rs0 := rs0d.mono le9; have fl0 := fl0d.mono le9
    revert a'
    (with_reducible refine T_wp ?_); refine W_seq ?_; refine W_seq ?_; refine W_region ?_; refine P1 T.ok rfl rfl rfl ?_; refine WL_nil ?_; (with_reducible refine T_then ?_)
    cases ch with
    | false =>
      obtain rfl := hno rfl
      refine W_no rfl rfl ?_
      obtain ⟨gq, hwq, hsq, hqq, rs7⟩ := hs.fzRow (α := Pw) (i := 0) rfl rc0
      rw [← hwq]; replace hs := hsq; clear hsq
      refine W_exit ?_; (with_reducible refine T_tx ?_; with_reducible refine T_tx ?_); (with_reducible refine T_bx ?_); (with_reducible refine T_then ?_); refine W_seq ?_; refine W_region ?_; refine P1 T.ok rfl rfl rfl ?_; refine P1 T.ok rfl rfl rfl ?_; refine WL_nil ?_; (with_reducible refine T_then ?_)
      exact W_ret (ret1 rfl rfl (hs.ret rs7))
    | true =>
      refine W_yes rfl rfl ?_
      obtain ⟨hpi, hrn⟩ := hy rfl
      clear hy hno
      have hrd := hpi.begin
      clear hpi
      refine W_skip ?_; (with_reducible refine T_then ?_); refine W_block ?_; refine W_seq ?_; refine W_region ?_; refine P1 T.ok rfl rfl rfl ?_; refine WL_nil ?_; (with_reducible refine T_then ?_); refine W_seq ?_; refine W_region ?_; refine P1 T.ok rfl rfl rfl ?_; refine WL_nil ?_; (with_reducible refine T_then ?_); refine W_block ?_
      have ep0e := ep0; have rs0e := rs0; have fl0e := fl0; have le4 := G.le.refl g3
      refine W_loop (fun m a' w => ∃ (u : Nat) (out : List (Option Wy)) (cells : List Value) (ch : Bool) (g4 : G), w = g4.w ∧ St g g4 [rowP ob f.steps.length cells] ∧ G.le g3 g4 ∧ RcL g4 cells (pws out) ∧ PRnd f n out r u ch ∧ u ≤ f.steps.length ∧ m = f.steps.length - u ∧
          Fr 101 [] [(2, .pointer (some ⟨bf, 0, none⟩)), (5, .slice (some ⟨ob, 0, none⟩) f.steps.length f.steps.length), (8, .bool ch), (9, .int .i64 u)] a') f.steps.length
        (fun a' ha => ⟨0, out, cells, false, g3, rfl, hs, le4, rc0, hrd, Nat.zero_le _, rfl, ha.keep (by (repeat (first | exact trivial | refine ⟨rfl, ?_⟩)))⟩) ?_
      clear hs le4 ep0 rs0 fl0 rc0 hrd
      rintro m a' _ ⟨u, out, cells, ch, g4, rfl, hs, le4, rc0, hrd, hu, rfl, ha'⟩
      have ep0 := ep0e.mono le4; have rs0 := rs0e.mono le4; have fl0 := fl0e.mono le4
      revert a'
      (with_reducible refine T_wp ?_); refine W_seq ?_; refine W_seq ?_; refine W_region ?_; (iterate 4 refine P1 T.ok rfl rfl rfl ?_); refine WL_nil ?_; (with_reducible refine T_then ?_)
      by_cases hlu : u < f.steps.length
      · refine W_yes (b := decide ((u : Int) < (f.steps.length : Int))) (decide_eq_true (by omega)) rfl ?_
        have hur : InR f (u : Int) := ⟨by omega, by omega⟩
        have hu0 : (0 : Int) ≤ (u : Int) := by omega
        have hol := hrd.inv.len
        have hpg := pws_get (out := out) hu0 (by omega)
        obtain ⟨ys, hys, _, _, _, hyat⟩ := RcL.blk rc0 hpg
        refine W_skip ?_; (with_reducible refine T_then ?_); refine W_seq ?_; refine W_block ?_; refine W_seq ?_; refine W_seq ?_; refine W_region ?_; refine P1 T.ok rfl rfl rfl ?_; refine P1 T.ok rfl rfl rfl ?_
        refine WL_o rfl rfl (OpR_idxR T.ok rfl (hs.own 0 _ rfl).1 hu0 (by omega) rfl rfl rfl rfl rfl rfl ?_)
        rintro b p hh; obtain ⟨rfl, rfl⟩ : ob = b ∧ 0 = p := by simpa using hh
        refine P1 T.ok rfl rfl rfl ?_
        cases hw : og out u with
        | none =>
          rw [hw] at hys
          obtain rfl : ys = [.int .i64 0, .slice none 0 0, .bool false] := hys
          have h2 := hyat 2 _ rfl
          refine WL_o rfl rfl (OpR_loadR T.ok ((u : Int).toNat * 3 + 2) rfl (hs.own 0 _ rfl).1 rfl (v := .bool false) h2 ?_)
          refine P1 T.ok rfl rfl rfl ?_; refine WL_nil ?_; (with_reducible refine T_then ?_)
          refine W_yes rfl rfl ?_
          have hsk := hrd.skip hval h1 hw
          refine W_exit ?_; (with_reducible refine T_tx ?_); (with_reducible refine T_bx ?_); (with_reducible refine T_then ?_); refine W_region ?_; (iterate 3 refine P1 T.ok rfl rfl rfl ?_); refine WL_nil ?_
          exact fun a ha => ⟨f.steps.length - (u + 1), by omega, u + 1, out, cells, ch, _, rfl, hs, le4, rc0, hsk, by omega, rfl, ha.keep ⟨rfl, rfl, rfl, kI rfl (by rw [wr (by omega) (by omega)]; omega), trivial⟩⟩
        | some wu =>
          rw [hw] at hys
          obtain ⟨b1, b2, b3, rfl, _⟩ := hys
          have h2 := hyat 2 _ rfl
          refine WL_o rfl rfl (OpR_loadR T.ok ((u : Int).toNat * 3 + 2) rfl (hs.own 0 _ rfl).1 rfl (v := .bool true) h2 ?_)
          refine P1 T.ok rfl rfl rfl ?_; refine WL_nil ?_; (with_reducible refine T_then ?_)
          refine W_no rfl rfl ?_
          have hmid := hrd.enter hur hw
          clear hrd hpg hyat h2 hw hol
          refine W_skip ?_; (with_reducible refine T_then ?_); refine W_seq ?_; refine W_region ?_; refine WL_o rfl rfl (OpR_loadE T.ok 0 rfl ep0 rfl rfl ?_); refine P1 T.ok rfl rfl rfl ?_
          refine WL_o rfl rfl (OpR_ret cl48 allF rfl rfl rfl rfl rfl (rAfterS_c _ f u _ fl0 hval hur) ?_); rintro g1 vo hf1 hvo; obtain ⟨gz, hwz, hsz, hqz, rs3⟩ := hs.ownRs hf1 hvo; have hqe := hf1.le.trans hqz; rw [← hwz]; replace hs := hsz; clear hsz hvo; replace le4 := G.le.trans le4 hqe; replace ep0 := ep0.mono hqe; replace rs0 := rs0.mono hqe; replace rc0 := rc0.mono hqe; replace fl0 := fl0.mono hqe
          obtain ⟨al, cl, rfl⟩ := rs3.isSlice
          have hll := rs3.len_le
          unfold maxLen at hll
          have hpn := fun out i wu ch (h : PMid f n out r u i wu ch) hi => h.next hval h1 hur hi
          have hpl := fun out wu ch (h : PMid f n out r u (afterL (stepD f u)).length wu ch) => h.leave hval h1
          have hlr := after_range hval hur.1 hur.2
          generalize afterL (stepD f u) = l at *
          refine P1 T.ok rfl rfl rfl ?_; refine WL_nil ?_; (with_reducible refine T_then ?_); refine W_seq ?_; refine W_region ?_; refine P1 T.ok rfl rfl rfl ?_; refine WL_nil ?_; (with_reducible refine T_then ?_); refine W_block ?_
          have ep0f := ep0; have rs0f := rs0; have fl0f := fl0; have rs3f := rs3; have le3 := G.le.refl gz
          refine W_loop (fun m a' w => ∃ (i : Nat) (out : List (Option Wy)) (cells : List Value) (ch : Bool) (g5 : G), w = g5.w ∧ St g g5 [rowP ob f.steps.length cells] ∧ G.le gz g5 ∧ RcL g5 cells (pws out) ∧ PMid f n out r u i wu ch ∧ i ≤ l.length ∧ m = l.length - i ∧
              Fr 101 [] [(2, .pointer (some ⟨bf, 0, none⟩)), (5, .slice (some ⟨ob, 0, none⟩) f.steps.length f.steps.length), (8, .bool ch), (9, .int .i64 u), (10, .slice al l.length cl), (11, .int .i64 i)] a') l.length
            (fun a' ha => ⟨0, out, cells, ch, gz, rfl, hs, le3, rc0, hmid, Nat.zero_le _, rfl, ha.keep (by (repeat (first | exact trivial | refine ⟨rfl, ?_⟩)))⟩) ?_
          clear hs le3 ep0 rs0 fl0 rs3 rc0 hmid
          rintro m a' _ ⟨i, out, cells, ch, g5, rfl, hs, le3, rc0, hmid, hi, rfl, ha'⟩
          have ep0 := ep0f.mono le3; have rs0 := rs0f.mono le3; have fl0 := fl0f.mono le3; have rs3 := rs3f.mono le3
          revert a'
          (with_reducible refine T_wp ?_); refine W_seq ?_; refine W_seq ?_; refine W_region ?_; (iterate 4 refine P1 T.ok rfl rfl rfl ?_); refine WL_nil ?_; (with_reducible refine T_then ?_)
          by_cases hlt : i < l.length
          · refine W_yes (b := decide ((i : Int) < (l.length : Int))) (decide_eq_true (by omega)) rfl ?_
            have hgi := geti_of (xs := l) (n := (i : Int)) rfl hlt
            have hvr : InR f l[i] := hlr _ (List.getElem_mem hlt)
            have hol := hmid.len
            have hcl : cells.length = out.length * 3 := by have := rc0.len; unfold pws at this; rw [List.length_map] at this; exact this
            obtain ⟨hyes, hnon⟩ := hpn out i wu ch hmid hlt
            obtain ⟨hwy, hwl⟩ := hmid.ok _ hur wu hmid.way
            have hwt := hwy.time_le hval h1
            have hum := valid_min hval hur
            have hpg := pws_get (out := out) hu0 (by omega)
            rw [hmid.way] at hpg
            obtain ⟨ys, ⟨wa, wn, wc, rfl, rs8⟩, _, _, _, hyat⟩ := RcL.blk rc0 hpg
            obtain ⟨_, _, e⟩ := rs8.isSlice; obtain ⟨rfl, rfl, rfl⟩ := Value.slice.inj e; clear e
            have hy0 := hyat 0 _ rfl
            have hy1 := hyat 1 _ rfl
            have hgu := step_geti hur
            generalize hye : l[i] = y at *
            have hyr0 := hvr.1; have hyr1 := hvr.2
            have hpg2 := pws_get (out := out) hyr0 (by omega)
            clear hpg hyat
            refine W_skip ?_; (with_reducible refine T_then ?_); refine W_seq ?_; refine W_block ?_; refine W_seq ?_
            have hs0 := hs
            apply W_draw allF rfl (Fact.eq _ :: Fact.eq _ :: Fact.eq _ :: Fact.eq _ :: Fact.eq _ :: Fact.eq _ :: Fact.eq _ :: Fact.eq _ :: (stepPtr 0 (stepD f u)) :: (stepPtr 2 (stepD f u)) :: Fact.eq _ :: Fact.eq _ :: Fact.eq _ :: Fact.eq _ :: Fact.eq _ :: Fact.eq _ :: (objF g5.dr.w.heap.size [.int .i64 0, .slice none 0 0, .bool false] 75) :: []) 17 [(15, 72), (16, 12)] rfl rfl
            · refine D_cons (D_step2 (js := []) (by kernel_rfl) fun gd hf => ?_) ?_
              · have hsd := hs.dr.call hf; have hfe := (G.le_dr _).trans hf.le
                refine QA_nil ?_
                (refine D_yes rfl ?_; refine OpR_pure _ T.ok rfl ?_; refine ⟨_, rfl, Fr0.refl _, ?_⟩; exact rfl)
              refine D_cons (D_step2 (js := []) (by kernel_rfl) fun gd hf => ?_) ?_
              · have hsd := hs.dr.call hf; have hfe := (G.le_dr _).trans hf.le
                refine QA_nil ?_
                (refine D_yes rfl ?_; refine OpR_pure _ T.ok rfl ?_; refine ⟨_, rfl, Fr0.refl _, ?_⟩; exact rfl)
              refine D_cons (D_step2 (js := [(0, 57), (1, 58)]) (by kernel_rfl) fun gd hf => ?_) ?_
              · have hsd := hs.dr.call hf; have hfe := (G.le_dr _).trans hf.le
                refine QA_eq rfl ?_; refine QA_eq rfl ?_
                refine QA_nil ?_
                refine D_yes rfl ?_
                refine OpR_idxR T.ok rfl (hsd.own 0 _ rfl).1 hu0 (by omega) rfl rfl rfl rfl rfl rfl ?_
                rintro b p hh; obtain ⟨rfl, rfl⟩ : ob = b ∧ 0 = p := by simpa using hh
                exact ⟨_, rfl, Fr0.refl _, rfl⟩
              refine D_cons (D_step2 (js := [(2, 59)]) (by kernel_rfl) fun gd hf => ?_) ?_
              · have hsd := hs.dr.call hf; have hfe := (G.le_dr _).trans hf.le
                refine QA_eq rfl ?_
                refine QA_nil ?_
                (refine D_yes rfl ?_; refine OpR_pure _ T.ok rfl ?_; refine ⟨_, rfl, Fr0.refl _, ?_⟩; exact rfl)
              refine D_cons (D_step2 (js := [(3, 60)]) (by kernel_rfl) fun gd hf => ?_) ?_
              · have hsd := hs.dr.call hf; have hfe := (G.le_dr _).trans hf.le
                refine QA_eq rfl ?_
                refine QA_nil ?_
                refine D_yes rfl ?_
                refine OpR_loadR T.ok ((u : Int).toNat * 3 + 0) rfl (hsd.own 0 _ rfl).1 rfl (v := .int .i64 wu.time) hy0 ?_
                exact ⟨_, rfl, Fr0.refl _, rfl⟩
              refine D_cons (D_step2 (js := []) (by kernel_rfl) fun gd hf => ?_) ?_
              · have hsd := hs.dr.call hf; have hfe := (G.le_dr _).trans hf.le
                refine QA_nil ?_
                (refine D_yes rfl ?_; refine OpR_pure _ T.ok rfl ?_; refine ⟨_, rfl, Fr0.refl _, ?_⟩; exact rfl)
              refine D_cons (D_step2 (js := [(5, 62)]) (by kernel_rfl) fun gd hf => ?_) ?_
              · have hsd := hs.dr.call hf; have hfe := (G.le_dr _).trans hf.le
                refine QA_eq rfl ?_
                refine QA_nil ?_
                (refine D_yes rfl ?_; refine OpR_loadE T.ok 2 rfl (ep0.mono hfe) rfl rfl ?_; refine ⟨_, rfl, Fr0.refl _, ?_⟩; exact rfl)
              refine D_cons (D_step2 (js := []) (by kernel_rfl) fun gd hf => ?_) ?_
              · have hsd := hs.dr.call hf; have hfe := (G.le_dr _).trans hf.le
                refine QA_nil ?_
                (refine D_yes rfl ?_; refine OpR_pure _ T.ok rfl ?_; refine ⟨_, rfl, Fr0.refl _, ?_⟩; exact rfl)
              refine D_cons (D_step2 (js := [(6, 63), (7, 64)]) (by kernel_rfl) fun gd hf => ?_) ?_
              · have hsd := hs.dr.call hf; have hfe := (G.le_dr _).trans hf.le
                refine QA_eq rfl ?_; refine QA_eq rfl ?_
                refine QA_nil ?_
                refine D_yes rfl ?_
                refine OpR_idx T.ok rfl (rs0.mono hfe) (y := stepD f u) (step_geti hur) rfl rfl rfl rfl rfl rfl ?_
                intro b p ys hep hrc
                exact ⟨_, rfl, Fr0.refl _, b, p, ys, rfl, hep, hrc⟩
              refine D_cons (D_step2 (js := [(8, 65)]) (by kernel_rfl) fun gd hf => ?_) ?_
              · have hsd := hs.dr.call hf; have hfe := (G.le_dr _).trans hf.le
                refine QA_any fun v8 h8 => ?_
                refine QA_nil ?_
                obtain ⟨b, p, ys, rfl, hep, hrc⟩ := h8
                refine D_yes rfl ?_
                refine OpR_pure _ T.ok rfl ?_
                exact ⟨_, rfl, Fr0.refl _, b, p, ys, rfl, hep, hrc⟩
              refine D_cons (D_step2 (js := [(9, 66)]) (by kernel_rfl) fun gd hf => ?_) ?_
              · have hsd := hs.dr.call hf; have hfe := (G.le_dr _).trans hf.le
                refine QA_any fun v9 h9 => ?_
                refine QA_nil ?_
                obtain ⟨b, p, ys, rfl, hep, hrc⟩ := h9
                obtain ⟨b1, b2, b3, b4, b5, b6, rfl, hx1, hx2⟩ := hrc
                refine D_yes rfl ?_
                refine OpR_loadE T.ok 2 rfl hep rfl rfl ?_
                refine ⟨_, rfl, Fr0.refl _, ?_⟩
                exact rfl
              refine D_cons (D_step2 (js := [(4, 61), (10, 67)]) (by kernel_rfl) fun gd hf => ?_) ?_
              · have hsd := hs.dr.call hf; have hfe := (G.le_dr _).trans hf.le
                refine QA_eq rfl ?_; refine QA_eq rfl ?_
                refine QA_nil ?_
                refine D_yes rfl ?_
                refine OpR_pure _ T.ok rfl ?_
                refine ⟨_, rfl, Fr0.refl _, ?_⟩
                exact congrArg (Value.int .i64) (show _ = wu.time + (stepD f u).min from wr (by omega) (by omega))
              refine D_cons (D_step2 (js := []) (by kernel_rfl) fun gd hf => ?_) ?_
              · have hsd := hs.dr.call hf; have hfe := (G.le_dr _).trans hf.le
                refine QA_nil ?_
                (refine D_yes rfl ?_; refine OpR_pure _ T.ok rfl ?_; refine ⟨_, rfl, Fr0.refl _, ?_⟩; exact rfl)
              refine D_cons (D_step2 (js := [(12, 69)]) (by kernel_rfl) fun gd hf => ?_) ?_
              · have hsd := hs.dr.call hf; have hfe := (G.le_dr _).trans hf.le
                refine QA_eq rfl ?_
                refine QA_nil ?_
                (refine D_yes rfl ?_; refine OpR_loadE T.ok 0 rfl (ep0.mono hfe) rfl rfl ?_; refine ⟨_, rfl, Fr0.refl _, ?_⟩; exact rfl)
              refine D_cons (D_step2 (js := [(11, 68), (13, 70)]) (by kernel_rfl) fun gd hf => ?_) ?_
              · have hsd := hs.dr.call hf; have hfe := (G.le_dr _).trans hf.le
                refine QA_eq rfl ?_; refine QA_eq rfl ?_
                refine QA_nil ?_
                refine D_yes rfl ?_
                refine OpR_pure _ T.ok rfl ?_
                refine ⟨_, rfl, Fr0.refl _, ?_⟩
                exact congrArg (Value.int .i64) (show _ = wu.time + (stepD f u).min + f.moveMin from wr (by omega) (by omega))
              refine D_cons (D_step2 (js := [(14, 71)]) (by kernel_rfl) fun gd hf => ?_) ?_
              · have hsd := hs.dr.call hf; have hfe := (G.le_dr _).trans hf.le
                refine QA_eq rfl ?_
                refine QA_nil ?_
                refine D_yes rfl ?_
                refine OpR_build T.ok rfl (vs := [(0, .int .i64 (wu.time + (stepD f u).min + f.moveMin)), (2, .bool true)]) (cells := [.int .i64 (wu.time + (stepD f u).min + f.moveMin), .slice none 0 0, .bool true]) rfl rfl rfl rfl [(0, 1), (1, 1), (2, 1)] rfl (by kernel_rfl) ?_
                exact ⟨_, rfl, Fr0.refl _, rfl⟩
              refine D_cons (D_step2 (js := []) (by kernel_rfl) fun gd hf => ?_) ?_
              · have hsd := hs.dr.call hf; have hfe := (G.le_dr _).trans hf.le
                refine QA_nil ?_
                refine D_yes rfl ?_
                refine OpR_alloc T.ok rfl (St.start gd) rfl rfl ?_
                intro b g' hs' hle
                have ho := hs'.own 0 _ rfl
                exact ⟨g', rfl, hs'.fr0, b, rfl, Nat.le_trans hf.below.size ho.1, ho.2⟩
              exact D_nil
            intro g1 hf1; refine QA_eq rfl ?_; refine QA_any fun v16 h16 => ?_; refine QA_nil ?_
            replace hs := hs.dr.call hf1; have hqe := (G.le_dr _).trans hf1.le; replace le3 := G.le.trans le3 hqe; replace ep0 := ep0.mono hqe; replace rs0 := rs0.mono hqe; replace rs3 := rs3.mono hqe; replace rs8 := rs8.mono hqe; replace rc0 := rc0.mono hqe; replace fl0 := fl0.mono hqe
            obtain ⟨bx, rfl, hob⟩ := h16
            replace hs := hs0.dr.getOwn hf1 hob; clear hs0
            skip
            refine WL_n rfl (OpR_storeO T.ok 0 rfl hs rfl rfl rfl rfl rfl rfl rfl rfl rfl ?_); replace hs := hs; rintro g1 hs hqe; replace le3 := G.le.trans le3 hqe; replace ep0 := ep0.mono hqe; replace rs0 := rs0.mono hqe; replace rs3 := rs3.mono hqe; replace rs8 := rs8.mono hqe; replace rc0 := rc0.mono hqe; replace fl0 := fl0.mono hqe
            refine WL_nil ?_; (with_reducible refine T_then ?_); refine W_seq ?_; refine W_region ?_
            refine WL_o rfl rfl (OpR_lit T.ok rfl hs (vs := []) (cells := []) rfl rfl rfl rfl rfl rfl (by decide) (by decide) (by kernel_rfl) rfl ?_); rintro bl gl hs hqe; replace le3 := G.le.trans le3 hqe; replace ep0 := ep0.mono hqe; replace rs0 := rs0.mono hqe; replace rs3 := rs3.mono hqe; replace rs8 := rs8.mono hqe; replace rc0 := rc0.mono hqe; replace fl0 := fl0.mono hqe
            refine P1 T.ok rfl rfl rfl ?_; refine P1 T.ok rfl rfl rfl ?_
            refine WL_o rfl rfl (OpR_idxR T.ok rfl (hs.own 2 _ rfl).1 hu0 (by omega) rfl rfl rfl rfl rfl rfl ?_)
            rintro b p hh; obtain ⟨rfl, rfl⟩ : ob = b ∧ 0 = p := by simpa using hh
            refine P1 T.ok rfl rfl rfl ?_
            refine WL_o rfl rfl (OpR_loadR T.ok ((u : Int).toNat * 3 + 1) rfl (hs.own 2 _ rfl).1 rfl (v := .slice wa wu.steps.length wc) hy1 ?_)
            skip
            obtain ⟨_, news, hrcl, hsrc⟩ := Src.of_rs rs8
            obtain rfl := RcL.ints_inv hrcl
            refine WL_o rfl rfl (OpR_append T.ok 0 rfl hs rfl rfl rfl rfl rfl rfl rfl (by decide) rfl hsrc (by simp [ints, Value.oneCell']) (by show (0 + wu.steps.length) * 8 ≤ _; omega) (by unfold maxLen; omega) ?_); rintro a8 c8 g8 hs hqe; replace le3 := G.le.trans le3 hqe; replace ep0 := ep0.mono hqe; replace rs0 := rs0.mono hqe; replace rs3 := rs3.mono hqe; replace rs8 := rs8.mono hqe; replace rc0 := rc0.mono hqe; replace fl0 := fl0.mono hqe
            refine P1 T.ok rfl rfl rfl ?_
            refine WL_o rfl rfl (OpR_lit T.ok rfl hs (vs := [(0, .int .i64 u)]) (cells := [.int .i64 u]) rfl rfl rfl rfl rfl rfl (by decide) (by decide) (by kernel_rfl) rfl ?_); rintro bl2 gl2 hs hqe; replace le3 := G.le.trans le3 hqe; replace ep0 := ep0.mono hqe; replace rs0 := rs0.mono hqe; replace rs3 := rs3.mono hqe; replace rs8 := rs8.mono hqe; replace rc0 := rc0.mono hqe; replace fl0 := fl0.mono hqe
            skip
            refine WL_o rfl rfl (OpR_append T.ok 1 rfl hs rfl rfl rfl rfl rfl rfl rfl (by decide) rfl (Src.of_row (hs.own 0 _ rfl).1).2 (by simp [Value.oneCell']) (by show (0 + wu.steps.length + 1) * 8 ≤ _; omega) (by unfold maxLen; omega) ?_); rintro a9 c9 g9 hs hqe; replace le3 := G.le.trans le3 hqe; replace ep0 := ep0.mono hqe; replace rs0 := rs0.mono hqe; replace rs3 := rs3.mono hqe; replace rs8 := rs8.mono hqe; replace rc0 := rc0.mono hqe; replace fl0 := fl0.mono hqe
            obtain ⟨gq, hwq, hsq, hqq, rs9⟩ := hs.fzRow (α := Int) (xs := wu.steps ++ [(u : Int)]) (i := 1) rfl (by have h := RcL.ints g9 (wu.steps ++ [(u : Int)]); simpa [ints] using h)
            clear hqe; have hqe := hqq; rw [← hwq]; replace hs := hsq.drop 0; clear hsq; replace le3 := G.le.trans le3 hqe; replace ep0 := ep0.mono hqe; replace rs0 := rs0.mono hqe; replace rs3 := rs3.mono hqe; replace rs8 := rs8.mono hqe; replace rc0 := rc0.mono hqe; replace fl0 := fl0.mono hqe
            refine P1 T.ok rfl rfl rfl ?_
            refine WL_n rfl (OpR_storeO T.ok 0 rfl hs rfl rfl rfl rfl rfl rfl rfl rfl rfl ?_); replace hs := hs; rintro g1 hs hqe; replace le3 := G.le.trans le3 hqe; replace ep0 := ep0.mono hqe; replace rs0 := rs0.mono hqe; replace rs3 := rs3.mono hqe; replace rs8 := rs8.mono hqe; replace rs9 := rs9.mono hqe; replace rc0 := rc0.mono hqe; replace fl0 := fl0.mono hqe
            obtain ⟨g2, hw2, hs2, hqe, hep⟩ := hs.fzObj (i := 0) rfl; replace hs := hs2; clear hs2; rw [← hw2]; replace le3 := G.le.trans le3 hqe; replace ep0 := ep0.mono hqe; replace rs0 := rs0.mono hqe; replace rs3 := rs3.mono hqe; replace rs8 := rs8.mono hqe; replace rs9 := rs9.mono hqe; replace rc0 := rc0.mono hqe; replace fl0 := fl0.mono hqe
            have ep2 := hep; clear hep
            obtain ⟨ys2, hys2, htake, _, hfit, _⟩ := RcL.blk rc0 hpg2
            have htake' : (cells.drop (y.toNat * 3)).take 3 = ys2 := htake
            have hfit' : y.toNat * 3 + 3 ≤ cells.length := hfit
            have hld : ldl T 75 cells (y.toNat * 3) = some (.agg ys2.toArray) := by
              show (bif Nat.ble (y.toNat * 3 + 3) cells.length then some (Value.agg ((cells.drop (y.toNat * 3)).take 3).toArray) else none) = _
              rw [Nat.ble_eq_true_of_le hfit', htake']; rfl
            clear htake hfit hpg2
            have rs9' : Rs g2 (.slice a9 (0 + wu.steps.length + 1) c9) (ext f wu u).steps := rs9
            refine WL_nil ?_; (with_reducible refine T_then ?_); refine W_seq ?_
            apply W_draw allF rfl (Fact.eq _ :: Fact.eq _ :: Fact.eq _ :: Fact.eq _ :: (intPtr y) :: Fact.eq _ :: Fact.eq _ :: Fact.eq _ :: Fact.eq _ :: []) 9 [(8, 92)] rfl rfl
            · refine D_cons (D_step2 (js := []) (by kernel_rfl) fun gd hf => ?_) ?_
              · have hsd := hs.dr.call hf; have hfe := (G.le_dr _).trans hf.le
                refine QA_nil ?_
                (refine D_yes rfl ?_; refine OpR_loadE T.ok 0 rfl (ep2.mono hfe) rfl rfl ?_; refine ⟨_, rfl, Fr0.refl _, ?_⟩; exact rfl)
              refine D_cons (D_step2 (js := []) (by kernel_rfl) fun gd hf => ?_) ?_
              · have hsd := hs.dr.call hf; have hfe := (G.le_dr _).trans hf.le
                refine QA_nil ?_
                (refine D_yes rfl ?_; refine OpR_pure _ T.ok rfl ?_; refine ⟨_, rfl, Fr0.refl _, ?_⟩; exact rfl)
              refine D_cons (D_step2 (js := []) (by kernel_rfl) fun gd hf => ?_) ?_
              · have hsd := hs.dr.call hf; have hfe := (G.le_dr _).trans hf.le
                refine QA_nil ?_
                (refine D_yes rfl ?_; refine OpR_pure _ T.ok rfl ?_; refine ⟨_, rfl, Fr0.refl _, ?_⟩; exact rfl)
              refine D_cons (D_step2 (js := []) (by kernel_rfl) fun gd hf => ?_) ?_
              · have hsd := hs.dr.call hf; have hfe := (G.le_dr _).trans hf.le
                refine QA_nil ?_
                (refine D_yes rfl ?_; refine OpR_pure _ T.ok rfl ?_; refine ⟨_, rfl, Fr0.refl _, ?_⟩; exact rfl)
              refine D_cons (D_step2 (js := [(2, 86), (3, 87)]) (by kernel_rfl) fun gd hf => ?_) ?_
              · have hsd := hs.dr.call hf; have hfe := (G.le_dr _).trans hf.le
                refine QA_eq rfl ?_; refine QA_eq rfl ?_
                refine QA_nil ?_
                refine D_yes rfl ?_
                refine OpR_idx T.ok rfl (rs3.mono hfe) (y := y) hgi rfl rfl rfl rfl rfl rfl ?_
                intro b p ys hep hrc
                exact ⟨_, rfl, Fr0.refl _, b, p, rfl, by rw [← show ys = [Value.int .i64 (y)] from hrc]; exact hep⟩
              refine D_cons (D_step2 (js := [(4, 88)]) (by kernel_rfl) fun gd hf => ?_) ?_
              · have hsd := hs.dr.call hf; have hfe := (G.le_dr _).trans hf.le
                refine QA_any fun v4 h4 => ?_
                refine QA_nil ?_
                obtain ⟨b, p, rfl, hep⟩ := h4
                refine D_yes rfl ?_
                refine OpR_loadE T.ok 0 rfl hep rfl rfl ?_
                refine ⟨_, rfl, Fr0.refl _, ?_⟩
                exact rfl
              refine D_cons (D_step2 (js := [(1, 85), (5, 89)]) (by kernel_rfl) fun gd hf => ?_) ?_
              · have hsd := hs.dr.call hf; have hfe := (G.le_dr _).trans hf.le
                refine QA_eq rfl ?_; refine QA_eq rfl ?_
                refine QA_nil ?_
                refine D_yes rfl ?_
                refine OpR_idxR T.ok rfl (hsd.own 0 _ rfl).1 hyr0 (by omega) rfl rfl rfl rfl rfl rfl ?_
                rintro b p hh; obtain ⟨rfl, rfl⟩ : ob = b ∧ 0 = p := by simpa using hh
                exact ⟨_, rfl, Fr0.refl _, rfl⟩
              refine D_cons (D_step2 (js := [(6, 90)]) (by kernel_rfl) fun gd hf => ?_) ?_
              · have hsd := hs.dr.call hf; have hfe := (G.le_dr _).trans hf.le
                refine QA_eq rfl ?_
                refine QA_nil ?_
                refine D_yes rfl ?_
                refine OpR_loadR T.ok (y.toNat * 3) rfl (hsd.own 0 _ rfl).1 rfl (v := .agg ys2.toArray) hld ?_
                exact ⟨_, rfl, Fr0.refl _, rfl⟩
              refine D_cons (D_step2 (js := [(0, 84), (7, 91)]) (by kernel_rfl) fun gd hf => ?_) ?_
              · have hsd := hs.dr.call hf; have hfe := (G.le_dr _).trans hf.le
                refine QA_eq rfl ?_; refine QA_eq rfl ?_
                refine QA_nil ?_
                refine D_yes rfl ?_
                refine OpR_ret cl57 allF rfl rfl rfl rfl rfl (rBetter_c _ _ _ _ ys2 (ext f wu u) (og out y) _ rfl (rs9'.mono hfe) (RPw.mono hfe hys2)) fun g' v h1 h2 => ⟨g', rfl, h1, ?_⟩
                exact h2
              exact D_nil
            intro g1 hf1; refine QA_eq rfl ?_; refine QA_nil ?_
            replace hs := hs.dr.call hf1; have hqe := (G.le_dr _).trans hf1.le; replace le3 := G.le.trans le3 hqe; replace ep0 := ep0.mono hqe; replace ep2 := ep2.mono hqe; replace rs0 := rs0.mono hqe; replace rs3 := rs3.mono hqe; replace rs8 := rs8.mono hqe; replace rs9 := rs9.mono hqe; replace rc0 := rc0.mono hqe; replace fl0 := fl0.mono hqe
            refine WL_nil ?_; (with_reducible refine T_then ?_)
            cases hb : better (ext f wu u) (og out y) with
            | false =>
              have hmid2 := hnon hb
              refine W_no rfl rfl ?_
              refine W_skip ?_; (with_reducible refine T_bn ?_); (with_reducible refine T_then ?_); refine W_region ?_; (iterate 3 refine P1 T.ok rfl rfl rfl ?_); refine WL_nil ?_
              exact fun a ha => ⟨l.length - (i + 1), by omega, i + 1, out, cells, ch, _, rfl, hs, le3, rc0, hmid2, by omega, rfl, ha.keep ⟨rfl, rfl, rfl, rfl, rfl, kI rfl (by rw [wr (by omega) (by omega)]; omega), trivial⟩⟩
            | true =>
              have hmid2 := hyes hb
              refine W_yes rfl rfl ?_
              refine W_seq ?_
              apply W_draw allF rfl (Fact.eq _ :: Fact.eq _ :: Fact.eq _ :: (intPtr y) :: Fact.eq _ :: Fact.eq _ :: Fact.eq _ :: []) 7 [(5, 98), (6, 99)] rfl rfl
              · refine D_cons (D_step2 (js := []) (by kernel_rfl) fun gd hf => ?_) ?_
                · have hsd := hs.dr.call hf; have hfe := (G.le_dr _).trans hf.le
                  refine QA_nil ?_
                  (refine D_yes rfl ?_; refine OpR_pure _ T.ok rfl ?_; refine ⟨_, rfl, Fr0.refl _, ?_⟩; exact rfl)
                refine D_cons (D_step2 (js := []) (by kernel_rfl) fun gd hf => ?_) ?_
                · have hsd := hs.dr.call hf; have hfe := (G.le_dr _).trans hf.le
                  refine QA_nil ?_
                  (refine D_yes rfl ?_; refine OpR_pure _ T.ok rfl ?_; refine ⟨_, rfl, Fr0.refl _, ?_⟩; exact rfl)
                refine D_cons (D_step2 (js := []) (by kernel_rfl) fun gd hf => ?_) ?_
                · have hsd := hs.dr.call hf; have hfe := (G.le_dr _).trans hf.le
                  refine QA_nil ?_
                  (refine D_yes rfl ?_; refine OpR_pure _ T.ok rfl ?_; refine ⟨_, rfl, Fr0.refl _, ?_⟩; exact rfl)
                refine D_cons (D_step2 (js := [(1, 94), (2, 95)]) (by kernel_rfl) fun gd hf => ?_) ?_
                · have hsd := hs.dr.call hf; have hfe := (G.le_dr _).trans hf.le
                  refine QA_eq rfl ?_; refine QA_eq rfl ?_
                  refine QA_nil ?_
                  refine D_yes rfl ?_
                  refine OpR_idx T.ok rfl (rs3.mono hfe) (y := y) hgi rfl rfl rfl rfl rfl rfl ?_
                  intro b p ys hep hrc
                  exact ⟨_, rfl, Fr0.refl _, b, p, rfl, by rw [← show ys = [Value.int .i64 (y)] from hrc]; exact hep⟩
                refine D_cons (D_step2 (js := [(3, 96)]) (by kernel_rfl) fun gd hf => ?_) ?_
                · have hsd := hs.dr.call hf; have hfe := (G.le_dr _).trans hf.le
                  refine QA_any fun v3 h3 => ?_
                  refine QA_nil ?_
                  obtain ⟨b, p, rfl, hep⟩ := h3
                  refine D_yes rfl ?_
                  refine OpR_loadE T.ok 0 rfl hep rfl rfl ?_
                  refine ⟨_, rfl, Fr0.refl _, ?_⟩
                  exact rfl
                refine D_cons (D_step2 (js := []) (by kernel_rfl) fun gd hf => ?_) ?_
                · have hsd := hs.dr.call hf; have hfe := (G.le_dr _).trans hf.le
                  refine QA_nil ?_
                  (refine D_yes rfl ?_; refine OpR_loadE T.ok 0 rfl (ep2.mono hfe) rfl rfl ?_; refine ⟨_, rfl, Fr0.refl _, ?_⟩; exact rfl)
                refine D_cons (D_step2 (js := [(0, 93), (4, 97), (0, 93), (4, 97)]) (by kernel_rfl) fun gd hf => ?_) ?_
                · have hsd := hs.dr.call hf; have hfe := (G.le_dr _).trans hf.le
                  refine QA_eq rfl ?_; refine QA_eq rfl ?_; refine QA_eq rfl ?_; refine QA_eq rfl ?_
                  refine QA_nil ?_
                  refine D_yes rfl ?_
                  refine OpR_idxR T.ok rfl (hsd.own 0 _ rfl).1 hyr0 (by omega) rfl rfl rfl rfl rfl rfl ?_
                  rintro b p hh; obtain ⟨rfl, rfl⟩ : ob = b ∧ 0 = p := by simpa using hh
                  exact ⟨_, rfl, Fr0.refl _, rfl⟩
                exact D_nil
              intro g1 hf1; refine QA_eq rfl ?_; refine QA_eq rfl ?_; refine QA_nil ?_
              replace hs := hs.dr.call hf1; have hqe := (G.le_dr _).trans hf1.le; replace le3 := G.le.trans le3 hqe; replace ep0 := ep0.mono hqe; replace ep2 := ep2.mono hqe; replace rs0 := rs0.mono hqe; replace rs3 := rs3.mono hqe; replace rs8 := rs8.mono hqe; replace rs9 := rs9.mono hqe; replace rc0 := rc0.mono hqe; replace fl0 := fl0.mono hqe
              skip
              refine WL_n rfl (OpR_storeR T.ok 0 (y.toNat * 3) (us := [.int .i64 (wu.time + (stepD f u).min + f.moveMin), .slice a9 (0 + wu.steps.length + 1) c9, .bool true]) rfl hs rfl rfl rfl rfl rfl rfl rfl (by simp) (by rw [hcl]; show y.toNat * 3 + 3 ≤ _; omega) rfl ?_)
              rintro g6 hs hqe; replace le3 := G.le.trans le3 hqe; replace ep0 := ep0.mono hqe; replace ep2 := ep2.mono hqe; replace rs0 := rs0.mono hqe; replace rs3 := rs3.mono hqe; replace rs8 := rs8.mono hqe; replace rs9 := rs9.mono hqe; replace rc0 := rc0.mono hqe; replace fl0 := fl0.mono hqe
              have hpg3 := pws_get (out := out) hyr0 (by omega)
              have rc1 : RcL g6 (spl cells (y.toNat * 3) [.int .i64 (wu.time + (stepD f u).min + f.moveMin), .slice a9 (0 + wu.steps.length + 1) c9, .bool true]) (pws (out.set y.toNat (some (ext f wu u)))) := by
                have h := RcL.upd (α := Pw) (us := [.int .i64 (wu.time + (stepD f u).min + f.moveMin), .slice a9 (0 + wu.steps.length + 1) c9, .bool true]) (off := 0) (x' := ⟨some (ext f wu u)⟩) (by show 0 + 3 ≤ 3; decide) rc0 y.toNat _ hpg3 (fun ys hys => by
                  obtain ⟨_, _, _, _, _, rfl⟩ := RPw.cells hys
                  exact ⟨a9, _, c9, rfl, rs9⟩)
                rw [pws_set] at h; exact h
              refine WL_nil ?_; (with_reducible refine T_then ?_); refine W_region ?_; refine P1 T.ok rfl rfl rfl ?_; refine WL_nil ?_; (with_reducible refine T_bn ?_); (with_reducible refine T_then ?_); refine W_region ?_; (iterate 3 refine P1 T.ok rfl rfl rfl ?_); refine WL_nil ?_
              exact fun a ha => ⟨l.length - (i + 1), by omega, i + 1, _, _, true, _, rfl, hs, le3, rc1, hmid2, by omega, rfl, ha.keep ⟨rfl, rfl, rfl, rfl, rfl, kI rfl (by rw [wr (by omega) (by omega)]; omega), trivial⟩⟩
          · refine W_no (b := decide ((i : Int) < (l.length : Int))) (decide_eq_false (by omega)) rfl ?_
            obtain rfl : i = l.length := by omega
            have hlv := hpl out wu ch hmid
            refine W_exit ?_; (with_reducible refine T_tx ?_; with_reducible refine T_tx ?_); (with_reducible refine T_bx ?_); (with_reducible refine T_bn ?_); (with_reducible refine T_then ?_); refine W_region ?_; (iterate 3 refine P1 T.ok rfl rfl rfl ?_); refine WL_nil ?_
            exact fun a ha => ⟨f.steps.length - (u + 1), by omega, u + 1, out, cells, ch, _, rfl, hs, le4.trans le3, rc0, hlv, by omega, rfl, ha.keep ⟨rfl, rfl, rfl, kI rfl (by rw [wr (by omega) (by omega)]; omega), trivial⟩⟩
      · refine W_no (b := decide ((u : Int) < (f.steps.length : Int))) (decide_eq_false (by omega)) rfl ?_
        obtain rfl : u = f.steps.length := by omega
        refine W_exit ?_; (with_reducible refine T_tx ?_; with_reducible refine T_tx ?_); (with_reducible refine T_bx ?_); (with_reducible refine T_bn ?_)
        cases ch with
        | false =>
          exact fun a ha => ⟨0, by simp; omega, r, out, cells, false, _, rfl, hs, le9.trans le4, rc0, fun h => (by cases h), fun _ => hrd.fixed hval h1, rfl, ha.keep (by (repeat (first | exact trivial | refine ⟨rfl, ?_⟩)))⟩
        | true =>
          have hrlt := hrd.yes rfl
          exact fun a ha => ⟨f.steps.length + 1 - (r + 1), by simp; omega, r + 1, out, cells, true, _, rfl, hs, le9.trans le4, rc0, fun _ => ⟨hrd.round hval h1, by omega⟩, fun h => (by cases h), rfl, ha.keep (by (repeat (first | exact trivial | refine ⟨rfl, ?_⟩)))⟩
end Go.Proofs.Ytijmlfmapfhabaa
