/- The walks through the reference journal. -/
import Derived.Test.YteohjgndanlldaaGreatDoorWq
import Derived.Test.YteohjgndanlldaaGreatDoorWp
import Derived.Test.YteohjgndanlldaaGreatDoorWm

/- The reference journal: where it lies; Stored, Room. -/
namespace Go.Proofs.YteohjgndanlldaaGreatDoor
open Go Go.K
set_option maxRecDepth 10000
attribute [local irreducible] W WL OpR bitAnd bitOr bitXor bitClr bitNot shlI shrI
set_option maxHeartbeats 1000000

/-- The reference journal's block. -/
def kjO (b bd : Nat) (v : Value) (br : Bool) (Y : TapeM) : Ent := .obj b (.cells [.pointer (some ⟨bd, 0, none⟩), v, .int .i64 (Y.size : Int), .bool br].toArray 43 (0, 0))

theorem rstored_c (h r : List UInt8) (g : G) (hh : h.length ≤ 1099511000000) (hr : r.length ≤ 65536) : CallsIn Wd 0 Tryz.prog 44 #[.string (bs h), .string (bs r)] g.w (Ret g fun _ x => x = .tuple #[.string (bs (outM h r)), .string (bs (chainM h r))]) := by
 have hs := St.start g
 have le0 := G.le.refl g
 have hpl := putIntM_len (r.length : Int)
 have hcl := chainM_len h r
 refine enter Tryz.func44 rfl Tryz.ntmps44 rfl ?_
 refine W_seq ?_; refine W_region ?_; refine P1 T.ok rfl rfl rfl ?_; refine P1 T.ok rfl rfl rfl ?_; refine WL_nil ?_; (with_reducible refine T_then ?_); refine W_seq ?_; refine W_region ?_; refine P1 T.ok rfl rfl rfl ?_; refine P1 T.ok rfl rfl rfl ?_
 refine WL_o rfl rfl (OpR_ret cl57 allF rfl rfl rfl rfl rfl (rchain_c h r _ (by omega)) ?_); rintro g1 _ hf1 rfl; replace hs := hs.call hf1; have hqe := hf1.le; replace le0 := G.le.trans le0 hqe
 have hput := fun gq : G => rputStr_c r hr gq
 unfold outM
 generalize chainM h r = ch at *
 generalize putIntM (r.length : Int) = pm at *
 refine P1 T.ok rfl rfl rfl ?_; refine WL_nil ?_; (with_reducible refine T_then ?_); refine W_seq ?_; refine W_region ?_; refine P1 T.ok rfl rfl rfl ?_
 refine WL_o rfl rfl (OpR_ret cl73 allF rfl rfl rfl rfl rfl (hput _) ?_); rintro g1 _ hf1 rfl; replace hs := hs.call hf1; have hqe := hf1.le; replace le0 := G.le.trans le0 hqe
 (iterate 5 refine P1 T.ok rfl rfl rfl ?_); refine WL_nil ?_; (with_reducible refine T_then ?_); refine W_seq ?_; refine W_region ?_; refine P1 T.ok rfl rfl rfl ?_
 refine WL_o rfl rfl (OpR_addS (p := [1]) (q := pm ++ r) rfl rfl rfl (by simp only [List.length_append, List.length_cons, List.length_nil]; omega) ?_)
 refine P1 T.ok rfl rfl rfl ?_
 refine WL_o rfl rfl (OpR_addS (p := [1] ++ (pm ++ r)) (q := ch) rfl rfl rfl (by simp only [List.length_append, List.length_cons, List.length_nil]; omega) ?_)
 (iterate 3 refine P1 T.ok rfl rfl rfl ?_); refine WL_nil ?_; (with_reducible refine T_then ?_)
 exact W_ret (ret2 rfl rfl rfl (hs.ret rfl))

theorem rroom_c {b : Nat} {A : RkA} {v : Value} {br : Bool} {Y : TapeM} {D : DiskM} (hD : D.dur.length ≤ 4194304) (hY : Y.size ≤ 1099511627776) {g0 g : G} {L : List Ent} (hs : St g0 g (kjO b A.b v br Y :: (rkL A D ++ L))) :
  CallsIn Wd 0 Tryz.prog 21 #[.pointer (some ⟨b, 0, none⟩)] g.w (Ret g fun _ r => r = .int .i64 ((D.dur.length : Int) - Y.size)) := by
 have le0 := G.le.refl g
 rw [rkL_cons] at hs
 unfold kjO at hs
 have hw : IntKind.i64.wrap ((D.dur.length : Int) - (Y.size : Int)) = (D.dur.length : Int) - Y.size := wr (by omega) (by omega)
 refine enter Tryz.func21 rfl Tryz.ntmps21 rfl ?_
 refine W_seq ?_; refine W_region ?_; refine P1 T.ok rfl rfl rfl ?_; refine WL_nil ?_; (with_reducible refine T_then ?_); refine W_seq ?_
 have hf0 := Fr0.dr g
 apply W_draw allF rfl (Fact.eq _ :: Fact.eq _ :: Fact.eq _ :: Fact.eq _ :: Fact.eq _ :: Fact.eq _ :: Fact.eq _ :: Fact.eq _ :: Fact.eq _ :: Fact.eq _ :: Fact.eq _ :: Fact.eq _ :: Fact.eq _ :: []) 13 [(12, 15)] rfl rfl
 ·refine D_s (js := []) (by kernel_rfl) (fun _ _ => QA_nil (DPu T.ok rfl rfl rfl)) ?_
  refine D_s (js := [(0, 3)]) (by kernel_rfl) (fun _ _ => QA_eq rfl (QA_nil (DPu T.ok rfl rfl rfl))) ?_
  refine D_s (js := [(1, 4)]) (by kernel_rfl) (fun _ _ => QA_eq rfl (QA_nil (DPu T.ok rfl rfl rfl))) ?_
  refine D_s (js := [(2, 5)]) (by kernel_rfl) (fun _ hf => QA_eq rfl (QA_nil (DLo T.ok 0 rfl rfl (hs.dr.call hf) rfl rfl rfl rfl))) ?_
  refine D_s (js := [(3, 6)]) (by kernel_rfl) (fun _ _ => QA_eq rfl (QA_nil (DPu T.ok rfl rfl rfl))) ?_
  refine D_s (js := [(4, 7)]) (by kernel_rfl) (fun _ _ => QA_eq rfl (QA_nil (DPu T.ok rfl rfl rfl))) ?_
  refine D_s (js := [(5, 8)]) (by kernel_rfl) (fun _ hf => QA_eq rfl (QA_nil (DLo T.ok 1 rfl rfl (hs.dr.call hf) rfl rfl rfl rfl))) ?_
  refine D_s (js := [(6, 9)]) (by kernel_rfl) (fun _ _ => QA_eq rfl (QA_nil (DPu T.ok rfl rfl rfl))) ?_
  refine D_s (js := []) (by kernel_rfl) (fun _ _ => QA_nil (DPu T.ok rfl rfl rfl)) ?_
  refine D_s (js := [(8, 11)]) (by kernel_rfl) (fun _ _ => QA_eq rfl (QA_nil (DPu T.ok rfl rfl rfl))) ?_
  refine D_s (js := [(9, 12)]) (by kernel_rfl) (fun _ _ => QA_eq rfl (QA_nil (DPu T.ok rfl rfl rfl))) ?_
  refine D_s (js := [(10, 13)]) (by kernel_rfl) (fun _ hf => QA_eq rfl (QA_nil (DLo T.ok 0 rfl rfl (hs.dr.call hf) rfl rfl rfl rfl))) ?_
  refine D_s (js := [(7, 10), (11, 14)]) (by kernel_rfl) (fun _ _ => QA_eq rfl (QA_eq rfl (QA_nil (DPu T.ok rfl rfl rfl)))) ?_
  exact D_nil
 intro g1 hf1; refine QA_eq rfl ?_; refine QA_nil ?_
 replace hs := hs.dr.call hf1; have hqe := (G.le_dr _).trans hf1.le; replace le0 := G.le.trans le0 hqe
 rw [hw]
 refine P1 T.ok rfl rfl rfl ?_; refine WL_nil ?_; (with_reducible refine T_then ?_)
 exact W_ret (ret1 rfl rfl (Ret.of (hf0.trans hf1) rfl))
end Go.Proofs.YteohjgndanlldaaGreatDoor

/- The reference journal: Open. -/
namespace Go.Proofs.YteohjgndanlldaaGreatDoor
open Go Go.K
set_option maxRecDepth 10000
attribute [local irreducible] W WL OpR bitAnd bitOr bitXor bitClr bitNot shlI shrI
set_option maxHeartbeats 1000000

theorem isZero_eq {l : List UInt8} : isZero l = true ↔ l = List.replicate l.length 0 := by
 unfold isZero
 rw [List.all_eq_true, List.eq_replicate_iff]
 simp
def ropenRes (A : RkA) (D : DiskM) (L : List Ent) (g0 g' : G) (r : Value) : Prop :=
 ∃ bd dp dc pa pc, match (openM D).1 with
  | some Y => ∃ (b : Nat) (v : Value), r = .tuple #[.pointer (some ⟨b, 0, none⟩), .int .i64 (openM D).2.2] ∧ Rs g' v (Y.recs.map Str.mk) ∧ St g0 g' (kjO b A.b v false Y :: (rkL ⟨A.b, bd, dp, dc, pa, pc⟩ (openM D).2.1 ++ L))
  | none => r = .tuple #[.pointer none, .int .i64 (openM D).2.2] ∧ St g0 g' (rkL ⟨A.b, bd, dp, dc, pa, pc⟩ (openM D).2.1 ++ L)
theorem ropenRes.no {A : RkA} {D D' : DiskM} {L : List Ent} {g0 g' : G} {e : Int} {bd dp dc pc : Nat} {pa : Option Addr} (h : openM D = (none, D', e)) (hs : St g0 g' (rkL ⟨A.b, bd, dp, dc, pa, pc⟩ D' ++ L)) :
  ropenRes A D L g0 g' (.tuple #[.pointer none, .int .i64 e]) := by
 unfold ropenRes
 rw [h]
 exact ⟨bd, dp, dc, pa, pc, rfl, hs⟩
theorem ropenRes.yes {A : RkA} {D D' : DiskM} {L : List Ent} {g0 g' : G} {e : Int} {bd dp dc pc b : Nat} {pa : Option Addr} {v : Value} {Y : TapeM} (h : openM D = (some Y, D', e)) (hr : Rs g' v (Y.recs.map Str.mk)) (hs : St g0 g' (kjO b A.b v false Y :: (rkL ⟨A.b, bd, dp, dc, pa, pc⟩ D' ++ L))) :
  ropenRes A D L g0 g' (.tuple #[.pointer (some ⟨b, 0, none⟩), .int .i64 e]) := by
 unfold ropenRes
 rw [h]
 exact ⟨bd, dp, dc, pa, pc, b, v, rfl, hr, hs⟩




theorem ropen_c {A : RkA} {D : DiskM} (hD : D.ok) (hR : RefOk D) (hp : D.pend.length ≤ 999990) {g0 g : G} {L : List Ent} (hs : St g0 g (rkL A D ++ L)) :
  CallsIn Wd 0 Tryz.prog 50 #[.pointer (some ⟨A.b, 0, none⟩)] g.w (RetS g (ropenRes A D L g0)) := by
 have le0 := G.le.refl g
 have hmax := hD.le
 have hmin := hD.pos
 have hV := hD.len
 refine enter Tryz.func50 rfl Tryz.ntmps50 rfl ?_
 have hsk := hs
 rw [rkL_cons] at hs
 refine W_seq ?_; refine W_region ?_; refine P1 T.ok rfl rfl rfl ?_; refine P1 T.ok rfl rfl rfl ?_; refine WL_nil ?_; (with_reducible refine T_then ?_); refine W_seq ?_; refine W_region ?_; (iterate 3 refine P1 T.ok rfl rfl rfl ?_); refine WL_o rfl rfl (OpR_loadO T.ok 0 rfl hs rfl rfl rfl ?_); refine P1 T.ok rfl rfl rfl ?_; refine P1 T.ok rfl rfl rfl ?_; refine WL_nil ?_; (with_reducible refine T_then ?_); refine W_seq ?_; refine W_region ?_; refine P1 T.ok rfl rfl rfl ?_; refine P1 T.ok rfl rfl rfl ?_
 cases ho : D.off with
 | true =>
  refine WL_o rfl rfl (OpR_ret cl74 allF rfl rfl rfl rfl rfl (rreadD_c ho 0 _ hsk) ?_); rintro g1 _ hf1 rfl; replace hs := hs.call hf1; have hqe := hf1.le; replace le0 := G.le.trans le0 hqe
  (iterate 5 refine P1 T.ok rfl rfl rfl ?_); refine WL_nil ?_; (with_reducible refine T_then ?_); refine W_seq ?_; refine W_seq ?_; refine W_region ?_; refine P1 T.ok rfl rfl rfl ?_; refine P1 T.ok rfl rfl rfl ?_; refine WL_nil ?_; (with_reducible refine T_then ?_)
  refine W_yes rfl rfl ?_
  refine W_seq ?_; refine W_region ?_; (iterate 3 refine P1 T.ok rfl rfl rfl ?_); refine WL_nil ?_; (with_reducible refine T_then ?_)
  exact W_ret (ret2 rfl rfl rfl (RetS.intro le0 (ropenRes.no (if_pos ho) hs)))
 | false =>
  refine WL_o rfl rfl (OpR_ret cl74 allF rfl rfl rfl rfl rfl (rread_c hD hR ho hsk) ?_); rintro g1 _ hf1 rfl; replace hs := hs.call hf1; have hqe := hf1.le; replace le0 := G.le.trans le0 hqe
  clear hsk
  (iterate 5 refine P1 T.ok rfl rfl rfl ?_); refine WL_nil ?_; (with_reducible refine T_then ?_); refine W_seq ?_; refine W_seq ?_; refine W_region ?_; refine P1 T.ok rfl rfl rfl ?_; refine P1 T.ok rfl rfl rfl ?_; refine WL_nil ?_; (with_reducible refine T_then ?_)
  refine W_no rfl rfl ?_
  refine W_skip ?_; (with_reducible refine T_then ?_); refine W_seq ?_; refine W_region ?_; refine P1 T.ok rfl rfl rfl ?_
  refine WL_o rfl rfl (OpR_build T.ok rfl (vs := [(0, .pointer (some ⟨A.b, 0, none⟩))]) (cells := [.pointer (some ⟨A.b, 0, none⟩), .slice none 0 0, .int .i64 0, .bool false]) rfl rfl rfl rfl [(0, 1), (1, 1), (2, 1), (3, 1)] rfl (by kernel_rfl) ?_)
  skip
  refine WL_o rfl rfl (OpR_box rfl hs rfl rfl ?_); clear hs; rintro b g1 hs hqe; replace le0 := G.le.trans le0 hqe
  refine P1 T.ok rfl rfl rfl ?_; refine WL_nil ?_; (with_reducible refine T_then ?_); refine W_seq ?_; refine W_region ?_
  refine WL_o rfl rfl (OpR_ret cl43 allF rfl rfl rfl rfl rfl (rhead_c _ [] _ (Rs.nil _) (by simp)) ?_); rintro g1 _ hf1 rfl; replace hs := hs.call hf1; have hqe := hf1.le; replace le0 := G.le.trans le0 hqe
  replace hs := (hs.nilrow 9 1 none).front (i := 1) rfl
  refine P1 T.ok rfl rfl rfl ?_; refine WL_nil ?_; (with_reducible refine T_then ?_); refine W_seq ?_; refine W_block ?_
  generalize hG : loadGo (D.vis.length + 1) tape0 D.vis = res0 at *
  refine W_loop (fun m a' w => ∃ (g2 : G) (ra : Option Addr) (rc : Nat) (Z : TapeM), w = g2.w ∧ St g0 g2 (.obj b (.cells [.pointer (some ⟨A.b, 0, none⟩), .slice ra Z.recs.length rc, .int .i64 (Z.size : Int), .bool false].toArray 43 (0, 0)) :: .row 9 1 (.slice ra Z.recs.length rc) Z.recs.length (strL Z.recs) :: (rkL A D ++ L)) ∧ g.le g2 ∧ Z.head.length = 32 ∧ Z.recs.length ≤ Z.size ∧ Z.size ≤ D.vis.length ∧ D.vis.length + 1 ≤ m + Z.size ∧ loadGo m Z D.vis = res0 ∧
    Fr 130 [] [(0, .pointer (some ⟨A.b, 0, none⟩)), (4, .int .i64 (D.dur.length : Int)), (5, .string (bs D.vis)), (7, .pointer (some ⟨b, 0, none⟩)), (8, .string (bs Z.head))] a') (D.vis.length + 1)
   (fun a' ha => ⟨_, none, 0, tape0, rfl, hs, le0, rfl, Nat.le_refl _, Nat.zero_le _, by omega, hG, ha.keep (by (repeat (first | exact trivial | refine ⟨rfl, ?_⟩)))⟩) ?_
  clear hs le0
  rintro m a' _ ⟨g2, ra, rc, Z, rfl, hs, le0, hhl, hrz, hz2, hm, hgo, ha'⟩
  obtain ⟨m, rfl⟩ : ∃ m', m = m' + 1 := ⟨m - 1, by omega⟩
  rw [rkL_cons] at hs
  revert a'
  (with_reducible refine T_wp ?_); refine W_seq ?_; refine W_seq ?_; refine W_region ?_; (iterate 3 refine P1 T.ok rfl rfl rfl ?_); refine WL_o rfl rfl (OpR_loadO T.ok 0 rfl hs rfl rfl rfl ?_); (iterate 3 refine P1 T.ok rfl rfl rfl ?_)
  by_cases h1 : Z.size < D.vis.length
  ·refine WL_know 37 (b := decide ((Z.size : Int) < (D.dur.length : Int))) (b' := true) (decide_eq_true (by omega)) rfl ?_
   (iterate 4 refine P1 T.ok rfl rfl rfl ?_); refine WL_o rfl rfl (OpR_loadO T.ok 0 rfl hs rfl rfl rfl ?_)
   have hlt1 : ((Z.size : Nat) : Int).toNat < D.vis.length := by omega
   have hgx : D.vis[((Z.size : Nat) : Int).toNat] = D.vis.getD Z.size 0 := by rw [List.getD_eq_getElem?_getD, List.getElem?_eq_getElem h1]; rfl
   obtain ⟨x, hx⟩ : ∃ x, x = D.vis.getD Z.size 0 := ⟨_, rfl⟩
   rw [← hx] at hgx
   have hb : x.toNat < 256 := UInt8.toNat_lt _
   have hb0 : x = 0 ↔ x.toNat = 0 := ⟨fun h => by rw [h]; rfl, fun h => UInt8.toNat_inj.1 h⟩
   have hb1 : x = 1 ↔ x.toNat = 1 := ⟨fun h => by rw [h]; rfl, fun h => UInt8.toNat_inj.1 h⟩
   refine WL_o rfl rfl (OpR_idxS T.ok rfl rfl rfl rfl rfl (by omega) hlt1 ?_)
   rw [hgx]
   refine P1 T.ok rfl rfl rfl ?_; refine P1 T.ok rfl rfl rfl ?_; refine WL_nil ?_; (with_reducible refine T_then ?_)
   by_cases hx0 : x.toNat = 0
   ·refine W_no (b := (x.toNat : Int) != 0) (by simp [hx0]) rfl ?_
    have hr : loadGo (D.vis.length + 1) tape0 D.vis = some Z := by rw [hG, ← hgo]; unfold loadGo; rw [if_neg (fun h => h.2 (by rw [← hx]; exact hb0.2 hx0))]
    obtain ⟨n, hn⟩ : ∃ n, n = D.vis.length - Z.size := ⟨_, rfl⟩
    have hwn : IntKind.i64.wrap ((D.dur.length : Int) - (Z.size : Int)) = (n : Int) := by rw [wr (by omega) (by omega)]; omega
    have hop : ∀ r D' e, (isZero (D.vis.drop Z.size) = true → r = some Z ∧ D' = D ∧ e = 0) →
      (isZero (D.vis.drop Z.size) = false → (if (runM (clearFs Z.size n) D).2 = 0 then (some Z, (runM (clearFs Z.size n) D).1, 0) else (none, (runM (clearFs Z.size n) D).1, (runM (clearFs Z.size n) D).2)) = (r, D', e)) → openM D = (r, D', e) := by
     intro r D' e h1 h2
     unfold openM
     rw [if_neg (by simp [ho]), hr]
     simp only
     rw [← hn]
     cases hz : isZero (D.vis.drop Z.size) with
     | true => obtain ⟨rfl, rfl, rfl⟩ := h1 hz; rfl
     | false => exact h2 hz
    refine W_exit ?_; (with_reducible refine T_tx ?_; with_reducible refine T_tx ?_); (with_reducible refine T_bx ?_); (with_reducible refine T_then ?_); refine W_seq ?_; refine W_region ?_; (iterate 4 refine P1 T.ok rfl rfl rfl ?_); refine WL_o rfl rfl (OpR_loadO T.ok 0 rfl hs rfl rfl rfl ?_); refine P1 T.ok rfl rfl rfl ?_
    refine WL_re (.int .i64 (n : Int)) (t := 104) rfl (congrArg (Value.int .i64) hwn) ?_
    refine WL_o rfl rfl (OpR_makeX T.ok rfl hs rfl rfl rfl rfl rfl rfl (by decide) rfl (by show 1 * n ≤ _; omega) (by unfold maxLen; omega) (zeros_flat n) ?_)
    rintro bm gm hsm hqe; replace le0 := G.le.trans le0 hqe
    have hsrc := (Src.of_row (hsm.own 0 _ rfl).1).2
    replace hs := hsm.drop 0
    clear hsm
    skip
    have hsr2 : Src gm.w (some ⟨bm, 0, none⟩) n 1 ((List.replicate n (0 : Int)).map (Value.int .u8)) := by
     rw [show (List.replicate n (0 : Int)).map (Value.int .u8) = byteV (List.replicate n 0) from by simp [byteV]]; exact hsrc
    refine WL_o rfl rfl (OpR_bytesStr (ns := List.replicate n 0) T.ok rfl rfl rfl rfl rfl rfl rfl rfl hsr2 ?_)
    refine WL_re (.string (bs (List.replicate n 0))) (t := 106) rfl (congrArg Value.string (by simp)) ?_
    clear hsrc hsr2
    refine P1 T.ok rfl rfl rfl ?_; refine WL_nil ?_; (with_reducible refine T_then ?_); refine W_seq ?_; refine W_seq ?_; refine W_region ?_; (iterate 4 refine P1 T.ok rfl rfl rfl ?_); refine WL_o rfl rfl (OpR_loadO T.ok 0 rfl hs rfl rfl rfl ?_)
    refine WL_o rfl rfl (OpR_cutS T.ok (s := D.vis) (a := Z.size) (b := D.vis.length) rfl rfl rfl rfl ⟨_, rfl⟩ rfl hz2 (Nat.le_refl _) ?_)
    rw [List.take_length]
    refine P1 T.ok rfl rfl rfl ?_
    have hiz : isZero (D.vis.drop Z.size) = true ↔ D.vis.drop Z.size = List.replicate n 0 := by
     rw [isZero_eq, List.length_drop, ← hn]
    have hzl : (List.replicate n (0 : UInt8)).length = n := List.length_replicate
    have hrun : runM (clearFs Z.size n) D = if (D.put Z.size (List.replicate n 0)).off = true then (D.put Z.size (List.replicate n 0), 241) else ((D.put Z.size (List.replicate n 0)).sync, 0) := by
     unfold clearFs
     simp only [runM, DiskM.wr, DiskM.sy, ho, Bool.false_eq_true, if_false, if_true]
     split <;> rfl
    have hput := hR.put (k := Z.size) (s := List.replicate n 0) (by rw [hzl]; omega)
    have hputD := hD.put (k := Z.size) (s := List.replicate n 0) (by rw [hzl]; omega) (by omega)
    generalize List.replicate n (0 : UInt8) = zs at *
    refine WL_o rfl rfl (OpR_eqS (neg := true) rfl rfl rfl ?_)
    refine WL_nil ?_; (with_reducible refine T_then ?_)
    by_cases hz0 : D.vis.drop Z.size = zs
    ·refine W_no (b := true != (D.vis.drop Z.size == zs)) (by simp [hz0]) rfl ?_
     refine W_skip ?_; (with_reducible refine T_then ?_); refine W_seq ?_; refine W_region ?_; (iterate 3 refine P1 T.ok rfl rfl rfl ?_); refine WL_nil ?_; (with_reducible refine T_then ?_)
     refine W_ret ?_
     obtain ⟨gz, hwz, hsz, hqz, hrl⟩ := hs.fzRow (α := Str) (xs := Z.recs.map Str.mk) (i := 1) rfl (RcL.strs _ _)
     rw [← hwz]
     refine ret2 rfl rfl rfl (RetS.intro (le0.trans hqz) (ropenRes.yes (Y := Z) ?_ hrl hsz))
     exact hop _ _ _ (fun _ => ⟨rfl, rfl, rfl⟩) fun h => by rw [hiz.2 hz0] at h; cases h
    ·refine W_yes (b := true != (D.vis.drop Z.size == zs)) (by simp [hz0]) rfl ?_
     have hzf : isZero (D.vis.drop Z.size) = false := by
      cases h : isZero (D.vis.drop Z.size)
      ·rfl
      ·exact absurd (hiz.1 h) hz0
     have hop2 : ∀ r D' e, (if (runM (clearFs Z.size n) D).2 = 0 then (some Z, (runM (clearFs Z.size n) D).1, 0) else (none, (runM (clearFs Z.size n) D).1, (runM (clearFs Z.size n) D).2)) = (r, D', e) → openM D = (r, D', e) :=
      fun r D' e h => hop r D' e (fun h1 => by rw [hzf] at h1; cases h1) fun _ => h
     rw [hrun] at hop2
     clear hop hiz hz0 hzf hrun
     refine W_seq ?_; refine W_region ?_; (iterate 4 refine P1 T.ok rfl rfl rfl ?_); refine WL_o rfl rfl (OpR_loadO T.ok 0 rfl hs rfl rfl rfl ?_); refine P1 T.ok rfl rfl rfl ?_
     replace hs : St g0 gm ([.obj b (.cells [.pointer (some ⟨A.b, 0, none⟩), .slice ra Z.recs.length rc, .int .i64 (Z.size : Int), .bool false].toArray 43 (0, 0)), .row 9 1 (.slice ra Z.recs.length rc) Z.recs.length (strL Z.recs)] ++ (rkL A D ++ L)) := hs
     have hcall := rwrite_c hD (by omega) hR.left ho (k := Z.size) (s := zs) (by omega) hs.swap
     refine WL_o rfl rfl (OpR_st cl16 allF rfl rfl rfl rfl rfl hcall ?_)
     clear hs hcall
     rintro g6 _ hqe ⟨rfl, pa, pc, hs⟩; replace le0 := G.le.trans le0 hqe
     generalize D.put Z.size zs = D1 at *
     refine P1 T.ok rfl rfl rfl ?_; refine WL_nil ?_; (with_reducible refine T_then ?_); refine W_seq ?_; refine W_seq ?_; refine W_region ?_; refine P1 T.ok rfl rfl rfl ?_; refine P1 T.ok rfl rfl rfl ?_; refine WL_nil ?_; (with_reducible refine T_then ?_)
     refine W_yes rfl rfl ?_
     refine W_region ?_; refine P1 T.ok rfl rfl rfl ?_
     cases ho1 : D1.off with
     | true =>
      replace hop2 : openM D = (none, D1, 241) := hop2 _ _ _ (by simp [ho1])
      have hcall := rsyncD_c ho1 hs
      refine WL_o rfl rfl (OpR_st cl45 allF rfl rfl rfl rfl rfl hcall ?_)
      clear hs hcall
      rintro g7 _ hqe ⟨rfl, hs⟩; replace le0 := G.le.trans le0 hqe
      refine P1 T.ok rfl rfl rfl ?_; refine WL_nil ?_; (with_reducible refine T_then ?_); refine W_seq ?_; refine W_region ?_; refine P1 T.ok rfl rfl rfl ?_; refine P1 T.ok rfl rfl rfl ?_; refine WL_nil ?_; (with_reducible refine T_then ?_)
      refine W_yes rfl rfl ?_
      refine W_seq ?_; refine W_region ?_; (iterate 3 refine P1 T.ok rfl rfl rfl ?_); refine WL_nil ?_; (with_reducible refine T_then ?_)
      refine W_ret (ret2 rfl rfl rfl (RetS.intro le0 (ropenRes.no hop2 ((hs.swap.drop 0).drop 0))))
     | false =>
      replace hop2 : openM D = (some Z, D1.sync, 0) := hop2 _ _ _ (by simp [ho1])
      have hcall := rsync_c hputD hput ho1 hs
      refine WL_o rfl rfl (OpR_st cl45 allF rfl rfl rfl rfl rfl hcall ?_)
      clear hs hcall
      rintro g7 _ hqe ⟨rfl, bd, dp, dc, hs⟩; replace le0 := G.le.trans le0 hqe
      refine P1 T.ok rfl rfl rfl ?_; refine WL_nil ?_; (with_reducible refine T_then ?_); refine W_seq ?_; refine W_region ?_; refine P1 T.ok rfl rfl rfl ?_; refine P1 T.ok rfl rfl rfl ?_; refine WL_nil ?_; (with_reducible refine T_then ?_)
      refine W_no rfl rfl ?_
      replace hs := hs.swap
      refine W_skip ?_; (with_reducible refine T_then ?_); refine W_seq ?_; refine W_region ?_; (iterate 3 refine P1 T.ok rfl rfl rfl ?_); refine WL_nil ?_; (with_reducible refine T_then ?_)
      refine W_ret ?_
      obtain ⟨gz, hwz, hsz, hqz, hrl⟩ := hs.fzRow (α := Str) (xs := Z.recs.map Str.mk) (i := 1) rfl (RcL.strs _ _)
      rw [← hwz]
      refine ret2 rfl rfl rfl (RetS.intro (le0.trans hqz) (ropenRes.yes (Y := Z) ?_ hrl hsz))
      exact hop2
   ·refine W_yes (b := (x.toNat : Int) != 0) (by simp; omega) rfl ?_
    have hx0' : ¬ x = 0 := fun h => hx0 (hb0.1 h)
    unfold loadGo at hgo
    rw [if_pos ⟨h1, by rw [← hx]; exact hx0'⟩, ← hx] at hgo
    have hw : IntKind.i64.wrap ((Z.size : Int) + 1) = ((Z.size + 1 : Nat) : Int) := by rw [wr (by omega) (by omega)]; omega
    have hst := fun h => rload_step h1 (by rw [← hx]; exact h)
    refine W_skip ?_; (with_reducible refine T_then ?_); refine W_block ?_; refine W_seq ?_; refine W_region ?_; (iterate 4 refine P1 T.ok rfl rfl rfl ?_); refine WL_o rfl rfl (OpR_loadO T.ok 0 rfl hs rfl rfl rfl ?_); refine P1 T.ok rfl rfl rfl ?_
    refine WL_re (.int .i64 ((Z.size + 1 : Nat) : Int)) (t := 52) rfl (congrArg (Value.int .i64) hw) ?_
    refine WL_o rfl rfl (OpR_ret cl75 allF rfl rfl rfl rfl rfl (rstring_c D.vis (Z.size + 1) _ (by omega) (by omega)) ?_); rintro g1 _ hf1 rfl; replace hs := hs.call hf1; have hqe := hf1.le; replace le0 := G.le.trans le0 hqe
    generalize stringM D.vis (Z.size + 1) = res at *
    obtain ⟨r, q, e1⟩ := res
    simp only at hst hgo
    (iterate 7 refine P1 T.ok rfl rfl rfl ?_); refine WL_nil ?_; (with_reducible refine T_then ?_); refine W_seq ?_; refine W_seq ?_; refine W_region ?_; (iterate 4 refine P1 T.ok rfl rfl rfl ?_); refine WL_o rfl rfl (OpR_loadO T.ok 0 rfl hs rfl rfl rfl ?_)
    refine WL_o rfl rfl (OpR_idxS T.ok rfl rfl rfl rfl rfl (by omega) hlt1 ?_)
    rw [hgx]
    refine P1 T.ok rfl rfl rfl ?_; refine P1 T.ok rfl rfl rfl ?_
    by_cases hx1 : x.toNat = 1
    ·rw [if_neg (by rw [Classical.not_not]; exact hb1.2 hx1)] at hgo
     replace hst := hst (hb1.2 hx1)
     refine WL_know 64 (b := (x.toNat : Int) != 1) (b' := false) (by simp [hx1]) rfl ?_
     (iterate 3 refine P1 T.ok rfl rfl rfl ?_); refine WL_nil ?_; (with_reducible refine T_then ?_)
     by_cases he : e1 = 0
     ·subst he
      obtain ⟨n, rfl, hn1, hn2, hr, hiff, holen⟩ := hst rfl
      refine W_no rfl rfl ?_
      have hw2 : IntKind.i64.wrap ((n : Int) + 32) = ((n + 32 : Nat) : Int) := by rw [wr (by omega) (by omega)]; omega
      have hcl := chainM_len Z.head r
      have hadd : Z.add r = ⟨Z.recs ++ [r], chainM Z.head r, Z.size + (outM Z.head r).length⟩ := rfl
      have hcall := fun gq : G => rchain_c Z.head r gq (by omega)
      generalize Z.add r = Za at *
      generalize outM Z.head r = out at *
      generalize chainM Z.head r = ch at *
      refine W_skip ?_; (with_reducible refine T_then ?_); refine W_seq ?_; refine W_region ?_; refine P1 T.ok rfl rfl rfl ?_; refine P1 T.ok rfl rfl rfl ?_
      refine WL_o rfl rfl (OpR_ret cl57 allF rfl rfl rfl rfl rfl (hcall _) ?_); rintro g1 _ hf1 rfl; replace hs := hs.call hf1; have hqe := hf1.le; replace le0 := G.le.trans le0 hqe
      clear hcall
      refine P1 T.ok rfl rfl rfl ?_; refine WL_nil ?_; (with_reducible refine T_then ?_); refine W_seq ?_; refine W_seq ?_; refine W_region ?_; (iterate 5 refine P1 T.ok rfl rfl rfl ?_)
      by_cases h32 : n + 32 ≤ D.vis.length
      ·replace hiff := hiff h32
       replace holen := holen h32
       rw [if_neg (by simp; omega), show ((n : Int) + 32).toNat = n + 32 from by omega] at hgo
       refine WL_know 75 (b := decide ((D.dur.length : Int) < IntKind.i64.wrap ((n : Int) + 32))) (b' := false) (decide_eq_false (by rw [hw2]; omega)) rfl ?_
       (iterate 4 refine P1 T.ok rfl rfl rfl ?_)
       refine WL_re (.int .i64 ((n + 32 : Nat) : Int)) (t := 79) rfl (congrArg (Value.int .i64) hw2) ?_
       refine WL_o rfl rfl (OpR_cutS T.ok (s := D.vis) (a := n) (b := n + 32) rfl rfl rfl rfl ⟨_, rfl⟩ ⟨_, rfl⟩ (by omega) h32 ?_)
       rw [show (D.vis.take (n + 32)).drop n = (D.vis.drop n).take 32 from by rw [List.drop_take]; congr 1; omega]
       refine P1 T.ok rfl rfl rfl ?_
       refine WL_o rfl rfl (OpR_eqS (neg := true) rfl rfl rfl ?_)
       refine P1 T.ok rfl rfl rfl ?_; refine WL_nil ?_; (with_reducible refine T_then ?_)
       by_cases hq : (D.vis.drop n).take 32 = ch
       ·rw [if_neg (Classical.not_not.2 (hiff.2 hq))] at hgo
        refine W_no (b := true != ((D.vis.drop n).take 32 == ch)) (by simp [hq]) rfl ?_
        refine W_skip ?_; (with_reducible refine T_then ?_); refine W_seq ?_; refine W_region ?_; (iterate 4 refine P1 T.ok rfl rfl rfl ?_); refine WL_o rfl rfl (OpR_loadO T.ok 0 rfl hs rfl rfl rfl ?_); refine P1 T.ok rfl rfl rfl ?_
        refine WL_o rfl rfl (OpR_lit T.ok rfl hs (vs := [(0, .string (bs r))]) (cells := [.string (bs r)]) rfl rfl rfl rfl rfl rfl (by decide) (by decide) (by kernel_rfl) rfl ?_)
        clear hs
        rintro bl gl hs hqe; replace le0 := G.le.trans le0 hqe
        obtain ⟨gz, hwz, hsz, hqz, hrl⟩ := hs.fzRow (α := Str) (xs := [Str.mk r]) (i := 0) rfl (RcL.strs _ [r])
        clear hqe; have hqe := hqz; rw [← hwz]; replace hs := hsz; clear hsz; replace le0 := G.le.trans le0 hqe
        skip
        obtain ⟨_, news, hnw, hsrc⟩ := Src.of_rs hrl
        refine WL_o rfl rfl (OpR_append T.ok 1 rfl hs rfl rfl rfl rfl rfl rfl rfl (by decide) rfl hsrc hnw.one (by show (Z.recs.length + 1) * 16 ≤ _; omega) (by unfold maxLen; show Z.recs.length + 1 ≤ _; omega) ?_)
        clear hs hsrc
        rintro ra2 rc2 g5 hs hqe; replace le0 := G.le.trans le0 hqe
        obtain rfl := RcL.strs_inv (l := [r]) hnw
        clear hnw hrl
        refine P1 T.ok rfl rfl rfl ?_; refine P1 T.ok rfl rfl rfl ?_
        refine WL_n rfl (OpR_storeO T.ok 0 rfl hs rfl rfl rfl rfl rfl rfl rfl rfl rfl ?_); replace hs := hs; rintro g1 hs hqe; replace le0 := G.le.trans le0 hqe
        refine WL_nil ?_; (with_reducible refine T_then ?_); refine W_region ?_; (iterate 5 refine P1 T.ok rfl rfl rfl ?_)
        have hsz : IntKind.i64.wrap ((n : Int) + 32) = ((Z.size + out.length : Nat) : Int) := by rw [hw2]; omega
        refine WL_re (.int .i64 ((Z.size + out.length : Nat) : Int)) (t := 96) rfl (congrArg (Value.int .i64) hsz) ?_
        refine WL_n rfl (OpR_storeO T.ok 0 rfl hs rfl rfl rfl rfl rfl rfl rfl rfl rfl ?_); replace hs := hs; rintro g1 hs hqe; replace le0 := G.le.trans le0 hqe
        refine WL_nil ?_; (with_reducible refine T_bn ?_)
        have e1 : Za.recs.length = Z.recs.length + 1 := by rw [hadd]; simp
        have e2 : strL Za.recs = strL Z.recs ++ strL [r] := by rw [hadd]; simp [strL]
        have e3 : Za.size = Z.size + out.length := by rw [hadd]
        have e4 : Za.head = ch := by rw [hadd]
        exact fun a ha => ⟨m, by omega, _, ra2, rc2, Za, rfl, by rw [e1, e2, e3]; exact hs, le0, by rw [e4]; exact hcl, by omega, by omega, by omega, hgo, by rw [e4]; exact ha.keep (by (repeat (first | exact trivial | refine ⟨rfl, ?_⟩)))⟩
       ·rw [if_pos (fun h => hq (hiff.1 h))] at hgo
        refine W_yes (b := true != ((D.vis.drop n).take 32 == ch)) (by simp [hq]) rfl ?_
        refine W_seq ?_; refine W_region ?_; refine P1 T.ok rfl rfl rfl ?_; refine P1 T.ok rfl rfl rfl ?_; refine WL_nil ?_; (with_reducible refine T_then ?_)
        refine W_ret (ret2 rfl rfl rfl (RetS.intro le0 (ropenRes.no (D' := D) (bd := A.bd) (dp := A.dp) (dc := A.dc) (pa := A.pa) (pc := A.pc) ?_ ((hs.drop 0).drop 0))))
        unfold openM
        rw [if_neg (by simp [ho]), hG, ← hgo]
      ·rw [if_pos (.inr (by omega))] at hgo
       refine WL_know 75 (b := decide ((D.dur.length : Int) < IntKind.i64.wrap ((n : Int) + 32))) (b' := true) (decide_eq_true (by rw [hw2]; omega)) rfl ?_
       (iterate 7 refine S1 allF rfl rfl ?_); refine P1 T.ok rfl rfl rfl ?_; refine WL_nil ?_; (with_reducible refine T_then ?_)
       refine W_yes rfl rfl ?_
       refine W_seq ?_; refine W_region ?_; refine P1 T.ok rfl rfl rfl ?_; refine P1 T.ok rfl rfl rfl ?_; refine WL_nil ?_; (with_reducible refine T_then ?_)
       refine W_ret (ret2 rfl rfl rfl (RetS.intro le0 (ropenRes.no (D' := D) (bd := A.bd) (dp := A.dp) (dc := A.dc) (pa := A.pa) (pc := A.pc) ?_ ((hs.drop 0).drop 0))))
       unfold openM
       rw [if_neg (by simp [ho]), hG, ← hgo]
     ·rw [if_pos (.inl he)] at hgo
      refine W_yes (b := e1 != 0) (by simpa using he) rfl ?_
      refine W_seq ?_; refine W_region ?_; refine P1 T.ok rfl rfl rfl ?_; refine P1 T.ok rfl rfl rfl ?_; refine WL_nil ?_; (with_reducible refine T_then ?_)
      refine W_ret (ret2 rfl rfl rfl (RetS.intro le0 (ropenRes.no (D' := D) (bd := A.bd) (dp := A.dp) (dc := A.dc) (pa := A.pa) (pc := A.pc) ?_ ((hs.drop 0).drop 0))))
      unfold openM
      rw [if_neg (by simp [ho]), hG, ← hgo]
    ·rw [if_pos (fun h => hx1 (hb1.1 h))] at hgo
     refine WL_know 64 (b := (x.toNat : Int) != 1) (b' := true) (by simp; omega) rfl ?_
     refine S1 allF rfl rfl ?_; refine S1 allF rfl rfl ?_; refine P1 T.ok rfl rfl rfl ?_; refine WL_nil ?_; (with_reducible refine T_then ?_)
     refine W_yes rfl rfl ?_
     refine W_seq ?_; refine W_region ?_; refine P1 T.ok rfl rfl rfl ?_; refine P1 T.ok rfl rfl rfl ?_; refine WL_nil ?_; (with_reducible refine T_then ?_)
     refine W_ret (ret2 rfl rfl rfl (RetS.intro le0 (ropenRes.no (D' := D) (bd := A.bd) (dp := A.dp) (dc := A.dc) (pa := A.pa) (pc := A.pc) ?_ ((hs.drop 0).drop 0))))
     unfold openM
     rw [if_neg (by simp [ho]), hG, ← hgo]
  ·refine WL_know 37 (b := decide ((Z.size : Int) < (D.dur.length : Int))) (b' := false) (decide_eq_false (by omega)) rfl ?_
   (iterate 7 refine S1 allF rfl rfl ?_); refine P1 T.ok rfl rfl rfl ?_; refine WL_nil ?_; (with_reducible refine T_then ?_)
   refine W_no rfl rfl ?_
   have hr : loadGo (D.vis.length + 1) tape0 D.vis = some Z := by rw [hG, ← hgo]; unfold loadGo; rw [if_neg (fun h => h1 h.1)]
   obtain ⟨n, hn⟩ : ∃ n, n = D.vis.length - Z.size := ⟨_, rfl⟩
   have hwn : IntKind.i64.wrap ((D.dur.length : Int) - (Z.size : Int)) = (n : Int) := by rw [wr (by omega) (by omega)]; omega
   have hop : ∀ r D' e, (isZero (D.vis.drop Z.size) = true → r = some Z ∧ D' = D ∧ e = 0) →
     (isZero (D.vis.drop Z.size) = false → (if (runM (clearFs Z.size n) D).2 = 0 then (some Z, (runM (clearFs Z.size n) D).1, 0) else (none, (runM (clearFs Z.size n) D).1, (runM (clearFs Z.size n) D).2)) = (r, D', e)) → openM D = (r, D', e) := by
    intro r D' e h1 h2
    unfold openM
    rw [if_neg (by simp [ho]), hr]
    simp only
    rw [← hn]
    cases hz : isZero (D.vis.drop Z.size) with
    | true => obtain ⟨rfl, rfl, rfl⟩ := h1 hz; rfl
    | false => exact h2 hz
   refine W_exit ?_; (with_reducible refine T_tx ?_; with_reducible refine T_tx ?_); (with_reducible refine T_bx ?_); (with_reducible refine T_then ?_); refine W_seq ?_; refine W_region ?_; (iterate 4 refine P1 T.ok rfl rfl rfl ?_); refine WL_o rfl rfl (OpR_loadO T.ok 0 rfl hs rfl rfl rfl ?_); refine P1 T.ok rfl rfl rfl ?_
   refine WL_re (.int .i64 (n : Int)) (t := 104) rfl (congrArg (Value.int .i64) hwn) ?_
   refine WL_o rfl rfl (OpR_makeX T.ok rfl hs rfl rfl rfl rfl rfl rfl (by decide) rfl (by show 1 * n ≤ _; omega) (by unfold maxLen; omega) (zeros_flat n) ?_)
   rintro bm gm hsm hqe; replace le0 := G.le.trans le0 hqe
   have hsrc := (Src.of_row (hsm.own 0 _ rfl).1).2
   replace hs := hsm.drop 0
   clear hsm
   skip
   have hsr2 : Src gm.w (some ⟨bm, 0, none⟩) n 1 ((List.replicate n (0 : Int)).map (Value.int .u8)) := by
    rw [show (List.replicate n (0 : Int)).map (Value.int .u8) = byteV (List.replicate n 0) from by simp [byteV]]; exact hsrc
   refine WL_o rfl rfl (OpR_bytesStr (ns := List.replicate n 0) T.ok rfl rfl rfl rfl rfl rfl rfl rfl hsr2 ?_)
   refine WL_re (.string (bs (List.replicate n 0))) (t := 106) rfl (congrArg Value.string (by simp)) ?_
   clear hsrc hsr2
   refine P1 T.ok rfl rfl rfl ?_; refine WL_nil ?_; (with_reducible refine T_then ?_); refine W_seq ?_; refine W_seq ?_; refine W_region ?_; (iterate 4 refine P1 T.ok rfl rfl rfl ?_); refine WL_o rfl rfl (OpR_loadO T.ok 0 rfl hs rfl rfl rfl ?_)
   refine WL_o rfl rfl (OpR_cutS T.ok (s := D.vis) (a := Z.size) (b := D.vis.length) rfl rfl rfl rfl ⟨_, rfl⟩ rfl hz2 (Nat.le_refl _) ?_)
   rw [List.take_length]
   refine P1 T.ok rfl rfl rfl ?_
   have hiz : isZero (D.vis.drop Z.size) = true ↔ D.vis.drop Z.size = List.replicate n 0 := by
    rw [isZero_eq, List.length_drop, ← hn]
   have hzl : (List.replicate n (0 : UInt8)).length = n := List.length_replicate
   have hrun : runM (clearFs Z.size n) D = if (D.put Z.size (List.replicate n 0)).off = true then (D.put Z.size (List.replicate n 0), 241) else ((D.put Z.size (List.replicate n 0)).sync, 0) := by
    unfold clearFs
    simp only [runM, DiskM.wr, DiskM.sy, ho, Bool.false_eq_true, if_false, if_true]
    split <;> rfl
   have hput := hR.put (k := Z.size) (s := List.replicate n 0) (by rw [hzl]; omega)
   have hputD := hD.put (k := Z.size) (s := List.replicate n 0) (by rw [hzl]; omega) (by omega)
   generalize List.replicate n (0 : UInt8) = zs at *
   refine WL_o rfl rfl (OpR_eqS (neg := true) rfl rfl rfl ?_)
   refine WL_nil ?_; (with_reducible refine T_then ?_)
   by_cases hz0 : D.vis.drop Z.size = zs
   ·refine W_no (b := true != (D.vis.drop Z.size == zs)) (by simp [hz0]) rfl ?_
    refine W_skip ?_; (with_reducible refine T_then ?_); refine W_seq ?_; refine W_region ?_; (iterate 3 refine P1 T.ok rfl rfl rfl ?_); refine WL_nil ?_; (with_reducible refine T_then ?_)
    refine W_ret ?_
    obtain ⟨gz, hwz, hsz, hqz, hrl⟩ := hs.fzRow (α := Str) (xs := Z.recs.map Str.mk) (i := 1) rfl (RcL.strs _ _)
    rw [← hwz]
    refine ret2 rfl rfl rfl (RetS.intro (le0.trans hqz) (ropenRes.yes (Y := Z) ?_ hrl hsz))
    exact hop _ _ _ (fun _ => ⟨rfl, rfl, rfl⟩) fun h => by rw [hiz.2 hz0] at h; cases h
   ·refine W_yes (b := true != (D.vis.drop Z.size == zs)) (by simp [hz0]) rfl ?_
    have hzf : isZero (D.vis.drop Z.size) = false := by
     cases h : isZero (D.vis.drop Z.size)
     ·rfl
     ·exact absurd (hiz.1 h) hz0
    have hop2 : ∀ r D' e, (if (runM (clearFs Z.size n) D).2 = 0 then (some Z, (runM (clearFs Z.size n) D).1, 0) else (none, (runM (clearFs Z.size n) D).1, (runM (clearFs Z.size n) D).2)) = (r, D', e) → openM D = (r, D', e) :=
     fun r D' e h => hop r D' e (fun h1 => by rw [hzf] at h1; cases h1) fun _ => h
    rw [hrun] at hop2
    clear hop hiz hz0 hzf hrun
    refine W_seq ?_; refine W_region ?_; (iterate 4 refine P1 T.ok rfl rfl rfl ?_); refine WL_o rfl rfl (OpR_loadO T.ok 0 rfl hs rfl rfl rfl ?_); refine P1 T.ok rfl rfl rfl ?_
    replace hs : St g0 gm ([.obj b (.cells [.pointer (some ⟨A.b, 0, none⟩), .slice ra Z.recs.length rc, .int .i64 (Z.size : Int), .bool false].toArray 43 (0, 0)), .row 9 1 (.slice ra Z.recs.length rc) Z.recs.length (strL Z.recs)] ++ (rkL A D ++ L)) := hs
    have hcall := rwrite_c hD (by omega) hR.left ho (k := Z.size) (s := zs) (by omega) hs.swap
    refine WL_o rfl rfl (OpR_st cl16 allF rfl rfl rfl rfl rfl hcall ?_)
    clear hs hcall
    rintro g6 _ hqe ⟨rfl, pa, pc, hs⟩; replace le0 := G.le.trans le0 hqe
    generalize D.put Z.size zs = D1 at *
    refine P1 T.ok rfl rfl rfl ?_; refine WL_nil ?_; (with_reducible refine T_then ?_); refine W_seq ?_; refine W_seq ?_; refine W_region ?_; refine P1 T.ok rfl rfl rfl ?_; refine P1 T.ok rfl rfl rfl ?_; refine WL_nil ?_; (with_reducible refine T_then ?_)
    refine W_yes rfl rfl ?_
    refine W_region ?_; refine P1 T.ok rfl rfl rfl ?_
    cases ho1 : D1.off with
    | true =>
     replace hop2 : openM D = (none, D1, 241) := hop2 _ _ _ (by simp [ho1])
     have hcall := rsyncD_c ho1 hs
     refine WL_o rfl rfl (OpR_st cl45 allF rfl rfl rfl rfl rfl hcall ?_)
     clear hs hcall
     rintro g7 _ hqe ⟨rfl, hs⟩; replace le0 := G.le.trans le0 hqe
     refine P1 T.ok rfl rfl rfl ?_; refine WL_nil ?_; (with_reducible refine T_then ?_); refine W_seq ?_; refine W_region ?_; refine P1 T.ok rfl rfl rfl ?_; refine P1 T.ok rfl rfl rfl ?_; refine WL_nil ?_; (with_reducible refine T_then ?_)
     refine W_yes rfl rfl ?_
     refine W_seq ?_; refine W_region ?_; (iterate 3 refine P1 T.ok rfl rfl rfl ?_); refine WL_nil ?_; (with_reducible refine T_then ?_)
     refine W_ret (ret2 rfl rfl rfl (RetS.intro le0 (ropenRes.no hop2 ((hs.swap.drop 0).drop 0))))
    | false =>
     replace hop2 : openM D = (some Z, D1.sync, 0) := hop2 _ _ _ (by simp [ho1])
     have hcall := rsync_c hputD hput ho1 hs
     refine WL_o rfl rfl (OpR_st cl45 allF rfl rfl rfl rfl rfl hcall ?_)
     clear hs hcall
     rintro g7 _ hqe ⟨rfl, bd, dp, dc, hs⟩; replace le0 := G.le.trans le0 hqe
     refine P1 T.ok rfl rfl rfl ?_; refine WL_nil ?_; (with_reducible refine T_then ?_); refine W_seq ?_; refine W_region ?_; refine P1 T.ok rfl rfl rfl ?_; refine P1 T.ok rfl rfl rfl ?_; refine WL_nil ?_; (with_reducible refine T_then ?_)
     refine W_no rfl rfl ?_
     replace hs := hs.swap
     refine W_skip ?_; (with_reducible refine T_then ?_); refine W_seq ?_; refine W_region ?_; (iterate 3 refine P1 T.ok rfl rfl rfl ?_); refine WL_nil ?_; (with_reducible refine T_then ?_)
     refine W_ret ?_
     obtain ⟨gz, hwz, hsz, hqz, hrl⟩ := hs.fzRow (α := Str) (xs := Z.recs.map Str.mk) (i := 1) rfl (RcL.strs _ _)
     rw [← hwz]
     refine ret2 rfl rfl rfl (RetS.intro (le0.trans hqz) (ropenRes.yes (Y := Z) ?_ hrl hsz))
     exact hop2
end Go.Proofs.YteohjgndanlldaaGreatDoor

/- The reference journal: Append. -/
namespace Go.Proofs.YteohjgndanlldaaGreatDoor
open Go Go.K
set_option maxRecDepth 10000
attribute [local irreducible] W WL OpR bitAnd bitOr bitXor bitClr bitNot shlI shrI
set_option maxHeartbeats 1000000

theorem storeM_cases (D : DiskM) (k : Nat) (out : List UInt8) : storeM D k out =
  if D.off = true then (D, 241) else if (D.put (k + 1) (out.drop 1)).off = true then (D.put (k + 1) (out.drop 1), 241)
  else if ((D.put (k + 1) (out.drop 1)).sync.put k (out.take 1)).off = true then ((D.put (k + 1) (out.drop 1)).sync.put k (out.take 1), 241)
  else (((D.put (k + 1) (out.drop 1)).sync.put k (out.take 1)).sync, 0) := by
 unfold storeM storeFs
 simp only [runM]
 cases h1 : D.off with
 | true => simp [DiskM.wr, h1]
 | false =>
  have e1 : D.wr (k + 1) (out.drop 1) = (D.put (k + 1) (out.drop 1), 0) := by unfold DiskM.wr; rw [if_neg (by simp [h1])]
  simp only [e1, if_true]
  generalize D.put (k + 1) (out.drop 1) = D1
  simp only [Bool.false_eq_true, if_false]
  cases h2 : D1.off with
  | true => simp [DiskM.sy, h2]
  | false =>
   have e2 : D1.sy = (D1.sync, 0) := by unfold DiskM.sy; rw [if_neg (by simp [h2])]
   have h3 : D1.sync.off = false := h2
   have e3 : D1.sync.wr k (out.take 1) = (D1.sync.put k (out.take 1), 0) := by unfold DiskM.wr; rw [if_neg (by simp [h3])]
   simp only [e2, e3, if_true, Bool.false_eq_true, if_false]
   generalize D1.sync.put k (out.take 1) = D3
   cases h4 : D3.off with
   | true => simp [DiskM.sy, h4]
   | false => simp [DiskM.sy, h4]

def rappPost (b : Nat) (A : RkA) (br : Bool) (Y : TapeM) (D : DiskM) (l : List (List UInt8)) (L : List Ent) (g0 g' : G) (r : Value) : Prop :=
 r = .int .i64 (appM br Y D l).2.2.2 ∧ ∃ v bd dp dc pa pc, Rs g' v ((appM br Y D l).2.1.recs.map Str.mk) ∧ St g0 g' (kjO b A.b v (appM br Y D l).1 (appM br Y D l).2.1 :: (rkL ⟨A.b, bd, dp, dc, pa, pc⟩ (appM br Y D l).2.2.1 ++ L))
theorem rappPost.of {b : Nat} {A : RkA} {br br' : Bool} {Y Y' : TapeM} {D D' : DiskM} {l : List (List UInt8)} {L : List Ent} {g0 g' : G} {v : Value} {bd dp dc pc : Nat} {pa : Option Addr} {e : Int} (h : appM br Y D l = (br', Y', D', e)) (hr : Rs g' v (Y'.recs.map Str.mk))
  (hs : St g0 g' (kjO b A.b v br' Y' :: (rkL ⟨A.b, bd, dp, dc, pa, pc⟩ D' ++ L))) : rappPost b A br Y D l L g0 g' (.int .i64 e) := by
 unfold rappPost
 rw [h]
 exact ⟨rfl, v, bd, dp, dc, pa, pc, hr, hs⟩


theorem rappend_c {b : Nat} {A : RkA} {v : Value} {br : Bool} {Y : TapeM} {D : DiskM} (hD : D.ok) (hR : RefOk D) (hp : D.pend.length ≤ 999990) (hY : Y.ok) (hsz : Y.size ≤ D.dur.length) (hhd : Y.head = headM Y.recs) (hys : ∀ r ∈ Y.recs, r.length ≤ 65536) (hyn : Y.recs.length ≤ 4194304)
  (u : Value) (xs : List Str) (hsh : ∀ r ∈ xs.map Str.s, r.length ≤ 65536) (hn : xs.length ≤ 1000)
  {g0 g : G} {L : List Ent} (rsv0 : Rs g v (Y.recs.map Str.mk)) (rsx0 : Rs g u xs) (hs : St g0 g (kjO b A.b v br Y :: (rkL A D ++ L))) :
  CallsIn Wd 0 Tryz.prog 12 #[.pointer (some ⟨b, 0, none⟩), u] g.w (RetS g (rappPost b A br Y D (xs.map Str.s) L g0)) := by
 obtain ⟨au, cu, rfl⟩ := rsx0.isSlice
 obtain ⟨av, cv, rfl⟩ := rsv0.isSlice
 have le0 := G.le.refl g
 have rs0 := rsx0
 have rs1 := rsv0
 have hmax := hD.le
 have hno : ¬ (false = true ∨ ((xs.map Str.s).any fun s => decide (65536 < s.length)) = true) := by
  simp only [Bool.false_eq_true, false_or, List.any_eq_true, decide_eq_true_eq, not_exists, not_and]
  intro r hr
  have := hsh r hr
  omega
 have hhead : headM ((Y.recs.map Str.mk).map Str.s) = Y.head := by
  rw [hhd, List.map_map, show (Str.s ∘ Str.mk) = id from rfl, List.map_id]
 refine enter Tryz.func12 rfl Tryz.ntmps12 rfl ?_
 unfold kjO at hs
 refine W_seq ?_; refine W_region ?_; refine P1 T.ok rfl rfl rfl ?_; refine WL_nil ?_; (with_reducible refine T_then ?_); refine W_seq ?_; refine W_seq ?_; refine W_region ?_; (iterate 3 refine P1 T.ok rfl rfl rfl ?_); refine WL_o rfl rfl (OpR_loadO T.ok 0 rfl hs rfl rfl rfl ?_); refine WL_nil ?_; (with_reducible refine T_then ?_)
 cases br with
 | true =>
  refine W_yes rfl rfl ?_
  refine W_seq ?_; refine W_region ?_; refine P1 T.ok rfl rfl rfl ?_; refine WL_nil ?_; (with_reducible refine T_then ?_)
  exact W_ret (ret1 rfl rfl (RetS.intro le0 (rappPost.of (if_pos (.inl rfl)) rs1 hs)))
 | false =>
  refine W_no rfl rfl ?_
  refine W_skip ?_; (with_reducible refine T_then ?_); refine W_seq ?_; refine W_region ?_; refine P1 T.ok rfl rfl rfl ?_; refine WL_nil ?_; (with_reducible refine T_then ?_); refine W_seq ?_; refine W_region ?_; (iterate 3 refine P1 T.ok rfl rfl rfl ?_); refine WL_o rfl rfl (OpR_loadO T.ok 0 rfl hs rfl rfl rfl ?_)
  refine WL_o rfl rfl (OpR_ret cl43 allF rfl rfl rfl rfl rfl (rhead_c _ _ _ rs1 (by intro x hx; obtain ⟨y, hy, rfl⟩ := List.mem_map.1 hx; have := hys y hy; show y.length ≤ _; omega)) ?_); rintro g1 _ hf1 rfl; replace hs := hs.call hf1; have hqe := hf1.le; replace le0 := G.le.trans le0 hqe; replace rs0 := rs0.mono hqe; replace rs1 := rs1.mono hqe
  rw [hhead]
  refine P1 T.ok rfl rfl rfl ?_; refine WL_nil ?_; (with_reducible refine T_then ?_); refine W_seq ?_; refine W_seq ?_; refine W_region ?_; refine P1 T.ok rfl rfl rfl ?_; refine WL_nil ?_; (with_reducible refine T_then ?_); refine W_block ?_
  have hw0 : wireM Y (([] : List Str).map Str.s) = [] := rfl
  refine W_loop (fun m a' w => ∃ (i : Nat) (g2 : G), w = g2.w ∧ St g0 g2 (.obj b (.cells [.pointer (some ⟨A.b, 0, none⟩), .slice av (Y.recs.map Str.mk).length cv, .int .i64 (Y.size : Int), .bool false].toArray 43 (0, 0)) :: (rkL A D ++ L)) ∧ G.le g g2 ∧ i ≤ xs.length ∧ m = xs.length - i ∧
    Fr 120 [] [(0, .pointer (some ⟨b, 0, none⟩)), (1, .slice au xs.length cu), (5, .string (bs (wireM Y ((xs.take i).map Str.s)))), (6, .string (bs (Y.adds ((xs.take i).map Str.s)).head)), (7, .int .i64 i)] a') xs.length
   (fun a' ha => ⟨0, _, rfl, hs, le0, Nat.zero_le _, rfl, ha.keep (by (repeat (first | exact trivial | refine ⟨rfl, ?_⟩)))⟩) ?_
  clear hs le0 rs0 rs1
  rintro m a' _ ⟨i, g2, rfl, hs, le0, hi, rfl, ha'⟩
  have rs0 := rsx0.mono le0
  have rs1 := rsv0.mono le0
  revert a'
  (with_reducible refine T_wp ?_); refine W_seq ?_; refine W_seq ?_; refine W_region ?_; (iterate 4 refine P1 T.ok rfl rfl rfl ?_); refine WL_nil ?_; (with_reducible refine T_then ?_)
  by_cases hlt : i < xs.length
  ·refine W_yes (b := decide ((i : Int) < (xs.length : Int))) (decide_eq_true (by omega)) rfl ?_
   have hgi : geti xs (i : Int) = some xs[i] := geti_of rfl hlt
   have htk : (xs.take (i + 1)).map Str.s = (xs.take i).map Str.s ++ [xs[i].s] := by
    rw [List.take_add_one, List.getElem?_eq_getElem hlt, List.map_append]; rfl
   have hxs : xs[i].s.length ≤ 65536 := hsh _ (List.mem_map.2 ⟨xs[i], List.getElem_mem hlt, rfl⟩)
   have hshk : ∀ r ∈ (xs.take i).map Str.s, r.length ≤ 65536 := fun r hr => hsh r (List.mem_of_mem_take (by rw [← List.map_take]; exact hr))
   have hwl := wireM_len hshk Y
   rw [List.length_map, List.length_take] at hwl
   have hZh : (Y.adds ((xs.take i).map Str.s)).head.length = 32 := adds_head _ hY.head
   have hw1 : wireM Y ((xs.take (i + 1)).map Str.s) = wireM Y ((xs.take i).map Str.s) ++ outM (Y.adds ((xs.take i).map Str.s)).head xs[i].s := by
    rw [htk, wireM_snoc]
   have hh1 : (Y.adds ((xs.take (i + 1)).map Str.s)).head = chainM (Y.adds ((xs.take i).map Str.s)).head xs[i].s := by
    rw [htk, adds_snoc]; unfold TapeM.add; dsimp only
   have hol := outM_len (head := (Y.adds ((xs.take i).map Str.s)).head) hxs
   generalize xs[i] = x at *
   generalize (Y.adds ((xs.take i).map Str.s)).head = h at *
   generalize wireM Y ((xs.take i).map Str.s) = out at *
   refine W_skip ?_; (with_reducible refine T_then ?_); refine W_seq ?_; refine W_block ?_; refine W_seq ?_; refine W_seq ?_; refine W_region ?_; refine P1 T.ok rfl rfl rfl ?_; refine P1 T.ok rfl rfl rfl ?_
   refine WL_o rfl rfl (OpR_idx T.ok rfl rs0 (y := x) hgi rfl rfl rfl rfl rfl rfl ?_)
   rintro b1 p1 ys hep hrc
   obtain rfl : ys = [.string (bs x.s)] := hrc
   have ep0 := hep
   clear hep
   refine WL_o rfl rfl (OpR_loadE T.ok 0 rfl ep0 rfl rfl ?_); refine P1 T.ok rfl rfl rfl ?_; refine P1 T.ok rfl rfl rfl ?_; refine WL_nil ?_; (with_reducible refine T_then ?_)
   refine W_no (b := decide ((65536 : Int) < ((bs x.s).size : Int))) (decide_eq_false (by rw [bs_size]; omega)) rfl ?_
   refine W_skip ?_; (with_reducible refine T_then ?_); refine W_seq ?_; refine W_region ?_; (iterate 3 refine P1 T.ok rfl rfl rfl ?_)
   refine WL_o rfl rfl (OpR_idx T.ok rfl rs0 (y := x) hgi rfl rfl rfl rfl rfl rfl ?_)
   rintro b1 p1 ys hep hrc
   obtain rfl : ys = [.string (bs x.s)] := hrc
   have ep0 := hep
   clear hep
   have hcall := fun gq : G => rstored_c h x.s gq (by omega) hxs
   generalize outM h x.s = o at *
   generalize chainM h x.s = ch at *
   refine WL_o rfl rfl (OpR_loadE T.ok 0 rfl ep0 rfl rfl ?_)
   refine WL_o rfl rfl (OpR_ret cl44 allF rfl rfl rfl rfl rfl (hcall _) ?_); rintro g1 _ hf1 rfl; replace hs := hs.call hf1; have hqe := hf1.le; replace le0 := G.le.trans le0 hqe; replace ep0 := ep0.mono hqe; replace rs0 := rs0.mono hqe; replace rs1 := rs1.mono hqe
   clear hcall
   (iterate 5 refine P1 T.ok rfl rfl rfl ?_); refine WL_nil ?_; (with_reducible refine T_then ?_); refine W_seq ?_; refine W_region ?_; refine P1 T.ok rfl rfl rfl ?_; refine P1 T.ok rfl rfl rfl ?_
   refine WL_o rfl rfl (OpR_addS (p := out) (q := o) rfl rfl rfl (by omega) ?_)
   refine P1 T.ok rfl rfl rfl ?_; refine WL_nil ?_; (with_reducible refine T_then ?_); refine W_region ?_; refine P1 T.ok rfl rfl rfl ?_; refine P1 T.ok rfl rfl rfl ?_; refine WL_nil ?_; (with_reducible refine T_bn ?_); (with_reducible refine T_then ?_); refine W_region ?_; (iterate 3 refine P1 T.ok rfl rfl rfl ?_); refine WL_nil ?_
   exact fun a ha => ⟨xs.length - (i + 1), by omega, i + 1, _, rfl, hs, le0, by omega, rfl, by rw [hw1, hh1]; exact ha.keep ⟨rfl, rfl, rfl, rfl, kI rfl (by rw [wr (by omega) (by omega)]; omega), trivial⟩⟩
  ·refine W_no (b := decide ((i : Int) < (xs.length : Int))) (decide_eq_false (by omega)) rfl ?_
   rw [List.take_of_length_le (by omega)]
   have hwl := wireM_len hsh Y
   rw [List.length_map] at hwl
   have happ : appM false Y D (xs.map Str.s) = if (D.dur.length : Int) - Y.size < (wireM Y (xs.map Str.s)).length then (false, Y, D, 251) else if wireM Y (xs.map Str.s) = [] then (false, Y, D, 0)
     else if (storeM D Y.size (wireM Y (xs.map Str.s))).2 = 0 then (false, Y.adds (xs.map Str.s), (storeM D Y.size (wireM Y (xs.map Str.s))).1, 0) else (true, Y, (storeM D Y.size (wireM Y (xs.map Str.s))).1, (storeM D Y.size (wireM Y (xs.map Str.s))).2) := by
    unfold appM
    rw [if_neg hno]
   have hadr : (Y.adds (xs.map Str.s)).recs = Y.recs ++ xs.map Str.s := adds_recs _ _
   have hads : (Y.adds (xs.map Str.s)).size = Y.size + (wireM Y (xs.map Str.s)).length := adds_size _ _
   generalize (Y.adds (xs.map Str.s)).head = hfin at *
   generalize Y.adds (xs.map Str.s) = Y2 at *
   generalize wireM Y (xs.map Str.s) = out at *
   refine W_exit ?_; (with_reducible refine T_tx ?_; with_reducible refine T_tx ?_); (with_reducible refine T_bx ?_); (with_reducible refine T_then ?_); refine W_seq ?_; refine W_seq ?_; refine W_region ?_; (iterate 3 refine P1 T.ok rfl rfl rfl ?_)
   have hroom := rroom_c (b := b) (v := .slice av (Y.recs.map Str.mk).length cv) (br := false) hmax hY.size hs
   refine WL_o rfl rfl (OpR_ret cl21 allF rfl rfl rfl rfl rfl (hroom) ?_); rintro g1 _ hf1 rfl; replace hs := hs.call hf1; have hqe := hf1.le; replace le0 := G.le.trans le0 hqe; replace rs0 := rs0.mono hqe; replace rs1 := rs1.mono hqe
   clear hroom
   refine P1 T.ok rfl rfl rfl ?_; refine WL_nil ?_; (with_reducible refine T_then ?_)
   by_cases hfull : (D.dur.length : Int) - Y.size < out.length
   ·rw [if_pos hfull] at happ
    refine W_yes (b := decide ((D.dur.length : Int) - Y.size < ((bs out).size : Int))) (decide_eq_true (by rw [bs_size]; exact hfull)) rfl ?_
    refine W_seq ?_; refine W_region ?_; refine P1 T.ok rfl rfl rfl ?_; refine WL_nil ?_; (with_reducible refine T_then ?_)
    exact W_ret (ret1 rfl rfl (RetS.intro le0 (rappPost.of happ rs1 hs)))
   rw [if_neg hfull] at happ
   refine W_no (b := decide ((D.dur.length : Int) - Y.size < ((bs out).size : Int))) (decide_eq_false (by rw [bs_size]; exact hfull)) rfl ?_
   refine W_skip ?_; (with_reducible refine T_then ?_); refine W_seq ?_; refine W_seq ?_; refine W_region ?_; refine P1 T.ok rfl rfl rfl ?_; refine P1 T.ok rfl rfl rfl ?_; refine WL_nil ?_; (with_reducible refine T_then ?_)
   by_cases hne : out = []
   ·rw [if_pos hne] at happ
    refine W_yes (b := ((bs out).toList == (bs []).toList)) (by rw [hne]; simp) rfl ?_
    refine W_seq ?_; refine W_region ?_; refine P1 T.ok rfl rfl rfl ?_; refine WL_nil ?_; (with_reducible refine T_then ?_)
    exact W_ret (ret1 rfl rfl (RetS.intro le0 (rappPost.of happ rs1 hs)))
   rw [if_neg hne] at happ
   refine W_no (b := ((bs out).toList == (bs []).toList)) (by rw [bs_toList, bs_toList]; simpa using hne) rfl ?_
   have hol1 : 1 ≤ out.length := by
    cases h : out with
    | nil => exact absurd h hne
    | cons x t => simp
   rw [storeM_cases] at happ
   replace hs : St g0 _ ([.obj b (.cells [.pointer (some ⟨A.b, 0, none⟩), .slice av (Y.recs.map Str.mk).length cv, .int .i64 (Y.size : Int), .bool false].toArray 43 (0, 0))] ++ (rkL A D ++ L)) := hs
   replace hs := hs.swap
   have hl1 : (out.drop 1).length = out.length - 1 := List.length_drop
   have hl2 : (out.take 1).length = 1 := by rw [List.length_take]; omega
   have hput := hR.put (k := Y.size + 1) (s := out.drop 1) (by omega)
   have hputD := hD.put (k := Y.size + 1) (s := out.drop 1) (by omega) (by omega)
   have hputl : (D.put (Y.size + 1) (out.drop 1)).dur.length = D.dur.length := rfl
   have hputv := hputD.len
   refine W_skip ?_; (with_reducible refine T_then ?_); refine W_seq ?_
   apply W_draw allF rfl (Fact.eq _ :: Fact.eq _ :: Fact.eq _ :: Fact.eq _ :: Fact.eq _ :: Fact.eq _ :: Fact.eq _ :: Fact.eq _ :: (Fact.eq (.int .i64 ((Y.size + 1 : Nat) : Int))) :: Fact.eq _ :: Fact.eq _ :: []) 11 [(3, 56), (8, 61), (10, 63)] rfl rfl
   ·refine D_s (js := []) (by kernel_rfl) (fun _ _ => QA_nil (DPu T.ok rfl rfl rfl)) ?_
    refine D_s (js := [(0, 53)]) (by kernel_rfl) (fun _ _ => QA_eq rfl (QA_nil (DPu T.ok rfl rfl rfl))) ?_
    refine D_s (js := [(1, 54)]) (by kernel_rfl) (fun _ _ => QA_eq rfl (QA_nil (DPu T.ok rfl rfl rfl))) ?_
    refine D_s (js := [(2, 55)]) (by kernel_rfl) (fun _ hf => QA_eq rfl (QA_nil (DLo T.ok 3 rfl rfl (hs.dr.call hf) rfl rfl rfl rfl))) ?_
    refine D_s (js := []) (by kernel_rfl) (fun _ _ => QA_nil (DPu T.ok rfl rfl rfl)) ?_
    refine D_s (js := [(4, 57)]) (by kernel_rfl) (fun _ _ => QA_eq rfl (QA_nil (DPu T.ok rfl rfl rfl))) ?_
    refine D_s (js := [(5, 58)]) (by kernel_rfl) (fun _ _ => QA_eq rfl (QA_nil (DPu T.ok rfl rfl rfl))) ?_
    refine D_s (js := [(6, 59)]) (by kernel_rfl) (fun _ hf => QA_eq rfl (QA_nil (DLo T.ok 3 rfl rfl (hs.dr.call hf) rfl rfl rfl rfl))) ?_
    refine D_cons (D_step2 (js := [(7, 60)]) (by kernel_rfl) fun gd hf => ?_) ?_
    ·have hsd := hs.dr.call hf; have hfe := (G.le_dr _).trans hf.le
     refine QA_eq rfl ?_
     refine QA_nil ?_
     refine D_yes rfl ?_
     refine OpR_pure _ T.ok rfl ?_
     refine ⟨_, rfl, Fr0.refl _, ?_⟩
     exact congrArg (Value.int .i64) (by rw [wr (by omega) (by omega)]; omega)
    refine D_s (js := []) (by kernel_rfl) (fun _ _ => QA_nil (DPu T.ok rfl rfl rfl)) ?_
    refine D_cons (D_step2 (js := [(9, 62)]) (by kernel_rfl) fun gd hf => ?_) ?_
    ·have hsd := hs.dr.call hf; have hfe := (G.le_dr _).trans hf.le
     refine QA_eq rfl ?_
     refine QA_nil ?_
     refine D_yes rfl ?_
     refine OpR_cutS T.ok (s := out) (a := 1) (b := out.length) rfl rfl rfl rfl ⟨_, rfl⟩ rfl hol1 (Nat.le_refl _) ?_
     refine ⟨_, rfl, Fr0.refl _, ?_⟩
     exact rfl
    exact D_nil
   intro g1 hf1; refine QA_eq rfl ?_; refine QA_any fun v8 h8 => ?_; refine QA_eq rfl ?_; refine QA_nil ?_
   replace hs := hs.dr.call hf1; have hqe := (G.le_dr _).trans hf1.le; replace le0 := G.le.trans le0 hqe; replace rs0 := rs0.mono hqe; replace rs1 := rs1.mono hqe
   obtain rfl := h8
   rw [List.take_length]
   cases ho : D.off with
   | true =>
    replace happ : appM false Y D (xs.map Str.s) = (true, Y, D, 241) := by rw [happ]; simp [ho]
    have hcall := rwriteD_c ho ((Y.size + 1 : Nat) : Int) (out.drop 1) hs
    refine WL_o rfl rfl (OpR_st cl16 allF rfl rfl rfl rfl rfl hcall ?_)
    clear hs hcall
    rintro g6 _ hqe ⟨rfl, hs⟩; replace le0 := G.le.trans le0 hqe; replace rs0 := rs0.mono hqe; replace rs1 := rs1.mono hqe
    refine P1 T.ok rfl rfl rfl ?_; refine WL_nil ?_; (with_reducible refine T_then ?_); refine W_seq ?_; refine W_seq ?_; refine W_region ?_; refine P1 T.ok rfl rfl rfl ?_; refine P1 T.ok rfl rfl rfl ?_; refine WL_nil ?_; (with_reducible refine T_then ?_)
    refine W_no rfl rfl ?_
    refine W_skip ?_; (with_reducible refine T_then ?_); refine W_seq ?_; refine W_seq ?_; refine W_region ?_; refine P1 T.ok rfl rfl rfl ?_; refine P1 T.ok rfl rfl rfl ?_; refine WL_nil ?_; (with_reducible refine T_then ?_)
    refine W_no rfl rfl ?_
    refine W_skip ?_; (with_reducible refine T_then ?_); refine W_seq ?_; refine W_seq ?_; refine W_region ?_; refine P1 T.ok rfl rfl rfl ?_; refine P1 T.ok rfl rfl rfl ?_; refine WL_nil ?_; (with_reducible refine T_then ?_)
    refine W_no rfl rfl ?_
    refine W_skip ?_; (with_reducible refine T_then ?_); refine W_seq ?_; refine W_seq ?_; refine W_region ?_; refine P1 T.ok rfl rfl rfl ?_; refine P1 T.ok rfl rfl rfl ?_; refine WL_nil ?_; (with_reducible refine T_then ?_)
    refine W_yes rfl rfl ?_
    refine W_seq ?_; refine W_region ?_; (iterate 3 refine P1 T.ok rfl rfl rfl ?_)
    refine WL_n rfl (OpR_storeO T.ok 3 rfl hs rfl rfl rfl rfl rfl rfl rfl rfl rfl ?_); replace hs := hs; rintro g1 hs hqe; replace le0 := G.le.trans le0 hqe; replace rs0 := rs0.mono hqe; replace rs1 := rs1.mono hqe
    refine WL_nil ?_; (with_reducible refine T_then ?_); refine W_seq ?_; refine W_region ?_; refine P1 T.ok rfl rfl rfl ?_; refine P1 T.ok rfl rfl rfl ?_; refine WL_nil ?_; (with_reducible refine T_then ?_)
    refine W_ret (ret1 rfl rfl (RetS.intro le0 (rappPost.of (Y' := Y) (br' := true) happ rs1 (St.swap (A := rkL (A) (D)) (B := [kjO b A.b (.slice av (Y.recs.map Str.mk).length cv) true Y]) (C := L) hs))))
   | false =>
    have hcall := rwrite_c hD (by omega) hR.left ho (k := Y.size + 1) (s := out.drop 1) (by omega) hs
    refine WL_o rfl rfl (OpR_st cl16 allF rfl rfl rfl rfl rfl hcall ?_)
    clear hs hcall
    rintro g6 _ hqe ⟨rfl, pa, pc, hs⟩; replace le0 := G.le.trans le0 hqe; replace rs0 := rs0.mono hqe; replace rs1 := rs1.mono hqe
    generalize D.put (Y.size + 1) (out.drop 1) = D1 at *
    refine P1 T.ok rfl rfl rfl ?_; refine WL_nil ?_; (with_reducible refine T_then ?_); refine W_seq ?_; refine W_seq ?_; refine W_region ?_; refine P1 T.ok rfl rfl rfl ?_; refine P1 T.ok rfl rfl rfl ?_; refine WL_nil ?_; (with_reducible refine T_then ?_)
    refine W_yes rfl rfl ?_
    refine W_region ?_; (iterate 3 refine P1 T.ok rfl rfl rfl ?_); refine WL_o rfl rfl (OpR_loadO T.ok 3 rfl hs rfl rfl rfl ?_)
    cases ho1 : D1.off with
    | true =>
     replace happ : appM false Y D (xs.map Str.s) = (true, Y, D1, 241) := by rw [happ]; simp [ho, ho1]
     have hcall := rsyncD_c ho1 hs
     refine WL_o rfl rfl (OpR_st cl45 allF rfl rfl rfl rfl rfl hcall ?_)
     clear hs hcall
     rintro g7 _ hqe ⟨rfl, hs⟩; replace le0 := G.le.trans le0 hqe; replace rs0 := rs0.mono hqe; replace rs1 := rs1.mono hqe
     refine P1 T.ok rfl rfl rfl ?_; refine WL_nil ?_; (with_reducible refine T_then ?_); refine W_seq ?_; refine W_seq ?_; refine W_region ?_; refine P1 T.ok rfl rfl rfl ?_; refine P1 T.ok rfl rfl rfl ?_; refine WL_nil ?_; (with_reducible refine T_then ?_)
     refine W_no rfl rfl ?_
     refine W_skip ?_; (with_reducible refine T_then ?_); refine W_seq ?_; refine W_seq ?_; refine W_region ?_; refine P1 T.ok rfl rfl rfl ?_; refine P1 T.ok rfl rfl rfl ?_; refine WL_nil ?_; (with_reducible refine T_then ?_)
     refine W_no rfl rfl ?_
     refine W_skip ?_; (with_reducible refine T_then ?_); refine W_seq ?_; refine W_seq ?_; refine W_region ?_; refine P1 T.ok rfl rfl rfl ?_; refine P1 T.ok rfl rfl rfl ?_; refine WL_nil ?_; (with_reducible refine T_then ?_)
     refine W_yes rfl rfl ?_
     refine W_seq ?_; refine W_region ?_; (iterate 3 refine P1 T.ok rfl rfl rfl ?_)
     refine WL_n rfl (OpR_storeO T.ok 3 rfl hs rfl rfl rfl rfl rfl rfl rfl rfl rfl ?_); replace hs := hs; rintro g1 hs hqe; replace le0 := G.le.trans le0 hqe; replace rs0 := rs0.mono hqe; replace rs1 := rs1.mono hqe
     refine WL_nil ?_; (with_reducible refine T_then ?_); refine W_seq ?_; refine W_region ?_; refine P1 T.ok rfl rfl rfl ?_; refine P1 T.ok rfl rfl rfl ?_; refine WL_nil ?_; (with_reducible refine T_then ?_)
     refine W_ret (ret1 rfl rfl (RetS.intro le0 (rappPost.of (Y' := Y) (br' := true) happ rs1 (St.swap (A := rkL (⟨A.b, A.bd, A.dp, A.dc, pa, pc⟩) (D1)) (B := [kjO b A.b (.slice av (Y.recs.map Str.mk).length cv) true Y]) (C := L) hs))))
    | false =>
     have hcall := rsync_c hputD hput ho1 hs
     refine WL_o rfl rfl (OpR_st cl45 allF rfl rfl rfl rfl rfl hcall ?_)
     clear hs hcall
     rintro g7 _ hqe ⟨rfl, bd2, dp2, dc2, hs⟩; replace le0 := G.le.trans le0 hqe; replace rs0 := rs0.mono hqe; replace rs1 := rs1.mono hqe
     have hD2 := hputD.sync
     have hR2 := hput.sync
     have ho2 : D1.sync.off = false := ho1
     have hp2 : D1.sync.pend.length = 0 := rfl
     have hl3 : D1.sync.dur.length = D.dur.length := hputv.trans hputl
     have hput3 := hR2.put (k := Y.size) (s := out.take 1) (by omega)
     have hputD3 := hD2.put (k := Y.size) (s := out.take 1) (by omega) (by omega)
     generalize D1.sync = D2 at *
     refine P1 T.ok rfl rfl rfl ?_; refine WL_nil ?_; (with_reducible refine T_then ?_); refine W_seq ?_; refine W_seq ?_; refine W_region ?_; refine P1 T.ok rfl rfl rfl ?_; refine P1 T.ok rfl rfl rfl ?_; refine WL_nil ?_; (with_reducible refine T_then ?_)
     refine W_yes rfl rfl ?_
     skip
     apply W_draw allF rfl (Fact.eq _ :: Fact.eq _ :: Fact.eq _ :: Fact.eq _ :: Fact.eq _ :: Fact.eq _ :: Fact.eq _ :: Fact.eq _ :: Fact.eq _ :: Fact.eq _ :: []) 10 [(3, 77), (7, 81), (9, 83)] rfl rfl
     ·refine D_s (js := []) (by kernel_rfl) (fun _ _ => QA_nil (DPu T.ok rfl rfl rfl)) ?_
      refine D_s (js := [(0, 74)]) (by kernel_rfl) (fun _ _ => QA_eq rfl (QA_nil (DPu T.ok rfl rfl rfl))) ?_
      refine D_s (js := [(1, 75)]) (by kernel_rfl) (fun _ _ => QA_eq rfl (QA_nil (DPu T.ok rfl rfl rfl))) ?_
      refine D_s (js := [(2, 76)]) (by kernel_rfl) (fun _ hf => QA_eq rfl (QA_nil (DLo T.ok 3 rfl rfl (hs.dr.call hf) rfl rfl rfl rfl))) ?_
      refine D_s (js := []) (by kernel_rfl) (fun _ _ => QA_nil (DPu T.ok rfl rfl rfl)) ?_
      refine D_s (js := [(4, 78)]) (by kernel_rfl) (fun _ _ => QA_eq rfl (QA_nil (DPu T.ok rfl rfl rfl))) ?_
      refine D_s (js := [(5, 79)]) (by kernel_rfl) (fun _ _ => QA_eq rfl (QA_nil (DPu T.ok rfl rfl rfl))) ?_
      refine D_s (js := [(6, 80)]) (by kernel_rfl) (fun _ hf => QA_eq rfl (QA_nil (DLo T.ok 3 rfl rfl (hs.dr.call hf) rfl rfl rfl rfl))) ?_
      refine D_s (js := []) (by kernel_rfl) (fun _ _ => QA_nil (DPu T.ok rfl rfl rfl)) ?_
      refine D_cons (D_step2 (js := [(8, 82)]) (by kernel_rfl) fun gd hf => ?_) ?_
      ·have hsd := hs.dr.call hf; have hfe := (G.le_dr _).trans hf.le
       refine QA_eq rfl ?_
       refine QA_nil ?_
       refine D_yes rfl ?_
       refine OpR_cutS T.ok (s := out) (a := 0) (b := 1) rfl rfl rfl rfl rfl ⟨_, rfl⟩ (Nat.zero_le _) hol1 ?_
       refine ⟨_, rfl, Fr0.refl _, ?_⟩
       exact rfl
      exact D_nil
     intro g1 hf1; refine QA_eq rfl ?_; refine QA_eq rfl ?_; refine QA_eq rfl ?_; refine QA_nil ?_
     replace hs := hs.dr.call hf1; have hqe := (G.le_dr _).trans hf1.le; replace le0 := G.le.trans le0 hqe; replace rs0 := rs0.mono hqe; replace rs1 := rs1.mono hqe
     rw [List.drop_zero]
     have hcall := rwrite_c hD2 (by omega) hR2.left ho2 (k := Y.size) (s := out.take 1) (by omega) hs
     refine WL_o rfl rfl (OpR_st cl16 allF rfl rfl rfl rfl rfl hcall ?_)
     clear hs hcall
     rintro g6 _ hqe ⟨rfl, pa3, pc3, hs⟩; replace le0 := G.le.trans le0 hqe; replace rs0 := rs0.mono hqe; replace rs1 := rs1.mono hqe
     generalize D2.put Y.size (out.take 1) = D3 at *
     refine P1 T.ok rfl rfl rfl ?_; refine WL_nil ?_; (with_reducible refine T_then ?_); refine W_seq ?_; refine W_seq ?_; refine W_region ?_; refine P1 T.ok rfl rfl rfl ?_; refine P1 T.ok rfl rfl rfl ?_; refine WL_nil ?_; (with_reducible refine T_then ?_)
     refine W_yes rfl rfl ?_
     refine W_region ?_; (iterate 3 refine P1 T.ok rfl rfl rfl ?_); refine WL_o rfl rfl (OpR_loadO T.ok 3 rfl hs rfl rfl rfl ?_)
     cases ho3 : D3.off with
     | true =>
      replace happ : appM false Y D (xs.map Str.s) = (true, Y, D3, 241) := by rw [happ]; simp [ho, ho1, ho3]
      have hcall := rsyncD_c ho3 hs
      refine WL_o rfl rfl (OpR_st cl45 allF rfl rfl rfl rfl rfl hcall ?_)
      clear hs hcall
      rintro g7 _ hqe ⟨rfl, hs⟩; replace le0 := G.le.trans le0 hqe; replace rs0 := rs0.mono hqe; replace rs1 := rs1.mono hqe
      refine P1 T.ok rfl rfl rfl ?_; refine WL_nil ?_; (with_reducible refine T_then ?_); refine W_seq ?_; refine W_seq ?_; refine W_region ?_; refine P1 T.ok rfl rfl rfl ?_; refine P1 T.ok rfl rfl rfl ?_; refine WL_nil ?_; (with_reducible refine T_then ?_)
      refine W_yes rfl rfl ?_
      refine W_seq ?_; refine W_region ?_; (iterate 3 refine P1 T.ok rfl rfl rfl ?_)
      refine WL_n rfl (OpR_storeO T.ok 3 rfl hs rfl rfl rfl rfl rfl rfl rfl rfl rfl ?_); replace hs := hs; rintro g1 hs hqe; replace le0 := G.le.trans le0 hqe; replace rs0 := rs0.mono hqe; replace rs1 := rs1.mono hqe
      refine WL_nil ?_; (with_reducible refine T_then ?_); refine W_seq ?_; refine W_region ?_; refine P1 T.ok rfl rfl rfl ?_; refine P1 T.ok rfl rfl rfl ?_; refine WL_nil ?_; (with_reducible refine T_then ?_)
      refine W_ret (ret1 rfl rfl (RetS.intro le0 (rappPost.of (Y' := Y) (br' := true) happ rs1 (St.swap (A := rkL (⟨A.b, bd2, dp2, dc2, pa3, pc3⟩) (D3)) (B := [kjO b A.b (.slice av (Y.recs.map Str.mk).length cv) true Y]) (C := L) hs))))
     | false =>
      replace happ : appM false Y D (xs.map Str.s) = (false, Y2, D3.sync, 0) := by rw [happ]; simp [ho, ho1, ho3]
      have hcall := rsync_c hputD3 hput3 ho3 hs
      refine WL_o rfl rfl (OpR_st cl45 allF rfl rfl rfl rfl rfl hcall ?_)
      clear hs hcall
      rintro g7 _ hqe ⟨rfl, bd4, dp4, dc4, hs⟩; replace le0 := G.le.trans le0 hqe; replace rs0 := rs0.mono hqe; replace rs1 := rs1.mono hqe
      generalize D3.sync = D4 at *
      refine P1 T.ok rfl rfl rfl ?_; refine WL_nil ?_; (with_reducible refine T_then ?_); refine W_seq ?_; refine W_seq ?_; refine W_region ?_; refine P1 T.ok rfl rfl rfl ?_; refine P1 T.ok rfl rfl rfl ?_; refine WL_nil ?_; (with_reducible refine T_then ?_)
      refine W_no rfl rfl ?_
      replace hs := hs.nilrow 9 1 none
      refine W_skip ?_; (with_reducible refine T_then ?_); refine W_seq ?_; refine W_region ?_; refine P1 T.ok rfl rfl rfl ?_; refine WL_nil ?_; (with_reducible refine T_then ?_); refine W_seq ?_; refine W_region ?_; (iterate 4 refine P1 T.ok rfl rfl rfl ?_); refine WL_o rfl rfl (OpR_loadO T.ok 4 rfl hs rfl rfl rfl ?_)
      obtain ⟨_, news, hnw, hsrc⟩ := Src.of_rs rs1
      refine WL_o rfl rfl (OpR_append T.ok 0 rfl hs rfl rfl rfl rfl rfl rfl rfl (by decide) rfl hsrc hnw.one (by rw [List.length_map]; show (0 + Y.recs.length) * 16 ≤ _; omega) (by unfold maxLen; rw [List.length_map]; omega) ?_)
      clear hs hsrc
      rintro a5 c5 g8 hs hqe; replace le0 := G.le.trans le0 hqe; replace rs0 := rs0.mono hqe; replace rs1 := rs1.mono hqe
      obtain rfl := RcL.strs_inv (l := Y.recs) hnw
      clear hnw
      refine P1 T.ok rfl rfl rfl ?_; refine WL_nil ?_; (with_reducible refine T_then ?_); refine W_seq ?_; refine W_region ?_; (iterate 3 refine P1 T.ok rfl rfl rfl ?_)
      obtain ⟨_, news, hnw, hsrc⟩ := Src.of_rs rs0
      refine WL_o rfl rfl (OpR_append T.ok 0 rfl hs rfl rfl rfl rfl rfl rfl rfl (by decide) rfl hsrc hnw.one (by rw [List.length_map]; show (0 + Y.recs.length + xs.length) * 16 ≤ _; omega) (by unfold maxLen; rw [List.length_map]; omega) ?_)
      clear hs hsrc
      rintro a6 c6 g9 hs hqe; replace le0 := G.le.trans le0 hqe; replace rs0 := rs0.mono hqe; replace rs1 := rs1.mono hqe
      obtain rfl := RcL.strs_inv (l := xs.map Str.s) (by rw [List.map_map, show (Str.mk ∘ Str.s) = id from rfl, List.map_id]; exact hnw)
      clear hnw
      refine P1 T.ok rfl rfl rfl ?_; refine P1 T.ok rfl rfl rfl ?_
      refine WL_n rfl (OpR_storeO T.ok 4 rfl hs rfl rfl rfl rfl rfl rfl rfl rfl rfl ?_); replace hs := hs; rintro g1 hs hqe; replace le0 := G.le.trans le0 hqe; replace rs0 := rs0.mono hqe; replace rs1 := rs1.mono hqe
      refine WL_nil ?_; (with_reducible refine T_then ?_); refine W_seq ?_; refine W_region ?_; (iterate 4 refine P1 T.ok rfl rfl rfl ?_); refine WL_o rfl rfl (OpR_loadO T.ok 4 rfl hs rfl rfl rfl ?_); (iterate 5 refine P1 T.ok rfl rfl rfl ?_)
      refine WL_re (.int .i64 (Y2.size : Int)) (t := 117) rfl (congrArg (Value.int .i64) (by rw [bs_size, wr (by omega) (by omega)]; omega)) ?_
      refine WL_n rfl (OpR_storeO T.ok 4 rfl hs rfl rfl rfl rfl rfl rfl rfl rfl rfl ?_); replace hs := hs; rintro g1 hs hqe; replace le0 := G.le.trans le0 hqe; replace rs0 := rs0.mono hqe; replace rs1 := rs1.mono hqe
      refine WL_nil ?_; (with_reducible refine T_then ?_); refine W_seq ?_; refine W_region ?_; refine P1 T.ok rfl rfl rfl ?_; refine WL_nil ?_; (with_reducible refine T_then ?_)
      refine W_ret ?_
      have hcells : ([] ++ strL Y.recs) ++ strL (xs.map Str.s) = strL Y2.recs := by rw [hadr, List.nil_append]; simp [strL]
      have hlen2 : 0 + (Y.recs.map Str.mk).length + xs.length = Y2.recs.length := by rw [hadr]; simp
      obtain ⟨gz, hwz, hsz2, hqz, hrl⟩ := hs.fzRow (α := Str) (xs := Y2.recs.map Str.mk) (i := 0) rfl (by rw [hcells]; exact RcL.strs _ _)
      rw [← hwz]
      exact ret1 rfl rfl (RetS.intro (le0.trans hqz) (rappPost.of happ hrl (St.swap (A := rkL ⟨A.b, bd4, dp4, dc4, none, 0⟩ D4) (B := [kjO b A.b (.slice a6 (0 + (Y.recs.map Str.mk).length + xs.length) c6) false Y2]) (C := L) hsz2)))
end Go.Proofs.YteohjgndanlldaaGreatDoor
