/- The walk through the law. -/
import Derived.Test.YteohjgndanlldaaGreatDoorWs

namespace Go.Proofs.YteohjgndanlldaaGreatDoor
open Go Go.K
set_option maxRecDepth 10000
attribute [local irreducible] W WL OpR bitAnd bitOr bitXor bitClr bitNot shlI shrI
set_option maxHeartbeats 2000000

theorem put_left {D : DiskM} (h : D.left = 0) (k : Nat) (s : List UInt8) : (D.put k s).off = D.off ∧ (D.put k s).left = 0 := by
 unfold DiskM.put usedM
 simp only [h, if_true]
 exact ⟨trivial, trivial⟩
theorem clear_left {D : DiskM} (h1 : D.off = false) (h2 : D.left = 0) (k n : Nat) : (runM (clearFs k n) D).1.off = false := by
 have h := (put_left h2 k (List.replicate n 0)).1
 rw [h1] at h
 unfold clearFs
 simp only [runM, DiskM.wr, DiskM.sy, h1, h, Bool.false_eq_true, if_false, if_true]
 exact h
theorem open_left {D : DiskM} (h1 : D.off = false) (h2 : D.left = 0) : (openM D).2.1.off = false := by
 unfold openM
 split
 ·exact h1
 ·split
  ·exact h1
  ·split
   ·exact h1
   ·split
    ·exact clear_left h1 h2 _ _
    ·exact clear_left h1 h2 _ _
theorem open_yok {D : DiskM} (hD : D.ok) {Y : TapeM} (h : (openM D).1 = some Y) : Y.ok := by
 have hle : D.vis.length ≤ 4194304 := by have := hD.le; have := hD.len; omega
 unfold openM at h
 split at h
 ·cases h
 ·split at h
  ·cases h
  ·rename_i Y' hl
   obtain ⟨rs, hrd⟩ := loadGo_reads D.vis _ _ _ (Nat.zero_le _) hl
   have hok := hrd.ok hle
   split at h
   ·cases h; exact hok
   ·split at h
    ·cases h; exact hok
    ·cases h
theorem app_new {D : DiskM} {Y : TapeM} {rs l : List (List UInt8)} (h : Live D Y rs) (h0 : D.left = 0) (hl : ∀ r ∈ l, r.length ≤ 65536) : ∃ Y' D' er rs2, appM false Y D l = (false, Y', D', er) ∧ Live D' Y' rs2 ∧ D'.left = 0 ∧ D'.dur.length = D.dur.length := by
 rcases app_live h hl with ⟨_, hA⟩ | ⟨D', hA, hL, hl2, h3⟩ | ⟨D', hl0, _⟩
 ·exact ⟨Y, D, 251, rs, hA, h, h0, rfl⟩
 ·exact ⟨_, D', 0, _, hA, hL, h3 h0, hl2⟩
 ·exact absurd h0 hl0


theorem opensAny_c {e : Addr} (n : Int) (s : List UInt8) (v : Value) (xs : List Str) (at' : Int) (cb : UInt8) (g : G) (hrk : RoundAt g) (hE : ErrAt e g) (hn : I64 n) (rsg : Rs g v xs) (hat : I64 at') :
  CallsIn Wd 0 Tryz.prog 3 #[.int .i64 n, .string (bs s), v, .int .i64 at', .int .u8 (cb.toNat : Int)] g.w (Ret g fun _ r => r = .bool true) := by
 obtain ⟨a, c, rfl⟩ := rsg.isSlice
 have hlen := rsg.len_le
 unfold maxLen at hlen
 have hs := St.start g
 have le0 := G.le.refl g
 have rs0 := rsg
 refine enter Tryz.func3 rfl Tryz.ntmps3 rfl ?_
 refine W_seq ?_; refine W_region ?_; refine P1 T.ok rfl rfl rfl ?_; refine WL_nil ?_; (with_reducible refine T_then ?_); refine W_seq ?_; refine W_region ?_
 refine WL_o rfl rfl (OpR_ret cl8 allF rfl rfl rfl rfl rfl (sane_c _ hrk hE) ?_); rintro g1 _ hf1 rfl; replace hs := hs.call hf1; have hqe := hf1.le; replace le0 := G.le.trans le0 hqe; replace rs0 := rs0.mono hqe
 refine P1 T.ok rfl rfl rfl ?_; refine WL_nil ?_; (with_reducible refine T_then ?_); refine W_seq ?_; refine W_region ?_; refine P1 T.ok rfl rfl rfl ?_
 have hcall := begin_c n hn (hrk.mono le0) (hE.mono le0) hs
 refine WL_o rfl rfl (OpR_st cl9 allF rfl rfl rfl rfl rfl hcall ?_)
 clear hs hcall
 rintro g1 r hqe hpo; replace le0 := G.le.trans le0 hqe; replace rs0 := rs0.mono hqe
 obtain ⟨bw, A0, R0, B0, kb0, kv0, rfl, hr0, hs⟩ := hpo
 have rs1 := hr0
 clear hr0
 have hsz := sizeM_range n
 have hsc := fun gq : G => size_c n gq hn
 have hW0 := WOk.new hsz.1 hsz.2
 have hlive := Live.new (n := sizeM n) hsz.1 (by omega)
 have hnl : (DiskM.new (sizeM n)).dur.length = sizeM n := by unfold DiskM.new; exact List.length_replicate
 generalize sizeM n = Z at *
 unfold wO at hs
 (iterate 5 refine P1 T.ok rfl rfl rfl ?_); refine WL_nil ?_; (with_reducible refine T_then ?_); refine W_seq ?_; refine W_seq ?_; refine W_region ?_; refine P1 T.ok rfl rfl rfl ?_; refine P1 T.ok rfl rfl rfl ?_; refine WL_nil ?_; (with_reducible refine T_then ?_)
 refine W_no rfl rfl ?_
 refine W_skip ?_; (with_reducible refine T_then ?_); refine W_seq ?_; refine W_seq ?_; refine W_region ?_; (iterate 3 refine P1 T.ok rfl rfl rfl ?_); refine WL_nil ?_; (with_reducible refine T_then ?_)
 by_cases hpos : 0 < xs.length
 ·refine W_yes (b := decide ((0 : Int) < (xs.length : Int))) (decide_eq_true (by omega)) rfl ?_
  have hfl := fewM_len xs
  have hfs := fewM_short xs
  obtain ⟨Y', D', er, rs2, hap, hlive', hl0', hdl⟩ := app_new (l := (fewM xs).map Str.s) hlive rfl hfs
  have hR' : RefOk (appM false tape0 (DiskM.new Z) ((fewM xs).map Str.s)).2.2.1 := hW0.1.app hW0.2.1
  rw [hap] at hR'
  dsimp only at hR'
  have hrk2 := hrk.mono le0
  refine W_seq ?_; refine W_seq ?_
  apply W_drawJ allF rfl (Fact.eq _ :: Fact.eq _ :: Fact.eq _ :: Fact.eq _ :: Fact.eq _ :: Fact.eq _ :: Fact.eq _ :: Fact.eq _ :: Fact.eq _ :: Fact.eq _ :: Fact.eq _ :: (Fact.rs (fewM xs)) :: (Fact.eq (.int .i64 er)) :: Fact.eq _ :: Fact.eq _ :: Fact.eq _ :: Fact.eq _ :: Fact.eq _ :: (Fact.rs (fewM xs)) :: (Fact.eq (.int .i64 er)) :: Fact.eq _ :: Fact.eq _ :: []) 22 [(21, 47)] [12,18,19] (stP g [wO bw A0.b R0.b (.pointer (some ⟨B0.b, 0, none⟩)) (.pointer (some ⟨kb0, 0, none⟩))] [fun _ Lx => Lx = jnL B0 A0 false tape0 ++ (dkL A0 (DiskM.new Z) ++ ([kjO kb0 R0.b kv0 false tape0] ++ (rkL R0 (DiskM.new Z) ++ ([] : List Ent)))), fun _ Lx => ∃ ra rc pa pc, Lx = jnL ⟨B0.b, ra, rc⟩ ⟨A0.b, A0.bd, A0.bv, pa, pc⟩ false Y' ++ (dkL ⟨A0.b, A0.bd, A0.bv, pa, pc⟩ D' ++ ([kjO kb0 R0.b kv0 false tape0] ++ (rkL R0 (DiskM.new Z) ++ ([] : List Ent)))), fun _ Lx => ∃ ra rc pa pc, Lx = jnL ⟨B0.b, ra, rc⟩ ⟨A0.b, A0.bd, A0.bv, pa, pc⟩ false Y' ++ (dkL ⟨A0.b, A0.bd, A0.bv, pa, pc⟩ D' ++ ([kjO kb0 R0.b kv0 false tape0] ++ (rkL R0 (DiskM.new Z) ++ ([] : List Ent)))), fun gq Lx => ∃ ra rc pa pc kv2 bd dp dc pa2 pc2, Rs gq kv2 (Y'.recs.map Str.mk) ∧ Lx = jnL ⟨B0.b, ra, rc⟩ ⟨A0.b, A0.bd, A0.bv, pa, pc⟩ false Y' ++ (dkL ⟨A0.b, A0.bd, A0.bv, pa, pc⟩ D' ++ ([kjO kb0 R0.b kv2 false Y'] ++ (rkL ⟨R0.b, bd, dp, dc, pa2, pc2⟩ D' ++ ([] : List Ent))))]) (stP_call (by
 intro p hp g g' L hle h
 simp only [List.mem_cons, List.not_mem_nil, or_false] at hp
 rcases hp with rfl | rfl | rfl | rfl
 ·exact h
 ·exact h
 ·exact h
 ·obtain ⟨ra, rc, pa, pc, kv2, bd, dp, dc, pa2, pc2, hr, h⟩ := h
  exact ⟨ra, rc, pa, pc, kv2, bd, dp, dc, pa2, pc2, hr.mono hle, h⟩)) (⟨_, _, rfl, rfl, hs.dr⟩) rfl (by kernel_rfl)
  case houts => exact rfl
  case hsoft => (repeat (first | exact softN | apply softE | refine softC (soft_eq _) ?_ | refine softC (soft_rs _) ?_ | refine softC (soft_step _ _) ?_ | refine softC (soft_stepV _) ?_ | refine softC (soft_wayV _) ?_ | refine softC (soft_intPtr _) ?_ | refine softC (soft_y6 _) ?_ | refine softC (soft_lst _) ?_ | refine softO (by exact rfl) ?_))
  ·refine J_cons (J_free (js := []) (by kernel_rfl) rfl fun _ _ _ _ => QA_nil (DPu T.ok rfl rfl rfl)) ?_
   refine J_cons (J_free (js := [(0, 26)]) (by kernel_rfl) rfl fun _ _ _ _ => QA_eq rfl (QA_nil (DPu T.ok rfl rfl rfl))) ?_
   refine J_cons (J_free (js := [(1, 27)]) (by kernel_rfl) rfl fun _ _ _ _ => QA_eq rfl (QA_nil (DPu T.ok rfl rfl rfl))) ?_
   refine J_cons (J_free (js := [(2, 28)]) (by kernel_rfl) (by exact rfl) fun s gd hf hj => ?_) ?_
   ·have hfe := (G.le_dr _).trans hf; obtain ⟨Lx, px, _, _, hsd⟩ := hj; unfold wO at hsd
    refine QA_eq rfl ?_
    refine QA_nil ?_
    (refine D_yes rfl ?_; refine OpR_loadO T.ok 0 rfl hsd rfl rfl rfl ?_; refine ⟨_, rfl, Fr0.refl _, ?_⟩; exact rfl)
   refine J_cons (J_free (js := [(3, 29)]) (by kernel_rfl) (by exact rfl) fun s gd hf hj => ?_) ?_
   ·have hfe := (G.le_dr _).trans hf; obtain ⟨Lx, px, _, _, hsd⟩ := hj; unfold wO at hsd
    refine QA_eq rfl ?_
    refine QA_nil ?_
    refine D_yes rfl ?_
    refine OpR_eqNilPtr T.ok (neg := false) rfl rfl rfl rfl rfl ?_
    exact ⟨_, rfl, Fr0.refl _, rfl⟩
   refine J_cons (J_free (js := [(4, 30)]) (by kernel_rfl) rfl fun _ _ _ _ => QA_eq rfl (QA_nil (DPu T.ok rfl rfl rfl))) ?_
   refine J_cons (J_free (js := [(5, 31)]) (by kernel_rfl) rfl fun _ _ _ _ => QA_eq rfl (QA_nil (DPu T.ok rfl rfl rfl))) ?_
   refine J_cons (J_free (js := [(6, 32), (5, 31)]) (by kernel_rfl) rfl fun _ _ _ _ => QA_eq rfl (QA_eq rfl (QA_nil (DPu T.ok rfl rfl rfl)))) ?_
   refine J_cons (J_free (js := [(7, 33), (5, 31)]) (by kernel_rfl) rfl fun _ _ _ _ => QA_eq rfl (QA_eq rfl (QA_nil (DPu T.ok rfl rfl rfl)))) ?_
   refine J_cons (J_free (js := [(8, 34), (5, 31)]) (by kernel_rfl) (by exact rfl) fun s gd hf hj => ?_) ?_
   ·have hfe := (G.le_dr _).trans hf; obtain ⟨Lx, px, _, _, hsd⟩ := hj; unfold wO at hsd
    refine QA_eq rfl ?_; refine QA_eq rfl ?_
    refine QA_nil ?_
    (refine D_yes rfl ?_; refine OpR_loadO T.ok 0 rfl hsd rfl rfl rfl ?_; refine ⟨_, rfl, Fr0.refl _, ?_⟩; exact rfl)
   refine J_cons (J_free (js := [(5, 31)]) (by kernel_rfl) rfl fun _ _ _ _ => QA_eq rfl (QA_nil (DPu T.ok rfl rfl rfl))) ?_
   refine J_cons (J_free (js := [(10, 36), (5, 31), (5, 31)]) (by kernel_rfl) (by exact rfl) fun s gd hf hj => ?_) ?_
   ·have hfe := (G.le_dr _).trans hf; obtain ⟨Lx, px, _, _, hsd⟩ := hj; unfold wO at hsd
    refine QA_eq rfl ?_; refine QA_eq rfl ?_; refine QA_eq rfl ?_
    refine QA_nil ?_
    refine D_yes rfl ?_
    refine OpR_ret cl11 allF rfl rfl rfl rfl rfl (few_c _ xs gd (rs0.mono hfe)) fun g' v h1 h2 => ?_
    obtain ⟨g2, hw2, hs2, hle2, hrs⟩ := (St.start gd).ownRs h1 h2
    exact ⟨g2, hw2, hs2.fr0, hrs⟩
   refine J_cons (J_eat 0 (js := [(9, 35), (11, 37), (11, 37), (5, 31)]) (by kernel_rfl) (by exact rfl) fun gd hf hj => ?_) ?_
   ·have hfe := (G.le_dr _).trans hf
    refine QA_eq rfl ?_; refine QA_any fun v11 h11 => ?_; refine QA_any fun v11 h11 => ?_; refine QA_eq rfl ?_
    refine QA_nil ?_
    obtain ⟨Lx, px, hp, hpx, hsx⟩ := hj
    cases hp
    cases hpx
    refine ⟨rfl, ?_⟩
    have hcall := append_c hlive.inv.ok (Nat.zero_le _) hlive.inv.tok v11 (fewM xs) (by show 0 + (fewM xs).length ≤ _; omega) (by show 0 + 65600 * (fewM xs).length ≤ _; omega) (hrk2.mono hfe) h11 (St.arr (L := []) [[wO bw A0.b R0.b (.pointer (some ⟨B0.b, 0, none⟩)) (.pointer (some ⟨kb0, 0, none⟩))], jnL B0 A0 false tape0, dkL A0 (DiskM.new Z), [kjO kb0 R0.b kv0 false tape0], rkL R0 (DiskM.new Z)] [1, 2, 0, 3, 4] rfl hsx)
    refine OpR_st cl10 allF rfl rfl rfl rfl rfl hcall ?_
    rintro g9 r hqe9 hpo
    unfold appPost at hpo
    rw [hap] at hpo
    obtain ⟨rfl, _, _, _, ra, rc, pa, pc, hs9⟩ := hpo
    exact ⟨g9, rfl, ⟨hqe9, _, _, rfl, ⟨ra, rc, pa, pc, rfl⟩, St.arr (L := []) [jnL ⟨B0.b, ra, rc⟩ ⟨A0.b, A0.bd, A0.bv, pa, pc⟩ false Y', dkL ⟨A0.b, A0.bd, A0.bv, pa, pc⟩ D', [wO bw A0.b R0.b (.pointer (some ⟨B0.b, 0, none⟩)) (.pointer (some ⟨kb0, 0, none⟩))], [kjO kb0 R0.b kv0 false tape0], rkL R0 (DiskM.new Z)] [2, 0, 1, 3, 4] rfl hs9⟩, rfl⟩
   refine J_cons (J_free (js := [(5, 31)]) (by kernel_rfl) rfl fun _ _ _ _ => QA_eq rfl (QA_nil (DPu T.ok rfl rfl rfl))) ?_
   refine J_cons (J_free (js := [(13, 39), (5, 31)]) (by kernel_rfl) rfl fun _ _ _ _ => QA_eq rfl (QA_eq rfl (QA_nil (DPu T.ok rfl rfl rfl)))) ?_
   refine J_cons (J_free (js := [(14, 40), (5, 31)]) (by kernel_rfl) rfl fun _ _ _ _ => QA_eq rfl (QA_eq rfl (QA_nil (DPu T.ok rfl rfl rfl)))) ?_
   refine J_cons (J_free (js := [(15, 41), (5, 31)]) (by kernel_rfl) (by exact rfl) fun s gd hf hj => ?_) ?_
   ·have hfe := (G.le_dr _).trans hf; obtain ⟨Lx, px, _, _, hsd⟩ := hj; unfold wO at hsd
    refine QA_eq rfl ?_; refine QA_eq rfl ?_
    refine QA_nil ?_
    (refine D_yes rfl ?_; refine OpR_loadO T.ok 0 rfl hsd rfl rfl rfl ?_; refine ⟨_, rfl, Fr0.refl _, ?_⟩; exact rfl)
   refine J_cons (J_free (js := [(5, 31)]) (by kernel_rfl) rfl fun _ _ _ _ => QA_eq rfl (QA_nil (DPu T.ok rfl rfl rfl))) ?_
   refine J_cons (J_eat 1 (js := [(17, 43), (5, 31)]) (by kernel_rfl) (by exact rfl) fun gd hf hj => ?_) ?_
   ·have hfe := (G.le_dr _).trans hf
    refine QA_eq rfl ?_; refine QA_eq rfl ?_
    refine QA_nil ?_
    obtain ⟨Lx, px, hp, hpx, hsx⟩ := hj
    cases hp
    refine ⟨rfl, ?_⟩
    refine OpR_ret cl11 allF rfl rfl rfl rfl rfl (few_c _ xs gd (rs0.mono hfe)) fun g' v h1 h2 => ?_
    obtain ⟨g2, hw2, hs2, hle2, hrs⟩ := (St.start gd).ownRs h1 h2
    exact ⟨g2, hw2, ⟨hs2.fr0.le, _, _, rfl, hpx, hsx.call hs2.fr0⟩, hrs⟩
   refine J_cons (J_eat 2 (js := [(16, 42), (18, 44), (18, 44), (5, 31)]) (by kernel_rfl) (by exact rfl) fun gd hf hj => ?_) ?_
   ·have hfe := (G.le_dr _).trans hf
    refine QA_eq rfl ?_; refine QA_any fun v18 h18 => ?_; refine QA_any fun v18 h18 => ?_; refine QA_eq rfl ?_
    refine QA_nil ?_
    obtain ⟨Lx, px, hp, hpx, hsx⟩ := hj
    cases hp
    obtain ⟨ra, rc, pa, pc, rfl⟩ := hpx
    refine ⟨rfl, ?_⟩
    have hcall := rappend_c hlive.inv.ok hW0.1 (Nat.zero_le _) hlive.inv.tok (Nat.zero_le _) rfl (fun r hr => by cases hr) (Nat.zero_le _) v18 (fewM xs) hfs (by omega) (rs1.mono hfe) h18 (St.arr (L := []) [[wO bw A0.b R0.b (.pointer (some ⟨B0.b, 0, none⟩)) (.pointer (some ⟨kb0, 0, none⟩))], jnL ⟨B0.b, ra, rc⟩ ⟨A0.b, A0.bd, A0.bv, pa, pc⟩ false Y', dkL ⟨A0.b, A0.bd, A0.bv, pa, pc⟩ D', [kjO kb0 R0.b kv0 false tape0], rkL R0 (DiskM.new Z)] [3, 4, 0, 1, 2] rfl hsx)
    refine OpR_st cl12 allF rfl rfl rfl rfl rfl hcall ?_
    rintro g9 r hqe9 hpo
    unfold rappPost at hpo
    rw [hap] at hpo
    obtain ⟨rfl, kv2, bd, dp, dc, pa2, pc2, hrl, hs9⟩ := hpo
    exact ⟨g9, rfl, ⟨hqe9, _, _, rfl, ⟨ra, rc, pa, pc, kv2, bd, dp, dc, pa2, pc2, hrl, rfl⟩, St.arr (L := []) [[kjO kb0 R0.b kv2 false Y'], rkL ⟨R0.b, bd, dp, dc, pa2, pc2⟩ D', [wO bw A0.b R0.b (.pointer (some ⟨B0.b, 0, none⟩)) (.pointer (some ⟨kb0, 0, none⟩))], jnL ⟨B0.b, ra, rc⟩ ⟨A0.b, A0.bd, A0.bv, pa, pc⟩ false Y', dkL ⟨A0.b, A0.bd, A0.bv, pa, pc⟩ D'] [2, 3, 4, 0, 1] rfl hs9⟩, rfl⟩
   refine J_cons (J_free (js := [(12, 38), (19, 45), (5, 31)]) (by kernel_rfl) (by exact rfl) fun s gd hf hj => ?_) ?_
   ·have hfe := (G.le_dr _).trans hf; obtain ⟨Lx, px, _, _, hsd⟩ := hj; unfold wO at hsd
    refine QA_any fun v12 h12 => ?_; refine QA_any fun v19 h19 => ?_; refine QA_eq rfl ?_
    refine QA_nil ?_
    obtain rfl := h12
    obtain rfl := h19
    refine D_yes rfl ?_
    refine OpR_pure _ T.ok rfl ?_
    refine ⟨_, rfl, Fr0.refl _, ?_⟩
    exact congrArg Value.bool (bne_self_eq_false _)
   refine J_cons (J_free (js := [(5, 31), (20, 46)]) (by kernel_rfl) rfl fun _ _ _ _ => QA_eq rfl (QA_eq rfl (QA_nil (DPu T.ok rfl rfl rfl)))) ?_
   exact J_nil
  intro g1 hf1; intro hj1; refine QA_eq rfl ?_; refine QA_nil ?_
  have hqe := (G.le_dr _).trans hf1; replace le0 := G.le.trans le0 hqe; replace rs0 := rs0.mono hqe; replace rs1 := rs1.mono hqe
  obtain ⟨Lx, px, hp, hpx, hsx⟩ := hj1
  cases hp
  obtain ⟨ra, rc, pa, pc, kv2, bd, dp, dc, pa2, pc2, hrl, rfl⟩ := hpx
  have hs := hsx
  clear hsx hrl
  replace hs : St g _ (wO bw A0.b R0.b (.pointer (some ⟨B0.b, 0, none⟩)) (.pointer (some ⟨kb0, 0, none⟩)) :: (jnL ⟨B0.b, ra, rc⟩ ⟨A0.b, A0.bd, A0.bv, pa, pc⟩ false Y' ++ (dkL ⟨A0.b, A0.bd, A0.bv, pa, pc⟩ D' ++ ([kjO kb0 R0.b kv2 false Y'] ++ (rkL ⟨R0.b, bd, dp, dc, pa2, pc2⟩ D' ++ []))))) := hs
  unfold wO at hs
  refine WL_nil ?_; (with_reducible refine T_then ?_)
  refine W_no rfl rfl ?_
  have hpc := fun gq : G => pick_c at' (Z : Int) gq hat (by omega)
  have hpk := pickM_range (c := at') (n := (Z : Int)) (by omega)
  generalize pickM at' (Z : Int) = P at *
  obtain ⟨kk, rfl⟩ : ∃ kk : Nat, P = (kk : Int) := ⟨P.toNat, by omega⟩
  have hkz : kk + [cb].length ≤ D'.dur.length := by show kk + 1 ≤ _; omega
  refine W_skip ?_; (with_reducible refine T_then ?_); refine W_seq ?_
  apply W_draw allF rfl (Fact.eq _ :: Fact.eq _ :: Fact.eq _ :: Fact.eq _ :: Fact.eq _ :: Fact.eq _ :: Fact.eq _ :: Fact.eq _ :: Fact.eq _ :: (Fact.rs [cb]) :: Fact.eq _ :: []) 11 [(3, 51), (7, 55), (10, 58)] rfl rfl
  ·refine D_s (js := []) (by kernel_rfl) (fun _ _ => QA_nil (DPu T.ok rfl rfl rfl)) ?_
   refine D_s (js := [(0, 48)]) (by kernel_rfl) (fun _ _ => QA_eq rfl (QA_nil (DPu T.ok rfl rfl rfl))) ?_
   refine D_s (js := [(1, 49)]) (by kernel_rfl) (fun _ _ => QA_eq rfl (QA_nil (DPu T.ok rfl rfl rfl))) ?_
   refine D_s (js := [(2, 50)]) (by kernel_rfl) (fun _ hf => QA_eq rfl (QA_nil (DLo T.ok 0 rfl rfl (hs.dr.call hf) rfl rfl rfl rfl))) ?_
   refine D_s (js := []) (by kernel_rfl) (fun _ _ => QA_nil (DPu T.ok rfl rfl rfl)) ?_
   refine D_s (js := []) (by kernel_rfl) (fun _ _ => QA_nil (DPu T.ok rfl rfl rfl)) ?_
   refine D_cons (D_step2 (js := [(5, 53)]) (by kernel_rfl) fun gd hf => ?_) ?_
   ·have hsd := hs.dr.call hf; have hfe := (G.le_dr _).trans hf.le
    refine QA_eq rfl ?_
    refine QA_nil ?_
    refine D_yes rfl ?_
    refine OpR_ret cl15 allF rfl rfl rfl rfl rfl (hsc gd) fun g' v h1 h2 => ⟨g', rfl, h1, ?_⟩
    exact h2
   refine D_cons (D_step2 (js := [(4, 52), (6, 54), (6, 54)]) (by kernel_rfl) fun gd hf => ?_) ?_
   ·have hsd := hs.dr.call hf; have hfe := (G.le_dr _).trans hf.le
    refine QA_eq rfl ?_; refine QA_eq rfl ?_; refine QA_eq rfl ?_
    refine QA_nil ?_
    refine D_yes rfl ?_
    refine OpR_ret cl14 allF rfl rfl rfl rfl rfl (hpc gd) fun g' v h1 h2 => ⟨g', rfl, h1, ?_⟩
    exact h2
   refine D_s (js := []) (by kernel_rfl) (fun _ _ => QA_nil (DPu T.ok rfl rfl rfl)) ?_
   refine D_cons (D_step2 (js := [(8, 56)]) (by kernel_rfl) fun gd hf => ?_) ?_
   ·have hsd := hs.dr.call hf; have hfe := (G.le_dr _).trans hf.le
    refine QA_eq rfl ?_
    refine QA_nil ?_
    refine D_yes rfl ?_
    refine OpR_lit T.ok rfl (St.start gd) (vs := [(0, .int .u8 (cb.toNat : Int))]) (cells := [.int .u8 (cb.toNat : Int)]) rfl rfl rfl rfl rfl rfl (by decide) (by decide) (by kernel_rfl) rfl ?_
    intro b2 g2 hs1 hqe1
    obtain ⟨g3, hw3, hs3, hqe3, hrl⟩ := hs1.fzRow (α := UInt8) (xs := [cb]) (i := 0) rfl (RcL.bytes _ [cb])
    exact ⟨g3, hw3, hs3.fr0, hrl⟩
   refine D_cons (D_step2 (js := [(9, 57)]) (by kernel_rfl) fun gd hf => ?_) ?_
   ·have hsd := hs.dr.call hf; have hfe := (G.le_dr _).trans hf.le
    refine QA_any fun v9 h9 => ?_
    refine QA_nil ?_
    obtain ⟨ax, cx, rfl⟩ := Rs.isSlice h9
    obtain ⟨_, news, hnw, hsrc⟩ := Src.of_rs h9
    obtain rfl := RcL.bytes_inv hnw
    have hsr2 : Src gd.w ax [cb].length 1 (([cb].map fun b => (b.toNat : Int)).map (Value.int .u8)) := by
     rw [List.map_map]; exact hsrc
    refine D_yes rfl ?_
    refine OpR_bytesStr (ns := [cb].map fun b => (b.toNat : Int)) T.ok rfl rfl rfl rfl rfl rfl rfl rfl hsr2 ?_
    refine ⟨_, rfl, Fr0.refl _, ?_⟩
    exact congrArg (fun l => Value.string (bs l)) bytesL
   exact D_nil
  intro g1 hf1; refine QA_eq rfl ?_; refine QA_eq rfl ?_; refine QA_eq rfl ?_; refine QA_nil ?_
  replace hs := hs.dr.call hf1; have hqe := (G.le_dr _).trans hf1.le; replace le0 := G.le.trans le0 hqe; replace rs0 := rs0.mono hqe; replace rs1 := rs1.mono hqe
  have hcall := dwrite_c hlive'.inv.ok hlive'.off kk [cb] hkz (St.arr (L := []) [[wO bw A0.b R0.b (.pointer (some ⟨B0.b, 0, none⟩)) (.pointer (some ⟨kb0, 0, none⟩))], jnL ⟨B0.b, ra, rc⟩ ⟨A0.b, A0.bd, A0.bv, pa, pc⟩ false Y', dkL ⟨A0.b, A0.bd, A0.bv, pa, pc⟩ D', [kjO kb0 R0.b kv2 false Y'], rkL ⟨R0.b, bd, dp, dc, pa2, pc2⟩ D'] [2, 0, 1, 3, 4] rfl hs)
  refine WL_o rfl rfl (OpR_st cl13 allF rfl rfl rfl rfl rfl hcall ?_)
  clear hs hcall
  rintro g5 _ hqe ⟨rfl, pa5, pc5, hs⟩; replace le0 := G.le.trans le0 hqe; replace rs0 := rs0.mono hqe; replace rs1 := rs1.mono hqe
  replace hs := St.arr (L := []) [dkL ⟨A0.b, A0.bd, A0.bv, pa5, pc5⟩ (D'.put kk [cb]), [wO bw A0.b R0.b (.pointer (some ⟨B0.b, 0, none⟩)) (.pointer (some ⟨kb0, 0, none⟩))], jnL ⟨B0.b, ra, rc⟩ ⟨A0.b, A0.bd, A0.bv, pa, pc⟩ false Y', [kjO kb0 R0.b kv2 false Y'], rkL ⟨R0.b, bd, dp, dc, pa2, pc2⟩ D'] [1, 2, 0, 3, 4] rfl hs
  replace hs : St g g5 (wO bw A0.b R0.b (.pointer (some ⟨B0.b, 0, none⟩)) (.pointer (some ⟨kb0, 0, none⟩)) :: (jnL ⟨B0.b, ra, rc⟩ ⟨A0.b, A0.bd, A0.bv, pa, pc⟩ false Y' ++ (dkL ⟨A0.b, A0.bd, A0.bv, pa5, pc5⟩ (D'.put kk [cb]) ++ ([kjO kb0 R0.b kv2 false Y'] ++ (rkL ⟨R0.b, bd, dp, dc, pa2, pc2⟩ D' ++ []))))) := hs
  unfold wO at hs
  refine WL_nil ?_; (with_reducible refine T_then ?_)
  apply W_draw allF rfl (Fact.eq _ :: Fact.eq _ :: Fact.eq _ :: Fact.eq _ :: Fact.eq _ :: Fact.eq _ :: Fact.eq _ :: Fact.eq _ :: Fact.eq _ :: (Fact.rs [cb]) :: Fact.eq _ :: []) 11 [(3, 63), (7, 67), (10, 70)] rfl rfl
  ·refine D_s (js := []) (by kernel_rfl) (fun _ _ => QA_nil (DPu T.ok rfl rfl rfl)) ?_
   refine D_s (js := [(0, 60)]) (by kernel_rfl) (fun _ _ => QA_eq rfl (QA_nil (DPu T.ok rfl rfl rfl))) ?_
   refine D_s (js := [(1, 61)]) (by kernel_rfl) (fun _ _ => QA_eq rfl (QA_nil (DPu T.ok rfl rfl rfl))) ?_
   refine D_s (js := [(2, 62)]) (by kernel_rfl) (fun _ hf => QA_eq rfl (QA_nil (DLo T.ok 0 rfl rfl (hs.dr.call hf) rfl rfl rfl rfl))) ?_
   refine D_s (js := []) (by kernel_rfl) (fun _ _ => QA_nil (DPu T.ok rfl rfl rfl)) ?_
   refine D_s (js := []) (by kernel_rfl) (fun _ _ => QA_nil (DPu T.ok rfl rfl rfl)) ?_
   refine D_cons (D_step2 (js := [(5, 65)]) (by kernel_rfl) fun gd hf => ?_) ?_
   ·have hsd := hs.dr.call hf; have hfe := (G.le_dr _).trans hf.le
    refine QA_eq rfl ?_
    refine QA_nil ?_
    refine D_yes rfl ?_
    refine OpR_ret cl15 allF rfl rfl rfl rfl rfl (hsc gd) fun g' v h1 h2 => ⟨g', rfl, h1, ?_⟩
    exact h2
   refine D_cons (D_step2 (js := [(4, 64), (6, 66), (6, 66)]) (by kernel_rfl) fun gd hf => ?_) ?_
   ·have hsd := hs.dr.call hf; have hfe := (G.le_dr _).trans hf.le
    refine QA_eq rfl ?_; refine QA_eq rfl ?_; refine QA_eq rfl ?_
    refine QA_nil ?_
    refine D_yes rfl ?_
    refine OpR_ret cl14 allF rfl rfl rfl rfl rfl (hpc gd) fun g' v h1 h2 => ⟨g', rfl, h1, ?_⟩
    exact h2
   refine D_s (js := []) (by kernel_rfl) (fun _ _ => QA_nil (DPu T.ok rfl rfl rfl)) ?_
   refine D_cons (D_step2 (js := [(8, 68)]) (by kernel_rfl) fun gd hf => ?_) ?_
   ·have hsd := hs.dr.call hf; have hfe := (G.le_dr _).trans hf.le
    refine QA_eq rfl ?_
    refine QA_nil ?_
    refine D_yes rfl ?_
    refine OpR_lit T.ok rfl (St.start gd) (vs := [(0, .int .u8 (cb.toNat : Int))]) (cells := [.int .u8 (cb.toNat : Int)]) rfl rfl rfl rfl rfl rfl (by decide) (by decide) (by kernel_rfl) rfl ?_
    intro b2 g2 hs1 hqe1
    obtain ⟨g3, hw3, hs3, hqe3, hrl⟩ := hs1.fzRow (α := UInt8) (xs := [cb]) (i := 0) rfl (RcL.bytes _ [cb])
    exact ⟨g3, hw3, hs3.fr0, hrl⟩
   refine D_cons (D_step2 (js := [(9, 69)]) (by kernel_rfl) fun gd hf => ?_) ?_
   ·have hsd := hs.dr.call hf; have hfe := (G.le_dr _).trans hf.le
    refine QA_any fun v9 h9 => ?_
    refine QA_nil ?_
    obtain ⟨ax, cx, rfl⟩ := Rs.isSlice h9
    obtain ⟨_, news, hnw, hsrc⟩ := Src.of_rs h9
    obtain rfl := RcL.bytes_inv hnw
    have hsr2 : Src gd.w ax [cb].length 1 (([cb].map fun b => (b.toNat : Int)).map (Value.int .u8)) := by
     rw [List.map_map]; exact hsrc
    refine D_yes rfl ?_
    refine OpR_bytesStr (ns := [cb].map fun b => (b.toNat : Int)) T.ok rfl rfl rfl rfl rfl rfl rfl rfl hsr2 ?_
    refine ⟨_, rfl, Fr0.refl _, ?_⟩
    exact congrArg (fun l => Value.string (bs l)) bytesL
   exact D_nil
  intro g1 hf1; refine QA_eq rfl ?_; refine QA_eq rfl ?_; refine QA_eq rfl ?_; refine QA_nil ?_
  replace hs := hs.dr.call hf1; have hqe := (G.le_dr _).trans hf1.le; replace le0 := G.le.trans le0 hqe; replace rs0 := rs0.mono hqe; replace rs1 := rs1.mono hqe
  have hcall := rwrite_c hlive'.inv.ok (by rw [hlive'.pend]; decide) hlive'.left hlive'.off (k := kk) (s := [cb]) hkz (St.arr (L := []) [[wO bw A0.b R0.b (.pointer (some ⟨B0.b, 0, none⟩)) (.pointer (some ⟨kb0, 0, none⟩))], jnL ⟨B0.b, ra, rc⟩ ⟨A0.b, A0.bd, A0.bv, pa, pc⟩ false Y', dkL ⟨A0.b, A0.bd, A0.bv, pa5, pc5⟩ (D'.put kk [cb]), [kjO kb0 R0.b kv2 false Y'], rkL ⟨R0.b, bd, dp, dc, pa2, pc2⟩ D'] [4, 0, 1, 2, 3] rfl hs)
  refine WL_o rfl rfl (OpR_st cl16 allF rfl rfl rfl rfl rfl hcall ?_)
  clear hs hcall
  rintro g6 _ hqe ⟨rfl, pa6, pc6, hs⟩; replace le0 := G.le.trans le0 hqe; replace rs0 := rs0.mono hqe; replace rs1 := rs1.mono hqe
  replace hs := St.arr (L := []) [rkL ⟨R0.b, bd, dp, dc, pa6, pc6⟩ (D'.put kk [cb]), [wO bw A0.b R0.b (.pointer (some ⟨B0.b, 0, none⟩)) (.pointer (some ⟨kb0, 0, none⟩))], jnL ⟨B0.b, ra, rc⟩ ⟨A0.b, A0.bd, A0.bv, pa, pc⟩ false Y', dkL ⟨A0.b, A0.bd, A0.bv, pa5, pc5⟩ (D'.put kk [cb]), [kjO kb0 R0.b kv2 false Y']] [1, 2, 3, 4, 0] rfl hs
  have hD1 : (D'.put kk [cb]).ok := hlive'.inv.ok.put hkz (by rw [hlive'.pend]; decide)
  have hR1 : RefOk (D'.put kk [cb]) := hR'.put hkz
  have hp1 : (D'.put kk [cb]).pend.length ≤ 999990 := by show (D'.pend ++ [_]).length ≤ _; rw [hlive'.pend]; simp
  have hlf := put_left hl0' kk [cb]
  rw [hlive'.off] at hlf
  have ho1 := hlf.1
  have hl1 := hlf.2
  generalize D'.put kk [cb] = D1 at *
  refine WL_nil ?_; (with_reducible refine T_then ?_); refine W_seq ?_; refine W_region ?_; refine P1 T.ok rfl rfl rfl ?_
  obtain ⟨A3, hA3⟩ : ∃ A3 : DkA, A3 = ⟨A0.b, A0.bd, A0.bv, pa5, pc5⟩ := ⟨_, rfl⟩
  obtain ⟨R3, hR3⟩ : ∃ R3 : RkA, R3 = ⟨R0.b, bd, dp, dc, pa6, pc6⟩ := ⟨_, rfl⟩
  obtain ⟨L3, hL3⟩ : ∃ L3, L3 = jnL ⟨B0.b, ra, rc⟩ ⟨A0.b, A0.bd, A0.bv, pa, pc⟩ false Y' ++ ([kjO kb0 R0.b kv2 false Y'] ++ ([] : List Ent)) := ⟨_, rfl⟩
  have hs4 : St g g6 (wO bw A3.b R3.b (.pointer (some ⟨B0.b, 0, none⟩)) (.pointer (some ⟨kb0, 0, none⟩)) :: (dkL A3 D1 ++ (rkL R3 D1 ++ L3))) := by
   rw [hL3, hA3, hR3]
   exact St.arr (L := []) [[wO bw A0.b R0.b (.pointer (some ⟨B0.b, 0, none⟩)) (.pointer (some ⟨kb0, 0, none⟩))], jnL ⟨B0.b, ra, rc⟩ ⟨A0.b, A0.bd, A0.bv, pa, pc⟩ false Y', dkL ⟨A0.b, A0.bd, A0.bv, pa5, pc5⟩ D1, [kjO kb0 R0.b kv2 false Y'], rkL ⟨R0.b, bd, dp, dc, pa6, pc6⟩ D1] [0, 2, 4, 1, 3] rfl hs
  have hcall := wopen_c (A := A3) (R := R3) hD1 hR1 hp1 (hrk.mono le0) (hE.mono le0) hs4
  rw [hA3] at hcall
  rw [← hA3] at hcall
  refine WL_o rfl rfl (OpR_st cl17 allF rfl rfl rfl rfl rfl hcall ?_)
  clear hs hs4 hcall hA3 hR3 hL3
  rintro g7 _ hqe ⟨rfl, hpo⟩; replace le0 := G.le.trans le0 hqe; replace rs0 := rs0.mono hqe; replace rs1 := rs1.mono hqe
  have hoff2 : (openM D1).2.1.off = false := open_left ho1 hl1
  have hR2 : RefOk (openM D1).2.1 := hR1.opened hD1
  have hyok : ∀ Y, (openM D1).1 = some Y → Y.ok := fun Y h => open_yok hD1 h
  unfold wopenRes at hpo
  cases hom : openM D1 with
  | mk o rest =>
  obtain ⟨D2, er2⟩ := rest
  rw [hom] at hpo hoff2 hR2 hyok
  obtain ⟨hD2, _, _, pa, pc, bd, dp, dc, pa2, pc2, hs⟩ := hpo
  dsimp only at hD2 hoff2 hR2 hs
  cases o with
  | none =>
   unfold wO at hs
   refine P1 T.ok rfl rfl rfl ?_; refine WL_nil ?_; (with_reducible refine T_then ?_); refine W_seq ?_
   apply W_draw allF rfl (Fact.eq _ :: Fact.eq _ :: Fact.eq _ :: Fact.eq _ :: Fact.eq _ :: Fact.eq _ :: Fact.eq _ :: Fact.eq _ :: Fact.eq _ :: Fact.eq _ :: Fact.eq _ :: Fact.eq _ :: Fact.eq _ :: Fact.eq _ :: Fact.eq _ :: Fact.eq _ :: Fact.eq _ :: Fact.eq _ :: Fact.eq _ :: Fact.eq _ :: Fact.eq _ :: Fact.eq _ :: Fact.eq _ :: Fact.eq _ :: Fact.eq _ :: Fact.eq _ :: Fact.eq _ :: Fact.eq _ :: Fact.eq _ :: Fact.eq _ :: Fact.eq _ :: Fact.eq _ :: Fact.eq _ :: Fact.eq _ :: Fact.eq _ :: Fact.eq _ :: Fact.eq _ :: Fact.eq _ :: Fact.eq _ :: Fact.eq _ :: Fact.eq _ :: Fact.eq _ :: Fact.eq _ :: Fact.eq _ :: Fact.eq _ :: Fact.eq _ :: Fact.eq _ :: Fact.eq _ :: Fact.eq _ :: Fact.eq _ :: Fact.eq _ :: Fact.eq _ :: Fact.eq _ :: []) 53 [(52, 150)] rfl rfl
   ·refine D_s (js := []) (by kernel_rfl) (fun _ _ => QA_nil (DPu T.ok rfl rfl rfl)) ?_
    refine D_s (js := [(0, 98)]) (by kernel_rfl) (fun _ _ => QA_eq rfl (QA_nil (DPu T.ok rfl rfl rfl))) ?_
    refine D_s (js := [(1, 99)]) (by kernel_rfl) (fun _ _ => QA_eq rfl (QA_nil (DPu T.ok rfl rfl rfl))) ?_
    refine D_s (js := [(1, 99), (2, 100)]) (by kernel_rfl) (fun _ _ => QA_eq rfl (QA_eq rfl (QA_nil (DPu T.ok rfl rfl rfl)))) ?_
    refine D_s (js := [(3, 101)]) (by kernel_rfl) (fun _ _ => QA_eq rfl (QA_nil (DPu T.ok rfl rfl rfl))) ?_
    refine D_s (js := [(4, 102)]) (by kernel_rfl) (fun _ _ => QA_eq rfl (QA_nil (DPu T.ok rfl rfl rfl))) ?_
    refine D_s (js := [(5, 103), (4, 102)]) (by kernel_rfl) (fun _ _ => QA_eq rfl (QA_eq rfl (QA_nil (DPu T.ok rfl rfl rfl)))) ?_
    refine D_s (js := [(6, 104), (4, 102)]) (by kernel_rfl) (fun _ _ => QA_eq rfl (QA_eq rfl (QA_nil (DPu T.ok rfl rfl rfl)))) ?_
    refine D_s (js := [(7, 105), (4, 102)]) (by kernel_rfl) (fun _ hf => QA_eq rfl (QA_eq rfl (QA_nil (DLo T.ok 0 rfl rfl (hs.dr.call hf) rfl rfl rfl rfl)))) ?_
    refine D_cons (D_step2 (js := [(8, 106), (4, 102)]) (by kernel_rfl) fun gd hf => ?_) ?_
    ·have hsd := hs.dr.call hf; have hfe := (G.le_dr _).trans hf.le
     refine QA_eq rfl ?_; refine QA_eq rfl ?_
     refine QA_nil ?_
     refine D_yes rfl ?_
     refine OpR_eqNilPtr T.ok (neg := false) rfl rfl rfl rfl rfl ?_
     exact ⟨_, rfl, Fr0.refl _, rfl⟩
    refine D_s (js := [(9, 107), (4, 102), (4, 102)]) (by kernel_rfl) (fun _ _ => QA_eq rfl (QA_eq rfl (QA_eq rfl (QA_nil (DPu T.ok rfl rfl rfl))))) ?_
    refine D_s (js := [(10, 108)]) (by kernel_rfl) (fun _ _ => QA_eq rfl (QA_nil (DNo rfl rfl))) ?_
    refine D_s (js := [(11, 109), (10, 108)]) (by kernel_rfl) (fun _ _ => QA_eq rfl (QA_eq rfl (QA_nil (DNo rfl rfl)))) ?_
    refine D_s (js := [(12, 110), (10, 108)]) (by kernel_rfl) (fun _ _ => QA_eq rfl (QA_eq rfl (QA_nil (DNo rfl rfl)))) ?_
    refine D_s (js := [(13, 111), (10, 108)]) (by kernel_rfl) (fun _ _ => QA_eq rfl (QA_eq rfl (QA_nil (DNo rfl rfl)))) ?_
    refine D_s (js := [(14, 112), (10, 108), (10, 108)]) (by kernel_rfl) (fun _ _ => QA_eq rfl (QA_eq rfl (QA_eq rfl (QA_nil (DNo rfl rfl))))) ?_
    refine D_s (js := [(10, 108)]) (by kernel_rfl) (fun _ _ => QA_eq rfl (QA_nil (DNo rfl rfl))) ?_
    refine D_s (js := [(16, 114), (10, 108)]) (by kernel_rfl) (fun _ _ => QA_eq rfl (QA_eq rfl (QA_nil (DNo rfl rfl)))) ?_
    refine D_s (js := [(17, 115), (10, 108)]) (by kernel_rfl) (fun _ _ => QA_eq rfl (QA_eq rfl (QA_nil (DNo rfl rfl)))) ?_
    refine D_s (js := [(18, 116), (10, 108)]) (by kernel_rfl) (fun _ _ => QA_eq rfl (QA_eq rfl (QA_nil (DNo rfl rfl)))) ?_
    refine D_s (js := [(19, 117), (10, 108)]) (by kernel_rfl) (fun _ _ => QA_eq rfl (QA_eq rfl (QA_nil (DNo rfl rfl)))) ?_
    refine D_s (js := [(20, 118), (10, 108)]) (by kernel_rfl) (fun _ _ => QA_eq rfl (QA_eq rfl (QA_nil (DNo rfl rfl)))) ?_
    refine D_s (js := [(21, 119), (10, 108)]) (by kernel_rfl) (fun _ _ => QA_eq rfl (QA_eq rfl (QA_nil (DNo rfl rfl)))) ?_
    refine D_s (js := [(15, 113), (22, 120), (15, 113), (10, 108)]) (by kernel_rfl) (fun _ _ => QA_eq rfl (QA_eq rfl (QA_eq rfl (QA_eq rfl (QA_nil (DNo rfl rfl)))))) ?_
    refine D_s (js := [(23, 121), (23, 121), (10, 108)]) (by kernel_rfl) (fun _ _ => QA_eq rfl (QA_eq rfl (QA_eq rfl (QA_nil (DNo rfl rfl))))) ?_
    refine D_s (js := [(24, 122)]) (by kernel_rfl) (fun _ _ => QA_eq rfl (QA_nil (DNo rfl rfl))) ?_
    refine D_s (js := [(25, 123), (24, 122)]) (by kernel_rfl) (fun _ _ => QA_eq rfl (QA_eq rfl (QA_nil (DNo rfl rfl)))) ?_
    refine D_s (js := [(26, 124), (24, 122)]) (by kernel_rfl) (fun _ _ => QA_eq rfl (QA_eq rfl (QA_nil (DNo rfl rfl)))) ?_
    refine D_s (js := [(27, 125), (24, 122)]) (by kernel_rfl) (fun _ _ => QA_eq rfl (QA_eq rfl (QA_nil (DNo rfl rfl)))) ?_
    refine D_s (js := [(28, 126), (24, 122), (24, 122)]) (by kernel_rfl) (fun _ _ => QA_eq rfl (QA_eq rfl (QA_eq rfl (QA_nil (DNo rfl rfl))))) ?_
    refine D_s (js := [(24, 122)]) (by kernel_rfl) (fun _ _ => QA_eq rfl (QA_nil (DNo rfl rfl))) ?_
    refine D_s (js := [(30, 128), (24, 122)]) (by kernel_rfl) (fun _ _ => QA_eq rfl (QA_eq rfl (QA_nil (DNo rfl rfl)))) ?_
    refine D_s (js := [(31, 129), (24, 122)]) (by kernel_rfl) (fun _ _ => QA_eq rfl (QA_eq rfl (QA_nil (DNo rfl rfl)))) ?_
    refine D_s (js := [(32, 130), (24, 122)]) (by kernel_rfl) (fun _ _ => QA_eq rfl (QA_eq rfl (QA_nil (DNo rfl rfl)))) ?_
    refine D_s (js := [(33, 131), (24, 122)]) (by kernel_rfl) (fun _ _ => QA_eq rfl (QA_eq rfl (QA_nil (DNo rfl rfl)))) ?_
    refine D_s (js := [(29, 127), (34, 132), (24, 122)]) (by kernel_rfl) (fun _ _ => QA_eq rfl (QA_eq rfl (QA_eq rfl (QA_nil (DNo rfl rfl))))) ?_
    refine D_s (js := [(24, 122), (35, 133), (10, 108)]) (by kernel_rfl) (fun _ _ => QA_eq rfl (QA_eq rfl (QA_eq rfl (QA_nil (DNo rfl rfl))))) ?_
    refine D_s (js := [(36, 134), (10, 108)]) (by kernel_rfl) (fun _ _ => QA_eq rfl (QA_eq rfl (QA_nil (DNo rfl rfl)))) ?_
    refine D_s (js := [(37, 135)]) (by kernel_rfl) (fun _ _ => QA_eq rfl (QA_nil (DNo rfl rfl))) ?_
    refine D_s (js := [(38, 136), (37, 135)]) (by kernel_rfl) (fun _ _ => QA_eq rfl (QA_eq rfl (QA_nil (DNo rfl rfl)))) ?_
    refine D_s (js := [(39, 137), (37, 135)]) (by kernel_rfl) (fun _ _ => QA_eq rfl (QA_eq rfl (QA_nil (DNo rfl rfl)))) ?_
    refine D_s (js := [(40, 138), (37, 135)]) (by kernel_rfl) (fun _ _ => QA_eq rfl (QA_eq rfl (QA_nil (DNo rfl rfl)))) ?_
    refine D_s (js := [(41, 139), (37, 135), (37, 135)]) (by kernel_rfl) (fun _ _ => QA_eq rfl (QA_eq rfl (QA_eq rfl (QA_nil (DNo rfl rfl))))) ?_
    refine D_s (js := [(37, 135)]) (by kernel_rfl) (fun _ _ => QA_eq rfl (QA_nil (DNo rfl rfl))) ?_
    refine D_s (js := [(43, 141), (37, 135)]) (by kernel_rfl) (fun _ _ => QA_eq rfl (QA_eq rfl (QA_nil (DNo rfl rfl)))) ?_
    refine D_s (js := [(44, 142), (37, 135)]) (by kernel_rfl) (fun _ _ => QA_eq rfl (QA_eq rfl (QA_nil (DNo rfl rfl)))) ?_
    refine D_s (js := [(45, 143), (37, 135)]) (by kernel_rfl) (fun _ _ => QA_eq rfl (QA_eq rfl (QA_nil (DNo rfl rfl)))) ?_
    refine D_s (js := [(46, 144), (37, 135)]) (by kernel_rfl) (fun _ _ => QA_eq rfl (QA_eq rfl (QA_nil (DNo rfl rfl)))) ?_
    refine D_s (js := [(47, 145), (37, 135)]) (by kernel_rfl) (fun _ _ => QA_eq rfl (QA_eq rfl (QA_nil (DNo rfl rfl)))) ?_
    refine D_s (js := [(42, 140), (48, 146), (37, 135)]) (by kernel_rfl) (fun _ _ => QA_eq rfl (QA_eq rfl (QA_eq rfl (QA_nil (DNo rfl rfl))))) ?_
    refine D_s (js := [(37, 135), (49, 147), (10, 108)]) (by kernel_rfl) (fun _ _ => QA_eq rfl (QA_eq rfl (QA_eq rfl (QA_nil (DNo rfl rfl))))) ?_
    refine D_s (js := [(10, 108), (50, 148), (4, 102)]) (by kernel_rfl) (fun _ _ => QA_eq rfl (QA_eq rfl (QA_eq rfl (QA_nil (DPu T.ok rfl rfl rfl))))) ?_
    refine D_s (js := [(4, 102), (51, 149)]) (by kernel_rfl) (fun _ _ => QA_eq rfl (QA_eq rfl (QA_nil (DPu T.ok rfl rfl rfl)))) ?_
    exact D_nil
   intro g1 hf1; refine QA_eq rfl ?_; refine QA_nil ?_
   replace hs := hs.dr.call hf1; have hqe := (G.le_dr _).trans hf1.le; replace le0 := G.le.trans le0 hqe; replace rs0 := rs0.mono hqe; replace rs1 := rs1.mono hqe
   refine P1 T.ok rfl rfl rfl ?_; refine WL_nil ?_; (with_reducible refine T_then ?_)
   exact W_ret (ret1 rfl rfl (hs.ret rfl))
  | some Y =>
   replace hyok := hyok Y rfl
   obtain ⟨B, kb, kv2, hrl, hs⟩ := hs
   have rs5 := hrl
   clear hrl
   unfold wO at hs
   refine P1 T.ok rfl rfl rfl ?_; refine WL_nil ?_; (with_reducible refine T_then ?_); refine W_seq ?_
   apply W_draw allF rfl (Fact.eq _ :: Fact.eq _ :: Fact.eq _ :: Fact.eq _ :: Fact.eq _ :: Fact.eq _ :: Fact.eq _ :: Fact.eq _ :: Fact.eq _ :: Fact.eq _ :: Fact.eq _ :: Fact.eq _ :: Fact.eq _ :: Fact.eq _ :: Fact.eq _ :: (Fact.rs (Y.recs.map Str.mk)) :: Fact.eq _ :: Fact.eq _ :: Fact.eq _ :: Fact.eq _ :: Fact.eq _ :: Fact.eq _ :: Fact.eq _ :: Fact.eq _ :: Fact.eq _ :: Fact.eq _ :: Fact.eq _ :: Fact.eq _ :: Fact.eq _ :: Fact.eq _ :: Fact.eq _ :: Fact.eq _ :: Fact.eq _ :: Fact.eq _ :: Fact.eq _ :: Fact.eq _ :: Fact.eq _ :: Fact.eq _ :: Fact.eq _ :: Fact.eq _ :: Fact.eq _ :: Fact.eq _ :: (Fact.eq (.string (bs D2.vis))) :: Fact.eq _ :: Fact.eq _ :: Fact.eq _ :: Fact.eq _ :: (Fact.rs D2.vis) :: (Fact.eq (.string (bs D2.vis))) :: Fact.eq _ :: Fact.eq _ :: Fact.eq _ :: Fact.eq _ :: []) 53 [(52, 150)] rfl rfl
   ·refine D_s (js := []) (by kernel_rfl) (fun _ _ => QA_nil (DPu T.ok rfl rfl rfl)) ?_
    refine D_s (js := [(0, 98)]) (by kernel_rfl) (fun _ _ => QA_eq rfl (QA_nil (DPu T.ok rfl rfl rfl))) ?_
    refine D_s (js := [(1, 99)]) (by kernel_rfl) (fun _ _ => QA_eq rfl (QA_nil (DPu T.ok rfl rfl rfl))) ?_
    refine D_s (js := [(1, 99), (2, 100)]) (by kernel_rfl) (fun _ _ => QA_eq rfl (QA_eq rfl (QA_nil (DPu T.ok rfl rfl rfl)))) ?_
    refine D_s (js := [(3, 101)]) (by kernel_rfl) (fun _ _ => QA_eq rfl (QA_nil (DPu T.ok rfl rfl rfl))) ?_
    refine D_s (js := [(4, 102)]) (by kernel_rfl) (fun _ _ => QA_eq rfl (QA_nil (DPu T.ok rfl rfl rfl))) ?_
    refine D_s (js := [(5, 103), (4, 102)]) (by kernel_rfl) (fun _ _ => QA_eq rfl (QA_eq rfl (QA_nil (DPu T.ok rfl rfl rfl)))) ?_
    refine D_s (js := [(6, 104), (4, 102)]) (by kernel_rfl) (fun _ _ => QA_eq rfl (QA_eq rfl (QA_nil (DPu T.ok rfl rfl rfl)))) ?_
    refine D_s (js := [(7, 105), (4, 102)]) (by kernel_rfl) (fun _ hf => QA_eq rfl (QA_eq rfl (QA_nil (DLo T.ok 0 rfl rfl (hs.dr.call hf) rfl rfl rfl rfl)))) ?_
    refine D_cons (D_step2 (js := [(8, 106), (4, 102)]) (by kernel_rfl) fun gd hf => ?_) ?_
    ·have hsd := hs.dr.call hf; have hfe := (G.le_dr _).trans hf.le
     refine QA_eq rfl ?_; refine QA_eq rfl ?_
     refine QA_nil ?_
     refine D_yes rfl ?_
     refine OpR_eqNilPtr T.ok (neg := false) rfl rfl rfl rfl rfl ?_
     exact ⟨_, rfl, Fr0.refl _, rfl⟩
    refine D_s (js := [(9, 107), (4, 102), (4, 102)]) (by kernel_rfl) (fun _ _ => QA_eq rfl (QA_eq rfl (QA_eq rfl (QA_nil (DPu T.ok rfl rfl rfl))))) ?_
    refine D_s (js := [(10, 108)]) (by kernel_rfl) (fun _ _ => QA_eq rfl (QA_nil (DPu T.ok rfl rfl rfl))) ?_
    refine D_s (js := [(11, 109), (10, 108)]) (by kernel_rfl) (fun _ _ => QA_eq rfl (QA_eq rfl (QA_nil (DPu T.ok rfl rfl rfl)))) ?_
    refine D_s (js := [(12, 110), (10, 108)]) (by kernel_rfl) (fun _ _ => QA_eq rfl (QA_eq rfl (QA_nil (DPu T.ok rfl rfl rfl)))) ?_
    refine D_s (js := [(13, 111), (10, 108)]) (by kernel_rfl) (fun _ hf => QA_eq rfl (QA_eq rfl (QA_nil (DLo T.ok 0 rfl rfl (hs.dr.call hf) rfl rfl rfl rfl)))) ?_
    refine D_cons (D_step2 (js := [(14, 112), (10, 108), (10, 108)]) (by kernel_rfl) fun gd hf => ?_) ?_
    ·have hsd := hs.dr.call hf; have hfe := (G.le_dr _).trans hf.le
     refine QA_eq rfl ?_; refine QA_eq rfl ?_; refine QA_eq rfl ?_
     refine QA_nil ?_
     refine D_yes rfl ?_
     refine OpR_ret cl19 allF rfl rfl rfl rfl rfl (records_c (B := B) (A := ⟨A3.b, A3.bd, A3.bv, pa, pc⟩) (br := false) hyok (St.arr (L := L3) [[wO bw A3.b R3.b (.pointer (some ⟨B.b, 0, none⟩)) (.pointer (some ⟨kb, 0, none⟩))], jnL B ⟨A3.b, A3.bd, A3.bv, pa, pc⟩ false Y, dkL ⟨A3.b, A3.bd, A3.bv, pa, pc⟩ D2, [kjO kb R3.b kv2 false Y], rkL ⟨R3.b, bd, dp, dc, pa2, pc2⟩ D2] [1, 0, 2, 3, 4] rfl hsd)) fun g' v h1 h2 => ?_
     obtain ⟨g2, hw2, hs2, hle2, hrs⟩ := (St.start gd).ownRs h1 h2
     exact ⟨g2, hw2, hs2.fr0, hrs⟩
    refine D_s (js := [(10, 108)]) (by kernel_rfl) (fun _ _ => QA_eq rfl (QA_nil (DPu T.ok rfl rfl rfl))) ?_
    refine D_s (js := [(16, 114), (10, 108)]) (by kernel_rfl) (fun _ _ => QA_eq rfl (QA_eq rfl (QA_nil (DPu T.ok rfl rfl rfl)))) ?_
    refine D_s (js := [(17, 115), (10, 108)]) (by kernel_rfl) (fun _ _ => QA_eq rfl (QA_eq rfl (QA_nil (DPu T.ok rfl rfl rfl)))) ?_
    refine D_s (js := [(18, 116), (10, 108)]) (by kernel_rfl) (fun _ hf => QA_eq rfl (QA_eq rfl (QA_nil (DLo T.ok 0 rfl rfl (hs.dr.call hf) rfl rfl rfl rfl)))) ?_
    refine D_s (js := [(19, 117), (10, 108)]) (by kernel_rfl) (fun _ _ => QA_eq rfl (QA_eq rfl (QA_nil (DPu T.ok rfl rfl rfl)))) ?_
    refine D_s (js := [(20, 118), (10, 108)]) (by kernel_rfl) (fun _ _ => QA_eq rfl (QA_eq rfl (QA_nil (DPu T.ok rfl rfl rfl)))) ?_
    refine D_cons (D_step2 (js := [(21, 119), (10, 108)]) (by kernel_rfl) fun gd hf => ?_) ?_
    ·have hsd := hs.dr.call hf; have hfe := (G.le_dr _).trans hf.le
     refine QA_eq rfl ?_; refine QA_eq rfl ?_
     refine QA_nil ?_
     refine D_yes rfl ?_
     refine OpR_loadO T.ok 0 rfl (St.arr (L := L3) [[wO bw A3.b R3.b (.pointer (some ⟨B.b, 0, none⟩)) (.pointer (some ⟨kb, 0, none⟩))], jnL B ⟨A3.b, A3.bd, A3.bv, pa, pc⟩ false Y, dkL ⟨A3.b, A3.bd, A3.bv, pa, pc⟩ D2, [kjO kb R3.b kv2 false Y], rkL ⟨R3.b, bd, dp, dc, pa2, pc2⟩ D2] [3, 0, 1, 2, 4] rfl hsd) rfl rfl rfl ?_
     exact ⟨_, rfl, Fr0.refl _, rfl⟩
    refine D_cons (D_step2 (js := [(15, 113), (22, 120), (15, 113), (10, 108)]) (by kernel_rfl) fun gd hf => ?_) ?_
    ·have hsd := hs.dr.call hf; have hfe := (G.le_dr _).trans hf.le
     refine QA_any fun v15 h15 => ?_; refine QA_eq rfl ?_; refine QA_any fun v15 h15 => ?_; refine QA_eq rfl ?_
     refine QA_nil ?_
     refine D_yes rfl ?_
     refine OpR_ret cl18 allF rfl rfl rfl rfl rfl (same_c _ _ _ _ gd h15 (rs5.mono hfe)) fun g' v h1 h2 => ?_
     obtain ⟨b, rfl, hb⟩ := h2
     obtain rfl := hb.2 rfl
     exact ⟨g', rfl, h1, rfl⟩
    refine D_s (js := [(23, 121), (23, 121), (10, 108)]) (by kernel_rfl) (fun _ _ => QA_eq rfl (QA_eq rfl (QA_eq rfl (QA_nil (DPu T.ok rfl rfl rfl))))) ?_
    refine D_s (js := [(24, 122)]) (by kernel_rfl) (fun _ _ => QA_eq rfl (QA_nil (DPu T.ok rfl rfl rfl))) ?_
    refine D_s (js := [(25, 123), (24, 122)]) (by kernel_rfl) (fun _ _ => QA_eq rfl (QA_eq rfl (QA_nil (DPu T.ok rfl rfl rfl)))) ?_
    refine D_s (js := [(26, 124), (24, 122)]) (by kernel_rfl) (fun _ _ => QA_eq rfl (QA_eq rfl (QA_nil (DPu T.ok rfl rfl rfl)))) ?_
    refine D_s (js := [(27, 125), (24, 122)]) (by kernel_rfl) (fun _ hf => QA_eq rfl (QA_eq rfl (QA_nil (DLo T.ok 0 rfl rfl (hs.dr.call hf) rfl rfl rfl rfl)))) ?_
    refine D_cons (D_step2 (js := [(28, 126), (24, 122), (24, 122)]) (by kernel_rfl) fun gd hf => ?_) ?_
    ·have hsd := hs.dr.call hf; have hfe := (G.le_dr _).trans hf.le
     refine QA_eq rfl ?_; refine QA_eq rfl ?_; refine QA_eq rfl ?_
     refine QA_nil ?_
     refine D_yes rfl ?_
     refine OpR_ret cl20 allF rfl rfl rfl rfl rfl (room_c (B := B) (A := ⟨A3.b, A3.bd, A3.bv, pa, pc⟩) (br := false) hD2 hyok (St.arr (L := L3) [[wO bw A3.b R3.b (.pointer (some ⟨B.b, 0, none⟩)) (.pointer (some ⟨kb, 0, none⟩))], jnL B ⟨A3.b, A3.bd, A3.bv, pa, pc⟩ false Y, dkL ⟨A3.b, A3.bd, A3.bv, pa, pc⟩ D2, [kjO kb R3.b kv2 false Y], rkL ⟨R3.b, bd, dp, dc, pa2, pc2⟩ D2] [1, 2, 0, 3, 4] rfl hsd)) fun g' v h1 h2 => ⟨g', rfl, h1, ?_⟩
     exact h2
    refine D_s (js := [(24, 122)]) (by kernel_rfl) (fun _ _ => QA_eq rfl (QA_nil (DPu T.ok rfl rfl rfl))) ?_
    refine D_s (js := [(30, 128), (24, 122)]) (by kernel_rfl) (fun _ _ => QA_eq rfl (QA_eq rfl (QA_nil (DPu T.ok rfl rfl rfl)))) ?_
    refine D_s (js := [(31, 129), (24, 122)]) (by kernel_rfl) (fun _ _ => QA_eq rfl (QA_eq rfl (QA_nil (DPu T.ok rfl rfl rfl)))) ?_
    refine D_s (js := [(32, 130), (24, 122)]) (by kernel_rfl) (fun _ hf => QA_eq rfl (QA_eq rfl (QA_nil (DLo T.ok 0 rfl rfl (hs.dr.call hf) rfl rfl rfl rfl)))) ?_
    refine D_cons (D_step2 (js := [(33, 131), (24, 122)]) (by kernel_rfl) fun gd hf => ?_) ?_
    ·have hsd := hs.dr.call hf; have hfe := (G.le_dr _).trans hf.le
     refine QA_eq rfl ?_; refine QA_eq rfl ?_
     refine QA_nil ?_
     refine D_yes rfl ?_
     refine OpR_ret cl21 allF rfl rfl rfl rfl rfl (rroom_c (b := kb) (A := ⟨R3.b, bd, dp, dc, pa2, pc2⟩) (v := kv2) (br := false) (Y := Y) (D := D2) hD2.le hyok.size (St.arr (L := L3) [[wO bw A3.b R3.b (.pointer (some ⟨B.b, 0, none⟩)) (.pointer (some ⟨kb, 0, none⟩))], jnL B ⟨A3.b, A3.bd, A3.bv, pa, pc⟩ false Y, dkL ⟨A3.b, A3.bd, A3.bv, pa, pc⟩ D2, [kjO kb R3.b kv2 false Y], rkL ⟨R3.b, bd, dp, dc, pa2, pc2⟩ D2] [3, 4, 0, 1, 2] rfl hsd)) fun g' v h1 h2 => ⟨g', rfl, h1, ?_⟩
     exact h2
    refine D_cons (D_step2 (js := [(29, 127), (34, 132), (24, 122)]) (by kernel_rfl) fun gd hf => ?_) ?_
    ·have hsd := hs.dr.call hf; have hfe := (G.le_dr _).trans hf.le
     refine QA_eq rfl ?_; refine QA_eq rfl ?_; refine QA_eq rfl ?_
     refine QA_nil ?_
     refine D_yes rfl ?_
     refine OpR_pure _ T.ok rfl ?_
     refine ⟨_, rfl, Fr0.refl _, ?_⟩
     exact congrArg Value.bool (beq_self_eq_true _)
    refine D_s (js := [(24, 122), (35, 133), (10, 108)]) (by kernel_rfl) (fun _ _ => QA_eq rfl (QA_eq rfl (QA_eq rfl (QA_nil (DPu T.ok rfl rfl rfl))))) ?_
    refine D_s (js := [(36, 134), (10, 108)]) (by kernel_rfl) (fun _ _ => QA_eq rfl (QA_eq rfl (QA_nil (DPu T.ok rfl rfl rfl)))) ?_
    refine D_s (js := [(37, 135)]) (by kernel_rfl) (fun _ _ => QA_eq rfl (QA_nil (DPu T.ok rfl rfl rfl))) ?_
    refine D_s (js := [(38, 136), (37, 135)]) (by kernel_rfl) (fun _ _ => QA_eq rfl (QA_eq rfl (QA_nil (DPu T.ok rfl rfl rfl)))) ?_
    refine D_s (js := [(39, 137), (37, 135)]) (by kernel_rfl) (fun _ _ => QA_eq rfl (QA_eq rfl (QA_nil (DPu T.ok rfl rfl rfl)))) ?_
    refine D_s (js := [(40, 138), (37, 135)]) (by kernel_rfl) (fun _ hf => QA_eq rfl (QA_eq rfl (QA_nil (DLo T.ok 0 rfl rfl (hs.dr.call hf) rfl rfl rfl rfl)))) ?_
    refine D_cons (D_step2 (js := [(41, 139), (37, 135), (37, 135)]) (by kernel_rfl) fun gd hf => ?_) ?_
    ·have hsd := hs.dr.call hf; have hfe := (G.le_dr _).trans hf.le
     refine QA_eq rfl ?_; refine QA_eq rfl ?_; refine QA_eq rfl ?_
     refine QA_nil ?_
     refine D_yes rfl ?_
     refine OpR_ret cl22 allF rfl rfl rfl rfl rfl (content_c (A := ⟨A3.b, A3.bd, A3.bv, pa, pc⟩) (D := D2) hD2 (St.arr (L := L3) [[wO bw A3.b R3.b (.pointer (some ⟨B.b, 0, none⟩)) (.pointer (some ⟨kb, 0, none⟩))], jnL B ⟨A3.b, A3.bd, A3.bv, pa, pc⟩ false Y, dkL ⟨A3.b, A3.bd, A3.bv, pa, pc⟩ D2, [kjO kb R3.b kv2 false Y], rkL ⟨R3.b, bd, dp, dc, pa2, pc2⟩ D2] [2, 0, 1, 3, 4] rfl hsd)) fun g' v h1 h2 => ⟨g', rfl, h1, ?_⟩
     rw [hoff2, if_neg (by simp)] at h2
     exact h2
    refine D_s (js := [(37, 135)]) (by kernel_rfl) (fun _ _ => QA_eq rfl (QA_nil (DPu T.ok rfl rfl rfl))) ?_
    refine D_s (js := [(43, 141), (37, 135)]) (by kernel_rfl) (fun _ _ => QA_eq rfl (QA_eq rfl (QA_nil (DPu T.ok rfl rfl rfl)))) ?_
    refine D_s (js := [(44, 142), (37, 135)]) (by kernel_rfl) (fun _ _ => QA_eq rfl (QA_eq rfl (QA_nil (DPu T.ok rfl rfl rfl)))) ?_
    refine D_s (js := [(45, 143), (37, 135)]) (by kernel_rfl) (fun _ hf => QA_eq rfl (QA_eq rfl (QA_nil (DLo T.ok 0 rfl rfl (hs.dr.call hf) rfl rfl rfl rfl)))) ?_
    refine D_cons (D_step2 (js := [(46, 144), (37, 135)]) (by kernel_rfl) fun gd hf => ?_) ?_
    ·have hsd := hs.dr.call hf; have hfe := (G.le_dr _).trans hf.le
     refine QA_eq rfl ?_; refine QA_eq rfl ?_
     refine QA_nil ?_
     refine D_yes rfl ?_
     refine OpR_ret cl23 allF rfl rfl rfl rfl rfl (rvis_c (A := ⟨R3.b, bd, dp, dc, pa2, pc2⟩) hD2 hR2 (St.arr (L := L3) [[wO bw A3.b R3.b (.pointer (some ⟨B.b, 0, none⟩)) (.pointer (some ⟨kb, 0, none⟩))], jnL B ⟨A3.b, A3.bd, A3.bv, pa, pc⟩ false Y, dkL ⟨A3.b, A3.bd, A3.bv, pa, pc⟩ D2, [kjO kb R3.b kv2 false Y], rkL ⟨R3.b, bd, dp, dc, pa2, pc2⟩ D2] [4, 0, 1, 2, 3] rfl hsd)) fun g' v h1 h2 => ?_
     obtain ⟨g2, hw2, hs2, hle2, hrs⟩ := (St.start gd).ownRs h1 h2
     exact ⟨g2, hw2, hs2.fr0, hrs⟩
    refine D_cons (D_step2 (js := [(47, 145), (37, 135)]) (by kernel_rfl) fun gd hf => ?_) ?_
    ·have hsd := hs.dr.call hf; have hfe := (G.le_dr _).trans hf.le
     refine QA_any fun v47 h47 => ?_; refine QA_eq rfl ?_
     refine QA_nil ?_
     obtain ⟨ax, cx, rfl⟩ := Rs.isSlice h47
     obtain ⟨_, news, hnw, hsrc⟩ := Src.of_rs h47
     obtain rfl := RcL.bytes_inv hnw
     have hsr2 : Src gd.w ax D2.vis.length 1 ((D2.vis.map fun b => (b.toNat : Int)).map (Value.int .u8)) := by
      rw [List.map_map]; exact hsrc
     refine D_yes rfl ?_
     refine OpR_bytesStr (ns := D2.vis.map fun b => (b.toNat : Int)) T.ok rfl rfl rfl rfl rfl rfl rfl rfl hsr2 ?_
     refine ⟨_, rfl, Fr0.refl _, ?_⟩
     show Value.string _ = _
     rw [bytesL]
    refine D_cons (D_step2 (js := [(42, 140), (48, 146), (37, 135)]) (by kernel_rfl) fun gd hf => ?_) ?_
    ·have hsd := hs.dr.call hf; have hfe := (G.le_dr _).trans hf.le
     refine QA_any fun v42 h42 => ?_; refine QA_any fun v48 h48 => ?_; refine QA_eq rfl ?_
     refine QA_nil ?_
     obtain rfl := h42
     obtain rfl := h48
     refine D_yes rfl ?_
     refine OpR_eqS (neg := false) rfl rfl rfl ?_
     refine ⟨_, rfl, Fr0.refl _, ?_⟩
     exact congrArg Value.bool (show (false != (D2.vis == D2.vis)) = true by simp)
    refine D_s (js := [(37, 135), (49, 147), (10, 108)]) (by kernel_rfl) (fun _ _ => QA_eq rfl (QA_eq rfl (QA_eq rfl (QA_nil (DPu T.ok rfl rfl rfl))))) ?_
    refine D_s (js := [(10, 108), (50, 148), (4, 102)]) (by kernel_rfl) (fun _ _ => QA_eq rfl (QA_eq rfl (QA_eq rfl (QA_nil (DPu T.ok rfl rfl rfl))))) ?_
    refine D_s (js := [(4, 102), (51, 149)]) (by kernel_rfl) (fun _ _ => QA_eq rfl (QA_eq rfl (QA_nil (DPu T.ok rfl rfl rfl)))) ?_
    exact D_nil
   intro g1 hf1; refine QA_eq rfl ?_; refine QA_nil ?_
   replace hs := hs.dr.call hf1; have hqe := (G.le_dr _).trans hf1.le; replace le0 := G.le.trans le0 hqe; replace rs0 := rs0.mono hqe; replace rs1 := rs1.mono hqe; replace rs5 := rs5.mono hqe
   refine P1 T.ok rfl rfl rfl ?_; refine WL_nil ?_; (with_reducible refine T_then ?_)
   exact W_ret (ret1 rfl rfl (hs.ret rfl))
 ·refine W_no (b := decide ((0 : Int) < (xs.length : Int))) (decide_eq_false (by omega)) rfl ?_
  have hmin : (if (Z : Int) < ((bs s).size : Int) then (Z : Int) else ((bs s).size : Int)) = ((min s.length Z : Nat) : Int) := by rw [bs_size]; omega
  obtain ⟨s2, hs2⟩ : ∃ s2, s2 = (s.take (min s.length Z)).drop 0 := ⟨_, rfl⟩
  have hkz : 0 + s2.length ≤ (DiskM.new Z).dur.length := by rw [hs2, List.drop_zero, List.length_take]; omega
  refine W_seq ?_
  apply W_draw allF rfl (Fact.eq _ :: Fact.eq _ :: Fact.eq _ :: Fact.eq _ :: Fact.eq _ :: Fact.eq _ :: Fact.eq _ :: Fact.eq _ :: Fact.eq _ :: Fact.eq _ :: Fact.eq _ :: []) 11 [(3, 75), (10, 82)] rfl rfl
  ·refine D_s (js := []) (by kernel_rfl) (fun _ _ => QA_nil (DPu T.ok rfl rfl rfl)) ?_
   refine D_s (js := [(0, 72)]) (by kernel_rfl) (fun _ _ => QA_eq rfl (QA_nil (DPu T.ok rfl rfl rfl))) ?_
   refine D_s (js := [(1, 73)]) (by kernel_rfl) (fun _ _ => QA_eq rfl (QA_nil (DPu T.ok rfl rfl rfl))) ?_
   refine D_s (js := [(2, 74)]) (by kernel_rfl) (fun _ hf => QA_eq rfl (QA_nil (DLo T.ok 0 rfl rfl (hs.dr.call hf) rfl rfl rfl rfl))) ?_
   refine D_s (js := []) (by kernel_rfl) (fun _ _ => QA_nil (DPu T.ok rfl rfl rfl)) ?_
   refine D_s (js := []) (by kernel_rfl) (fun _ _ => QA_nil (DPu T.ok rfl rfl rfl)) ?_
   refine D_s (js := [(5, 77)]) (by kernel_rfl) (fun _ _ => QA_eq rfl (QA_nil (DPu T.ok rfl rfl rfl))) ?_
   refine D_s (js := []) (by kernel_rfl) (fun _ _ => QA_nil (DPu T.ok rfl rfl rfl)) ?_
   refine D_cons (D_step2 (js := [(7, 79)]) (by kernel_rfl) fun gd hf => ?_) ?_
   ·have hsd := hs.dr.call hf; have hfe := (G.le_dr _).trans hf.le
    refine QA_eq rfl ?_
    refine QA_nil ?_
    refine D_yes rfl ?_
    refine OpR_ret cl15 allF rfl rfl rfl rfl rfl (hsc gd) fun g' v h1 h2 => ⟨g', rfl, h1, ?_⟩
    exact h2
   refine D_cons (D_step2 (js := [(6, 78), (8, 80)]) (by kernel_rfl) fun gd hf => ?_) ?_
   ·have hsd := hs.dr.call hf; have hfe := (G.le_dr _).trans hf.le
    refine QA_eq rfl ?_; refine QA_eq rfl ?_
    refine QA_nil ?_
    refine D_yes rfl ?_
    refine OpR_pure _ T.ok rfl ?_
    refine ⟨_, rfl, Fr0.refl _, ?_⟩
    exact congrArg (Value.int .i64) hmin
   refine D_cons (D_step2 (js := [(4, 76), (9, 81)]) (by kernel_rfl) fun gd hf => ?_) ?_
   ·have hsd := hs.dr.call hf; have hfe := (G.le_dr _).trans hf.le
    refine QA_eq rfl ?_; refine QA_eq rfl ?_
    refine QA_nil ?_
    refine D_yes rfl ?_
    refine OpR_cutS T.ok (s := s) (a := 0) (b := min s.length Z) rfl rfl rfl rfl rfl ⟨_, rfl⟩ (Nat.zero_le _) (Nat.min_le_left _ _) ?_
    refine ⟨_, rfl, Fr0.refl _, ?_⟩
    exact rfl
   exact D_nil
  intro g1 hf1; refine QA_eq rfl ?_; refine QA_eq rfl ?_; refine QA_nil ?_
  replace hs := hs.dr.call hf1; have hqe := (G.le_dr _).trans hf1.le; replace le0 := G.le.trans le0 hqe; replace rs0 := rs0.mono hqe; replace rs1 := rs1.mono hqe
  rw [← hs2]
  have hcall := dwrite_c hlive.inv.ok hlive.off 0 s2 hkz (St.arr (L := []) [[wO bw A0.b R0.b (.pointer (some ⟨B0.b, 0, none⟩)) (.pointer (some ⟨kb0, 0, none⟩))], jnL B0 A0 false tape0, dkL A0 (DiskM.new Z), [kjO kb0 R0.b kv0 false tape0], rkL R0 (DiskM.new Z)] [2, 0, 1, 3, 4] rfl hs)
  refine WL_o rfl rfl (OpR_st cl13 allF rfl rfl rfl rfl rfl hcall ?_)
  clear hs hcall
  rintro g5 _ hqe ⟨rfl, pa5, pc5, hs⟩; replace le0 := G.le.trans le0 hqe; replace rs0 := rs0.mono hqe; replace rs1 := rs1.mono hqe
  replace hs := St.arr (L := []) [dkL ⟨A0.b, A0.bd, A0.bv, pa5, pc5⟩ ((DiskM.new Z).put 0 s2), [wO bw A0.b R0.b (.pointer (some ⟨B0.b, 0, none⟩)) (.pointer (some ⟨kb0, 0, none⟩))], jnL B0 A0 false tape0, [kjO kb0 R0.b kv0 false tape0], rkL R0 (DiskM.new Z)] [1, 2, 0, 3, 4] rfl hs
  replace hs : St g g5 (wO bw A0.b R0.b (.pointer (some ⟨B0.b, 0, none⟩)) (.pointer (some ⟨kb0, 0, none⟩)) :: (jnL B0 A0 false tape0 ++ (dkL ⟨A0.b, A0.bd, A0.bv, pa5, pc5⟩ ((DiskM.new Z).put 0 s2) ++ ([kjO kb0 R0.b kv0 false tape0] ++ (rkL R0 (DiskM.new Z) ++ []))))) := hs
  unfold wO at hs
  have hD1 : ((DiskM.new Z).put 0 s2).ok := hlive.inv.ok.put hkz (Nat.zero_lt_succ _)
  have hR1 : RefOk ((DiskM.new Z).put 0 s2) := hW0.1.put hkz
  have hp1 : ((DiskM.new Z).put 0 s2).pend.length ≤ 999990 := by show ([] ++ [_] : List Wr).length ≤ _; simp
  have hlf := put_left (D := DiskM.new Z) rfl 0 s2
  have ho1 : ((DiskM.new Z).put 0 s2).off = false := hlf.1
  have hl1 := hlf.2
  have hput0 : (DiskM.new Z).put 0 s2 = (DiskM.new Z).put 0 s2 := rfl
  refine WL_nil ?_; (with_reducible refine T_then ?_)
  apply W_draw allF rfl (Fact.eq _ :: Fact.eq _ :: Fact.eq _ :: Fact.eq _ :: Fact.eq _ :: Fact.eq _ :: Fact.eq _ :: Fact.eq _ :: Fact.eq _ :: Fact.eq _ :: Fact.eq _ :: []) 11 [(3, 87), (10, 94)] rfl rfl
  ·refine D_s (js := []) (by kernel_rfl) (fun _ _ => QA_nil (DPu T.ok rfl rfl rfl)) ?_
   refine D_s (js := [(0, 84)]) (by kernel_rfl) (fun _ _ => QA_eq rfl (QA_nil (DPu T.ok rfl rfl rfl))) ?_
   refine D_s (js := [(1, 85)]) (by kernel_rfl) (fun _ _ => QA_eq rfl (QA_nil (DPu T.ok rfl rfl rfl))) ?_
   refine D_s (js := [(2, 86)]) (by kernel_rfl) (fun _ hf => QA_eq rfl (QA_nil (DLo T.ok 0 rfl rfl (hs.dr.call hf) rfl rfl rfl rfl))) ?_
   refine D_s (js := []) (by kernel_rfl) (fun _ _ => QA_nil (DPu T.ok rfl rfl rfl)) ?_
   refine D_s (js := []) (by kernel_rfl) (fun _ _ => QA_nil (DPu T.ok rfl rfl rfl)) ?_
   refine D_s (js := [(5, 89)]) (by kernel_rfl) (fun _ _ => QA_eq rfl (QA_nil (DPu T.ok rfl rfl rfl))) ?_
   refine D_s (js := []) (by kernel_rfl) (fun _ _ => QA_nil (DPu T.ok rfl rfl rfl)) ?_
   refine D_cons (D_step2 (js := [(7, 91)]) (by kernel_rfl) fun gd hf => ?_) ?_
   ·have hsd := hs.dr.call hf; have hfe := (G.le_dr _).trans hf.le
    refine QA_eq rfl ?_
    refine QA_nil ?_
    refine D_yes rfl ?_
    refine OpR_ret cl15 allF rfl rfl rfl rfl rfl (hsc gd) fun g' v h1 h2 => ⟨g', rfl, h1, ?_⟩
    exact h2
   refine D_cons (D_step2 (js := [(6, 90), (8, 92)]) (by kernel_rfl) fun gd hf => ?_) ?_
   ·have hsd := hs.dr.call hf; have hfe := (G.le_dr _).trans hf.le
    refine QA_eq rfl ?_; refine QA_eq rfl ?_
    refine QA_nil ?_
    refine D_yes rfl ?_
    refine OpR_pure _ T.ok rfl ?_
    refine ⟨_, rfl, Fr0.refl _, ?_⟩
    exact congrArg (Value.int .i64) hmin
   refine D_cons (D_step2 (js := [(4, 88), (9, 93)]) (by kernel_rfl) fun gd hf => ?_) ?_
   ·have hsd := hs.dr.call hf; have hfe := (G.le_dr _).trans hf.le
    refine QA_eq rfl ?_; refine QA_eq rfl ?_
    refine QA_nil ?_
    refine D_yes rfl ?_
    refine OpR_cutS T.ok (s := s) (a := 0) (b := min s.length Z) rfl rfl rfl rfl rfl ⟨_, rfl⟩ (Nat.zero_le _) (Nat.min_le_left _ _) ?_
    refine ⟨_, rfl, Fr0.refl _, ?_⟩
    exact rfl
   exact D_nil
  intro g1 hf1; refine QA_eq rfl ?_; refine QA_eq rfl ?_; refine QA_nil ?_
  replace hs := hs.dr.call hf1; have hqe := (G.le_dr _).trans hf1.le; replace le0 := G.le.trans le0 hqe; replace rs0 := rs0.mono hqe; replace rs1 := rs1.mono hqe
  rw [← hs2]
  have hcall := rwrite_c hlive.inv.ok (Nat.zero_lt_succ _) hlive.left hlive.off (k := 0) (s := s2) hkz (St.arr (L := []) [[wO bw A0.b R0.b (.pointer (some ⟨B0.b, 0, none⟩)) (.pointer (some ⟨kb0, 0, none⟩))], jnL B0 A0 false tape0, dkL ⟨A0.b, A0.bd, A0.bv, pa5, pc5⟩ ((DiskM.new Z).put 0 s2), [kjO kb0 R0.b kv0 false tape0], rkL R0 (DiskM.new Z)] [4, 0, 1, 2, 3] rfl hs)
  refine WL_o rfl rfl (OpR_st cl16 allF rfl rfl rfl rfl rfl hcall ?_)
  clear hs hcall
  rintro g6 _ hqe ⟨rfl, pa6, pc6, hs⟩; replace le0 := G.le.trans le0 hqe; replace rs0 := rs0.mono hqe; replace rs1 := rs1.mono hqe
  replace hs := St.arr (L := []) [rkL ⟨R0.b, R0.bd, R0.dp, R0.dc, pa6, pc6⟩ ((DiskM.new Z).put 0 s2), [wO bw A0.b R0.b (.pointer (some ⟨B0.b, 0, none⟩)) (.pointer (some ⟨kb0, 0, none⟩))], jnL B0 A0 false tape0, dkL ⟨A0.b, A0.bd, A0.bv, pa5, pc5⟩ ((DiskM.new Z).put 0 s2), [kjO kb0 R0.b kv0 false tape0]] [1, 2, 3, 4, 0] rfl hs
  clear hput0 hkz hs2
  generalize (DiskM.new Z).put 0 s2 = D1 at *
  refine WL_nil ?_; (with_reducible refine T_then ?_); refine W_seq ?_; refine W_region ?_; refine P1 T.ok rfl rfl rfl ?_
  obtain ⟨A3, hA3⟩ : ∃ A3 : DkA, A3 = ⟨A0.b, A0.bd, A0.bv, pa5, pc5⟩ := ⟨_, rfl⟩
  obtain ⟨R3, hR3⟩ : ∃ R3 : RkA, R3 = ⟨R0.b, R0.bd, R0.dp, R0.dc, pa6, pc6⟩ := ⟨_, rfl⟩
  obtain ⟨L3, hL3⟩ : ∃ L3, L3 = jnL B0 A0 false tape0 ++ ([kjO kb0 R0.b kv0 false tape0] ++ ([] : List Ent)) := ⟨_, rfl⟩
  have hs4 : St g g6 (wO bw A3.b R3.b (.pointer (some ⟨B0.b, 0, none⟩)) (.pointer (some ⟨kb0, 0, none⟩)) :: (dkL A3 D1 ++ (rkL R3 D1 ++ L3))) := by
   rw [hL3, hA3, hR3]
   exact St.arr (L := []) [[wO bw A0.b R0.b (.pointer (some ⟨B0.b, 0, none⟩)) (.pointer (some ⟨kb0, 0, none⟩))], jnL B0 A0 false tape0, dkL ⟨A0.b, A0.bd, A0.bv, pa5, pc5⟩ D1, [kjO kb0 R0.b kv0 false tape0], rkL ⟨R0.b, R0.bd, R0.dp, R0.dc, pa6, pc6⟩ D1] [0, 2, 4, 1, 3] rfl hs
  have hcall := wopen_c (A := A3) (R := R3) hD1 hR1 hp1 (hrk.mono le0) (hE.mono le0) hs4
  rw [hA3] at hcall
  rw [← hA3] at hcall
  refine WL_o rfl rfl (OpR_st cl17 allF rfl rfl rfl rfl rfl hcall ?_)
  clear hs hs4 hcall hA3 hR3 hL3
  rintro g7 _ hqe ⟨rfl, hpo⟩; replace le0 := G.le.trans le0 hqe; replace rs0 := rs0.mono hqe; replace rs1 := rs1.mono hqe
  have hoff2 : (openM D1).2.1.off = false := open_left ho1 hl1
  have hR2 : RefOk (openM D1).2.1 := hR1.opened hD1
  have hyok : ∀ Y, (openM D1).1 = some Y → Y.ok := fun Y h => open_yok hD1 h
  unfold wopenRes at hpo
  cases hom : openM D1 with
  | mk o rest =>
  obtain ⟨D2, er2⟩ := rest
  rw [hom] at hpo hoff2 hR2 hyok
  obtain ⟨hD2, _, _, pa, pc, bd, dp, dc, pa2, pc2, hs⟩ := hpo
  dsimp only at hD2 hoff2 hR2 hs
  cases o with
  | none =>
   unfold wO at hs
   refine P1 T.ok rfl rfl rfl ?_; refine WL_nil ?_; (with_reducible refine T_then ?_); refine W_seq ?_
   apply W_draw allF rfl (Fact.eq _ :: Fact.eq _ :: Fact.eq _ :: Fact.eq _ :: Fact.eq _ :: Fact.eq _ :: Fact.eq _ :: Fact.eq _ :: Fact.eq _ :: Fact.eq _ :: Fact.eq _ :: Fact.eq _ :: Fact.eq _ :: Fact.eq _ :: Fact.eq _ :: Fact.eq _ :: Fact.eq _ :: Fact.eq _ :: Fact.eq _ :: Fact.eq _ :: Fact.eq _ :: Fact.eq _ :: Fact.eq _ :: Fact.eq _ :: Fact.eq _ :: Fact.eq _ :: Fact.eq _ :: Fact.eq _ :: Fact.eq _ :: Fact.eq _ :: Fact.eq _ :: Fact.eq _ :: Fact.eq _ :: Fact.eq _ :: Fact.eq _ :: Fact.eq _ :: Fact.eq _ :: Fact.eq _ :: Fact.eq _ :: Fact.eq _ :: Fact.eq _ :: Fact.eq _ :: Fact.eq _ :: Fact.eq _ :: Fact.eq _ :: Fact.eq _ :: Fact.eq _ :: Fact.eq _ :: Fact.eq _ :: Fact.eq _ :: Fact.eq _ :: Fact.eq _ :: Fact.eq _ :: []) 53 [(52, 150)] rfl rfl
   ·refine D_s (js := []) (by kernel_rfl) (fun _ _ => QA_nil (DPu T.ok rfl rfl rfl)) ?_
    refine D_s (js := [(0, 98)]) (by kernel_rfl) (fun _ _ => QA_eq rfl (QA_nil (DPu T.ok rfl rfl rfl))) ?_
    refine D_s (js := [(1, 99)]) (by kernel_rfl) (fun _ _ => QA_eq rfl (QA_nil (DPu T.ok rfl rfl rfl))) ?_
    refine D_s (js := [(1, 99), (2, 100)]) (by kernel_rfl) (fun _ _ => QA_eq rfl (QA_eq rfl (QA_nil (DPu T.ok rfl rfl rfl)))) ?_
    refine D_s (js := [(3, 101)]) (by kernel_rfl) (fun _ _ => QA_eq rfl (QA_nil (DPu T.ok rfl rfl rfl))) ?_
    refine D_s (js := [(4, 102)]) (by kernel_rfl) (fun _ _ => QA_eq rfl (QA_nil (DPu T.ok rfl rfl rfl))) ?_
    refine D_s (js := [(5, 103), (4, 102)]) (by kernel_rfl) (fun _ _ => QA_eq rfl (QA_eq rfl (QA_nil (DPu T.ok rfl rfl rfl)))) ?_
    refine D_s (js := [(6, 104), (4, 102)]) (by kernel_rfl) (fun _ _ => QA_eq rfl (QA_eq rfl (QA_nil (DPu T.ok rfl rfl rfl)))) ?_
    refine D_s (js := [(7, 105), (4, 102)]) (by kernel_rfl) (fun _ hf => QA_eq rfl (QA_eq rfl (QA_nil (DLo T.ok 0 rfl rfl (hs.dr.call hf) rfl rfl rfl rfl)))) ?_
    refine D_cons (D_step2 (js := [(8, 106), (4, 102)]) (by kernel_rfl) fun gd hf => ?_) ?_
    ·have hsd := hs.dr.call hf; have hfe := (G.le_dr _).trans hf.le
     refine QA_eq rfl ?_; refine QA_eq rfl ?_
     refine QA_nil ?_
     refine D_yes rfl ?_
     refine OpR_eqNilPtr T.ok (neg := false) rfl rfl rfl rfl rfl ?_
     exact ⟨_, rfl, Fr0.refl _, rfl⟩
    refine D_s (js := [(9, 107), (4, 102), (4, 102)]) (by kernel_rfl) (fun _ _ => QA_eq rfl (QA_eq rfl (QA_eq rfl (QA_nil (DPu T.ok rfl rfl rfl))))) ?_
    refine D_s (js := [(10, 108)]) (by kernel_rfl) (fun _ _ => QA_eq rfl (QA_nil (DNo rfl rfl))) ?_
    refine D_s (js := [(11, 109), (10, 108)]) (by kernel_rfl) (fun _ _ => QA_eq rfl (QA_eq rfl (QA_nil (DNo rfl rfl)))) ?_
    refine D_s (js := [(12, 110), (10, 108)]) (by kernel_rfl) (fun _ _ => QA_eq rfl (QA_eq rfl (QA_nil (DNo rfl rfl)))) ?_
    refine D_s (js := [(13, 111), (10, 108)]) (by kernel_rfl) (fun _ _ => QA_eq rfl (QA_eq rfl (QA_nil (DNo rfl rfl)))) ?_
    refine D_s (js := [(14, 112), (10, 108), (10, 108)]) (by kernel_rfl) (fun _ _ => QA_eq rfl (QA_eq rfl (QA_eq rfl (QA_nil (DNo rfl rfl))))) ?_
    refine D_s (js := [(10, 108)]) (by kernel_rfl) (fun _ _ => QA_eq rfl (QA_nil (DNo rfl rfl))) ?_
    refine D_s (js := [(16, 114), (10, 108)]) (by kernel_rfl) (fun _ _ => QA_eq rfl (QA_eq rfl (QA_nil (DNo rfl rfl)))) ?_
    refine D_s (js := [(17, 115), (10, 108)]) (by kernel_rfl) (fun _ _ => QA_eq rfl (QA_eq rfl (QA_nil (DNo rfl rfl)))) ?_
    refine D_s (js := [(18, 116), (10, 108)]) (by kernel_rfl) (fun _ _ => QA_eq rfl (QA_eq rfl (QA_nil (DNo rfl rfl)))) ?_
    refine D_s (js := [(19, 117), (10, 108)]) (by kernel_rfl) (fun _ _ => QA_eq rfl (QA_eq rfl (QA_nil (DNo rfl rfl)))) ?_
    refine D_s (js := [(20, 118), (10, 108)]) (by kernel_rfl) (fun _ _ => QA_eq rfl (QA_eq rfl (QA_nil (DNo rfl rfl)))) ?_
    refine D_s (js := [(21, 119), (10, 108)]) (by kernel_rfl) (fun _ _ => QA_eq rfl (QA_eq rfl (QA_nil (DNo rfl rfl)))) ?_
    refine D_s (js := [(15, 113), (22, 120), (15, 113), (10, 108)]) (by kernel_rfl) (fun _ _ => QA_eq rfl (QA_eq rfl (QA_eq rfl (QA_eq rfl (QA_nil (DNo rfl rfl)))))) ?_
    refine D_s (js := [(23, 121), (23, 121), (10, 108)]) (by kernel_rfl) (fun _ _ => QA_eq rfl (QA_eq rfl (QA_eq rfl (QA_nil (DNo rfl rfl))))) ?_
    refine D_s (js := [(24, 122)]) (by kernel_rfl) (fun _ _ => QA_eq rfl (QA_nil (DNo rfl rfl))) ?_
    refine D_s (js := [(25, 123), (24, 122)]) (by kernel_rfl) (fun _ _ => QA_eq rfl (QA_eq rfl (QA_nil (DNo rfl rfl)))) ?_
    refine D_s (js := [(26, 124), (24, 122)]) (by kernel_rfl) (fun _ _ => QA_eq rfl (QA_eq rfl (QA_nil (DNo rfl rfl)))) ?_
    refine D_s (js := [(27, 125), (24, 122)]) (by kernel_rfl) (fun _ _ => QA_eq rfl (QA_eq rfl (QA_nil (DNo rfl rfl)))) ?_
    refine D_s (js := [(28, 126), (24, 122), (24, 122)]) (by kernel_rfl) (fun _ _ => QA_eq rfl (QA_eq rfl (QA_eq rfl (QA_nil (DNo rfl rfl))))) ?_
    refine D_s (js := [(24, 122)]) (by kernel_rfl) (fun _ _ => QA_eq rfl (QA_nil (DNo rfl rfl))) ?_
    refine D_s (js := [(30, 128), (24, 122)]) (by kernel_rfl) (fun _ _ => QA_eq rfl (QA_eq rfl (QA_nil (DNo rfl rfl)))) ?_
    refine D_s (js := [(31, 129), (24, 122)]) (by kernel_rfl) (fun _ _ => QA_eq rfl (QA_eq rfl (QA_nil (DNo rfl rfl)))) ?_
    refine D_s (js := [(32, 130), (24, 122)]) (by kernel_rfl) (fun _ _ => QA_eq rfl (QA_eq rfl (QA_nil (DNo rfl rfl)))) ?_
    refine D_s (js := [(33, 131), (24, 122)]) (by kernel_rfl) (fun _ _ => QA_eq rfl (QA_eq rfl (QA_nil (DNo rfl rfl)))) ?_
    refine D_s (js := [(29, 127), (34, 132), (24, 122)]) (by kernel_rfl) (fun _ _ => QA_eq rfl (QA_eq rfl (QA_eq rfl (QA_nil (DNo rfl rfl))))) ?_
    refine D_s (js := [(24, 122), (35, 133), (10, 108)]) (by kernel_rfl) (fun _ _ => QA_eq rfl (QA_eq rfl (QA_eq rfl (QA_nil (DNo rfl rfl))))) ?_
    refine D_s (js := [(36, 134), (10, 108)]) (by kernel_rfl) (fun _ _ => QA_eq rfl (QA_eq rfl (QA_nil (DNo rfl rfl)))) ?_
    refine D_s (js := [(37, 135)]) (by kernel_rfl) (fun _ _ => QA_eq rfl (QA_nil (DNo rfl rfl))) ?_
    refine D_s (js := [(38, 136), (37, 135)]) (by kernel_rfl) (fun _ _ => QA_eq rfl (QA_eq rfl (QA_nil (DNo rfl rfl)))) ?_
    refine D_s (js := [(39, 137), (37, 135)]) (by kernel_rfl) (fun _ _ => QA_eq rfl (QA_eq rfl (QA_nil (DNo rfl rfl)))) ?_
    refine D_s (js := [(40, 138), (37, 135)]) (by kernel_rfl) (fun _ _ => QA_eq rfl (QA_eq rfl (QA_nil (DNo rfl rfl)))) ?_
    refine D_s (js := [(41, 139), (37, 135), (37, 135)]) (by kernel_rfl) (fun _ _ => QA_eq rfl (QA_eq rfl (QA_eq rfl (QA_nil (DNo rfl rfl))))) ?_
    refine D_s (js := [(37, 135)]) (by kernel_rfl) (fun _ _ => QA_eq rfl (QA_nil (DNo rfl rfl))) ?_
    refine D_s (js := [(43, 141), (37, 135)]) (by kernel_rfl) (fun _ _ => QA_eq rfl (QA_eq rfl (QA_nil (DNo rfl rfl)))) ?_
    refine D_s (js := [(44, 142), (37, 135)]) (by kernel_rfl) (fun _ _ => QA_eq rfl (QA_eq rfl (QA_nil (DNo rfl rfl)))) ?_
    refine D_s (js := [(45, 143), (37, 135)]) (by kernel_rfl) (fun _ _ => QA_eq rfl (QA_eq rfl (QA_nil (DNo rfl rfl)))) ?_
    refine D_s (js := [(46, 144), (37, 135)]) (by kernel_rfl) (fun _ _ => QA_eq rfl (QA_eq rfl (QA_nil (DNo rfl rfl)))) ?_
    refine D_s (js := [(47, 145), (37, 135)]) (by kernel_rfl) (fun _ _ => QA_eq rfl (QA_eq rfl (QA_nil (DNo rfl rfl)))) ?_
    refine D_s (js := [(42, 140), (48, 146), (37, 135)]) (by kernel_rfl) (fun _ _ => QA_eq rfl (QA_eq rfl (QA_eq rfl (QA_nil (DNo rfl rfl))))) ?_
    refine D_s (js := [(37, 135), (49, 147), (10, 108)]) (by kernel_rfl) (fun _ _ => QA_eq rfl (QA_eq rfl (QA_eq rfl (QA_nil (DNo rfl rfl))))) ?_
    refine D_s (js := [(10, 108), (50, 148), (4, 102)]) (by kernel_rfl) (fun _ _ => QA_eq rfl (QA_eq rfl (QA_eq rfl (QA_nil (DPu T.ok rfl rfl rfl))))) ?_
    refine D_s (js := [(4, 102), (51, 149)]) (by kernel_rfl) (fun _ _ => QA_eq rfl (QA_eq rfl (QA_nil (DPu T.ok rfl rfl rfl)))) ?_
    exact D_nil
   intro g1 hf1; refine QA_eq rfl ?_; refine QA_nil ?_
   replace hs := hs.dr.call hf1; have hqe := (G.le_dr _).trans hf1.le; replace le0 := G.le.trans le0 hqe; replace rs0 := rs0.mono hqe; replace rs1 := rs1.mono hqe
   refine P1 T.ok rfl rfl rfl ?_; refine WL_nil ?_; (with_reducible refine T_then ?_)
   exact W_ret (ret1 rfl rfl (hs.ret rfl))
  | some Y =>
   replace hyok := hyok Y rfl
   obtain ⟨B, kb, kv2, hrl, hs⟩ := hs
   have rs5 := hrl
   clear hrl
   unfold wO at hs
   refine P1 T.ok rfl rfl rfl ?_; refine WL_nil ?_; (with_reducible refine T_then ?_); refine W_seq ?_
   apply W_draw allF rfl (Fact.eq _ :: Fact.eq _ :: Fact.eq _ :: Fact.eq _ :: Fact.eq _ :: Fact.eq _ :: Fact.eq _ :: Fact.eq _ :: Fact.eq _ :: Fact.eq _ :: Fact.eq _ :: Fact.eq _ :: Fact.eq _ :: Fact.eq _ :: Fact.eq _ :: (Fact.rs (Y.recs.map Str.mk)) :: Fact.eq _ :: Fact.eq _ :: Fact.eq _ :: Fact.eq _ :: Fact.eq _ :: Fact.eq _ :: Fact.eq _ :: Fact.eq _ :: Fact.eq _ :: Fact.eq _ :: Fact.eq _ :: Fact.eq _ :: Fact.eq _ :: Fact.eq _ :: Fact.eq _ :: Fact.eq _ :: Fact.eq _ :: Fact.eq _ :: Fact.eq _ :: Fact.eq _ :: Fact.eq _ :: Fact.eq _ :: Fact.eq _ :: Fact.eq _ :: Fact.eq _ :: Fact.eq _ :: (Fact.eq (.string (bs D2.vis))) :: Fact.eq _ :: Fact.eq _ :: Fact.eq _ :: Fact.eq _ :: (Fact.rs D2.vis) :: (Fact.eq (.string (bs D2.vis))) :: Fact.eq _ :: Fact.eq _ :: Fact.eq _ :: Fact.eq _ :: []) 53 [(52, 150)] rfl rfl
   ·refine D_s (js := []) (by kernel_rfl) (fun _ _ => QA_nil (DPu T.ok rfl rfl rfl)) ?_
    refine D_s (js := [(0, 98)]) (by kernel_rfl) (fun _ _ => QA_eq rfl (QA_nil (DPu T.ok rfl rfl rfl))) ?_
    refine D_s (js := [(1, 99)]) (by kernel_rfl) (fun _ _ => QA_eq rfl (QA_nil (DPu T.ok rfl rfl rfl))) ?_
    refine D_s (js := [(1, 99), (2, 100)]) (by kernel_rfl) (fun _ _ => QA_eq rfl (QA_eq rfl (QA_nil (DPu T.ok rfl rfl rfl)))) ?_
    refine D_s (js := [(3, 101)]) (by kernel_rfl) (fun _ _ => QA_eq rfl (QA_nil (DPu T.ok rfl rfl rfl))) ?_
    refine D_s (js := [(4, 102)]) (by kernel_rfl) (fun _ _ => QA_eq rfl (QA_nil (DPu T.ok rfl rfl rfl))) ?_
    refine D_s (js := [(5, 103), (4, 102)]) (by kernel_rfl) (fun _ _ => QA_eq rfl (QA_eq rfl (QA_nil (DPu T.ok rfl rfl rfl)))) ?_
    refine D_s (js := [(6, 104), (4, 102)]) (by kernel_rfl) (fun _ _ => QA_eq rfl (QA_eq rfl (QA_nil (DPu T.ok rfl rfl rfl)))) ?_
    refine D_s (js := [(7, 105), (4, 102)]) (by kernel_rfl) (fun _ hf => QA_eq rfl (QA_eq rfl (QA_nil (DLo T.ok 0 rfl rfl (hs.dr.call hf) rfl rfl rfl rfl)))) ?_
    refine D_cons (D_step2 (js := [(8, 106), (4, 102)]) (by kernel_rfl) fun gd hf => ?_) ?_
    ·have hsd := hs.dr.call hf; have hfe := (G.le_dr _).trans hf.le
     refine QA_eq rfl ?_; refine QA_eq rfl ?_
     refine QA_nil ?_
     refine D_yes rfl ?_
     refine OpR_eqNilPtr T.ok (neg := false) rfl rfl rfl rfl rfl ?_
     exact ⟨_, rfl, Fr0.refl _, rfl⟩
    refine D_s (js := [(9, 107), (4, 102), (4, 102)]) (by kernel_rfl) (fun _ _ => QA_eq rfl (QA_eq rfl (QA_eq rfl (QA_nil (DPu T.ok rfl rfl rfl))))) ?_
    refine D_s (js := [(10, 108)]) (by kernel_rfl) (fun _ _ => QA_eq rfl (QA_nil (DPu T.ok rfl rfl rfl))) ?_
    refine D_s (js := [(11, 109), (10, 108)]) (by kernel_rfl) (fun _ _ => QA_eq rfl (QA_eq rfl (QA_nil (DPu T.ok rfl rfl rfl)))) ?_
    refine D_s (js := [(12, 110), (10, 108)]) (by kernel_rfl) (fun _ _ => QA_eq rfl (QA_eq rfl (QA_nil (DPu T.ok rfl rfl rfl)))) ?_
    refine D_s (js := [(13, 111), (10, 108)]) (by kernel_rfl) (fun _ hf => QA_eq rfl (QA_eq rfl (QA_nil (DLo T.ok 0 rfl rfl (hs.dr.call hf) rfl rfl rfl rfl)))) ?_
    refine D_cons (D_step2 (js := [(14, 112), (10, 108), (10, 108)]) (by kernel_rfl) fun gd hf => ?_) ?_
    ·have hsd := hs.dr.call hf; have hfe := (G.le_dr _).trans hf.le
     refine QA_eq rfl ?_; refine QA_eq rfl ?_; refine QA_eq rfl ?_
     refine QA_nil ?_
     refine D_yes rfl ?_
     refine OpR_ret cl19 allF rfl rfl rfl rfl rfl (records_c (B := B) (A := ⟨A3.b, A3.bd, A3.bv, pa, pc⟩) (br := false) hyok (St.arr (L := L3) [[wO bw A3.b R3.b (.pointer (some ⟨B.b, 0, none⟩)) (.pointer (some ⟨kb, 0, none⟩))], jnL B ⟨A3.b, A3.bd, A3.bv, pa, pc⟩ false Y, dkL ⟨A3.b, A3.bd, A3.bv, pa, pc⟩ D2, [kjO kb R3.b kv2 false Y], rkL ⟨R3.b, bd, dp, dc, pa2, pc2⟩ D2] [1, 0, 2, 3, 4] rfl hsd)) fun g' v h1 h2 => ?_
     obtain ⟨g2, hw2, hs2, hle2, hrs⟩ := (St.start gd).ownRs h1 h2
     exact ⟨g2, hw2, hs2.fr0, hrs⟩
    refine D_s (js := [(10, 108)]) (by kernel_rfl) (fun _ _ => QA_eq rfl (QA_nil (DPu T.ok rfl rfl rfl))) ?_
    refine D_s (js := [(16, 114), (10, 108)]) (by kernel_rfl) (fun _ _ => QA_eq rfl (QA_eq rfl (QA_nil (DPu T.ok rfl rfl rfl)))) ?_
    refine D_s (js := [(17, 115), (10, 108)]) (by kernel_rfl) (fun _ _ => QA_eq rfl (QA_eq rfl (QA_nil (DPu T.ok rfl rfl rfl)))) ?_
    refine D_s (js := [(18, 116), (10, 108)]) (by kernel_rfl) (fun _ hf => QA_eq rfl (QA_eq rfl (QA_nil (DLo T.ok 0 rfl rfl (hs.dr.call hf) rfl rfl rfl rfl)))) ?_
    refine D_s (js := [(19, 117), (10, 108)]) (by kernel_rfl) (fun _ _ => QA_eq rfl (QA_eq rfl (QA_nil (DPu T.ok rfl rfl rfl)))) ?_
    refine D_s (js := [(20, 118), (10, 108)]) (by kernel_rfl) (fun _ _ => QA_eq rfl (QA_eq rfl (QA_nil (DPu T.ok rfl rfl rfl)))) ?_
    refine D_cons (D_step2 (js := [(21, 119), (10, 108)]) (by kernel_rfl) fun gd hf => ?_) ?_
    ·have hsd := hs.dr.call hf; have hfe := (G.le_dr _).trans hf.le
     refine QA_eq rfl ?_; refine QA_eq rfl ?_
     refine QA_nil ?_
     refine D_yes rfl ?_
     refine OpR_loadO T.ok 0 rfl (St.arr (L := L3) [[wO bw A3.b R3.b (.pointer (some ⟨B.b, 0, none⟩)) (.pointer (some ⟨kb, 0, none⟩))], jnL B ⟨A3.b, A3.bd, A3.bv, pa, pc⟩ false Y, dkL ⟨A3.b, A3.bd, A3.bv, pa, pc⟩ D2, [kjO kb R3.b kv2 false Y], rkL ⟨R3.b, bd, dp, dc, pa2, pc2⟩ D2] [3, 0, 1, 2, 4] rfl hsd) rfl rfl rfl ?_
     exact ⟨_, rfl, Fr0.refl _, rfl⟩
    refine D_cons (D_step2 (js := [(15, 113), (22, 120), (15, 113), (10, 108)]) (by kernel_rfl) fun gd hf => ?_) ?_
    ·have hsd := hs.dr.call hf; have hfe := (G.le_dr _).trans hf.le
     refine QA_any fun v15 h15 => ?_; refine QA_eq rfl ?_; refine QA_any fun v15 h15 => ?_; refine QA_eq rfl ?_
     refine QA_nil ?_
     refine D_yes rfl ?_
     refine OpR_ret cl18 allF rfl rfl rfl rfl rfl (same_c _ _ _ _ gd h15 (rs5.mono hfe)) fun g' v h1 h2 => ?_
     obtain ⟨b, rfl, hb⟩ := h2
     obtain rfl := hb.2 rfl
     exact ⟨g', rfl, h1, rfl⟩
    refine D_s (js := [(23, 121), (23, 121), (10, 108)]) (by kernel_rfl) (fun _ _ => QA_eq rfl (QA_eq rfl (QA_eq rfl (QA_nil (DPu T.ok rfl rfl rfl))))) ?_
    refine D_s (js := [(24, 122)]) (by kernel_rfl) (fun _ _ => QA_eq rfl (QA_nil (DPu T.ok rfl rfl rfl))) ?_
    refine D_s (js := [(25, 123), (24, 122)]) (by kernel_rfl) (fun _ _ => QA_eq rfl (QA_eq rfl (QA_nil (DPu T.ok rfl rfl rfl)))) ?_
    refine D_s (js := [(26, 124), (24, 122)]) (by kernel_rfl) (fun _ _ => QA_eq rfl (QA_eq rfl (QA_nil (DPu T.ok rfl rfl rfl)))) ?_
    refine D_s (js := [(27, 125), (24, 122)]) (by kernel_rfl) (fun _ hf => QA_eq rfl (QA_eq rfl (QA_nil (DLo T.ok 0 rfl rfl (hs.dr.call hf) rfl rfl rfl rfl)))) ?_
    refine D_cons (D_step2 (js := [(28, 126), (24, 122), (24, 122)]) (by kernel_rfl) fun gd hf => ?_) ?_
    ·have hsd := hs.dr.call hf; have hfe := (G.le_dr _).trans hf.le
     refine QA_eq rfl ?_; refine QA_eq rfl ?_; refine QA_eq rfl ?_
     refine QA_nil ?_
     refine D_yes rfl ?_
     refine OpR_ret cl20 allF rfl rfl rfl rfl rfl (room_c (B := B) (A := ⟨A3.b, A3.bd, A3.bv, pa, pc⟩) (br := false) hD2 hyok (St.arr (L := L3) [[wO bw A3.b R3.b (.pointer (some ⟨B.b, 0, none⟩)) (.pointer (some ⟨kb, 0, none⟩))], jnL B ⟨A3.b, A3.bd, A3.bv, pa, pc⟩ false Y, dkL ⟨A3.b, A3.bd, A3.bv, pa, pc⟩ D2, [kjO kb R3.b kv2 false Y], rkL ⟨R3.b, bd, dp, dc, pa2, pc2⟩ D2] [1, 2, 0, 3, 4] rfl hsd)) fun g' v h1 h2 => ⟨g', rfl, h1, ?_⟩
     exact h2
    refine D_s (js := [(24, 122)]) (by kernel_rfl) (fun _ _ => QA_eq rfl (QA_nil (DPu T.ok rfl rfl rfl))) ?_
    refine D_s (js := [(30, 128), (24, 122)]) (by kernel_rfl) (fun _ _ => QA_eq rfl (QA_eq rfl (QA_nil (DPu T.ok rfl rfl rfl)))) ?_
    refine D_s (js := [(31, 129), (24, 122)]) (by kernel_rfl) (fun _ _ => QA_eq rfl (QA_eq rfl (QA_nil (DPu T.ok rfl rfl rfl)))) ?_
    refine D_s (js := [(32, 130), (24, 122)]) (by kernel_rfl) (fun _ hf => QA_eq rfl (QA_eq rfl (QA_nil (DLo T.ok 0 rfl rfl (hs.dr.call hf) rfl rfl rfl rfl)))) ?_
    refine D_cons (D_step2 (js := [(33, 131), (24, 122)]) (by kernel_rfl) fun gd hf => ?_) ?_
    ·have hsd := hs.dr.call hf; have hfe := (G.le_dr _).trans hf.le
     refine QA_eq rfl ?_; refine QA_eq rfl ?_
     refine QA_nil ?_
     refine D_yes rfl ?_
     refine OpR_ret cl21 allF rfl rfl rfl rfl rfl (rroom_c (b := kb) (A := ⟨R3.b, bd, dp, dc, pa2, pc2⟩) (v := kv2) (br := false) (Y := Y) (D := D2) hD2.le hyok.size (St.arr (L := L3) [[wO bw A3.b R3.b (.pointer (some ⟨B.b, 0, none⟩)) (.pointer (some ⟨kb, 0, none⟩))], jnL B ⟨A3.b, A3.bd, A3.bv, pa, pc⟩ false Y, dkL ⟨A3.b, A3.bd, A3.bv, pa, pc⟩ D2, [kjO kb R3.b kv2 false Y], rkL ⟨R3.b, bd, dp, dc, pa2, pc2⟩ D2] [3, 4, 0, 1, 2] rfl hsd)) fun g' v h1 h2 => ⟨g', rfl, h1, ?_⟩
     exact h2
    refine D_cons (D_step2 (js := [(29, 127), (34, 132), (24, 122)]) (by kernel_rfl) fun gd hf => ?_) ?_
    ·have hsd := hs.dr.call hf; have hfe := (G.le_dr _).trans hf.le
     refine QA_eq rfl ?_; refine QA_eq rfl ?_; refine QA_eq rfl ?_
     refine QA_nil ?_
     refine D_yes rfl ?_
     refine OpR_pure _ T.ok rfl ?_
     refine ⟨_, rfl, Fr0.refl _, ?_⟩
     exact congrArg Value.bool (beq_self_eq_true _)
    refine D_s (js := [(24, 122), (35, 133), (10, 108)]) (by kernel_rfl) (fun _ _ => QA_eq rfl (QA_eq rfl (QA_eq rfl (QA_nil (DPu T.ok rfl rfl rfl))))) ?_
    refine D_s (js := [(36, 134), (10, 108)]) (by kernel_rfl) (fun _ _ => QA_eq rfl (QA_eq rfl (QA_nil (DPu T.ok rfl rfl rfl)))) ?_
    refine D_s (js := [(37, 135)]) (by kernel_rfl) (fun _ _ => QA_eq rfl (QA_nil (DPu T.ok rfl rfl rfl))) ?_
    refine D_s (js := [(38, 136), (37, 135)]) (by kernel_rfl) (fun _ _ => QA_eq rfl (QA_eq rfl (QA_nil (DPu T.ok rfl rfl rfl)))) ?_
    refine D_s (js := [(39, 137), (37, 135)]) (by kernel_rfl) (fun _ _ => QA_eq rfl (QA_eq rfl (QA_nil (DPu T.ok rfl rfl rfl)))) ?_
    refine D_s (js := [(40, 138), (37, 135)]) (by kernel_rfl) (fun _ hf => QA_eq rfl (QA_eq rfl (QA_nil (DLo T.ok 0 rfl rfl (hs.dr.call hf) rfl rfl rfl rfl)))) ?_
    refine D_cons (D_step2 (js := [(41, 139), (37, 135), (37, 135)]) (by kernel_rfl) fun gd hf => ?_) ?_
    ·have hsd := hs.dr.call hf; have hfe := (G.le_dr _).trans hf.le
     refine QA_eq rfl ?_; refine QA_eq rfl ?_; refine QA_eq rfl ?_
     refine QA_nil ?_
     refine D_yes rfl ?_
     refine OpR_ret cl22 allF rfl rfl rfl rfl rfl (content_c (A := ⟨A3.b, A3.bd, A3.bv, pa, pc⟩) (D := D2) hD2 (St.arr (L := L3) [[wO bw A3.b R3.b (.pointer (some ⟨B.b, 0, none⟩)) (.pointer (some ⟨kb, 0, none⟩))], jnL B ⟨A3.b, A3.bd, A3.bv, pa, pc⟩ false Y, dkL ⟨A3.b, A3.bd, A3.bv, pa, pc⟩ D2, [kjO kb R3.b kv2 false Y], rkL ⟨R3.b, bd, dp, dc, pa2, pc2⟩ D2] [2, 0, 1, 3, 4] rfl hsd)) fun g' v h1 h2 => ⟨g', rfl, h1, ?_⟩
     rw [hoff2, if_neg (by simp)] at h2
     exact h2
    refine D_s (js := [(37, 135)]) (by kernel_rfl) (fun _ _ => QA_eq rfl (QA_nil (DPu T.ok rfl rfl rfl))) ?_
    refine D_s (js := [(43, 141), (37, 135)]) (by kernel_rfl) (fun _ _ => QA_eq rfl (QA_eq rfl (QA_nil (DPu T.ok rfl rfl rfl)))) ?_
    refine D_s (js := [(44, 142), (37, 135)]) (by kernel_rfl) (fun _ _ => QA_eq rfl (QA_eq rfl (QA_nil (DPu T.ok rfl rfl rfl)))) ?_
    refine D_s (js := [(45, 143), (37, 135)]) (by kernel_rfl) (fun _ hf => QA_eq rfl (QA_eq rfl (QA_nil (DLo T.ok 0 rfl rfl (hs.dr.call hf) rfl rfl rfl rfl)))) ?_
    refine D_cons (D_step2 (js := [(46, 144), (37, 135)]) (by kernel_rfl) fun gd hf => ?_) ?_
    ·have hsd := hs.dr.call hf; have hfe := (G.le_dr _).trans hf.le
     refine QA_eq rfl ?_; refine QA_eq rfl ?_
     refine QA_nil ?_
     refine D_yes rfl ?_
     refine OpR_ret cl23 allF rfl rfl rfl rfl rfl (rvis_c (A := ⟨R3.b, bd, dp, dc, pa2, pc2⟩) hD2 hR2 (St.arr (L := L3) [[wO bw A3.b R3.b (.pointer (some ⟨B.b, 0, none⟩)) (.pointer (some ⟨kb, 0, none⟩))], jnL B ⟨A3.b, A3.bd, A3.bv, pa, pc⟩ false Y, dkL ⟨A3.b, A3.bd, A3.bv, pa, pc⟩ D2, [kjO kb R3.b kv2 false Y], rkL ⟨R3.b, bd, dp, dc, pa2, pc2⟩ D2] [4, 0, 1, 2, 3] rfl hsd)) fun g' v h1 h2 => ?_
     obtain ⟨g2, hw2, hs2, hle2, hrs⟩ := (St.start gd).ownRs h1 h2
     exact ⟨g2, hw2, hs2.fr0, hrs⟩
    refine D_cons (D_step2 (js := [(47, 145), (37, 135)]) (by kernel_rfl) fun gd hf => ?_) ?_
    ·have hsd := hs.dr.call hf; have hfe := (G.le_dr _).trans hf.le
     refine QA_any fun v47 h47 => ?_; refine QA_eq rfl ?_
     refine QA_nil ?_
     obtain ⟨ax, cx, rfl⟩ := Rs.isSlice h47
     obtain ⟨_, news, hnw, hsrc⟩ := Src.of_rs h47
     obtain rfl := RcL.bytes_inv hnw
     have hsr2 : Src gd.w ax D2.vis.length 1 ((D2.vis.map fun b => (b.toNat : Int)).map (Value.int .u8)) := by
      rw [List.map_map]; exact hsrc
     refine D_yes rfl ?_
     refine OpR_bytesStr (ns := D2.vis.map fun b => (b.toNat : Int)) T.ok rfl rfl rfl rfl rfl rfl rfl rfl hsr2 ?_
     refine ⟨_, rfl, Fr0.refl _, ?_⟩
     show Value.string _ = _
     rw [bytesL]
    refine D_cons (D_step2 (js := [(42, 140), (48, 146), (37, 135)]) (by kernel_rfl) fun gd hf => ?_) ?_
    ·have hsd := hs.dr.call hf; have hfe := (G.le_dr _).trans hf.le
     refine QA_any fun v42 h42 => ?_; refine QA_any fun v48 h48 => ?_; refine QA_eq rfl ?_
     refine QA_nil ?_
     obtain rfl := h42
     obtain rfl := h48
     refine D_yes rfl ?_
     refine OpR_eqS (neg := false) rfl rfl rfl ?_
     refine ⟨_, rfl, Fr0.refl _, ?_⟩
     exact congrArg Value.bool (show (false != (D2.vis == D2.vis)) = true by simp)
    refine D_s (js := [(37, 135), (49, 147), (10, 108)]) (by kernel_rfl) (fun _ _ => QA_eq rfl (QA_eq rfl (QA_eq rfl (QA_nil (DPu T.ok rfl rfl rfl))))) ?_
    refine D_s (js := [(10, 108), (50, 148), (4, 102)]) (by kernel_rfl) (fun _ _ => QA_eq rfl (QA_eq rfl (QA_eq rfl (QA_nil (DPu T.ok rfl rfl rfl))))) ?_
    refine D_s (js := [(4, 102), (51, 149)]) (by kernel_rfl) (fun _ _ => QA_eq rfl (QA_eq rfl (QA_nil (DPu T.ok rfl rfl rfl)))) ?_
    exact D_nil
   intro g1 hf1; refine QA_eq rfl ?_; refine QA_nil ?_
   replace hs := hs.dr.call hf1; have hqe := (G.le_dr _).trans hf1.le; replace le0 := G.le.trans le0 hqe; replace rs0 := rs0.mono hqe; replace rs1 := rs1.mono hqe; replace rs5 := rs5.mono hqe
   refine P1 T.ok rfl rfl rfl ?_; refine WL_nil ?_; (with_reducible refine T_then ?_)
   exact W_ret (ret1 rfl rfl (hs.ret rfl))
end Go.Proofs.YteohjgndanlldaaGreatDoor
