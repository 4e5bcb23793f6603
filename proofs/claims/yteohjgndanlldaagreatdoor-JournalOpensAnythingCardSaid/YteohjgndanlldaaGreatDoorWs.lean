/- The law's world: both journals, each on its disk. -/
import Derived.Test.YteohjgndanlldaaGreatDoorWr
import Derived.Test.YteohjgndanlldaaGreatDoorWj
import Derived.Test.YteohjgndanlldaaGreatDoorKj

/- The law's world: two journals, each on its disk; open. -/
namespace Go.Proofs.YteohjgndanlldaaGreatDoor
open Go Go.K
set_option maxRecDepth 10000
attribute [local irreducible] W WL OpR bitAnd bitOr bitXor bitClr bitNot shlI shrI
set_option maxHeartbeats 1000000

theorem foldr_flatten : ∀ (Bs : List (List Ent)) (L : List Ent), Bs.foldr (· ++ ·) L = Bs.flatten ++ L
 | [], _ => rfl
 | X :: Bs, L => by rw [List.foldr_cons, foldr_flatten Bs L, List.flatten_cons, List.append_assoc]
/-- The blocks of what is owned, arranged anew. -/
theorem St.arr {g0 g : G} {L : List Ent} (Bs : List (List Ent)) (p : List Nat) (hp : p.isPerm (List.range Bs.length) = true) (hs : St g0 g (Bs.foldr (· ++ ·) L)) : St g0 g ((p.map fun i => Bs.getD i []).foldr (· ++ ·) L) := by
 have h1 : ((List.range Bs.length).map fun i => Bs.getD i []) = Bs := by
  apply List.ext_getElem
  ·simp
  ·intro i h1 h2
   simp only [List.getElem_map, List.getElem_range]
   rw [List.getD_eq_getElem?_getD, List.getElem?_eq_getElem h2]; rfl
 have h2 : Bs.Perm (p.map fun i => Bs.getD i []) := by
  have h3 := (List.isPerm_iff.1 hp).map (fun i => Bs.getD i [])
  rw [h1] at h3
  exact h3.symm
 refine hs.perm ?_
 rw [foldr_flatten, foldr_flatten]
 exact (List.Perm.flatten h2).append_right _

def wO (bw ab rb : Nat) (jv kv : Value) : Ent := .obj bw (.cells [.pointer (some ⟨ab, 0, none⟩), jv, .pointer (some ⟨rb, 0, none⟩), kv].toArray 32 (0, 0))
theorem openM_err (D : DiskM) : ((openM D).1 = none → (openM D).2.2 ≠ 0) ∧ ∀ Y, (openM D).1 = some Y → (openM D).2.2 = 0 := by
 unfold openM
 split
 ·exact ⟨fun _ => (by show (241 : Int) ≠ 0; decide), fun Y h => (by cases h)⟩
 ·split
  ·exact ⟨fun _ => (by show (252 : Int) ≠ 0; decide), fun Y h => (by cases h)⟩
  ·split
   ·exact ⟨fun h => (by cases h), fun _ _ => rfl⟩
   ·split
    ·exact ⟨fun h => (by cases h), fun _ _ => rfl⟩
    ·rename_i h
     exact ⟨fun _ => h, fun Y h => (by cases h)⟩

def wopenRes (bw : Nat) (A : DkA) (R : RkA) (D : DiskM) (L : List Ent) (g0 g' : G) : Prop :=
 (openM D).2.1.ok ∧ (openM D).2.1.dur.length = D.dur.length ∧ (openM D).2.1.pend.length ≤ D.pend.length + 4 ∧ ∃ pa pc bd dp dc pa2 pc2, match (openM D).1 with
 | some Y => ∃ (B : JnA) (kb : Nat) (kv : Value), Rs g' kv (Y.recs.map Str.mk) ∧ St g0 g' (wO bw A.b R.b (.pointer (some ⟨B.b, 0, none⟩)) (.pointer (some ⟨kb, 0, none⟩)) :: (jnL B ⟨A.b, A.bd, A.bv, pa, pc⟩ false Y ++ (dkL ⟨A.b, A.bd, A.bv, pa, pc⟩ (openM D).2.1 ++ (kjO kb R.b kv false Y :: (rkL ⟨R.b, bd, dp, dc, pa2, pc2⟩ (openM D).2.1 ++ L)))))
 | none => St g0 g' (wO bw A.b R.b (.pointer none) (.pointer none) :: (dkL ⟨A.b, A.bd, A.bv, pa, pc⟩ (openM D).2.1 ++ (rkL ⟨R.b, bd, dp, dc, pa2, pc2⟩ (openM D).2.1 ++ L)))

theorem wopen_c {bw : Nat} {A : DkA} {R : RkA} {D : DiskM} {jv kv : Value} (hD : D.ok) (hR : RefOk D) (hp : D.pend.length ≤ 999990) {e : Addr} {g0 g : G} {L : List Ent} (hrk : RoundAt g) (hE : ErrAt e g) (hs : St g0 g (wO bw A.b R.b jv kv :: (dkL A D ++ (rkL R D ++ L)))) :
  CallsIn Wd 0 Tryz.prog 17 #[.pointer (some ⟨bw, 0, none⟩)] g.w (RetS g fun g' r => r = .bool true ∧ wopenRes bw A R D L g0 g') := by
 have le0 := G.le.refl g
 have herr := openM_err D
 refine enter Tryz.func17 rfl Tryz.ntmps17 rfl ?_
 unfold wO at hs
 refine W_seq ?_; refine W_region ?_; refine P1 T.ok rfl rfl rfl ?_; refine WL_nil ?_; (with_reducible refine T_then ?_); refine W_seq ?_; refine W_region ?_; (iterate 3 refine P1 T.ok rfl rfl rfl ?_); refine WL_o rfl rfl (OpR_loadO T.ok 0 rfl hs rfl rfl rfl ?_)
 have hcall := jopen_c hD hp hrk hE (St.arr [[wO bw A.b R.b jv kv], dkL A D, rkL R D] [1, 0, 2] rfl hs)
 refine WL_o rfl rfl (OpR_st cl25 allF rfl rfl rfl rfl rfl hcall ?_)
 clear hs hcall
 rintro g1 r hqe hpo; replace le0 := G.le.trans le0 hqe
 unfold openRes at hpo
 unfold wopenRes
 cases hom : openM D with
 | mk o rest =>
 obtain ⟨D', er⟩ := rest
 rw [hom] at herr
 cases o with
 | some Y =>
  obtain rfl : er = 0 := herr.2 Y rfl
  rw [hom] at hpo
  obtain ⟨hok, hdl, hpl, pa, pc, B, rfl, hs⟩ := hpo
  dsimp only at hok hdl hpl hs
  replace hs := St.arr [jnL B ⟨A.b, A.bd, A.bv, pa, pc⟩ false Y, dkL ⟨A.b, A.bd, A.bv, pa, pc⟩ D', [wO bw A.b R.b jv kv], rkL R D] [2, 0, 1, 3] rfl hs
  replace hs : St g0 g1 (wO bw A.b R.b jv kv :: (jnL B ⟨A.b, A.bd, A.bv, pa, pc⟩ false Y ++ (dkL ⟨A.b, A.bd, A.bv, pa, pc⟩ D' ++ (rkL R D ++ L)))) := hs
  unfold wO at hs
  (iterate 5 refine P1 T.ok rfl rfl rfl ?_); refine WL_nil ?_; (with_reducible refine T_then ?_); refine W_seq ?_; refine W_region ?_; (iterate 3 refine P1 T.ok rfl rfl rfl ?_); refine WL_o rfl rfl (OpR_loadO T.ok 0 rfl hs rfl rfl rfl ?_)
  have hcall := ropen_c hD hR hp (St.arr [[wO bw A.b R.b jv kv], jnL B ⟨A.b, A.bd, A.bv, pa, pc⟩ false Y, dkL ⟨A.b, A.bd, A.bv, pa, pc⟩ D', rkL R D] [3, 0, 1, 2] rfl hs)
  refine WL_o rfl rfl (OpR_st cl50 allF rfl rfl rfl rfl rfl hcall ?_)
  clear hs hcall
  rintro g2 r hqe hpo; replace le0 := G.le.trans le0 hqe
  unfold ropenRes at hpo
  rw [hom] at hpo
  obtain ⟨bd, dp, dc, pa2, pc2, kb, kv2, rfl, hrl, hs⟩ := hpo
  have rs5 := hrl
  clear hrl
  dsimp only at hs
  replace hs := St.arr [[kjO kb R.b kv2 false Y], rkL ⟨R.b, bd, dp, dc, pa2, pc2⟩ D', [wO bw A.b R.b jv kv], jnL B ⟨A.b, A.bd, A.bv, pa, pc⟩ false Y, dkL ⟨A.b, A.bd, A.bv, pa, pc⟩ D'] [2, 3, 4, 0, 1] rfl hs
  replace hs : St g0 g2 (wO bw A.b R.b jv kv :: (jnL B ⟨A.b, A.bd, A.bv, pa, pc⟩ false Y ++ (dkL ⟨A.b, A.bd, A.bv, pa, pc⟩ D' ++ (kjO kb R.b kv2 false Y :: (rkL ⟨R.b, bd, dp, dc, pa2, pc2⟩ D' ++ L))))) := hs
  unfold wO at hs
  (iterate 5 refine P1 T.ok rfl rfl rfl ?_); refine WL_nil ?_; (with_reducible refine T_then ?_); refine W_seq ?_; refine W_region ?_; (iterate 4 refine P1 T.ok rfl rfl rfl ?_)
  refine WL_n rfl (OpR_storeO T.ok 0 rfl hs rfl rfl rfl rfl rfl rfl rfl rfl rfl ?_); replace hs := hs; rintro g1 hs hqe; replace le0 := G.le.trans le0 hqe; replace rs5 := rs5.mono hqe
  refine WL_nil ?_; (with_reducible refine T_then ?_); refine W_seq ?_; refine W_region ?_; (iterate 4 refine P1 T.ok rfl rfl rfl ?_)
  refine WL_n rfl (OpR_storeO T.ok 0 rfl hs rfl rfl rfl rfl rfl rfl rfl rfl rfl ?_); replace hs := hs; rintro g1 hs hqe; replace le0 := G.le.trans le0 hqe; replace rs5 := rs5.mono hqe
  refine WL_nil ?_; (with_reducible refine T_then ?_); refine W_seq ?_; refine W_region ?_; (iterate 7 refine P1 T.ok rfl rfl rfl ?_)
  refine WL_o rfl rfl (OpR_eqNilPtr T.ok (neg := false) rfl rfl rfl rfl rfl ?_)
  skip
  refine WL_o rfl rfl (OpR_eqB T.ok (neg := false) rfl rfl rfl rfl rfl ?_)
  refine P1 T.ok rfl rfl rfl ?_; refine P1 T.ok rfl rfl rfl ?_; refine WL_nil ?_; (with_reducible refine T_then ?_)
  exact W_ret (ret1 rfl rfl (RetS.intro le0 ⟨rfl, hok, hdl, hpl, pa, pc, bd, dp, dc, pa2, pc2, B, kb, kv2, rs5, hs⟩))
 | none =>
  have hne : er ≠ 0 := herr.1 rfl
  rw [hom] at hpo
  obtain ⟨hok, hdl, hpl, pa, pc, rfl, hs⟩ := hpo
  dsimp only at hok hdl hpl hs
  replace hs := St.arr [dkL ⟨A.b, A.bd, A.bv, pa, pc⟩ D', [wO bw A.b R.b jv kv], rkL R D] [1, 0, 2] rfl hs
  replace hs : St g0 g1 (wO bw A.b R.b jv kv :: (dkL ⟨A.b, A.bd, A.bv, pa, pc⟩ D' ++ (rkL R D ++ L))) := hs
  unfold wO at hs
  (iterate 5 refine P1 T.ok rfl rfl rfl ?_); refine WL_nil ?_; (with_reducible refine T_then ?_); refine W_seq ?_; refine W_region ?_; (iterate 3 refine P1 T.ok rfl rfl rfl ?_); refine WL_o rfl rfl (OpR_loadO T.ok 0 rfl hs rfl rfl rfl ?_)
  have hcall := ropen_c hD hR hp (St.arr [[wO bw A.b R.b jv kv], dkL ⟨A.b, A.bd, A.bv, pa, pc⟩ D', rkL R D] [2, 0, 1] rfl hs)
  refine WL_o rfl rfl (OpR_st cl50 allF rfl rfl rfl rfl rfl hcall ?_)
  clear hs hcall
  rintro g2 r hqe hpo; replace le0 := G.le.trans le0 hqe
  unfold ropenRes at hpo
  rw [hom] at hpo
  obtain ⟨bd, dp, dc, pa2, pc2, rfl, hs⟩ := hpo
  dsimp only at hs
  replace hs := St.arr [rkL ⟨R.b, bd, dp, dc, pa2, pc2⟩ D', [wO bw A.b R.b jv kv], dkL ⟨A.b, A.bd, A.bv, pa, pc⟩ D'] [1, 2, 0] rfl hs
  replace hs : St g0 g2 (wO bw A.b R.b jv kv :: (dkL ⟨A.b, A.bd, A.bv, pa, pc⟩ D' ++ (rkL ⟨R.b, bd, dp, dc, pa2, pc2⟩ D' ++ L))) := hs
  unfold wO at hs
  (iterate 5 refine P1 T.ok rfl rfl rfl ?_); refine WL_nil ?_; (with_reducible refine T_then ?_); refine W_seq ?_; refine W_region ?_; (iterate 4 refine P1 T.ok rfl rfl rfl ?_)
  refine WL_n rfl (OpR_storeO T.ok 0 rfl hs rfl rfl rfl rfl rfl rfl rfl rfl rfl ?_); replace hs := hs; rintro g1 hs hqe; replace le0 := G.le.trans le0 hqe
  refine WL_nil ?_; (with_reducible refine T_then ?_); refine W_seq ?_; refine W_region ?_; (iterate 4 refine P1 T.ok rfl rfl rfl ?_)
  refine WL_n rfl (OpR_storeO T.ok 0 rfl hs rfl rfl rfl rfl rfl rfl rfl rfl rfl ?_); replace hs := hs; rintro g1 hs hqe; replace le0 := G.le.trans le0 hqe
  refine WL_nil ?_; (with_reducible refine T_then ?_); refine W_seq ?_; refine W_region ?_; (iterate 4 refine P1 T.ok rfl rfl rfl ?_)
  refine WL_know 34 (b := er == er) (b' := true) (by simp) rfl ?_
  (iterate 3 refine P1 T.ok rfl rfl rfl ?_)
  refine WL_o rfl rfl (OpR_eqNilPtr T.ok (neg := false) rfl rfl rfl rfl rfl ?_)
  skip
  refine WL_o rfl rfl (OpR_eqB T.ok (neg := false) rfl rfl rfl rfl rfl ?_)
  refine P1 T.ok rfl rfl rfl ?_; refine P1 T.ok rfl rfl rfl ?_; refine WL_nil ?_; (with_reducible refine T_then ?_)
  have hx : (er != 0) = true := by simpa using hne
  refine W_ret (ret1 rfl rfl (RetS.intro le0 ⟨?_, hok, hdl, hpl, pa, pc, bd, dp, dc, pa2, pc2, hs⟩))
  rw [hx]; rfl
end Go.Proofs.YteohjgndanlldaaGreatDoor

/- The law's world: begin. -/
namespace Go.Proofs.YteohjgndanlldaaGreatDoor
open Go Go.K
set_option maxRecDepth 10000
attribute [local irreducible] W WL OpR bitAnd bitOr bitXor bitClr bitNot shlI shrI
set_option maxHeartbeats 1000000

def beginRes (n : Int) (g0 g' : G) (L : List Ent) (r : Value) : Prop := ∃ (bw : Nat) (A : DkA) (R : RkA) (B : JnA) (kb : Nat) (kv : Value),
 r = .tuple #[.pointer (some ⟨bw, 0, none⟩), .bool true] ∧ Rs g' kv (([] : List (List UInt8)).map Str.mk) ∧
 St g0 g' (wO bw A.b R.b (.pointer (some ⟨B.b, 0, none⟩)) (.pointer (some ⟨kb, 0, none⟩)) :: (jnL B A false tape0 ++ (dkL A (DiskM.new (sizeM n)) ++ (kjO kb R.b kv false tape0 :: (rkL R (DiskM.new (sizeM n)) ++ L)))))
theorem begin_c (n : Int) (hn : I64 n) {e : Addr} {g0 g : G} {L : List Ent} (hrk : RoundAt g) (hE : ErrAt e g) (hs : St g0 g L) :
  CallsIn Wd 0 Tryz.prog 9 #[.int .i64 n] g.w (RetS g fun g' r => beginRes n g0 g' L r) := by
 have le0 := G.le.refl g
 refine enter Tryz.func9 rfl Tryz.ntmps9 rfl ?_
 have hsz := sizeM_range n
 have hsc := fun gq : G => size_c n gq hn
 unfold beginRes
 generalize sizeM n = Z at *
 refine W_seq ?_; refine W_region ?_; refine P1 T.ok rfl rfl rfl ?_; refine P1 T.ok rfl rfl rfl ?_; refine WL_nil ?_; (with_reducible refine T_then ?_); refine W_seq ?_; refine W_region ?_; refine P1 T.ok rfl rfl rfl ?_
 refine WL_o rfl rfl (OpR_ret cl15 allF rfl rfl rfl rfl rfl (hsc _) ?_); rintro g1 _ hf1 rfl; replace hs := hs.call hf1; have hqe := hf1.le; replace le0 := G.le.trans le0 hqe
 skip
 refine WL_o rfl rfl (OpR_st cl24 allF rfl rfl rfl rfl rfl (dnew_c (n := Z) hsz.1 (by omega) hs) ?_)
 clear hs
 rintro g1 _ hqe ⟨A, rfl, hs⟩; replace le0 := G.le.trans le0 hqe
 (iterate 5 refine P1 T.ok rfl rfl rfl ?_); refine WL_nil ?_; (with_reducible refine T_then ?_); refine W_seq ?_; refine W_region ?_; refine P1 T.ok rfl rfl rfl ?_
 refine WL_o rfl rfl (OpR_ret cl15 allF rfl rfl rfl rfl rfl (hsc _) ?_); rintro g1 _ hf1 rfl; replace hs := hs.call hf1; have hqe := hf1.le; replace le0 := G.le.trans le0 hqe
 skip
 refine WL_o rfl rfl (OpR_st cl33 allF rfl rfl rfl rfl rfl (rnew_c (n := Z) hsz.1 (by omega) hs) ?_)
 clear hs
 rintro g2 _ hqe ⟨R, rfl, hs⟩; replace le0 := G.le.trans le0 hqe
 (iterate 5 refine P1 T.ok rfl rfl rfl ?_); refine WL_nil ?_; (with_reducible refine T_then ?_); refine W_seq ?_; refine W_region ?_; refine P1 T.ok rfl rfl rfl ?_; refine P1 T.ok rfl rfl rfl ?_
 refine WL_o rfl rfl (OpR_build T.ok rfl (vs := [(0, .pointer (some ⟨A.b, 0, none⟩)), (2, .pointer (some ⟨R.b, 0, none⟩))]) (cells := [.pointer (some ⟨A.b, 0, none⟩), .pointer none, .pointer (some ⟨R.b, 0, none⟩), .pointer none]) rfl rfl rfl rfl [(0, 1), (1, 1), (2, 1), (3, 1)] rfl (by kernel_rfl) ?_)
 skip
 refine WL_o rfl rfl (OpR_box rfl hs rfl rfl ?_); clear hs; rintro bw g1 hs hqe; replace le0 := G.le.trans le0 hqe
 refine P1 T.ok rfl rfl rfl ?_; refine WL_nil ?_; (with_reducible refine T_then ?_); refine W_seq ?_; refine W_region ?_; refine P1 T.ok rfl rfl rfl ?_
 have hv0 := Live.new (n := Z) hsz.1 (by omega)
 have hop := hv0.inv.open rfl
 have hD0 := hv0.inv.ok
 have hR0 := RefOk.new Z
 have hp0 : (DiskM.new Z).pend.length ≤ 999990 := Nat.zero_le _
 have hcall := wopen_c (jv := .pointer none) (kv := .pointer none) hD0 hR0 hp0 (hrk.mono le0) (hE.mono le0) (St.arr [[wO bw A.b R.b (.pointer none) (.pointer none)], rkL R (DiskM.new Z), dkL A (DiskM.new Z)] [0, 2, 1] rfl hs)
 refine WL_o rfl rfl (OpR_st cl17 allF rfl rfl rfl rfl rfl hcall ?_)
 clear hs hcall
 rintro g3 _ hqe ⟨rfl, hpo⟩; replace le0 := G.le.trans le0 hqe
 unfold wopenRes at hpo
 rw [hop] at hpo
 obtain ⟨_, _, _, pa, pc, bd, dp, dc, pa2, pc2, B, kb, kv, hrl, hs⟩ := hpo
 refine P1 T.ok rfl rfl rfl ?_; refine WL_nil ?_; (with_reducible refine T_then ?_); refine W_seq ?_; refine W_region ?_; (iterate 4 refine P1 T.ok rfl rfl rfl ?_); refine WL_nil ?_; (with_reducible refine T_then ?_)
 exact W_ret (ret2 rfl rfl rfl (RetS.intro le0 ⟨bw, ⟨A.b, A.bd, A.bv, pa, pc⟩, ⟨R.b, bd, dp, dc, pa2, pc2⟩, B, kb, kv, rfl, hrl, hs⟩))
end Go.Proofs.YteohjgndanlldaaGreatDoor

/- What the two journals hold in common, call by call: in plain Lean. -/
namespace Go.Proofs.YteohjgndanlldaaGreatDoor
open Go Go.K
set_option maxRecDepth 10000
attribute [local irreducible] W WL OpR bitAnd bitOr bitXor bitClr bitNot shlI shrI

theorem adds_fold (rs : List (List UInt8)) : ∀ Y : TapeM, (Y.adds rs).head = rs.foldl chainM Y.head := by
 induction rs with
 | nil => intro Y; rfl
 | cons r rs ih =>
  intro Y
  rw [adds_cons, ih, List.foldl_cons]
  unfold TapeM.add; dsimp only
theorem adds_headM (rs : List (List UInt8)) : (tape0.adds rs).head = headM rs := by
 rw [adds_fold]
 unfold headM tape0 zeroH; dsimp only
theorem Any.eqs {D : DiskM} {Y : TapeM} {br : Bool} {rs rs' : List (List UInt8)} (h : Any D Y br rs rs') : Y = tape0.adds rs ∧ (∀ r ∈ rs, r.length ≤ 65536) ∧ Y.size ≤ D.dur.length := by
 rcases h with ⟨_, _, h⟩ | ⟨_, h⟩
 ·exact ⟨h.inv.eq, h.inv.short, by have := h.inv.le; have := h.inv.ok.len; omega⟩
 ·exact ⟨h.eq, h.short.1, h.sz⟩
theorem RefOk.app {D : DiskM} (hD : D.ok) (h : RefOk D) {br : Bool} {Y : TapeM} {l : List (List UInt8)} : RefOk (appM br Y D l).2.2.1 := by
 unfold appM
 split
 ·exact h
 ·split
  ·exact h
  ·rename_i hf
   split
   ·exact h
   ·rename_i hne
    have h1 : 1 ≤ (wireM Y l).length := by
     cases hw : wireM Y l with
     | nil => exact absurd hw hne
     | cons x t => simp
    have hs := h.store hD (k := Y.size) (out := wireM Y l) (by omega) h1
    split
    ·exact hs
    ·exact hs
theorem RefOk.opened {D : DiskM} (hD : D.ok) (h : RefOk D) : RefOk (openM D).2.1 := by
 unfold openM
 split
 ·exact h
 ·split
  ·exact h
  ·rename_i Y hl
   obtain ⟨rs, hrd⟩ := loadGo_reads D.vis _ _ _ (Nat.zero_le _) hl
   have hle := hrd.le
   have hlen := hD.len
   have hc := h.clear (k := Y.size) (n := D.vis.length - Y.size) (by omega)
   split
   ·exact h
   ·split
    ·exact hc
    ·exact hc

/-- The state of both: a journal each, or none. -/
def WOk (D : DiskM) (st : Option (TapeM × Bool)) : Prop := RefOk D ∧ D.ok ∧ D.dur.length ≤ 1500 ∧ match st with
 | some (Y, br) => ∃ rs rs', Any D Y br rs rs'
 | none => ∃ Y rs rs', Dead D Y rs rs'
theorem WOk.pl {D : DiskM} {st : Option (TapeM × Bool)} (h : WOk D st) : D.pend.length ≤ 1 := by
 obtain ⟨_, _, _, h⟩ := h
 cases st with
 | some p => obtain ⟨rs, rs', h⟩ := h; exact h.ok.2.2.1
 | none => obtain ⟨Y, rs, rs', h⟩ := h; exact h.pl
def cutD (D : DiskM) (n : Int) : DiskM := if D.off = true then D else D.cut n
def cutE (D : DiskM) : Int := if D.off = true then 241 else 0
theorem WOk.cut {D : DiskM} {st : Option (TapeM × Bool)} (h : WOk D st) {n : Int} (h1 : 1 ≤ n) (h2 : n ≤ 1000) : WOk (cutD D n) st := by
 obtain ⟨hR, hD, hl, h⟩ := h
 unfold cutD
 cases ho : D.off with
 | true => rw [if_pos rfl]; exact ⟨hR, hD, hl, h⟩
 | false =>
  rw [if_neg (by simp)]
  refine ⟨hR.cut (by omega) h2, ⟨hD.len, hD.pos, hD.le, hD.pend⟩, hl, ?_⟩
  cases st with
  | some p =>
   obtain ⟨rs, rs', h⟩ := h
   rcases h with ⟨e1, e2, h⟩ | ⟨e1, h⟩
   ·exact ⟨rs, rs', .inl ⟨e1, e2, h.cut h1 h2⟩⟩
   ·rw [h.off] at ho; cases ho
  | none =>
   obtain ⟨Y, rs, rs', h⟩ := h
   rw [h.off] at ho; cases ho
theorem WOk.crash {D : DiskM} {st : Option (TapeM × Bool)} (h : WOk D st) (keep : List Int) (torn : Int) : (D.crash keep torn).ok ∧ RefOk (D.crash keep torn) ∧ (D.crash keep torn).pend.length ≤ 999990 ∧ ∃ D2 Y2, openM (D.crash keep torn) = (some Y2, D2, 0) ∧ WOk D2 (some (Y2, false)) := by
 obtain ⟨hR, hD, hl, h⟩ := h
 have key : ∃ (Y : TapeM) (br : Bool) (rs rs' : List (List UInt8)), Any D Y br rs rs' := by
  cases st with
  | some p => obtain ⟨rs, rs', h⟩ := h; exact ⟨_, _, rs, rs', h⟩
  | none => obtain ⟨Y, rs, rs', h⟩ := h; exact ⟨Y, true, rs, rs', .inr ⟨rfl, h⟩⟩
 obtain ⟨Y, br, rs, rs', hany⟩ := key
 obtain ⟨h1, h2, D2, r, _, h3, h4, h5⟩ := hany.crash keep torn
 have hR2 : RefOk (openM (D.crash keep torn)).2.1 := (RefOk.crash D keep torn).opened h1
 rw [h3] at hR2
 exact ⟨h1, RefOk.crash D keep torn, by rw [h2]; exact Nat.zero_le _, D2, _, h3, hR2, h4.inv.ok, by omega, r, r, .inl ⟨rfl, rfl, h4⟩⟩
theorem WOk.open {D : DiskM} {st : Option (TapeM × Bool)} (h : WOk D st) : (∃ Y, openM D = (some Y, D, 0) ∧ WOk D (some (Y, false))) ∨ (openM D = (none, D, 241) ∧ WOk D none) := by
 obtain ⟨hR, hD, hl, h⟩ := h
 cases st with
 | some p =>
  obtain ⟨rs, rs', h⟩ := h
  rcases h with ⟨e1, e2, h⟩ | ⟨e1, h⟩
  ·exact .inl ⟨_, h.inv.open h.off, hR, hD, hl, rs, rs, .inl ⟨rfl, rfl, h⟩⟩
  ·exact .inr ⟨if_pos h.off, hR, hD, hl, _, _, _, h⟩
 | none =>
  obtain ⟨Y, rs, rs', h⟩ := h
  exact .inr ⟨if_pos h.off, hR, hD, hl, _, _, _, h⟩
theorem WOk.app {D : DiskM} {Y : TapeM} {br : Bool} (h : WOk D (some (Y, br))) {l : List (List UInt8)} (hsh : ∀ r ∈ l, r.length ≤ 65536) : WOk (appM br Y D l).2.2.1 (some ((appM br Y D l).2.1, (appM br Y D l).1)) := by
 obtain ⟨hR, hD, hl, rs, rs', h⟩ := h
 have hR2 : RefOk (appM br Y D l).2.2.1 := hR.app hD
 rcases h with ⟨rfl, rfl, h⟩ | ⟨rfl, h⟩
 ·rcases app_live h hsh with ⟨_, hA⟩ | ⟨D', hA, hL, hl2, _⟩ | ⟨D', hl0, hA, hDd, hl2⟩
  ·rw [hA] at hR2 ⊢
   exact ⟨hR2, hD, hl, _, _, .inl ⟨rfl, rfl, h⟩⟩
  ·rw [hA] at hR2 ⊢
   exact ⟨hR2, hL.inv.ok, by show D'.dur.length ≤ _; omega, _, _, .inl ⟨rfl, rfl, hL⟩⟩
  ·rw [hA] at hR2 ⊢
   exact ⟨hR2, hDd.ok, by show D'.dur.length ≤ _; omega, _, _, .inr ⟨rfl, hDd⟩⟩
 ·rw [app_broken] at hR2 ⊢
  exact ⟨hR2, hD, hl, _, _, .inr ⟨rfl, h⟩⟩
theorem WOk.new {n : Nat} (h1 : 1 ≤ n) (h2 : n ≤ 1500) : WOk (DiskM.new n) (some (tape0, false)) := by
 have h := Live.new (n := n) h1 (by omega)
 exact ⟨RefOk.new n, h.inv.ok, by unfold DiskM.new; simp only [List.length_replicate]; exact h2, [], [], .inl ⟨rfl, rfl, h⟩⟩
end Go.Proofs.YteohjgndanlldaaGreatDoor

/- The law's world: what a call does to both journals. -/
namespace Go.Proofs.YteohjgndanlldaaGreatDoor
open Go Go.K
set_option maxRecDepth 10000
attribute [local irreducible] W WL OpR bitAnd bitOr bitXor bitClr bitNot shlI shrI
set_option maxHeartbeats 1000000

theorem append_nil (v : Value) (g : G) : CallsIn Wd 0 Tryz.prog 10 #[.pointer none, v] g.w (Ret g fun _ r => r = .int .i64 1) := by
 have hs := St.start g
 refine enter Tryz.func10 rfl Tryz.ntmps10 rfl ?_
 refine W_seq ?_; refine W_region ?_; refine P1 T.ok rfl rfl rfl ?_; refine WL_nil ?_; (with_reducible refine T_then ?_); refine W_seq ?_; refine W_seq ?_; refine W_region ?_; refine P1 T.ok rfl rfl rfl ?_
 refine WL_o rfl rfl (OpR_eqNilPtr T.ok (neg := false) rfl rfl rfl rfl rfl ?_)
 refine WL_nil ?_
 (with_reducible refine T_then ?_)
 refine W_yes rfl rfl ?_
 refine W_seq ?_; refine W_region ?_; refine P1 T.ok rfl rfl rfl ?_; refine WL_nil ?_; (with_reducible refine T_then ?_)
 exact W_ret (ret1 rfl rfl (hs.ret rfl))
theorem dcutX_c {A : DkA} {D : DiskM} (n : Int) (hn : 0 ≤ n) {g0 g : G} {L : List Ent} (hs : St g0 g (dkL A D ++ L)) :
  CallsIn Wd 0 Tryz.prog 29 #[.pointer (some ⟨A.b, 0, none⟩), .int .i64 n] g.w (RetS g fun g' r => r = .int .i64 (cutE D) ∧ St g0 g' (dkL A (cutD D n) ++ L)) := by
 unfold cutE cutD
 cases ho : D.off with
 | true => exact dcutD_c ho n hs
 | false => exact dcut_c ho n hn hs
theorem rcutX_c {A : RkA} {D : DiskM} (n : Int) (hn : 0 ≤ n) {g0 g : G} {L : List Ent} (hs : St g0 g (rkL A D ++ L)) :
  CallsIn Wd 0 Tryz.prog 66 #[.pointer (some ⟨A.b, 0, none⟩), .int .i64 n] g.w (RetS g fun g' r => r = .int .i64 (cutE D) ∧ St g0 g' (rkL A (cutD D n) ++ L)) := by
 unfold cutE cutD
 cases ho : D.off with
 | true => exact rcutD_c ho n hs
 | false => exact rcut_c ho n hn hs

/-- Stages of what is owned, behind what stays. -/
def stP (g0 : G) (H : List Ent) (Ps : List (G → List Ent → Prop)) (s : Nat) (g : G) : Prop := ∃ L p, Ps[s]? = some p ∧ p g L ∧ St g0 g (H ++ L)
theorem stP_call {g0 : G} {H : List Ent} {Ps : List (G → List Ent → Prop)} (h : ∀ p ∈ Ps, ∀ g g' L, G.le g g' → p g L → p g' L) (s : Nat) (g g' : G) (hf : Fr0 g g') (hs : stP g0 H Ps s g) : stP g0 H Ps s g' := by
 obtain ⟨L, p, h1, h2, h3⟩ := hs
 exact ⟨L, p, h1, h p (List.mem_of_getElem? h1) _ _ _ hf.le h2, h3.call hf⟩

def wL (bw ab rb : Nat) (jv kv : Value) (X : List Ent) (A : DkA) (D1 : DiskM) (Z : List Ent) (R : RkA) (D2 : DiskM) (L : List Ent) : List Ent := wO bw ab rb jv kv :: (X ++ (dkL A D1 ++ (Z ++ (rkL R D2 ++ L))))
def WRel (g : G) (A : DkA) (R : RkA) (jv kv : Value) (X Z : List Ent) : Option (TapeM × Bool) → Prop
 | some (Y, br) => ∃ (B : JnA) (kb : Nat) (kv' : Value), Rs g kv' (Y.recs.map Str.mk) ∧ jv = .pointer (some ⟨B.b, 0, none⟩) ∧ kv = .pointer (some ⟨kb, 0, none⟩) ∧ X = jnL B A br Y ∧ Z = [kjO kb R.b kv' br Y]
 | none => jv = .pointer none ∧ kv = .pointer none ∧ X = [] ∧ Z = []
def WSt (bw : Nat) (A : DkA) (R : RkA) (D : DiskM) (g0 g : G) (L : List Ent) (st : Option (TapeM × Bool)) : Prop := ∃ jv kv X Z, WRel g A R jv kv X Z st ∧ St g0 g (wL bw A.b R.b jv kv X A D Z R D L)
theorem WRel.mono {g g' : G} {A : DkA} {R : RkA} {jv kv : Value} {X Z : List Ent} {st : Option (TapeM × Bool)} (h : WRel g A R jv kv X Z st) (hle : g.le g') : WRel g' A R jv kv X Z st := by
 cases st with
 | none => exact h
 | some p => obtain ⟨B, kb, kv', h1, h2⟩ := h; exact ⟨B, kb, kv', h1.mono hle, h2⟩
def doesRes (bw : Nat) (A : DkA) (R : RkA) (g0 g' : G) (r : Value) : Prop :=
 r = .bool true ∧ ∃ (A' : DkA) (R' : RkA) (D' : DiskM) (st' : Option (TapeM × Bool)) (L' : List Ent), A'.b = A.b ∧ R'.b = R.b ∧ WOk D' st' ∧ WSt bw A' R' D' g0 g' L' st'
/-- Behind an opening. -/
theorem wopen_WSt {bw : Nat} {A : DkA} {R : RkA} {D D2 : DiskM} {L : List Ent} {g0 g' : G} {o : Option TapeM} {e : Int} (ho : openM D = (o, D2, e)) (hW : WOk D2 (o.map fun Y => (Y, false))) (h : wopenRes bw A R D L g0 g') : doesRes bw A R g0 g' (.bool true) := by
 unfold wopenRes at h
 rw [ho] at h
 obtain ⟨_, _, _, pa, pc, bd, dp, dc, pa2, pc2, h⟩ := h
 cases o with
 | none =>
  exact ⟨rfl, ⟨A.b, A.bd, A.bv, pa, pc⟩, ⟨R.b, bd, dp, dc, pa2, pc2⟩, D2, none, L, rfl, rfl, hW, _, _, [], [], ⟨rfl, rfl, rfl, rfl⟩, h⟩
 | some Y =>
  obtain ⟨B, kb, kv, hr, hs⟩ := h
  exact ⟨rfl, ⟨A.b, A.bd, A.bv, pa, pc⟩, ⟨R.b, bd, dp, dc, pa2, pc2⟩, D2, some (Y, false), L, rfl, rfl, hW, _, _, _, _, ⟨B, kb, kv, hr, rfl, rfl, rfl, rfl⟩, hs⟩

theorem does_c {bw : Nat} {A : DkA} {R : RkA} {D : DiskM} {st : Option (TapeM × Bool)} (x : OpE) (hW : WOk D st) {e : Addr} {g0 g : G} {L : List Ent} (hrk : RoundAt g) (hE : ErrAt e g) {a1 a3 : Option Addr} {n1 c1 n3 c3 : Nat}
  (rsl : Rs g (.slice a1 n1 c1) x.l) (rsk : Rs g (.slice a3 n3 c3) x.keep) (hxk : I64 x.kind) (hxn : I64 x.n) (hS : WSt bw A R D g0 g L st) :
  CallsIn Wd 0 Tryz.prog 31 #[.pointer (some ⟨bw, 0, none⟩), .agg #[.int .i64 x.kind, .slice a1 n1 c1, .int .i64 x.n, .slice a3 n3 c3]] g.w (RetS g fun g' r => doesRes bw A R g0 g' r) := by
 obtain ⟨jv, kv, X, Z, hrel, hs⟩ := hS
 have le0 := G.le.refl g
 have rs0 := rsl
 have rs1 := rsk
 have hpl := hW.pl
 unfold wL wO at hs
 refine enter Tryz.func31 rfl Tryz.ntmps31 rfl ?_
 refine W_seq ?_; refine W_region ?_
 refine WL_o rfl rfl (OpR_box rfl hs rfl rfl ?_); clear hs; rintro b3 g1 hs hqe; replace le0 := G.le.trans le0 hqe; replace rs0 := rs0.mono hqe; replace rs1 := rs1.mono hqe
 obtain ⟨g2, hw2, hs2, hqe, hep⟩ := hs.fzObj (i := 0) rfl; replace hs := hs2; clear hs2; rw [← hw2]; replace le0 := G.le.trans le0 hqe; replace rs0 := rs0.mono hqe; replace rs1 := rs1.mono hqe
 have ep0 := hep
 clear hep
 refine P1 T.ok rfl rfl rfl ?_; refine WL_nil ?_; (with_reducible refine T_then ?_); refine W_seq ?_; refine W_seq ?_; refine W_region ?_; refine P1 T.ok rfl rfl rfl ?_; refine WL_o rfl rfl (OpR_loadE T.ok 0 rfl ep0 rfl rfl ?_)
 refine WL_o rfl rfl (OpR_ret cl14 allF rfl rfl rfl rfl rfl (pick_c x.kind 8 _ hxk (by decide)) ?_); rintro g1 _ hf1 rfl; replace hs := hs.call hf1; have hqe := hf1.le; replace le0 := G.le.trans le0 hqe; replace ep0 := ep0.mono hqe; replace rs0 := rs0.mono hqe; replace rs1 := rs1.mono hqe
 have hpk := pickM_range (c := x.kind) (n := 8) (by decide)
 generalize pickM x.kind 8 = P8 at *
 refine WL_nil ?_; (with_reducible refine T_then ?_); refine W_block ?_; refine W_seq ?_; refine W_region ?_; refine P1 T.ok rfl rfl rfl ?_; refine P1 T.ok rfl rfl rfl ?_; refine WL_nil ?_; (with_reducible refine T_then ?_)
 by_cases h5 : P8 = 5
 ·refine W_yes (b := P8 == 5) (by simp; omega) rfl ?_
  have hpc := fun gq : G => pick_c x.n 5 gq hxn (by decide)
  have hpk := pickM_range (c := x.n) (n := 5) (by decide)
  generalize pickM x.n 5 = N5 at *
  have hwn : IntKind.i64.wrap (1 + N5) = 1 + N5 := wr (by omega) (by omega)
  refine W_seq ?_
  apply W_drawJ allF rfl (Fact.eq _ :: Fact.eq _ :: Fact.eq _ :: Fact.eq _ :: Fact.eq _ :: Fact.eq _ :: Fact.eq _ :: (Fact.eq (.int .i64 (1 + N5))) :: Fact.eq _ :: Fact.eq _ :: Fact.eq _ :: Fact.eq _ :: Fact.eq _ :: Fact.eq _ :: Fact.eq _ :: Fact.eq _ :: (Fact.eq (.int .i64 (1 + N5))) :: Fact.eq _ :: Fact.eq _ :: []) 19 [(18, 29)] [8,15,17] (stP g0 [wO bw A.b R.b jv kv] [fun _ Lx => Lx = X ++ (dkL A D ++ (Z ++ (rkL R D ++ L))), fun _ Lx => Lx = X ++ (dkL A (cutD D (1 + N5)) ++ (Z ++ (rkL R D ++ L))), fun _ Lx => Lx = X ++ (dkL A (cutD D (1 + N5)) ++ (Z ++ (rkL R D ++ L))), fun _ Lx => Lx = X ++ (dkL A (cutD D (1 + N5)) ++ (Z ++ (rkL R (cutD D (1 + N5)) ++ L)))]) (stP_call (by intro p hp g g' L _ h; simp only [List.mem_cons, List.not_mem_nil, or_false] at hp; rcases hp with rfl | rfl | rfl | rfl <;> exact h)) (⟨_, _, rfl, rfl, hs.dr⟩) rfl (by kernel_rfl)
  case houts => exact rfl
  case hsoft => (repeat (first | exact softN | apply softE | refine softC (soft_eq _) ?_ | refine softC (soft_rs _) ?_ | refine softC (soft_step _ _) ?_ | refine softC (soft_stepV _) ?_ | refine softC (soft_wayV _) ?_ | refine softC (soft_intPtr _) ?_ | refine softC (soft_y6 _) ?_ | refine softC (soft_lst _) ?_ | refine softO (by exact rfl) ?_))
  ·refine J_cons (J_free (js := []) (by kernel_rfl) rfl fun _ _ _ _ => QA_nil (DPu T.ok rfl rfl rfl)) ?_
   refine J_cons (J_free (js := [(0, 11)]) (by kernel_rfl) rfl fun _ _ _ _ => QA_eq rfl (QA_nil (DPu T.ok rfl rfl rfl))) ?_
   refine J_cons (J_free (js := [(1, 12)]) (by kernel_rfl) rfl fun _ _ _ _ => QA_eq rfl (QA_nil (DPu T.ok rfl rfl rfl))) ?_
   refine J_cons (J_free (js := [(2, 13)]) (by kernel_rfl) (by exact rfl) fun s gd hf hj => ?_) ?_
   ·have hfe := (G.le_dr _).trans hf; obtain ⟨Lx, px, _, _, hsd⟩ := hj; unfold wO at hsd
    refine QA_eq rfl ?_
    refine QA_nil ?_
    (refine D_yes rfl ?_; refine OpR_loadO T.ok 0 rfl hsd rfl rfl rfl ?_; refine ⟨_, rfl, Fr0.refl _, ?_⟩; exact rfl)
   refine J_cons (J_free (js := []) (by kernel_rfl) rfl fun _ _ _ _ => QA_nil (DPu T.ok rfl rfl rfl)) ?_
   refine J_cons (J_free (js := [(4, 15)]) (by kernel_rfl) (by exact rfl) fun s gd hf hj => ?_) ?_
   ·have hfe := (G.le_dr _).trans hf; obtain ⟨Lx, px, _, _, hsd⟩ := hj; unfold wO at hsd
    refine QA_eq rfl ?_
    refine QA_nil ?_
    (refine D_yes rfl ?_; refine OpR_loadE T.ok 2 rfl (ep0.mono hfe) rfl rfl ?_; refine ⟨_, rfl, Fr0.refl _, ?_⟩; exact rfl)
   refine J_cons (J_free (js := [(5, 16)]) (by kernel_rfl) (by exact rfl) fun s gd hf hj => ?_) ?_
   ·have hfe := (G.le_dr _).trans hf; obtain ⟨Lx, px, _, _, hsd⟩ := hj; unfold wO at hsd
    refine QA_eq rfl ?_
    refine QA_nil ?_
    refine D_yes rfl ?_
    refine OpR_ret cl14 allF rfl rfl rfl rfl rfl (hpc gd) fun g' v h1 h2 => ⟨g', rfl, h1, ?_⟩
    exact h2
   refine J_cons (J_free (js := [(6, 17)]) (by kernel_rfl) (by exact rfl) fun s gd hf hj => ?_) ?_
   ·have hfe := (G.le_dr _).trans hf; obtain ⟨Lx, px, _, _, hsd⟩ := hj; unfold wO at hsd
    refine QA_eq rfl ?_
    refine QA_nil ?_
    refine D_yes rfl ?_
    refine OpR_pure _ T.ok rfl ?_
    refine ⟨_, rfl, Fr0.refl _, ?_⟩
    exact congrArg (Value.int .i64) hwn
   refine J_cons (J_eat 0 (js := [(3, 14), (7, 18)]) (by kernel_rfl) (by exact rfl) fun gd hf hj => ?_) ?_
   ·have hfe := (G.le_dr _).trans hf
    refine QA_eq rfl ?_; refine QA_any fun v7 h7 => ?_
    refine QA_nil ?_
    obtain rfl := h7
    obtain ⟨Lx, px, hp, hpx, hsx⟩ := hj
    cases hp
    cases hpx
    refine ⟨rfl, ?_⟩
    have hcall := dcutX_c (D := D) (1 + N5) (by omega) (St.arr [[wO bw A.b R.b jv kv], X, dkL A D, Z, rkL R D] [2, 0, 1, 3, 4] rfl hsx)
    refine OpR_st cl29 allF rfl rfl rfl rfl rfl hcall ?_
    rintro g9 _ hqe9 ⟨rfl, hs9⟩
    exact ⟨g9, rfl, ⟨hqe9, _, _, rfl, rfl, St.arr [dkL A (cutD D (1 + N5)), [wO bw A.b R.b jv kv], X, Z, rkL R D] [1, 2, 0, 3, 4] rfl hs9⟩, rfl⟩
   refine J_cons (J_free (js := []) (by kernel_rfl) rfl fun _ _ _ _ => QA_nil (DPu T.ok rfl rfl rfl)) ?_
   refine J_cons (J_free (js := [(9, 20)]) (by kernel_rfl) rfl fun _ _ _ _ => QA_eq rfl (QA_nil (DPu T.ok rfl rfl rfl))) ?_
   refine J_cons (J_free (js := [(10, 21)]) (by kernel_rfl) rfl fun _ _ _ _ => QA_eq rfl (QA_nil (DPu T.ok rfl rfl rfl))) ?_
   refine J_cons (J_free (js := [(11, 22)]) (by kernel_rfl) (by exact rfl) fun s gd hf hj => ?_) ?_
   ·have hfe := (G.le_dr _).trans hf; obtain ⟨Lx, px, _, _, hsd⟩ := hj; unfold wO at hsd
    refine QA_eq rfl ?_
    refine QA_nil ?_
    (refine D_yes rfl ?_; refine OpR_loadO T.ok 0 rfl hsd rfl rfl rfl ?_; refine ⟨_, rfl, Fr0.refl _, ?_⟩; exact rfl)
   refine J_cons (J_free (js := []) (by kernel_rfl) rfl fun _ _ _ _ => QA_nil (DPu T.ok rfl rfl rfl)) ?_
   refine J_cons (J_free (js := [(13, 24)]) (by kernel_rfl) (by exact rfl) fun s gd hf hj => ?_) ?_
   ·have hfe := (G.le_dr _).trans hf; obtain ⟨Lx, px, _, _, hsd⟩ := hj; unfold wO at hsd
    refine QA_eq rfl ?_
    refine QA_nil ?_
    (refine D_yes rfl ?_; refine OpR_loadE T.ok 2 rfl (ep0.mono hfe) rfl rfl ?_; refine ⟨_, rfl, Fr0.refl _, ?_⟩; exact rfl)
   refine J_cons (J_eat 1 (js := [(14, 25)]) (by kernel_rfl) (by exact rfl) fun gd hf hj => ?_) ?_
   ·have hfe := (G.le_dr _).trans hf
    refine QA_eq rfl ?_
    refine QA_nil ?_
    obtain ⟨Lx, px, hp, hpx, hsx⟩ := hj
    cases hp
    refine ⟨rfl, ?_⟩
    refine OpR_ret cl14 allF rfl rfl rfl rfl rfl (hpc gd) fun g' v h1 h2 => ⟨g', rfl, ⟨h1.le, _, _, rfl, hpx, hsx.call h1⟩, ?_⟩
    exact h2
   refine J_cons (J_free (js := [(15, 26)]) (by kernel_rfl) (by exact rfl) fun s gd hf hj => ?_) ?_
   ·have hfe := (G.le_dr _).trans hf; obtain ⟨Lx, px, _, _, hsd⟩ := hj; unfold wO at hsd
    refine QA_eq rfl ?_
    refine QA_nil ?_
    refine D_yes rfl ?_
    refine OpR_pure _ T.ok rfl ?_
    refine ⟨_, rfl, Fr0.refl _, ?_⟩
    exact congrArg (Value.int .i64) hwn
   refine J_cons (J_eat 2 (js := [(12, 23), (16, 27)]) (by kernel_rfl) (by exact rfl) fun gd hf hj => ?_) ?_
   ·have hfe := (G.le_dr _).trans hf
    refine QA_eq rfl ?_; refine QA_any fun v16 h16 => ?_
    refine QA_nil ?_
    obtain rfl := h16
    obtain ⟨Lx, px, hp, hpx, hsx⟩ := hj
    cases hp
    cases hpx
    refine ⟨rfl, ?_⟩
    have hcall := rcutX_c (D := D) (1 + N5) (by omega) (St.arr [[wO bw A.b R.b jv kv], X, dkL A (cutD D (1 + N5)), Z, rkL R D] [4, 0, 1, 2, 3] rfl hsx)
    refine OpR_st cl66 allF rfl rfl rfl rfl rfl hcall ?_
    rintro g9 _ hqe9 ⟨rfl, hs9⟩
    exact ⟨g9, rfl, ⟨hqe9, _, _, rfl, rfl, St.arr [rkL R (cutD D (1 + N5)), [wO bw A.b R.b jv kv], X, dkL A (cutD D (1 + N5)), Z] [1, 2, 3, 4, 0] rfl hs9⟩, rfl⟩
   refine J_cons (J_free (js := [(8, 19), (17, 28)]) (by kernel_rfl) rfl fun _ _ _ _ => QA_eq rfl (QA_eq rfl (QA_nil (DPu T.ok rfl rfl rfl)))) ?_
   exact J_nil
  intro g1 hf1; intro hj1; refine QA_eq rfl ?_; refine QA_nil ?_
  have hqe := (G.le_dr _).trans hf1; replace le0 := G.le.trans le0 hqe; replace ep0 := ep0.mono hqe; replace rs0 := rs0.mono hqe; replace rs1 := rs1.mono hqe
  obtain ⟨Lx, px, hp, hpx, hsx⟩ := hj1
  cases hp
  cases hpx
  refine P1 T.ok rfl rfl rfl ?_; refine WL_nil ?_; (with_reducible refine T_then ?_)
  exact W_ret (ret1 rfl rfl (RetS.intro le0 ⟨congrArg Value.bool (by simp), A, R, cutD D (1 + N5), st, L, rfl, rfl, hW.cut (by omega) (by omega), jv, kv, X, Z, hrel.mono le0, hsx⟩))
 ·refine W_no (b := P8 == 5) (by simp; omega) rfl ?_
  refine W_seq ?_; refine W_region ?_; refine P1 T.ok rfl rfl rfl ?_; refine P1 T.ok rfl rfl rfl ?_; refine WL_nil ?_; (with_reducible refine T_then ?_)
  by_cases h6 : P8 = 6
  ·refine W_yes (b := P8 == 6) (by simp; omega) rfl ?_
   have hkc := rs1.cap_le
   have hmin : (if (20 : Int) < (n3 : Int) then (20 : Int) else (n3 : Int)) = ((min n3 20 : Nat) : Int) := by omega
   refine W_seq ?_; refine W_region ?_; refine P1 T.ok rfl rfl rfl ?_; refine WL_o rfl rfl (OpR_loadE T.ok 3 rfl ep0 rfl rfl ?_); refine P1 T.ok rfl rfl rfl ?_; refine WL_o rfl rfl (OpR_loadE T.ok 3 rfl ep0 rfl rfl ?_); refine P1 T.ok rfl rfl rfl ?_; refine P1 T.ok rfl rfl rfl ?_
   refine WL_o rfl rfl (OpR_cut T.ok (a := 0) (b := min n3 20) rfl rfl rfl rfl rfl rfl ⟨_, congrArg some (congrArg (Value.int .i64) hmin)⟩ (Nat.zero_le _) (by omega) ?_)
   have rs4 : Rs g1 (Value.slice (if c3 = 0 then a3 else a3.map fun x => x.add (0 * 1)) (min n3 20 - 0) (c3 - 0)) ((x.keep.take (min n3 20)).drop 0) := rs1.cut (a := 0) (b := min n3 20) (Nat.zero_le _) (by omega)
   generalize hkeep2 : (x.keep.take (min n3 20)).drop 0 = keep2 at *
   have hk2 : keep2.length ≤ 20 := by rw [← hkeep2]; simp; omega
   clear hkeep2
   generalize hv4 : Value.slice (if c3 = 0 then a3 else a3.map fun x => x.add (0 * 1)) (min n3 20 - 0) (c3 - 0) = v4 at rs4
   clear hv4
   refine P1 T.ok rfl rfl rfl ?_; refine WL_nil ?_; (with_reducible refine T_then ?_); refine W_seq ?_
   apply W_draw allF rfl (Fact.eq _ :: Fact.eq _ :: Fact.eq _ :: Fact.eq _ :: Fact.eq _ :: Fact.eq _ :: Fact.eq _ :: []) 7 [(3, 42), (4, 43), (6, 45)] rfl rfl
   ·refine D_s (js := []) (by kernel_rfl) (fun _ _ => QA_nil (DPu T.ok rfl rfl rfl)) ?_
    refine D_s (js := [(0, 39)]) (by kernel_rfl) (fun _ _ => QA_eq rfl (QA_nil (DPu T.ok rfl rfl rfl))) ?_
    refine D_s (js := [(1, 40)]) (by kernel_rfl) (fun _ _ => QA_eq rfl (QA_nil (DPu T.ok rfl rfl rfl))) ?_
    refine D_s (js := [(2, 41)]) (by kernel_rfl) (fun _ hf => QA_eq rfl (QA_nil (DLo T.ok 0 rfl rfl (hs.dr.call hf) rfl rfl rfl rfl))) ?_
    refine D_s (js := []) (by kernel_rfl) (fun _ _ => QA_nil (DPu T.ok rfl rfl rfl)) ?_
    refine D_s (js := []) (by kernel_rfl) (fun _ _ => QA_nil (DPu T.ok rfl rfl rfl)) ?_
    refine D_s (js := [(5, 44)]) (by kernel_rfl) (fun _ hf => QA_eq rfl (QA_nil (DLe T.ok 2 rfl rfl (ep0.mono ((G.le_dr _).trans hf.le)) rfl rfl rfl))) ?_
    exact D_nil
   intro g1 hf1; refine QA_eq rfl ?_; refine QA_eq rfl ?_; refine QA_eq rfl ?_; refine QA_nil ?_
   replace hs := hs.dr.call hf1; have hqe := (G.le_dr _).trans hf1.le; replace le0 := G.le.trans le0 hqe; replace ep0 := ep0.mono hqe; replace rs0 := rs0.mono hqe; replace rs1 := rs1.mono hqe; replace rs4 := rs4.mono hqe
   obtain ⟨hD2, hR2, hp2, D2, Y2, ho2, hW2⟩ := hW.crash keep2 x.n
   have hcall := crash_c hW.2.1 hW.1.pend _ keep2 x.n (by omega) hxn rs4 (St.arr [[wO bw A.b R.b jv kv], X, dkL A D, Z, rkL R D] [2, 0, 1, 3, 4] rfl hs)
   refine WL_o rfl rfl (OpR_st cl30 allF rfl rfl rfl rfl rfl hcall ?_)
   clear hs hcall
   rintro g5 _ hqe ⟨rfl, pa5, pc5, hs⟩; replace le0 := G.le.trans le0 hqe; replace ep0 := ep0.mono hqe; replace rs0 := rs0.mono hqe; replace rs1 := rs1.mono hqe; replace rs4 := rs4.mono hqe
   replace hs := St.arr [dkL ⟨A.b, A.bd, A.bv, pa5, pc5⟩ (D.crash keep2 x.n), [wO bw A.b R.b jv kv], X, Z, rkL R D] [1, 2, 0, 3, 4] rfl hs
   replace hs : St g0 g5 (wO bw A.b R.b jv kv :: (X ++ (dkL ⟨A.b, A.bd, A.bv, pa5, pc5⟩ (D.crash keep2 x.n) ++ (Z ++ (rkL R D ++ L))))) := hs
   unfold wO at hs
   refine WL_nil ?_; (with_reducible refine T_then ?_); refine W_seq ?_
   apply W_draw allF rfl (Fact.eq _ :: Fact.eq _ :: Fact.eq _ :: Fact.eq _ :: Fact.eq _ :: Fact.eq _ :: Fact.eq _ :: []) 7 [(3, 50), (4, 51), (6, 53)] rfl rfl
   ·refine D_s (js := []) (by kernel_rfl) (fun _ _ => QA_nil (DPu T.ok rfl rfl rfl)) ?_
    refine D_s (js := [(0, 47)]) (by kernel_rfl) (fun _ _ => QA_eq rfl (QA_nil (DPu T.ok rfl rfl rfl))) ?_
    refine D_s (js := [(1, 48)]) (by kernel_rfl) (fun _ _ => QA_eq rfl (QA_nil (DPu T.ok rfl rfl rfl))) ?_
    refine D_s (js := [(2, 49)]) (by kernel_rfl) (fun _ hf => QA_eq rfl (QA_nil (DLo T.ok 0 rfl rfl (hs.dr.call hf) rfl rfl rfl rfl))) ?_
    refine D_s (js := []) (by kernel_rfl) (fun _ _ => QA_nil (DPu T.ok rfl rfl rfl)) ?_
    refine D_s (js := []) (by kernel_rfl) (fun _ _ => QA_nil (DPu T.ok rfl rfl rfl)) ?_
    refine D_s (js := [(5, 52)]) (by kernel_rfl) (fun _ hf => QA_eq rfl (QA_nil (DLe T.ok 2 rfl rfl (ep0.mono ((G.le_dr _).trans hf.le)) rfl rfl rfl))) ?_
    exact D_nil
   intro g1 hf1; refine QA_eq rfl ?_; refine QA_eq rfl ?_; refine QA_eq rfl ?_; refine QA_nil ?_
   replace hs := hs.dr.call hf1; have hqe := (G.le_dr _).trans hf1.le; replace le0 := G.le.trans le0 hqe; replace ep0 := ep0.mono hqe; replace rs0 := rs0.mono hqe; replace rs1 := rs1.mono hqe; replace rs4 := rs4.mono hqe
   have hcall := rcrash_c hW.2.1 hW.1.pend _ keep2 x.n hxn rs4 (St.arr [[wO bw A.b R.b jv kv], X, dkL ⟨A.b, A.bd, A.bv, pa5, pc5⟩ (D.crash keep2 x.n), Z, rkL R D] [4, 0, 1, 2, 3] rfl hs)
   refine WL_o rfl rfl (OpR_st cl67 allF rfl rfl rfl rfl rfl hcall ?_)
   clear hs hcall
   rintro g6 _ hqe ⟨rfl, hs⟩; replace le0 := G.le.trans le0 hqe; replace ep0 := ep0.mono hqe; replace rs0 := rs0.mono hqe; replace rs1 := rs1.mono hqe; replace rs4 := rs4.mono hqe
   replace hs := St.arr [rkL ⟨R.b, R.bd, R.dp, R.dc, none, 0⟩ (D.crash keep2 x.n), [wO bw A.b R.b jv kv], X, dkL ⟨A.b, A.bd, A.bv, pa5, pc5⟩ (D.crash keep2 x.n), Z] [1, 3, 0, 2, 4] rfl hs
   replace hs : St g0 g6 (wO bw A.b R.b jv kv :: (dkL ⟨A.b, A.bd, A.bv, pa5, pc5⟩ (D.crash keep2 x.n) ++ (rkL ⟨R.b, R.bd, R.dp, R.dc, none, 0⟩ (D.crash keep2 x.n) ++ (X ++ (Z ++ L))))) := hs
   refine WL_nil ?_; (with_reducible refine T_then ?_); refine W_seq ?_; refine W_region ?_; refine P1 T.ok rfl rfl rfl ?_
   have hcall := wopen_c (A := ⟨A.b, A.bd, A.bv, pa5, pc5⟩) (R := ⟨R.b, R.bd, R.dp, R.dc, none, 0⟩) hD2 hR2 hp2 (hrk.mono le0) (hE.mono le0) hs
   refine WL_o rfl rfl (OpR_st cl17 allF rfl rfl rfl rfl rfl hcall ?_)
   clear hs hcall
   rintro g7 _ hqe ⟨rfl, hpo⟩; replace le0 := G.le.trans le0 hqe; replace ep0 := ep0.mono hqe; replace rs0 := rs0.mono hqe; replace rs1 := rs1.mono hqe; replace rs4 := rs4.mono hqe
   refine P1 T.ok rfl rfl rfl ?_; refine WL_nil ?_; (with_reducible refine T_then ?_)
   exact W_ret (ret1 rfl rfl (RetS.intro le0 (wopen_WSt (A := ⟨A.b, A.bd, A.bv, pa5, pc5⟩) (R := ⟨R.b, R.bd, R.dp, R.dc, none, 0⟩) ho2 hW2 hpo)))
  ·refine W_no (b := P8 == 6) (by simp; omega) rfl ?_
   refine W_seq ?_; refine W_region ?_; refine P1 T.ok rfl rfl rfl ?_; refine P1 T.ok rfl rfl rfl ?_; refine WL_nil ?_; (with_reducible refine T_then ?_)
   by_cases h7 : P8 = 7
   ·refine W_yes (b := P8 == 7) (by simp; omega) rfl ?_
    replace hs := St.arr [[wO bw A.b R.b jv kv], X, dkL A D, Z, rkL R D] [0, 2, 4, 1, 3] rfl hs
    replace hs : St g0 _ (wO bw A.b R.b jv kv :: (dkL A D ++ (rkL R D ++ (X ++ (Z ++ L))))) := hs
    refine W_seq ?_; refine W_region ?_; refine P1 T.ok rfl rfl rfl ?_
    have hcall := wopen_c hW.2.1 hW.1 (by omega) (hrk.mono le0) (hE.mono le0) hs
    refine WL_o rfl rfl (OpR_st cl17 allF rfl rfl rfl rfl rfl hcall ?_)
    clear hs hcall
    rintro g7 _ hqe ⟨rfl, hpo⟩; replace le0 := G.le.trans le0 hqe; replace ep0 := ep0.mono hqe; replace rs0 := rs0.mono hqe; replace rs1 := rs1.mono hqe
    refine P1 T.ok rfl rfl rfl ?_; refine WL_nil ?_; (with_reducible refine T_then ?_)
    refine W_ret (ret1 rfl rfl (RetS.intro le0 ?_))
    rcases hW.open with ⟨Y, ho2, hW2⟩ | ⟨ho2, hW2⟩
    ·exact wopen_WSt ho2 hW2 hpo
    ·exact wopen_WSt ho2 hW2 hpo
   ·refine W_no (b := P8 == 7) (by simp; omega) rfl ?_
    cases st with
    | none =>
     obtain ⟨rfl, rfl, rfl, rfl⟩ := hrel
     refine W_skip ?_; (with_reducible refine T_bn ?_); (with_reducible refine T_then ?_); refine W_seq ?_; refine W_seq ?_; refine W_region ?_; (iterate 3 refine P1 T.ok rfl rfl rfl ?_); refine WL_o rfl rfl (OpR_loadO T.ok 0 rfl hs rfl rfl rfl ?_)
     refine WL_o rfl rfl (OpR_eqNilPtr T.ok (neg := false) rfl rfl rfl rfl rfl ?_)
     refine WL_nil ?_; (with_reducible refine T_then ?_)
     refine W_yes rfl rfl ?_
     refine W_seq ?_
     apply W_draw allF rfl (Fact.eq _ :: Fact.eq _ :: Fact.eq _ :: Fact.eq _ :: Fact.eq _ :: Fact.eq _ :: (Fact.rs (fewM x.l)) :: Fact.eq _ :: Fact.eq _ :: []) 9 [(8, 74)] rfl rfl
     ·refine D_s (js := []) (by kernel_rfl) (fun _ _ => QA_nil (DPu T.ok rfl rfl rfl)) ?_
      refine D_s (js := [(0, 66)]) (by kernel_rfl) (fun _ _ => QA_eq rfl (QA_nil (DPu T.ok rfl rfl rfl))) ?_
      refine D_s (js := [(1, 67)]) (by kernel_rfl) (fun _ _ => QA_eq rfl (QA_nil (DPu T.ok rfl rfl rfl))) ?_
      refine D_s (js := [(2, 68)]) (by kernel_rfl) (fun _ hf => QA_eq rfl (QA_nil (DLo T.ok 0 rfl rfl (hs.dr.call hf) rfl rfl rfl rfl))) ?_
      refine D_s (js := []) (by kernel_rfl) (fun _ _ => QA_nil (DPu T.ok rfl rfl rfl)) ?_
      refine D_s (js := [(4, 70)]) (by kernel_rfl) (fun _ hf => QA_eq rfl (QA_nil (DLe T.ok 1 rfl rfl (ep0.mono ((G.le_dr _).trans hf.le)) rfl rfl rfl))) ?_
      refine D_cons (D_step2 (js := [(5, 71)]) (by kernel_rfl) fun gd hf => ?_) ?_
      ·have hsd := hs.dr.call hf; have hfe := (G.le_dr _).trans hf.le
       refine QA_eq rfl ?_
       refine QA_nil ?_
       refine D_yes rfl ?_
       refine OpR_ret cl11 allF rfl rfl rfl rfl rfl (few_c _ x.l gd (rs0.mono hfe)) fun g' v h1 h2 => ?_
       obtain ⟨g2, hw2, hs2, hle2, hrs⟩ := (St.start gd).ownRs h1 h2
       exact ⟨g2, hw2, hs2.fr0, hrs⟩
      refine D_cons (D_step2 (js := [(3, 69), (6, 72), (6, 72)]) (by kernel_rfl) fun gd hf => ?_) ?_
      ·have hsd := hs.dr.call hf; have hfe := (G.le_dr _).trans hf.le
       refine QA_eq rfl ?_; refine QA_any fun v6 h6 => ?_; refine QA_any fun v6 h6 => ?_
       refine QA_nil ?_
       refine D_yes rfl ?_
       refine OpR_ret cl10 allF rfl rfl rfl rfl rfl (append_nil v6 gd) fun g' v h1 h2 => ⟨g', rfl, h1, ?_⟩
       exact h2
      refine D_s (js := [(7, 73)]) (by kernel_rfl) (fun _ _ => QA_eq rfl (QA_nil (DPu T.ok rfl rfl rfl))) ?_
      exact D_nil
     intro g1 hf1; refine QA_eq rfl ?_; refine QA_nil ?_
     replace hs := hs.dr.call hf1; have hqe := (G.le_dr _).trans hf1.le; replace le0 := G.le.trans le0 hqe; replace ep0 := ep0.mono hqe; replace rs0 := rs0.mono hqe; replace rs1 := rs1.mono hqe
     refine P1 T.ok rfl rfl rfl ?_; refine WL_nil ?_; (with_reducible refine T_then ?_)
     exact W_ret (ret1 rfl rfl (RetS.intro le0 ⟨rfl, A, R, D, none, L, rfl, rfl, hW, _, _, [], [], ⟨rfl, rfl, rfl, rfl⟩, hs⟩))
    | some p =>
     obtain ⟨Y, br⟩ := p
     obtain ⟨B, kb, kv', rsv, rfl, rfl, rfl, rfl⟩ := hrel
     replace rsv := rsv.mono le0
     have rs5 := rsv
     clear rsv
     obtain ⟨_, _, _, rs, rs', hany⟩ := id hW
     obtain ⟨hyeq, hshort, hysz⟩ := hany.eqs
     obtain ⟨_, _, _, hyok, hyrec⟩ := hany.ok
     have hnrec := hany.nrec
     have hlenD := hW.2.2.1
     have hhd : Y.head = headM Y.recs := by rw [hyrec, hyeq]; exact adds_headM rs
     have hW' := hW.app (l := (fewM x.l).map Str.s) (fewM_short x.l)
     have hfl := fewM_len x.l
     have hfs := fewM_short x.l
     have hys : ∀ r ∈ Y.recs, r.length ≤ 65536 := by rw [hyrec]; exact hshort
     rw [← hyrec] at hnrec
     cases hap : appM br Y D ((fewM x.l).map Str.s) with
     | mk br' rest =>
     obtain ⟨Y', D', er⟩ := rest
     rw [hap] at hW'
     dsimp only at hW'
     refine W_skip ?_; (with_reducible refine T_bn ?_); (with_reducible refine T_then ?_); refine W_seq ?_; refine W_seq ?_; refine W_region ?_; (iterate 3 refine P1 T.ok rfl rfl rfl ?_); refine WL_o rfl rfl (OpR_loadO T.ok 0 rfl hs rfl rfl rfl ?_)
     refine WL_o rfl rfl (OpR_eqNilPtr T.ok (neg := false) rfl rfl rfl rfl rfl ?_)
     refine WL_nil ?_; (with_reducible refine T_then ?_)
     refine W_no rfl rfl ?_
     refine W_skip ?_; (with_reducible refine T_then ?_); refine W_seq ?_
     have hrk2 := hrk.mono le0
     apply W_drawJ allF rfl (Fact.eq _ :: Fact.eq _ :: Fact.eq _ :: Fact.eq _ :: Fact.eq _ :: Fact.eq _ :: (Fact.rs (fewM x.l)) :: (Fact.eq (.int .i64 er)) :: Fact.eq _ :: Fact.eq _ :: Fact.eq _ :: Fact.eq _ :: Fact.eq _ :: Fact.eq _ :: (Fact.rs (fewM x.l)) :: (Fact.eq (.int .i64 er)) :: Fact.eq _ :: []) 17 [(16, 91)] [7,14,15] (stP g0 [wO bw A.b R.b (.pointer (some ⟨B.b, 0, none⟩)) (.pointer (some ⟨kb, 0, none⟩))] [fun _ Lx => Lx = jnL B A br Y ++ (dkL A D ++ ([kjO kb R.b kv' br Y] ++ (rkL R D ++ L))), fun _ Lx => ∃ ra rc pa pc, Lx = jnL ⟨B.b, ra, rc⟩ ⟨A.b, A.bd, A.bv, pa, pc⟩ br' Y' ++ (dkL ⟨A.b, A.bd, A.bv, pa, pc⟩ D' ++ ([kjO kb R.b kv' br Y] ++ (rkL R D ++ L))), fun _ Lx => ∃ ra rc pa pc, Lx = jnL ⟨B.b, ra, rc⟩ ⟨A.b, A.bd, A.bv, pa, pc⟩ br' Y' ++ (dkL ⟨A.b, A.bd, A.bv, pa, pc⟩ D' ++ ([kjO kb R.b kv' br Y] ++ (rkL R D ++ L))), fun gq Lx => ∃ ra rc pa pc kv2 bd dp dc pa2 pc2, Rs gq kv2 (Y'.recs.map Str.mk) ∧ Lx = jnL ⟨B.b, ra, rc⟩ ⟨A.b, A.bd, A.bv, pa, pc⟩ br' Y' ++ (dkL ⟨A.b, A.bd, A.bv, pa, pc⟩ D' ++ ([kjO kb R.b kv2 br' Y'] ++ (rkL ⟨R.b, bd, dp, dc, pa2, pc2⟩ D' ++ L)))]) (stP_call (by
 intro p hp g g' L hle h
 simp only [List.mem_cons, List.not_mem_nil, or_false] at hp
 rcases hp with rfl | rfl | rfl | rfl
 ·exact h
 ·exact h
 ·exact h
 ·obtain ⟨ra, rc, pa, pc, kv2, bd, dp, dc, pa2, pc2, hr, h⟩ := h
  exact ⟨ra, rc, pa, pc, kv2, bd, dp, dc, pa2, pc2, hr.mono hle, h⟩)) (⟨_, _, rfl, rfl, hs.dr⟩) rfl (by kernel_rfl)
     case houts => exact rfl
     case hsoft => (repeat (first | exact softN | apply softE | refine softC (soft_eq _) ?_ | refine softC (soft_rs _) ?_ | refine softC (soft_step _ _) ?_ | refine softC (soft_stepV _) ?_ | refine softC (soft_wayV _) ?_ | refine softC (soft_intPtr _) ?_ | refine softC (soft_y6 _) ?_ | refine softC (soft_lst _) ?_ | refine softO (by exact rfl) ?_))
     ·refine J_cons (J_free (js := []) (by kernel_rfl) rfl fun _ _ _ _ => QA_nil (DPu T.ok rfl rfl rfl)) ?_
      refine J_cons (J_free (js := [(0, 75)]) (by kernel_rfl) rfl fun _ _ _ _ => QA_eq rfl (QA_nil (DPu T.ok rfl rfl rfl))) ?_
      refine J_cons (J_free (js := [(1, 76)]) (by kernel_rfl) rfl fun _ _ _ _ => QA_eq rfl (QA_nil (DPu T.ok rfl rfl rfl))) ?_
      refine J_cons (J_free (js := [(2, 77)]) (by kernel_rfl) (by exact rfl) fun s gd hf hj => ?_) ?_
      ·have hfe := (G.le_dr _).trans hf; obtain ⟨Lx, px, _, _, hsd⟩ := hj; unfold wO at hsd
       refine QA_eq rfl ?_
       refine QA_nil ?_
       (refine D_yes rfl ?_; refine OpR_loadO T.ok 0 rfl hsd rfl rfl rfl ?_; refine ⟨_, rfl, Fr0.refl _, ?_⟩; exact rfl)
      refine J_cons (J_free (js := []) (by kernel_rfl) rfl fun _ _ _ _ => QA_nil (DPu T.ok rfl rfl rfl)) ?_
      refine J_cons (J_free (js := [(4, 79)]) (by kernel_rfl) (by exact rfl) fun s gd hf hj => ?_) ?_
      ·have hfe := (G.le_dr _).trans hf; obtain ⟨Lx, px, _, _, hsd⟩ := hj; unfold wO at hsd
       refine QA_eq rfl ?_
       refine QA_nil ?_
       (refine D_yes rfl ?_; refine OpR_loadE T.ok 1 rfl (ep0.mono hfe) rfl rfl ?_; refine ⟨_, rfl, Fr0.refl _, ?_⟩; exact rfl)
      refine J_cons (J_free (js := [(5, 80)]) (by kernel_rfl) (by exact rfl) fun s gd hf hj => ?_) ?_
      ·have hfe := (G.le_dr _).trans hf; obtain ⟨Lx, px, _, _, hsd⟩ := hj; unfold wO at hsd
       refine QA_eq rfl ?_
       refine QA_nil ?_
       refine D_yes rfl ?_
       refine OpR_ret cl11 allF rfl rfl rfl rfl rfl (few_c _ x.l gd (rs0.mono hfe)) fun g' v h1 h2 => ?_
       obtain ⟨g2, hw2, hs2, hle2, hrs⟩ := (St.start gd).ownRs h1 h2
       exact ⟨g2, hw2, hs2.fr0, hrs⟩
      refine J_cons (J_eat 0 (js := [(3, 78), (6, 81), (6, 81)]) (by kernel_rfl) (by exact rfl) fun gd hf hj => ?_) ?_
      ·have hfe := (G.le_dr _).trans hf
       refine QA_eq rfl ?_; refine QA_any fun v6 h6 => ?_; refine QA_any fun v6 h6 => ?_
       refine QA_nil ?_
       obtain ⟨Lx, px, hp, hpx, hsx⟩ := hj
       cases hp
       cases hpx
       refine ⟨rfl, ?_⟩
       have hcall := append_c hW.2.1 (by omega) hyok v6 (fewM x.l) (by omega) (by omega) (hrk2.mono hfe) h6 (St.arr [[wO bw A.b R.b (.pointer (some ⟨B.b, 0, none⟩)) (.pointer (some ⟨kb, 0, none⟩))], jnL B A br Y, dkL A D, [kjO kb R.b kv' br Y], rkL R D] [1, 2, 0, 3, 4] rfl hsx)
       refine OpR_st cl10 allF rfl rfl rfl rfl rfl hcall ?_
       rintro g9 r hqe9 hpo
       unfold appPost at hpo
       rw [hap] at hpo
       obtain ⟨rfl, _, _, _, ra, rc, pa, pc, hs9⟩ := hpo
       exact ⟨g9, rfl, ⟨hqe9, _, _, rfl, ⟨ra, rc, pa, pc, rfl⟩, St.arr [jnL ⟨B.b, ra, rc⟩ ⟨A.b, A.bd, A.bv, pa, pc⟩ br' Y', dkL ⟨A.b, A.bd, A.bv, pa, pc⟩ D', [wO bw A.b R.b (.pointer (some ⟨B.b, 0, none⟩)) (.pointer (some ⟨kb, 0, none⟩))], [kjO kb R.b kv' br Y], rkL R D] [2, 0, 1, 3, 4] rfl hs9⟩, rfl⟩
      refine J_cons (J_free (js := []) (by kernel_rfl) rfl fun _ _ _ _ => QA_nil (DPu T.ok rfl rfl rfl)) ?_
      refine J_cons (J_free (js := [(8, 83)]) (by kernel_rfl) rfl fun _ _ _ _ => QA_eq rfl (QA_nil (DPu T.ok rfl rfl rfl))) ?_
      refine J_cons (J_free (js := [(9, 84)]) (by kernel_rfl) rfl fun _ _ _ _ => QA_eq rfl (QA_nil (DPu T.ok rfl rfl rfl))) ?_
      refine J_cons (J_free (js := [(10, 85)]) (by kernel_rfl) (by exact rfl) fun s gd hf hj => ?_) ?_
      ·have hfe := (G.le_dr _).trans hf; obtain ⟨Lx, px, _, _, hsd⟩ := hj; unfold wO at hsd
       refine QA_eq rfl ?_
       refine QA_nil ?_
       (refine D_yes rfl ?_; refine OpR_loadO T.ok 0 rfl hsd rfl rfl rfl ?_; refine ⟨_, rfl, Fr0.refl _, ?_⟩; exact rfl)
      refine J_cons (J_free (js := []) (by kernel_rfl) rfl fun _ _ _ _ => QA_nil (DPu T.ok rfl rfl rfl)) ?_
      refine J_cons (J_free (js := [(12, 87)]) (by kernel_rfl) (by exact rfl) fun s gd hf hj => ?_) ?_
      ·have hfe := (G.le_dr _).trans hf; obtain ⟨Lx, px, _, _, hsd⟩ := hj; unfold wO at hsd
       refine QA_eq rfl ?_
       refine QA_nil ?_
       (refine D_yes rfl ?_; refine OpR_loadE T.ok 1 rfl (ep0.mono hfe) rfl rfl ?_; refine ⟨_, rfl, Fr0.refl _, ?_⟩; exact rfl)
      refine J_cons (J_eat 1 (js := [(13, 88)]) (by kernel_rfl) (by exact rfl) fun gd hf hj => ?_) ?_
      ·have hfe := (G.le_dr _).trans hf
       refine QA_eq rfl ?_
       refine QA_nil ?_
       obtain ⟨Lx, px, hp, hpx, hsx⟩ := hj
       cases hp
       refine ⟨rfl, ?_⟩
       refine OpR_ret cl11 allF rfl rfl rfl rfl rfl (few_c _ x.l gd (rs0.mono hfe)) fun g' v h1 h2 => ?_
       obtain ⟨g2, hw2, hs2, hle2, hrs⟩ := (St.start gd).ownRs h1 h2
       exact ⟨g2, hw2, ⟨hs2.fr0.le, _, _, rfl, hpx, hsx.call hs2.fr0⟩, hrs⟩
      refine J_cons (J_eat 2 (js := [(11, 86), (14, 89), (14, 89)]) (by kernel_rfl) (by exact rfl) fun gd hf hj => ?_) ?_
      ·have hfe := (G.le_dr _).trans hf
       refine QA_eq rfl ?_; refine QA_any fun v14 h14 => ?_; refine QA_any fun v14 h14 => ?_
       refine QA_nil ?_
       obtain ⟨Lx, px, hp, hpx, hsx⟩ := hj
       cases hp
       obtain ⟨ra, rc, pa, pc, rfl⟩ := hpx
       refine ⟨rfl, ?_⟩
       have hcall := rappend_c hW.2.1 hW.1 (by omega) hyok hysz hhd hys hnrec v14 (fewM x.l) hfs (by omega) (rs5.mono hfe) h14 (St.arr [[wO bw A.b R.b (.pointer (some ⟨B.b, 0, none⟩)) (.pointer (some ⟨kb, 0, none⟩))], jnL ⟨B.b, ra, rc⟩ ⟨A.b, A.bd, A.bv, pa, pc⟩ br' Y', dkL ⟨A.b, A.bd, A.bv, pa, pc⟩ D', [kjO kb R.b kv' br Y], rkL R D] [3, 4, 0, 1, 2] rfl hsx)
       refine OpR_st cl12 allF rfl rfl rfl rfl rfl hcall ?_
       rintro g9 r hqe9 hpo
       unfold rappPost at hpo
       rw [hap] at hpo
       obtain ⟨rfl, kv2, bd, dp, dc, pa2, pc2, hrl, hs9⟩ := hpo
       exact ⟨g9, rfl, ⟨hqe9, _, _, rfl, ⟨ra, rc, pa, pc, kv2, bd, dp, dc, pa2, pc2, hrl, rfl⟩, St.arr [[kjO kb R.b kv2 br' Y'], rkL ⟨R.b, bd, dp, dc, pa2, pc2⟩ D', [wO bw A.b R.b (.pointer (some ⟨B.b, 0, none⟩)) (.pointer (some ⟨kb, 0, none⟩))], jnL ⟨B.b, ra, rc⟩ ⟨A.b, A.bd, A.bv, pa, pc⟩ br' Y', dkL ⟨A.b, A.bd, A.bv, pa, pc⟩ D'] [2, 3, 4, 0, 1] rfl hs9⟩, rfl⟩
      refine J_cons (J_free (js := [(7, 82), (15, 90)]) (by kernel_rfl) (by exact rfl) fun s gd hf hj => ?_) ?_
      ·have hfe := (G.le_dr _).trans hf; obtain ⟨Lx, px, _, _, hsd⟩ := hj; unfold wO at hsd
       refine QA_any fun v7 h7 => ?_; refine QA_any fun v15 h15 => ?_
       refine QA_nil ?_
       obtain rfl := h7
       obtain rfl := h15
       refine D_yes rfl ?_
       refine OpR_pure _ T.ok rfl ?_
       exact ⟨_, rfl, Fr0.refl _, rfl⟩
      exact J_nil
     intro g1 hf1; intro hj1; refine QA_eq rfl ?_; refine QA_nil ?_
     have hqe := (G.le_dr _).trans hf1; replace le0 := G.le.trans le0 hqe; replace ep0 := ep0.mono hqe; replace rs0 := rs0.mono hqe; replace rs1 := rs1.mono hqe; replace rs5 := rs5.mono hqe
     obtain ⟨Lx, px, hp, hpx, hsx⟩ := hj1
     cases hp
     obtain ⟨ra, rc, pa, pc, kv2, bd, dp, dc, pa2, pc2, hrl, rfl⟩ := hpx
     refine P1 T.ok rfl rfl rfl ?_; refine WL_nil ?_; (with_reducible refine T_then ?_)
     exact W_ret (ret1 rfl rfl (RetS.intro le0 ⟨congrArg Value.bool (by simp), ⟨A.b, A.bd, A.bv, pa, pc⟩, ⟨R.b, bd, dp, dc, pa2, pc2⟩, D', some (Y', br'), L, rfl, rfl, hW', _, _, _, _, ⟨⟨B.b, ra, rc⟩, kb, kv2, hrl, rfl, rfl, rfl, rfl⟩, hsx⟩))
end Go.Proofs.YteohjgndanlldaaGreatDoor
