/- The walk through JournalKeeps. -/
import Derived.Test.YteohjgndanlldaaGreatDoorWj

/- Operations as arguments; cutting the power and appending whether the journal lives or not. -/
namespace Go.Proofs.YteohjgndanlldaaGreatDoor
open Go Go.K
set_option maxRecDepth 10000
attribute [local irreducible] W WL OpR bitAnd bitOr bitXor bitClr bitNot shlI shrI
set_option maxHeartbeats 2000000

structure OpE where
  kind : Int
  l : List Str
  n : Int
  keep : List Int
def ROp (g : G) (cs : List Value) (x : OpE) : Prop :=
  ∃ a1 n1 c1 a3 n3 c3, cs = [.int .i64 x.kind, .slice a1 n1 c1, .int .i64 x.n, .slice a3 n3 c3] ∧ Rs g (.slice a1 n1 c1) x.l ∧ Rs g (.slice a3 n3 c3) x.keep ∧ I64 x.kind ∧ I64 x.n
instance : El OpE where
  k := 4
  pos := by omega
  rc := ROp
  len h := by obtain ⟨_, _, _, _, _, _, rfl, _⟩ := h; rfl
  mono hle h := by obtain ⟨a1, n1, c1, a3, n3, c3, e, h1, h2, h3⟩ := h; exact ⟨a1, n1, c1, a3, n3, c3, e, h1.mono hle, h2.mono hle, h3⟩
  one h := by obtain ⟨_, _, _, _, _, _, rfl, _⟩ := h; simp [Value.oneCell']
def opPtr (off : Nat) (s : OpE) : Fact :=
  ⟨fun v g => ∃ b p ys, v = .pointer (some ⟨b, p + off, none⟩) ∧ EP g b p ys ∧ ROp g ys s, fun _ _ _ hf ⟨b, p, ys, e, h1, h2⟩ => ⟨b, p, ys, e, h1.mono hf.le, El.mono (α := OpE) hf.le h2⟩⟩

theorem dcutD_c {A : DkA} {D : DiskM} (ho : D.off = true) (n : Int) {g0 g : G} {L : List Ent} (hs : St g0 g (dkL A D ++ L)) :
    CallsIn Wd 0 Tryz.prog 29 #[.pointer (some ⟨A.b, 0, none⟩), .int .i64 n] g.w (RetS g fun g' r => r = .int .i64 241 ∧ St g0 g' (dkL A D ++ L)) := by
  have le0 := G.le.refl g
  refine enter Tryz.func29 rfl Tryz.ntmps29 rfl ?_
  refine W_seq ?_; refine W_region ?_; refine P1 T.ok rfl rfl rfl ?_; refine WL_nil ?_; (with_reducible refine T_then ?_); refine W_seq ?_; refine W_seq ?_; refine W_region ?_; refine P1 T.ok rfl rfl rfl ?_
  refine WL_o rfl rfl (OpR_ret cl46 allF rfl rfl rfl rfl rfl (dcheck_c hs) ?_); rintro g1 _ hf1 rfl; replace hs := hs.call hf1; have hqe := hf1.le; replace le0 := G.le.trans le0 hqe
  rw [show D.check = 241 from if_pos ho]
  refine P1 T.ok rfl rfl rfl ?_; refine WL_nil ?_; (with_reducible refine T_then ?_); refine W_seq ?_; refine W_region ?_; refine P1 T.ok rfl rfl rfl ?_; refine P1 T.ok rfl rfl rfl ?_; refine WL_nil ?_; (with_reducible refine T_then ?_)
  refine W_yes rfl rfl ?_
  refine W_seq ?_; refine W_region ?_; refine P1 T.ok rfl rfl rfl ?_; refine P1 T.ok rfl rfl rfl ?_; refine WL_nil ?_; (with_reducible refine T_then ?_)
  exact W_ret (ret1 rfl rfl (RetS.intro le0 ⟨rfl, hs⟩))
theorem anycut_c {A : DkA} {D : DiskM} {Y : TapeM} {br : Bool} {rs rs' : List (List UInt8)} (h : Any D Y br rs rs') (n : Int) (h1 : 1 ≤ n) (h2 : n ≤ 1000) {g0 g : G} {L : List Ent} (hs : St g0 g (dkL A D ++ L)) :
    CallsIn Wd 0 Tryz.prog 29 #[.pointer (some ⟨A.b, 0, none⟩), .int .i64 n] g.w (RetS g fun g' r => ∃ e D', r = .int .i64 e ∧ Any D' Y br rs rs' ∧ St g0 g' (dkL A D' ++ L)) := by
  rcases h with ⟨rfl, rfl, h⟩ | ⟨rfl, h⟩
  · refine (dcut_c h.off n (by omega) hs).mono ?_
    rintro e w' ⟨g', r, hw, he, hle, rfl, hs⟩
    exact ⟨g', _, hw, he, hle, _, _, rfl, .inl ⟨rfl, rfl, h.cut h1 h2⟩, hs⟩
  · refine (dcutD_c h.off n hs).mono ?_
    rintro e w' ⟨g', r, hw, he, hle, rfl, hs⟩
    exact ⟨g', _, hw, he, hle, _, _, rfl, .inr ⟨rfl, h⟩, hs⟩
theorem anyapp_c {B : JnA} {A : DkA} {Y : TapeM} {D : DiskM} {br : Bool} {rs rs' : List (List UInt8)} (h : Any D Y br rs rs') (hll : rs.length ≤ rs'.length) (v : Value) (xs : List Str) (hsh : ∀ r ∈ xs.map Str.s, r.length ≤ 65536) (hn : xs.length ≤ 1000)
    {g0 g : G} {L : List Ent} (hrk0 : RoundAt g) (rs00 : Rs g v xs) (hs0 : St g0 g (jnL B A br Y ++ (dkL A D ++ L))) :
    CallsIn Wd 0 Tryz.prog 10 #[.pointer (some ⟨B.b, 0, none⟩), v] g.w
      (RetS g fun g' r => ∃ e ra rc pa pc D' Y' br', r = .int .i64 e ∧ ((e = 0 ∧ Any D' Y' br' (rs ++ xs.map Str.s) (rs ++ xs.map Str.s)) ∨ (e ≠ 0 ∧ ∃ rs2, rs.length ≤ rs2.length ∧ Any D' Y' br' rs rs2)) ∧
        St g0 g' (jnL ⟨B.b, ra, rc⟩ ⟨A.b, A.bd, A.bv, pa, pc⟩ br' Y' ++ (dkL ⟨A.b, A.bd, A.bv, pa, pc⟩ D' ++ L))) := by
  rcases h with ⟨rfl, rfl, h⟩ | ⟨rfl, h⟩
  · refine (appendL_c h v xs hsh hn hrk0 rs00 hs0).mono ?_
    rintro e w' ⟨g', r, hw, he, hle, ra, rc, pa, pc, D', Y', br, ee, rfl, _, hc, hs⟩
    refine ⟨g', _, hw, he, hle, ee, ra, rc, pa, pc, D', Y', br, rfl, ?_, hs⟩
    rcases hc with ⟨rfl, rfl, rfl, rfl⟩ | ⟨rfl, rfl, _, h1, _⟩ | ⟨rfl, _, rfl, rfl, h1⟩
    · exact .inr ⟨by decide, _, Nat.le_refl _, .inl ⟨rfl, rfl, h⟩⟩
    · exact .inl ⟨rfl, .inl ⟨rfl, rfl, h1⟩⟩
    · exact .inr ⟨by decide, _, by rw [List.length_append]; omega, .inr ⟨rfl, h1⟩⟩
  · refine (appendDead_c h v xs hn hrk0 rs00 hs0).mono ?_
    rintro e w' ⟨g', r, hw, he, hle, rfl, ra, rc, pa, pc, hs⟩
    exact ⟨g', _, hw, he, hle, 250, ra, rc, pa, pc, D, Y, true, rfl, .inr ⟨by decide, _, hll, .inr ⟨rfl, h⟩⟩, hs⟩
theorem Any.nrec {D : DiskM} {Y : TapeM} {br : Bool} {rs rs' : List (List UInt8)} (h : Any D Y br rs rs') : rs.length ≤ 4194304 := by
  rcases h with ⟨_, _, h⟩ | ⟨_, h⟩
  · have h1 := h.inv.nrec
    have h2 := h.inv.ok.le
    omega
  · have h1 := h.nrec.2
    have h2 := h.ok.le
    omega
end Go.Proofs.YteohjgndanlldaaGreatDoor

/- The law JournalKeeps: its walk. -/
namespace Go.Proofs.YteohjgndanlldaaGreatDoor
open Go Go.K
set_option maxRecDepth 10000
attribute [local irreducible] W WL OpR bitAnd bitOr bitXor bitClr bitNot shlI shrI
set_option maxHeartbeats 4000000

theorem keeps_c {e : Addr} (n : Int) (v : Value) (ops : List OpE) (g : G) (hrk : RoundAt g) (hE : ErrAt e g) (hn : I64 n) (rsg : Rs g v ops) :
    CallsIn Wd 0 Tryz.prog 6 #[.int .i64 n, v] g.w (Ret g fun _ r => r = .bool true) := by
  obtain ⟨a, c, rfl⟩ := rsg.isSlice
  have hlen := rsg.len_le
  unfold maxLen at hlen
  have hs := St.start g
  have le0 := G.le.refl g
  refine enter Tryz.func6 rfl Tryz.ntmps6 rfl ?_
  refine W_seq ?_; refine W_region ?_; refine P1 T.ok rfl rfl rfl ?_; refine WL_nil ?_; (with_reducible refine T_then ?_); refine W_seq ?_; refine W_region ?_
  refine WL_o rfl rfl (OpR_ret cl8 allF rfl rfl rfl rfl rfl (sane_c _ hrk hE) ?_); rintro g1 _ hf1 rfl; replace hs := hs.call hf1; have hqe := hf1.le; replace le0 := G.le.trans le0 hqe
  refine P1 T.ok rfl rfl rfl ?_; refine WL_nil ?_; (with_reducible refine T_then ?_); refine W_seq ?_; refine W_region ?_; refine P1 T.ok rfl rfl rfl ?_
  refine WL_o rfl rfl (OpR_ret cl15 allF rfl rfl rfl rfl rfl (size_c n _ hn) ?_); rintro g1 _ hf1 rfl; replace hs := hs.call hf1; have hqe := hf1.le; replace le0 := G.le.trans le0 hqe
  have hsz := sizeM_range n
  generalize hZ : sizeM n = Z at *
  skip
  refine WL_o rfl rfl (OpR_st cl24 allF rfl rfl rfl rfl rfl (dnew_c (n := Z) hsz.1 (by omega) hs) ?_)
  clear hs
  rintro g1 _ hqe ⟨A0, rfl, hs⟩; replace le0 := G.le.trans le0 hqe
  (iterate 5 refine P1 T.ok rfl rfl rfl ?_); refine WL_nil ?_; (with_reducible refine T_then ?_); refine W_seq ?_; refine W_region ?_; refine P1 T.ok rfl rfl rfl ?_
  have hv0 := Live.new (n := Z) hsz.1 (by omega)
  refine WL_o rfl rfl (OpR_st cl25 allF rfl rfl rfl rfl rfl (jopenJ_c hv0.inv rfl (Nat.zero_le _) (hrk.mono le0) (hE.mono le0) hs) ?_)
  clear hs
  rintro g2 _ hqe ⟨pa0, pc0, B0, rfl, hs⟩; replace le0 := G.le.trans le0 hqe
  (iterate 5 refine P1 T.ok rfl rfl rfl ?_); refine WL_nil ?_; (with_reducible refine T_then ?_); refine W_seq ?_; refine W_seq ?_; refine W_region ?_; refine P1 T.ok rfl rfl rfl ?_; refine P1 T.ok rfl rfl rfl ?_; refine WL_nil ?_; (with_reducible refine T_then ?_)
  refine W_no rfl rfl ?_
  refine W_skip ?_; (with_reducible refine T_then ?_); refine W_seq ?_; refine W_region ?_; refine P1 T.ok rfl rfl rfl ?_; refine WL_nil ?_; (with_reducible refine T_then ?_); refine W_seq ?_; refine W_seq ?_; refine W_region ?_; refine P1 T.ok rfl rfl rfl ?_; refine WL_nil ?_; (with_reducible refine T_then ?_); refine W_block ?_
  refine W_loop (fun m a' w => ∃ (k : Nat) (g2 : G) (L : List Ent) (B : JnA) (pa : Option Addr) (pc : Nat) (D : DiskM) (Y : TapeM) (br : Bool) (rs rs' : List (List UInt8)) (v1 : Value), w = g2.w ∧ St g g2 (jnL B ⟨A0.b, A0.bd, A0.bv, pa, pc⟩ br Y ++ (dkL ⟨A0.b, A0.bd, A0.bv, pa, pc⟩ D ++ L)) ∧ G.le g g2 ∧ Rs g2 v1 (rs.map Str.mk) ∧
      Any D Y br rs rs' ∧ rs.length ≤ rs'.length ∧ k ≤ ops.length ∧ k ≤ 20 ∧ m = 20 - k ∧
      Fr 140 [] [(1, .slice a ops.length c), (5, .bool true), (6, .pointer (some ⟨A0.b, 0, none⟩)), (8, .pointer (some ⟨B.b, 0, none⟩)), (10, v1), (11, .int .i64 k)] a') 20
    (fun a' ha => ⟨0, _, _, B0, pa0, pc0, _, _, false, [], [], _, rfl, hs, le0, Rs.nil _, .inl ⟨rfl, rfl, hv0⟩, Nat.le_refl _, Nat.zero_le _, by omega, rfl, ha.keep (by (repeat (first | exact trivial | refine ⟨rfl, ?_⟩)))⟩) ?_
  clear hs le0 hv0
  rintro m a' _ ⟨k, g2, L, B, pa, pc, D, Y, br, rs, rs', v1, rfl, hs, le0, rw1, hany, hll, hk, hk8, rfl, ha'⟩
  have rs1 := rsg.mono le0
  have rs2 := rw1
  clear rw1
  revert a'
  (with_reducible refine T_wp ?_); refine W_seq ?_; refine W_seq ?_; refine W_region ?_; (iterate 5 refine P1 T.ok rfl rfl rfl ?_)
  by_cases hlt : k < ops.length
  · refine WL_know 34 (b := decide ((k : Int) < (ops.length : Int))) (b' := true) (decide_eq_true (by omega)) rfl ?_
    (iterate 3 refine P1 T.ok rfl rfl rfl ?_); refine WL_nil ?_; (with_reducible refine T_then ?_)
    by_cases h8 : k < 20
    · refine W_yes (b := decide ((k : Int) < 20)) (decide_eq_true (by omega)) rfl ?_
      have hgi : geti ops (k : Int) = some ops[k] := geti_of rfl hlt
      generalize ops[k] = x at *
      refine W_skip ?_; (with_reducible refine T_then ?_); refine W_seq ?_; refine W_block ?_; refine W_seq ?_; refine W_seq ?_; refine W_region ?_; refine P1 T.ok rfl rfl rfl ?_; refine P1 T.ok rfl rfl rfl ?_
      refine WL_o rfl rfl (OpR_idx T.ok rfl rs1 (y := x) hgi rfl rfl rfl rfl rfl rfl ?_)
      rintro b p ys hep ⟨a4, n4, c4, a5, n5, c5, rfl, rsl, rskp, hxk, hxn⟩
      have ep0 := hep
      have rs8 := rsl
      have rs9 := rskp
      clear rsl rskp hep
      refine P1 T.ok rfl rfl rfl ?_; refine WL_o rfl rfl (OpR_loadE T.ok 0 rfl ep0 rfl rfl ?_)
      refine WL_o rfl rfl (OpR_ret cl14 allF rfl rfl rfl rfl rfl (pick_c x.kind 8 _ hxk (by decide)) ?_); rintro g1 _ hf1 rfl; replace hs := hs.call hf1; have hqe := hf1.le; replace le0 := G.le.trans le0 hqe; replace ep0 := ep0.mono hqe; replace rs1 := rs1.mono hqe; replace rs2 := rs2.mono hqe; replace rs8 := rs8.mono hqe; replace rs9 := rs9.mono hqe
      have hpk := pickM_range (c := x.kind) (n := 8) (by decide)
      generalize pickM x.kind 8 = P at *
      refine WL_nil ?_; (with_reducible refine T_then ?_); refine W_block ?_; refine W_seq ?_; refine W_region ?_; refine P1 T.ok rfl rfl rfl ?_; refine P1 T.ok rfl rfl rfl ?_; refine WL_nil ?_; (with_reducible refine T_then ?_)
      by_cases h5 : P = 5
      · refine W_yes (b := P == 5) (by simp; omega) rfl ?_
        refine W_region ?_; (iterate 3 refine P1 T.ok rfl rfl rfl ?_)
        refine WL_o rfl rfl (OpR_idx T.ok rfl rs1 (y := x) hgi rfl rfl rfl rfl rfl rfl ?_)
        rintro b p ys hep ⟨a4, n4, c4, a5, n5, c5, rfl, _, _, _, _⟩
        have ep0 := hep
        clear hep
        refine P1 T.ok rfl rfl rfl ?_; refine WL_o rfl rfl (OpR_loadE T.ok 2 rfl ep0 rfl rfl ?_)
        refine WL_o rfl rfl (OpR_ret cl14 allF rfl rfl rfl rfl rfl (pick_c x.n 5 _ hxn (by decide)) ?_); rintro g1 _ hf1 rfl; replace hs := hs.call hf1; have hqe := hf1.le; replace le0 := G.le.trans le0 hqe; replace ep0 := ep0.mono hqe; replace rs1 := rs1.mono hqe; replace rs2 := rs2.mono hqe; replace rs8 := rs8.mono hqe; replace rs9 := rs9.mono hqe
        have hpk := pickM_range (c := x.n) (n := 5) (by decide)
        generalize pickM x.n 5 = N at *
        refine P1 T.ok rfl rfl rfl ?_
        refine WL_re (.int .i64 (1 + N)) (t := 76) rfl (congrArg (Value.int .i64) (wr (by omega) (by omega))) ?_
        have hcall := anycut_c hany (1 + N) (by omega) (by omega) hs.swap
        refine WL_o rfl rfl (OpR_st cl29 allF rfl rfl rfl rfl rfl hcall ?_)
        clear hs hcall
        rintro g5 _ hqe ⟨e5, D5, rfl, hany5, hs⟩; replace le0 := G.le.trans le0 hqe; replace ep0 := ep0.mono hqe; replace rs1 := rs1.mono hqe; replace rs2 := rs2.mono hqe; replace rs8 := rs8.mono hqe; replace rs9 := rs9.mono hqe
        replace hs := hs.swap
        have hany := hany5
        clear hany5
        obtain ⟨a2, c2, rfl⟩ := rs2.isSlice
        refine WL_nil ?_; (with_reducible refine T_bn ?_); (with_reducible refine T_then ?_); refine W_seq ?_; refine W_region ?_; refine P1 T.ok rfl rfl rfl ?_
        have hyok := hany.ok.2.2.2
        have hrec := records_c hyok.1 hs
        rw [hyok.2] at hrec
        refine WL_o rfl rfl (OpR_ret cl19 allF rfl rfl rfl rfl rfl (hrec) ?_); rintro g1 vo hf1 hvo; obtain ⟨gz, hwz, hsz, hqz, rs3⟩ := hs.ownRs hf1 hvo; have hqe := hf1.le.trans hqz; rw [← hwz]; replace hs := hsz; clear hsz hvo; replace le0 := G.le.trans le0 hqe; replace ep0 := ep0.mono hqe; replace rs1 := rs1.mono hqe; replace rs2 := rs2.mono hqe; replace rs8 := rs8.mono hqe; replace rs9 := rs9.mono hqe
        clear hrec
        obtain ⟨a3, c3, rfl⟩ := rs3.isSlice
        refine P1 T.ok rfl rfl rfl ?_; refine WL_nil ?_; (with_reducible refine T_then ?_); refine W_seq ?_; refine W_region ?_; (iterate 6 refine P1 T.ok rfl rfl rfl ?_)
        refine WL_know 130 (b' := false) (by simp) rfl ?_
        (iterate 3 refine P1 T.ok rfl rfl rfl ?_)
        refine WL_o rfl rfl (OpR_cut T.ok (a := 0) rfl rfl rfl rfl rfl rfl ⟨_, rfl⟩ (Nat.zero_le _) rs3.cap_le.2.1 ?_)
        have rs4 := rs3.cut (a := 0) (Nat.zero_le _) (Nat.le_refl _)
        rw [List.take_length, List.drop_zero] at rs4
        refine P1 T.ok rfl rfl rfl ?_
        refine WL_o rfl rfl (OpR_ret cl18 allF rfl rfl rfl rfl rfl (same_c _ _ _ _ _ rs4 rs2) ?_); rintro g1 _ hf1 ⟨bb, rfl, hbb⟩; replace hs := hs.call hf1; have hqe := hf1.le; replace le0 := G.le.trans le0 hqe; replace ep0 := ep0.mono hqe; replace rs1 := rs1.mono hqe; replace rs2 := rs2.mono hqe; replace rs3 := rs3.mono hqe; replace rs4 := rs4.mono hqe; replace rs8 := rs8.mono hqe; replace rs9 := rs9.mono hqe
        obtain rfl := hbb.2 rfl
        refine P1 T.ok rfl rfl rfl ?_; refine P1 T.ok rfl rfl rfl ?_; refine WL_nil ?_; (with_reducible refine T_then ?_)
        refine W_no rfl rfl ?_
        refine W_skip ?_; (with_reducible refine T_bn ?_); (with_reducible refine T_then ?_); refine W_region ?_; (iterate 3 refine P1 T.ok rfl rfl rfl ?_); refine WL_nil ?_
        exact fun a ha => ⟨20 - (k + 1), by omega, k + 1, _, _, _, _, _, _, _, _, _, _, _, rfl, hs, le0, rs2, hany, hll, by omega, by omega, rfl, ha.keep ⟨rfl, rfl, rfl, rfl, rfl, kI rfl (by rw [wr (by omega) (by omega)]; omega), trivial⟩⟩
      · refine W_no (b := P == 5) (by simp; omega) rfl ?_
        refine W_seq ?_; refine W_seq ?_; refine W_region ?_; refine P1 T.ok rfl rfl rfl ?_; refine P1 T.ok rfl rfl rfl ?_; refine WL_nil ?_; (with_reducible refine T_then ?_)
        by_cases h6 : P = 6
        · refine W_yes (b := P == 6) (by simp; omega) rfl ?_
          refine W_skip ?_; (with_reducible refine T_then ?_)
          refine W_yes (b := P == 6) (by simp; omega) rfl ?_
          have hmin : (if (20 : Int) < (x.keep.length : Int) then (20 : Int) else (x.keep.length : Int)) = ((min x.keep.length 20 : Nat) : Int) := by omega
          refine W_seq ?_
          apply W_draw allF rfl (Fact.eq _ :: Fact.eq _ :: Fact.eq _ :: (opPtr 0 x) :: (opPtr 3 x) :: (Fact.rs x.keep) :: Fact.eq _ :: Fact.eq _ :: (opPtr 0 x) :: (opPtr 3 x) :: (Fact.rs x.keep) :: Fact.eq _ :: Fact.eq _ :: (Fact.rs ((x.keep.take (min x.keep.length 20)).drop 0)) :: Fact.eq _ :: Fact.eq _ :: (opPtr 0 x) :: (opPtr 2 x) :: Fact.eq _ :: []) 19 [(0, 81), (13, 94), (18, 99)] rfl rfl
          · refine D_cons (D_step2 (js := []) (by kernel_rfl) fun gd hf => ?_) ?_
            · have hsd := hs.dr.call hf; have hfe := (G.le_dr _).trans hf.le
              refine QA_nil ?_
              (refine D_yes rfl ?_; refine OpR_pure _ T.ok rfl ?_; refine ⟨_, rfl, Fr0.refl _, ?_⟩; exact rfl)
            refine D_cons (D_step2 (js := []) (by kernel_rfl) fun gd hf => ?_) ?_
            · have hsd := hs.dr.call hf; have hfe := (G.le_dr _).trans hf.le
              refine QA_nil ?_
              (refine D_yes rfl ?_; refine OpR_pure _ T.ok rfl ?_; refine ⟨_, rfl, Fr0.refl _, ?_⟩; exact rfl)
            refine D_cons (D_step2 (js := []) (by kernel_rfl) fun gd hf => ?_) ?_
            · have hsd := hs.dr.call hf; have hfe := (G.le_dr _).trans hf.le
              refine QA_nil ?_
              (refine D_yes rfl ?_; refine OpR_pure _ T.ok rfl ?_; refine ⟨_, rfl, Fr0.refl _, ?_⟩; exact rfl)
            refine D_cons (D_step2 (js := [(1, 82), (2, 83)]) (by kernel_rfl) fun gd hf => ?_) ?_
            · have hsd := hs.dr.call hf; have hfe := (G.le_dr _).trans hf.le
              refine QA_eq rfl ?_; refine QA_eq rfl ?_
              refine QA_nil ?_
              refine D_yes rfl ?_
              refine OpR_idx T.ok rfl (rs1.mono hfe) (y := x) hgi rfl rfl rfl rfl rfl rfl ?_
              intro b p ys hep hrc
              exact ⟨_, rfl, Fr0.refl _, b, p, ys, rfl, hep, hrc⟩
            refine D_cons (D_step2 (js := [(3, 84)]) (by kernel_rfl) fun gd hf => ?_) ?_
            · have hsd := hs.dr.call hf; have hfe := (G.le_dr _).trans hf.le
              refine QA_any fun v3 h3 => ?_
              refine QA_nil ?_
              obtain ⟨b, p, ys, rfl, hep, hrc⟩ := h3
              refine D_yes rfl ?_
              refine OpR_pure _ T.ok rfl ?_
              exact ⟨_, rfl, Fr0.refl _, b, p, ys, rfl, hep, hrc⟩
            refine D_cons (D_step2 (js := [(4, 85)]) (by kernel_rfl) fun gd hf => ?_) ?_
            · have hsd := hs.dr.call hf; have hfe := (G.le_dr _).trans hf.le
              refine QA_any fun v4 h4 => ?_
              refine QA_nil ?_
              obtain ⟨b, p, ys, rfl, hep, b1, b2, b3, b4, b5, b6, rfl, _, hr2, _⟩ := h4
              refine D_yes rfl ?_
              refine OpR_loadE T.ok 3 rfl hep rfl rfl ?_
              exact ⟨_, rfl, Fr0.refl _, hr2⟩
            refine D_cons (D_step2 (js := []) (by kernel_rfl) fun gd hf => ?_) ?_
            · have hsd := hs.dr.call hf; have hfe := (G.le_dr _).trans hf.le
              refine QA_nil ?_
              (refine D_yes rfl ?_; refine OpR_pure _ T.ok rfl ?_; refine ⟨_, rfl, Fr0.refl _, ?_⟩; exact rfl)
            refine D_cons (D_step2 (js := []) (by kernel_rfl) fun gd hf => ?_) ?_
            · have hsd := hs.dr.call hf; have hfe := (G.le_dr _).trans hf.le
              refine QA_nil ?_
              (refine D_yes rfl ?_; refine OpR_pure _ T.ok rfl ?_; refine ⟨_, rfl, Fr0.refl _, ?_⟩; exact rfl)
            refine D_cons (D_step2 (js := [(6, 87), (7, 88)]) (by kernel_rfl) fun gd hf => ?_) ?_
            · have hsd := hs.dr.call hf; have hfe := (G.le_dr _).trans hf.le
              refine QA_eq rfl ?_; refine QA_eq rfl ?_
              refine QA_nil ?_
              refine D_yes rfl ?_
              refine OpR_idx T.ok rfl (rs1.mono hfe) (y := x) hgi rfl rfl rfl rfl rfl rfl ?_
              intro b p ys hep hrc
              exact ⟨_, rfl, Fr0.refl _, b, p, ys, rfl, hep, hrc⟩
            refine D_cons (D_step2 (js := [(8, 89)]) (by kernel_rfl) fun gd hf => ?_) ?_
            · have hsd := hs.dr.call hf; have hfe := (G.le_dr _).trans hf.le
              refine QA_any fun v8 h8 => ?_
              refine QA_nil ?_
              obtain ⟨b, p, ys, rfl, hep, hrc⟩ := h8
              refine D_yes rfl ?_
              refine OpR_pure _ T.ok rfl ?_
              exact ⟨_, rfl, Fr0.refl _, b, p, ys, rfl, hep, hrc⟩
            refine D_cons (D_step2 (js := [(9, 90)]) (by kernel_rfl) fun gd hf => ?_) ?_
            · have hsd := hs.dr.call hf; have hfe := (G.le_dr _).trans hf.le
              refine QA_any fun v9 h9 => ?_
              refine QA_nil ?_
              obtain ⟨b, p, ys, rfl, hep, b1, b2, b3, b4, b5, b6, rfl, _, hr2, _⟩ := h9
              refine D_yes rfl ?_
              refine OpR_loadE T.ok 3 rfl hep rfl rfl ?_
              exact ⟨_, rfl, Fr0.refl _, hr2⟩
            refine D_cons (D_step2 (js := [(10, 91)]) (by kernel_rfl) fun gd hf => ?_) ?_
            · have hsd := hs.dr.call hf; have hfe := (G.le_dr _).trans hf.le
              refine QA_any fun v10 h10 => ?_
              refine QA_nil ?_
              obtain ⟨ak, ck, rfl⟩ := h10.isSlice
              refine D_yes rfl ?_
              refine OpR_pure _ T.ok rfl ?_
              refine ⟨_, rfl, Fr0.refl _, ?_⟩
              exact rfl
            refine D_cons (D_step2 (js := [(11, 92)]) (by kernel_rfl) fun gd hf => ?_) ?_
            · have hsd := hs.dr.call hf; have hfe := (G.le_dr _).trans hf.le
              refine QA_eq rfl ?_
              refine QA_nil ?_
              (refine D_yes rfl ?_; refine OpR_pure _ T.ok rfl ?_; refine ⟨_, rfl, Fr0.refl _, ?_⟩; exact rfl)
            refine D_cons (D_step2 (js := [(5, 86), (12, 93)]) (by kernel_rfl) fun gd hf => ?_) ?_
            · have hsd := hs.dr.call hf; have hfe := (G.le_dr _).trans hf.le
              refine QA_any fun v5 h5 => ?_; refine QA_eq rfl ?_
              refine QA_nil ?_
              obtain ⟨ak, ck, rfl⟩ := h5.isSlice
              have hkc := h5.cap_le
              refine D_yes rfl ?_
              refine OpR_cut T.ok (a := 0) (b := min x.keep.length 20) rfl rfl rfl rfl rfl rfl ⟨_, congrArg some (congrArg (Value.int .i64) hmin)⟩ (Nat.zero_le _) (by omega) ?_
              exact ⟨_, rfl, Fr0.refl _, h5.cut (Nat.zero_le _) (Nat.min_le_left _ _)⟩
            refine D_cons (D_step2 (js := []) (by kernel_rfl) fun gd hf => ?_) ?_
            · have hsd := hs.dr.call hf; have hfe := (G.le_dr _).trans hf.le
              refine QA_nil ?_
              (refine D_yes rfl ?_; refine OpR_pure _ T.ok rfl ?_; refine ⟨_, rfl, Fr0.refl _, ?_⟩; exact rfl)
            refine D_cons (D_step2 (js := []) (by kernel_rfl) fun gd hf => ?_) ?_
            · have hsd := hs.dr.call hf; have hfe := (G.le_dr _).trans hf.le
              refine QA_nil ?_
              (refine D_yes rfl ?_; refine OpR_pure _ T.ok rfl ?_; refine ⟨_, rfl, Fr0.refl _, ?_⟩; exact rfl)
            refine D_cons (D_step2 (js := [(14, 95), (15, 96)]) (by kernel_rfl) fun gd hf => ?_) ?_
            · have hsd := hs.dr.call hf; have hfe := (G.le_dr _).trans hf.le
              refine QA_eq rfl ?_; refine QA_eq rfl ?_
              refine QA_nil ?_
              refine D_yes rfl ?_
              refine OpR_idx T.ok rfl (rs1.mono hfe) (y := x) hgi rfl rfl rfl rfl rfl rfl ?_
              intro b p ys hep hrc
              exact ⟨_, rfl, Fr0.refl _, b, p, ys, rfl, hep, hrc⟩
            refine D_cons (D_step2 (js := [(16, 97)]) (by kernel_rfl) fun gd hf => ?_) ?_
            · have hsd := hs.dr.call hf; have hfe := (G.le_dr _).trans hf.le
              refine QA_any fun v16 h16 => ?_
              refine QA_nil ?_
              obtain ⟨b, p, ys, rfl, hep, hrc⟩ := h16
              refine D_yes rfl ?_
              refine OpR_pure _ T.ok rfl ?_
              exact ⟨_, rfl, Fr0.refl _, b, p, ys, rfl, hep, hrc⟩
            refine D_cons (D_step2 (js := [(17, 98)]) (by kernel_rfl) fun gd hf => ?_) ?_
            · have hsd := hs.dr.call hf; have hfe := (G.le_dr _).trans hf.le
              refine QA_any fun v17 h17 => ?_
              refine QA_nil ?_
              obtain ⟨b, p, ys, rfl, hep, b1, b2, b3, b4, b5, b6, rfl, _, hr2, _⟩ := h17
              refine D_yes rfl ?_
              refine OpR_loadE T.ok 2 rfl hep rfl rfl ?_
              refine ⟨_, rfl, Fr0.refl _, ?_⟩
              exact rfl
            exact D_nil
          intro g1 hf1; refine QA_eq rfl ?_; refine QA_any fun v13 h13 => ?_; refine QA_eq rfl ?_; refine QA_nil ?_
          replace hs := hs.dr.call hf1; have hqe := (G.le_dr _).trans hf1.le; replace le0 := G.le.trans le0 hqe; replace ep0 := ep0.mono hqe; replace rs1 := rs1.mono hqe; replace rs2 := rs2.mono hqe; replace rs8 := rs8.mono hqe; replace rs9 := rs9.mono hqe
          generalize hkeep2 : (x.keep.take (min x.keep.length 20)).drop 0 = keep2 at *
          have hk2 : keep2.length ≤ 20 := by rw [← hkeep2]; simp; omega
          have rs4 := h13
          clear h13
          obtain ⟨a2, c2, rfl⟩ := rs2.isSlice
          have hcall := crash_c hany.ok.1 hany.ok.2.1 _ keep2 x.n (by omega) hxn rs4 hs.swap
          refine WL_o rfl rfl (OpR_st cl30 allF rfl rfl rfl rfl rfl hcall ?_)
          clear hs hcall
          rintro g5 _ hqe ⟨rfl, pa5, pc5, hs⟩; replace le0 := G.le.trans le0 hqe; replace ep0 := ep0.mono hqe; replace rs1 := rs1.mono hqe; replace rs2 := rs2.mono hqe; replace rs4 := rs4.mono hqe; replace rs8 := rs8.mono hqe; replace rs9 := rs9.mono hqe
          dsimp only at hs
          obtain ⟨hok2, hpe2, D2, r, hr, ho2, hlive2, _⟩ := hany.crash keep2 x.n
          refine WL_nil ?_; (with_reducible refine T_then ?_); refine W_seq ?_; refine W_region ?_; refine P1 T.ok rfl rfl rfl ?_
          have hcall := jopenR_c hok2 hpe2 ho2 (hrk.mono le0) (hE.mono le0) hs
          refine WL_o rfl rfl (OpR_st cl25 allF rfl rfl rfl rfl rfl hcall ?_)
          clear hs hcall
          rintro g6 _ hqe ⟨pa6, pc6, B2, rfl, hs⟩; replace le0 := G.le.trans le0 hqe; replace ep0 := ep0.mono hqe; replace rs1 := rs1.mono hqe; replace rs2 := rs2.mono hqe; replace rs4 := rs4.mono hqe; replace rs8 := rs8.mono hqe; replace rs9 := rs9.mono hqe
          dsimp only at hs
          (iterate 5 refine P1 T.ok rfl rfl rfl ?_); refine WL_nil ?_; (with_reducible refine T_then ?_); refine W_seq ?_; refine W_seq ?_; refine W_region ?_; (iterate 4 refine P1 T.ok rfl rfl rfl ?_)
          refine WL_o rfl rfl (OpR_eqNilPtr T.ok (neg := false) rfl rfl rfl rfl rfl ?_)
          (iterate 3 refine P1 T.ok rfl rfl rfl ?_)
          have hrec := records_c hlive2.inv.tok hs
          rw [hlive2.inv.recs] at hrec
          refine WL_o rfl rfl (OpR_ret cl19 allF rfl rfl rfl rfl rfl (hrec) ?_); rintro g1 vo hf1 hvo; obtain ⟨gz, hwz, hsz, hqz, rs5⟩ := hs.ownRs hf1 hvo; have hqe := hf1.le.trans hqz; rw [← hwz]; replace hs := hsz; clear hsz hvo; replace le0 := G.le.trans le0 hqe; replace ep0 := ep0.mono hqe; replace rs1 := rs1.mono hqe; replace rs2 := rs2.mono hqe; replace rs4 := rs4.mono hqe; replace rs8 := rs8.mono hqe; replace rs9 := rs9.mono hqe
          clear hrec
          obtain ⟨a5, c5, rfl⟩ := rs5.isSlice
          (iterate 5 refine P1 T.ok rfl rfl rfl ?_); refine WL_nil ?_; (with_reducible refine T_then ?_)
          have hrl : rs.length ≤ r.length := by
            rcases hr with rfl | rfl
            · exact Nat.le_refl _
            · exact hll
          refine W_no (b := decide (((r.map Str.mk).length : Int) < ((rs.map Str.mk).length : Int))) (decide_eq_false (by rw [List.length_map, List.length_map]; omega)) rfl ?_
          clear rs2 rs5
          refine W_skip ?_; (with_reducible refine T_then ?_); refine W_seq ?_; refine W_region ?_; refine P1 T.ok rfl rfl rfl ?_; refine P1 T.ok rfl rfl rfl ?_; refine WL_nil ?_; (with_reducible refine T_then ?_); refine W_region ?_; refine P1 T.ok rfl rfl rfl ?_
          have hrec := records_c hlive2.inv.tok hs
          rw [hlive2.inv.recs] at hrec
          refine WL_o rfl rfl (OpR_ret cl19 allF rfl rfl rfl rfl rfl (hrec) ?_); rintro g1 vo hf1 hvo; obtain ⟨gz, hwz, hsz, hqz, rs2⟩ := hs.ownRs hf1 hvo; have hqe := hf1.le.trans hqz; rw [← hwz]; replace hs := hsz; clear hsz hvo; replace le0 := G.le.trans le0 hqe; replace ep0 := ep0.mono hqe; replace rs1 := rs1.mono hqe; replace rs4 := rs4.mono hqe; replace rs8 := rs8.mono hqe; replace rs9 := rs9.mono hqe
          clear hrec
          obtain ⟨a2, c2, rfl⟩ := rs2.isSlice
          have hany2 : Any D2 _ false r r := .inl ⟨rfl, rfl, hlive2⟩
          clear hany hll
          have hany := hany2
          have hll := Nat.le_refl r.length
          clear hany2
          refine P1 T.ok rfl rfl rfl ?_; refine WL_nil ?_; (with_reducible refine T_bn ?_); (with_reducible refine T_then ?_); refine W_seq ?_; refine W_region ?_; refine P1 T.ok rfl rfl rfl ?_
          have hyok := hany.ok.2.2.2
          have hrec := records_c hyok.1 hs
          rw [hyok.2] at hrec
          refine WL_o rfl rfl (OpR_ret cl19 allF rfl rfl rfl rfl rfl (hrec) ?_); rintro g1 vo hf1 hvo; obtain ⟨gz, hwz, hsz, hqz, rs3⟩ := hs.ownRs hf1 hvo; have hqe := hf1.le.trans hqz; rw [← hwz]; replace hs := hsz; clear hsz hvo; replace le0 := G.le.trans le0 hqe; replace ep0 := ep0.mono hqe; replace rs1 := rs1.mono hqe; replace rs2 := rs2.mono hqe; replace rs4 := rs4.mono hqe; replace rs8 := rs8.mono hqe; replace rs9 := rs9.mono hqe
          clear hrec
          obtain ⟨a3, c3, rfl⟩ := rs3.isSlice
          refine P1 T.ok rfl rfl rfl ?_; refine WL_nil ?_; (with_reducible refine T_then ?_); refine W_seq ?_; refine W_region ?_; (iterate 6 refine P1 T.ok rfl rfl rfl ?_)
          refine WL_know 130 (b' := false) (by simp) rfl ?_
          (iterate 3 refine P1 T.ok rfl rfl rfl ?_)
          refine WL_o rfl rfl (OpR_cut T.ok (a := 0) rfl rfl rfl rfl rfl rfl ⟨_, rfl⟩ (Nat.zero_le _) rs3.cap_le.2.1 ?_)
          have rs4 := rs3.cut (a := 0) (Nat.zero_le _) (Nat.le_refl _)
          rw [List.take_length, List.drop_zero] at rs4
          refine P1 T.ok rfl rfl rfl ?_
          refine WL_o rfl rfl (OpR_ret cl18 allF rfl rfl rfl rfl rfl (same_c _ _ _ _ _ rs4 rs2) ?_); rintro g1 _ hf1 ⟨bb, rfl, hbb⟩; replace hs := hs.call hf1; have hqe := hf1.le; replace le0 := G.le.trans le0 hqe; replace ep0 := ep0.mono hqe; replace rs1 := rs1.mono hqe; replace rs2 := rs2.mono hqe; replace rs3 := rs3.mono hqe; replace rs4 := rs4.mono hqe; replace rs8 := rs8.mono hqe; replace rs9 := rs9.mono hqe
          obtain rfl := hbb.2 rfl
          refine P1 T.ok rfl rfl rfl ?_; refine P1 T.ok rfl rfl rfl ?_; refine WL_nil ?_; (with_reducible refine T_then ?_)
          refine W_no rfl rfl ?_
          refine W_skip ?_; (with_reducible refine T_bn ?_); (with_reducible refine T_then ?_); refine W_region ?_; (iterate 3 refine P1 T.ok rfl rfl rfl ?_); refine WL_nil ?_
          exact fun a ha => ⟨20 - (k + 1), by omega, k + 1, _, _, _, _, _, _, _, _, _, _, _, rfl, hs, le0, rs2, hany, hll, by omega, by omega, rfl, ha.keep ⟨rfl, rfl, rfl, rfl, rfl, kI rfl (by rw [wr (by omega) (by omega)]; omega), trivial⟩⟩
        · refine W_no (b := P == 6) (by simp; omega) rfl ?_
          refine W_region ?_; refine P1 T.ok rfl rfl rfl ?_; refine P1 T.ok rfl rfl rfl ?_; refine WL_nil ?_; (with_reducible refine T_then ?_)
          by_cases h7 : P = 7
          · refine W_yes (b := P == 7) (by simp; omega) rfl ?_
            have hmin : (if (20 : Int) < (x.keep.length : Int) then (20 : Int) else (x.keep.length : Int)) = ((min x.keep.length 20 : Nat) : Int) := by omega
            refine W_seq ?_
            apply W_draw allF rfl (Fact.eq _ :: Fact.eq _ :: Fact.eq _ :: (opPtr 0 x) :: (opPtr 3 x) :: (Fact.rs x.keep) :: Fact.eq _ :: Fact.eq _ :: (opPtr 0 x) :: (opPtr 3 x) :: (Fact.rs x.keep) :: Fact.eq _ :: Fact.eq _ :: (Fact.rs ((x.keep.take (min x.keep.length 20)).drop 0)) :: Fact.eq _ :: Fact.eq _ :: (opPtr 0 x) :: (opPtr 2 x) :: Fact.eq _ :: []) 19 [(0, 81), (13, 94), (18, 99)] rfl rfl
            · refine D_cons (D_step2 (js := []) (by kernel_rfl) fun gd hf => ?_) ?_
              · have hsd := hs.dr.call hf; have hfe := (G.le_dr _).trans hf.le
                refine QA_nil ?_
                (refine D_yes rfl ?_; refine OpR_pure _ T.ok rfl ?_; refine ⟨_, rfl, Fr0.refl _, ?_⟩; exact rfl)
              refine D_cons (D_step2 (js := []) (by kernel_rfl) fun gd hf => ?_) ?_
              · have hsd := hs.dr.call hf; have hfe := (G.le_dr _).trans hf.le
                refine QA_nil ?_
                (refine D_yes rfl ?_; refine OpR_pure _ T.ok rfl ?_; refine ⟨_, rfl, Fr0.refl _, ?_⟩; exact rfl)
              refine D_cons (D_step2 (js := []) (by kernel_rfl) fun gd hf => ?_) ?_
              · have hsd := hs.dr.call hf; have hfe := (G.le_dr _).trans hf.le
                refine QA_nil ?_
                (refine D_yes rfl ?_; refine OpR_pure _ T.ok rfl ?_; refine ⟨_, rfl, Fr0.refl _, ?_⟩; exact rfl)
              refine D_cons (D_step2 (js := [(1, 82), (2, 83)]) (by kernel_rfl) fun gd hf => ?_) ?_
              · have hsd := hs.dr.call hf; have hfe := (G.le_dr _).trans hf.le
                refine QA_eq rfl ?_; refine QA_eq rfl ?_
                refine QA_nil ?_
                refine D_yes rfl ?_
                refine OpR_idx T.ok rfl (rs1.mono hfe) (y := x) hgi rfl rfl rfl rfl rfl rfl ?_
                intro b p ys hep hrc
                exact ⟨_, rfl, Fr0.refl _, b, p, ys, rfl, hep, hrc⟩
              refine D_cons (D_step2 (js := [(3, 84)]) (by kernel_rfl) fun gd hf => ?_) ?_
              · have hsd := hs.dr.call hf; have hfe := (G.le_dr _).trans hf.le
                refine QA_any fun v3 h3 => ?_
                refine QA_nil ?_
                obtain ⟨b, p, ys, rfl, hep, hrc⟩ := h3
                refine D_yes rfl ?_
                refine OpR_pure _ T.ok rfl ?_
                exact ⟨_, rfl, Fr0.refl _, b, p, ys, rfl, hep, hrc⟩
              refine D_cons (D_step2 (js := [(4, 85)]) (by kernel_rfl) fun gd hf => ?_) ?_
              · have hsd := hs.dr.call hf; have hfe := (G.le_dr _).trans hf.le
                refine QA_any fun v4 h4 => ?_
                refine QA_nil ?_
                obtain ⟨b, p, ys, rfl, hep, b1, b2, b3, b4, b5, b6, rfl, _, hr2, _⟩ := h4
                refine D_yes rfl ?_
                refine OpR_loadE T.ok 3 rfl hep rfl rfl ?_
                exact ⟨_, rfl, Fr0.refl _, hr2⟩
              refine D_cons (D_step2 (js := []) (by kernel_rfl) fun gd hf => ?_) ?_
              · have hsd := hs.dr.call hf; have hfe := (G.le_dr _).trans hf.le
                refine QA_nil ?_
                (refine D_yes rfl ?_; refine OpR_pure _ T.ok rfl ?_; refine ⟨_, rfl, Fr0.refl _, ?_⟩; exact rfl)
              refine D_cons (D_step2 (js := []) (by kernel_rfl) fun gd hf => ?_) ?_
              · have hsd := hs.dr.call hf; have hfe := (G.le_dr _).trans hf.le
                refine QA_nil ?_
                (refine D_yes rfl ?_; refine OpR_pure _ T.ok rfl ?_; refine ⟨_, rfl, Fr0.refl _, ?_⟩; exact rfl)
              refine D_cons (D_step2 (js := [(6, 87), (7, 88)]) (by kernel_rfl) fun gd hf => ?_) ?_
              · have hsd := hs.dr.call hf; have hfe := (G.le_dr _).trans hf.le
                refine QA_eq rfl ?_; refine QA_eq rfl ?_
                refine QA_nil ?_
                refine D_yes rfl ?_
                refine OpR_idx T.ok rfl (rs1.mono hfe) (y := x) hgi rfl rfl rfl rfl rfl rfl ?_
                intro b p ys hep hrc
                exact ⟨_, rfl, Fr0.refl _, b, p, ys, rfl, hep, hrc⟩
              refine D_cons (D_step2 (js := [(8, 89)]) (by kernel_rfl) fun gd hf => ?_) ?_
              · have hsd := hs.dr.call hf; have hfe := (G.le_dr _).trans hf.le
                refine QA_any fun v8 h8 => ?_
                refine QA_nil ?_
                obtain ⟨b, p, ys, rfl, hep, hrc⟩ := h8
                refine D_yes rfl ?_
                refine OpR_pure _ T.ok rfl ?_
                exact ⟨_, rfl, Fr0.refl _, b, p, ys, rfl, hep, hrc⟩
              refine D_cons (D_step2 (js := [(9, 90)]) (by kernel_rfl) fun gd hf => ?_) ?_
              · have hsd := hs.dr.call hf; have hfe := (G.le_dr _).trans hf.le
                refine QA_any fun v9 h9 => ?_
                refine QA_nil ?_
                obtain ⟨b, p, ys, rfl, hep, b1, b2, b3, b4, b5, b6, rfl, _, hr2, _⟩ := h9
                refine D_yes rfl ?_
                refine OpR_loadE T.ok 3 rfl hep rfl rfl ?_
                exact ⟨_, rfl, Fr0.refl _, hr2⟩
              refine D_cons (D_step2 (js := [(10, 91)]) (by kernel_rfl) fun gd hf => ?_) ?_
              · have hsd := hs.dr.call hf; have hfe := (G.le_dr _).trans hf.le
                refine QA_any fun v10 h10 => ?_
                refine QA_nil ?_
                obtain ⟨ak, ck, rfl⟩ := h10.isSlice
                refine D_yes rfl ?_
                refine OpR_pure _ T.ok rfl ?_
                refine ⟨_, rfl, Fr0.refl _, ?_⟩
                exact rfl
              refine D_cons (D_step2 (js := [(11, 92)]) (by kernel_rfl) fun gd hf => ?_) ?_
              · have hsd := hs.dr.call hf; have hfe := (G.le_dr _).trans hf.le
                refine QA_eq rfl ?_
                refine QA_nil ?_
                (refine D_yes rfl ?_; refine OpR_pure _ T.ok rfl ?_; refine ⟨_, rfl, Fr0.refl _, ?_⟩; exact rfl)
              refine D_cons (D_step2 (js := [(5, 86), (12, 93)]) (by kernel_rfl) fun gd hf => ?_) ?_
              · have hsd := hs.dr.call hf; have hfe := (G.le_dr _).trans hf.le
                refine QA_any fun v5 h5 => ?_; refine QA_eq rfl ?_
                refine QA_nil ?_
                obtain ⟨ak, ck, rfl⟩ := h5.isSlice
                have hkc := h5.cap_le
                refine D_yes rfl ?_
                refine OpR_cut T.ok (a := 0) (b := min x.keep.length 20) rfl rfl rfl rfl rfl rfl ⟨_, congrArg some (congrArg (Value.int .i64) hmin)⟩ (Nat.zero_le _) (by omega) ?_
                exact ⟨_, rfl, Fr0.refl _, h5.cut (Nat.zero_le _) (Nat.min_le_left _ _)⟩
              refine D_cons (D_step2 (js := []) (by kernel_rfl) fun gd hf => ?_) ?_
              · have hsd := hs.dr.call hf; have hfe := (G.le_dr _).trans hf.le
                refine QA_nil ?_
                (refine D_yes rfl ?_; refine OpR_pure _ T.ok rfl ?_; refine ⟨_, rfl, Fr0.refl _, ?_⟩; exact rfl)
              refine D_cons (D_step2 (js := []) (by kernel_rfl) fun gd hf => ?_) ?_
              · have hsd := hs.dr.call hf; have hfe := (G.le_dr _).trans hf.le
                refine QA_nil ?_
                (refine D_yes rfl ?_; refine OpR_pure _ T.ok rfl ?_; refine ⟨_, rfl, Fr0.refl _, ?_⟩; exact rfl)
              refine D_cons (D_step2 (js := [(14, 95), (15, 96)]) (by kernel_rfl) fun gd hf => ?_) ?_
              · have hsd := hs.dr.call hf; have hfe := (G.le_dr _).trans hf.le
                refine QA_eq rfl ?_; refine QA_eq rfl ?_
                refine QA_nil ?_
                refine D_yes rfl ?_
                refine OpR_idx T.ok rfl (rs1.mono hfe) (y := x) hgi rfl rfl rfl rfl rfl rfl ?_
                intro b p ys hep hrc
                exact ⟨_, rfl, Fr0.refl _, b, p, ys, rfl, hep, hrc⟩
              refine D_cons (D_step2 (js := [(16, 97)]) (by kernel_rfl) fun gd hf => ?_) ?_
              · have hsd := hs.dr.call hf; have hfe := (G.le_dr _).trans hf.le
                refine QA_any fun v16 h16 => ?_
                refine QA_nil ?_
                obtain ⟨b, p, ys, rfl, hep, hrc⟩ := h16
                refine D_yes rfl ?_
                refine OpR_pure _ T.ok rfl ?_
                exact ⟨_, rfl, Fr0.refl _, b, p, ys, rfl, hep, hrc⟩
              refine D_cons (D_step2 (js := [(17, 98)]) (by kernel_rfl) fun gd hf => ?_) ?_
              · have hsd := hs.dr.call hf; have hfe := (G.le_dr _).trans hf.le
                refine QA_any fun v17 h17 => ?_
                refine QA_nil ?_
                obtain ⟨b, p, ys, rfl, hep, b1, b2, b3, b4, b5, b6, rfl, _, hr2, _⟩ := h17
                refine D_yes rfl ?_
                refine OpR_loadE T.ok 2 rfl hep rfl rfl ?_
                refine ⟨_, rfl, Fr0.refl _, ?_⟩
                exact rfl
              exact D_nil
            intro g1 hf1; refine QA_eq rfl ?_; refine QA_any fun v13 h13 => ?_; refine QA_eq rfl ?_; refine QA_nil ?_
            replace hs := hs.dr.call hf1; have hqe := (G.le_dr _).trans hf1.le; replace le0 := G.le.trans le0 hqe; replace ep0 := ep0.mono hqe; replace rs1 := rs1.mono hqe; replace rs2 := rs2.mono hqe; replace rs8 := rs8.mono hqe; replace rs9 := rs9.mono hqe
            generalize hkeep2 : (x.keep.take (min x.keep.length 20)).drop 0 = keep2 at *
            have hk2 : keep2.length ≤ 20 := by rw [← hkeep2]; simp; omega
            have rs4 := h13
            clear h13
            obtain ⟨a2, c2, rfl⟩ := rs2.isSlice
            have hcall := crash_c hany.ok.1 hany.ok.2.1 _ keep2 x.n (by omega) hxn rs4 hs.swap
            refine WL_o rfl rfl (OpR_st cl30 allF rfl rfl rfl rfl rfl hcall ?_)
            clear hs hcall
            rintro g5 _ hqe ⟨rfl, pa5, pc5, hs⟩; replace le0 := G.le.trans le0 hqe; replace ep0 := ep0.mono hqe; replace rs1 := rs1.mono hqe; replace rs2 := rs2.mono hqe; replace rs4 := rs4.mono hqe; replace rs8 := rs8.mono hqe; replace rs9 := rs9.mono hqe
            dsimp only at hs
            obtain ⟨hok2, hpe2, D2, r, hr, ho2, hlive2, _⟩ := hany.crash keep2 x.n
            refine WL_nil ?_; (with_reducible refine T_then ?_); refine W_seq ?_; refine W_region ?_; refine P1 T.ok rfl rfl rfl ?_
            have hcall := jopenR_c hok2 hpe2 ho2 (hrk.mono le0) (hE.mono le0) hs
            refine WL_o rfl rfl (OpR_st cl25 allF rfl rfl rfl rfl rfl hcall ?_)
            clear hs hcall
            rintro g6 _ hqe ⟨pa6, pc6, B2, rfl, hs⟩; replace le0 := G.le.trans le0 hqe; replace ep0 := ep0.mono hqe; replace rs1 := rs1.mono hqe; replace rs2 := rs2.mono hqe; replace rs4 := rs4.mono hqe; replace rs8 := rs8.mono hqe; replace rs9 := rs9.mono hqe
            dsimp only at hs
            (iterate 5 refine P1 T.ok rfl rfl rfl ?_); refine WL_nil ?_; (with_reducible refine T_then ?_); refine W_seq ?_; refine W_seq ?_; refine W_region ?_; (iterate 4 refine P1 T.ok rfl rfl rfl ?_)
            refine WL_o rfl rfl (OpR_eqNilPtr T.ok (neg := false) rfl rfl rfl rfl rfl ?_)
            (iterate 3 refine P1 T.ok rfl rfl rfl ?_)
            have hrec := records_c hlive2.inv.tok hs
            rw [hlive2.inv.recs] at hrec
            refine WL_o rfl rfl (OpR_ret cl19 allF rfl rfl rfl rfl rfl (hrec) ?_); rintro g1 vo hf1 hvo; obtain ⟨gz, hwz, hsz, hqz, rs5⟩ := hs.ownRs hf1 hvo; have hqe := hf1.le.trans hqz; rw [← hwz]; replace hs := hsz; clear hsz hvo; replace le0 := G.le.trans le0 hqe; replace ep0 := ep0.mono hqe; replace rs1 := rs1.mono hqe; replace rs2 := rs2.mono hqe; replace rs4 := rs4.mono hqe; replace rs8 := rs8.mono hqe; replace rs9 := rs9.mono hqe
            clear hrec
            obtain ⟨a5, c5, rfl⟩ := rs5.isSlice
            (iterate 5 refine P1 T.ok rfl rfl rfl ?_); refine WL_nil ?_; (with_reducible refine T_then ?_)
            have hrl : rs.length ≤ r.length := by
              rcases hr with rfl | rfl
              · exact Nat.le_refl _
              · exact hll
            refine W_no (b := decide (((r.map Str.mk).length : Int) < ((rs.map Str.mk).length : Int))) (decide_eq_false (by rw [List.length_map, List.length_map]; omega)) rfl ?_
            clear rs2 rs5
            refine W_skip ?_; (with_reducible refine T_then ?_); refine W_seq ?_; refine W_region ?_; refine P1 T.ok rfl rfl rfl ?_; refine P1 T.ok rfl rfl rfl ?_; refine WL_nil ?_; (with_reducible refine T_then ?_); refine W_region ?_; refine P1 T.ok rfl rfl rfl ?_
            have hrec := records_c hlive2.inv.tok hs
            rw [hlive2.inv.recs] at hrec
            refine WL_o rfl rfl (OpR_ret cl19 allF rfl rfl rfl rfl rfl (hrec) ?_); rintro g1 vo hf1 hvo; obtain ⟨gz, hwz, hsz, hqz, rs2⟩ := hs.ownRs hf1 hvo; have hqe := hf1.le.trans hqz; rw [← hwz]; replace hs := hsz; clear hsz hvo; replace le0 := G.le.trans le0 hqe; replace ep0 := ep0.mono hqe; replace rs1 := rs1.mono hqe; replace rs4 := rs4.mono hqe; replace rs8 := rs8.mono hqe; replace rs9 := rs9.mono hqe
            clear hrec
            obtain ⟨a2, c2, rfl⟩ := rs2.isSlice
            have hany2 : Any D2 _ false r r := .inl ⟨rfl, rfl, hlive2⟩
            clear hany hll
            have hany := hany2
            have hll := Nat.le_refl r.length
            clear hany2
            refine P1 T.ok rfl rfl rfl ?_; refine WL_nil ?_; (with_reducible refine T_bn ?_); (with_reducible refine T_then ?_); refine W_seq ?_; refine W_region ?_; refine P1 T.ok rfl rfl rfl ?_
            have hyok := hany.ok.2.2.2
            have hrec := records_c hyok.1 hs
            rw [hyok.2] at hrec
            refine WL_o rfl rfl (OpR_ret cl19 allF rfl rfl rfl rfl rfl (hrec) ?_); rintro g1 vo hf1 hvo; obtain ⟨gz, hwz, hsz, hqz, rs3⟩ := hs.ownRs hf1 hvo; have hqe := hf1.le.trans hqz; rw [← hwz]; replace hs := hsz; clear hsz hvo; replace le0 := G.le.trans le0 hqe; replace ep0 := ep0.mono hqe; replace rs1 := rs1.mono hqe; replace rs2 := rs2.mono hqe; replace rs4 := rs4.mono hqe; replace rs8 := rs8.mono hqe; replace rs9 := rs9.mono hqe
            clear hrec
            obtain ⟨a3, c3, rfl⟩ := rs3.isSlice
            refine P1 T.ok rfl rfl rfl ?_; refine WL_nil ?_; (with_reducible refine T_then ?_); refine W_seq ?_; refine W_region ?_; (iterate 6 refine P1 T.ok rfl rfl rfl ?_)
            refine WL_know 130 (b' := false) (by simp) rfl ?_
            (iterate 3 refine P1 T.ok rfl rfl rfl ?_)
            refine WL_o rfl rfl (OpR_cut T.ok (a := 0) rfl rfl rfl rfl rfl rfl ⟨_, rfl⟩ (Nat.zero_le _) rs3.cap_le.2.1 ?_)
            have rs4 := rs3.cut (a := 0) (Nat.zero_le _) (Nat.le_refl _)
            rw [List.take_length, List.drop_zero] at rs4
            refine P1 T.ok rfl rfl rfl ?_
            refine WL_o rfl rfl (OpR_ret cl18 allF rfl rfl rfl rfl rfl (same_c _ _ _ _ _ rs4 rs2) ?_); rintro g1 _ hf1 ⟨bb, rfl, hbb⟩; replace hs := hs.call hf1; have hqe := hf1.le; replace le0 := G.le.trans le0 hqe; replace ep0 := ep0.mono hqe; replace rs1 := rs1.mono hqe; replace rs2 := rs2.mono hqe; replace rs3 := rs3.mono hqe; replace rs4 := rs4.mono hqe; replace rs8 := rs8.mono hqe; replace rs9 := rs9.mono hqe
            obtain rfl := hbb.2 rfl
            refine P1 T.ok rfl rfl rfl ?_; refine P1 T.ok rfl rfl rfl ?_; refine WL_nil ?_; (with_reducible refine T_then ?_)
            refine W_no rfl rfl ?_
            refine W_skip ?_; (with_reducible refine T_bn ?_); (with_reducible refine T_then ?_); refine W_region ?_; (iterate 3 refine P1 T.ok rfl rfl rfl ?_); refine WL_nil ?_
            exact fun a ha => ⟨20 - (k + 1), by omega, k + 1, _, _, _, _, _, _, _, _, _, _, _, rfl, hs, le0, rs2, hany, hll, by omega, by omega, rfl, ha.keep ⟨rfl, rfl, rfl, rfl, rfl, kI rfl (by rw [wr (by omega) (by omega)]; omega), trivial⟩⟩
          · refine W_no (b := P == 7) (by simp; omega) rfl ?_
            have hnr := hany.nrec
            have hyok := hany.ok.2.2.2
            refine W_seq ?_; refine W_region ?_; refine P1 T.ok rfl rfl rfl ?_
            have hrec := records_c hyok.1 hs
            rw [hyok.2] at hrec
            refine WL_o rfl rfl (OpR_ret cl19 allF rfl rfl rfl rfl rfl (hrec) ?_); rintro g1 vo hf1 hvo; obtain ⟨gz, hwz, hsz, hqz, rs3⟩ := hs.ownRs hf1 hvo; have hqe := hf1.le.trans hqz; rw [← hwz]; replace hs := hsz; clear hsz hvo; replace le0 := G.le.trans le0 hqe; replace ep0 := ep0.mono hqe; replace rs1 := rs1.mono hqe; replace rs2 := rs2.mono hqe; replace rs8 := rs8.mono hqe; replace rs9 := rs9.mono hqe
            clear hrec
            obtain ⟨aw, cw, rfl⟩ := rs3.isSlice
            refine P1 T.ok rfl rfl rfl ?_; refine WL_nil ?_; (with_reducible refine T_then ?_); refine W_seq ?_; refine W_region ?_; (iterate 3 refine P1 T.ok rfl rfl rfl ?_)
            refine WL_o rfl rfl (OpR_idx T.ok rfl rs1 (y := x) hgi rfl rfl rfl rfl rfl rfl ?_)
            rintro b p ys hep ⟨a4, n4, c4, a5, n5, c5, rfl, rsl, _, _, _⟩
            have ep0 := hep
            have rs4 := rsl
            clear rsl hep
            refine P1 T.ok rfl rfl rfl ?_; refine WL_o rfl rfl (OpR_loadE T.ok 1 rfl ep0 rfl rfl ?_)
            refine WL_o rfl rfl (OpR_ret cl11 allF rfl rfl rfl rfl rfl (few_c _ x.l _ rs4) ?_); rintro g1 vo hf1 hvo; obtain ⟨gz, hwz, hsz, hqz, rs6⟩ := hs.ownRs hf1 hvo; have hqe := hf1.le.trans hqz; rw [← hwz]; replace hs := hsz; clear hsz hvo; replace le0 := G.le.trans le0 hqe; replace ep0 := ep0.mono hqe; replace rs1 := rs1.mono hqe; replace rs2 := rs2.mono hqe; replace rs3 := rs3.mono hqe; replace rs4 := rs4.mono hqe; replace rs8 := rs8.mono hqe; replace rs9 := rs9.mono hqe
            skip
            have hcall := anyapp_c hany hll _ (fewM x.l) (fewM_short x.l) (Nat.le_trans (fewM_len x.l) (by decide)) (hrk.mono le0) rs6 hs
            refine WL_o rfl rfl (OpR_st cl10 allF rfl rfl rfl rfl rfl hcall ?_)
            clear hs hcall
            rintro g9 _ hqe ⟨e', ra', rc', pa', pc', D', Y', br', rfl, hcase, hs⟩; replace le0 := G.le.trans le0 hqe; replace ep0 := ep0.mono hqe; replace rs1 := rs1.mono hqe; replace rs2 := rs2.mono hqe; replace rs3 := rs3.mono hqe; replace rs4 := rs4.mono hqe; replace rs6 := rs6.mono hqe; replace rs8 := rs8.mono hqe; replace rs9 := rs9.mono hqe
            dsimp only at hs
            rcases hcase with ⟨rfl, hany'⟩ | ⟨hne, rsd, hll', hany'⟩
            · clear hany hll
              have hany := hany'
              have hll := Nat.le_refl (rs ++ (fewM x.l).map Str.s).length
              clear hany' rs2
              refine P1 T.ok rfl rfl rfl ?_; refine WL_nil ?_; (with_reducible refine T_then ?_)
              refine W_yes rfl rfl ?_
              have hgs := hs
              apply W_draw allF rfl (nilF :: Fact.eq _ :: (ownF 9 g9.dr (rs.map Str.mk)) :: Fact.eq _ :: Fact.eq _ :: (opPtr 0 x) :: (opPtr 1 x) :: (Fact.rs x.l) :: (Fact.rs (fewM x.l)) :: []) 9 [(2, 59), (8, 65)] rfl rfl
              · refine D_cons (D_step2 (js := []) (by kernel_rfl) fun gd hf => ?_) ?_
                · have hsd := hs.dr.call hf; have hfe := (G.le_dr _).trans hf.le
                  refine QA_nil ?_
                  refine D_yes rfl ?_
                  refine OpR_lit T.ok rfl (St.start gd) (vs := []) (cells := []) rfl rfl rfl rfl rfl rfl (by decide) (by decide) (by kernel_rfl) rfl ?_
                  intro b2 g2 hs1 hqe1
                  exact ⟨g2, rfl, hs1.fr0, _, rfl⟩
                refine D_cons (D_step2 (js := []) (by kernel_rfl) fun gd hf => ?_) ?_
                · have hsd := hs.dr.call hf; have hfe := (G.le_dr _).trans hf.le
                  refine QA_nil ?_
                  (refine D_yes rfl ?_; refine OpR_pure _ T.ok rfl ?_; refine ⟨_, rfl, Fr0.refl _, ?_⟩; exact rfl)
                refine D_cons (D_step2 (js := [(0, 57), (1, 58)]) (by kernel_rfl) fun gd hf => ?_) ?_
                · have hsd := hs.dr.call hf; have hfe := (G.le_dr _).trans hf.le
                  refine QA_any fun v0 h0 => ?_; refine QA_eq rfl ?_
                  refine QA_nil ?_
                  obtain ⟨ad0, rfl⟩ := h0
                  refine D_yes rfl ?_
                  obtain ⟨_, news, hnw, hsrc⟩ := Src.of_rs (rs3.mono hfe)
                  refine OpR_append T.ok 0 rfl ((St.start gd).nilrow 9 1 ad0) rfl rfl rfl rfl rfl rfl rfl (by decide) rfl hsrc hnw.one (by rw [List.length_map]; show (0 + rs.length) * 16 ≤ _; omega) (by unfold maxLen; rw [List.length_map]; omega) ?_
                  intro a3 c3 g3 hs3 hqe3
                  exact ⟨g3, rfl, hs3.fr0, OwnR.base (hs3.toOwn (i := 0) rfl (hnw.mono hqe3)) hf.below.size⟩
                refine D_cons (D_step2 (js := []) (by kernel_rfl) fun gd hf => ?_) ?_
                · have hsd := hs.dr.call hf; have hfe := (G.le_dr _).trans hf.le
                  refine QA_nil ?_
                  (refine D_yes rfl ?_; refine OpR_pure _ T.ok rfl ?_; refine ⟨_, rfl, Fr0.refl _, ?_⟩; exact rfl)
                refine D_cons (D_step2 (js := []) (by kernel_rfl) fun gd hf => ?_) ?_
                · have hsd := hs.dr.call hf; have hfe := (G.le_dr _).trans hf.le
                  refine QA_nil ?_
                  (refine D_yes rfl ?_; refine OpR_pure _ T.ok rfl ?_; refine ⟨_, rfl, Fr0.refl _, ?_⟩; exact rfl)
                refine D_cons (D_step2 (js := [(3, 60), (4, 61)]) (by kernel_rfl) fun gd hf => ?_) ?_
                · have hsd := hs.dr.call hf; have hfe := (G.le_dr _).trans hf.le
                  refine QA_eq rfl ?_; refine QA_eq rfl ?_
                  refine QA_nil ?_
                  refine D_yes rfl ?_
                  refine OpR_idx T.ok rfl (rs1.mono hfe) (y := x) hgi rfl rfl rfl rfl rfl rfl ?_
                  intro b p ys hep hrc
                  exact ⟨_, rfl, Fr0.refl _, b, p, ys, rfl, hep, hrc⟩
                refine D_cons (D_step2 (js := [(5, 62)]) (by kernel_rfl) fun gd hf => ?_) ?_
                · have hsd := hs.dr.call hf; have hfe := (G.le_dr _).trans hf.le
                  refine QA_any fun v5 h5 => ?_
                  refine QA_nil ?_
                  obtain ⟨b, p, ys, rfl, hep, hrc⟩ := h5
                  refine D_yes rfl ?_
                  refine OpR_pure _ T.ok rfl ?_
                  exact ⟨_, rfl, Fr0.refl _, b, p, ys, rfl, hep, hrc⟩
                refine D_cons (D_step2 (js := [(6, 63)]) (by kernel_rfl) fun gd hf => ?_) ?_
                · have hsd := hs.dr.call hf; have hfe := (G.le_dr _).trans hf.le
                  refine QA_any fun v6 h6 => ?_
                  refine QA_nil ?_
                  obtain ⟨b, p, ys, rfl, hep, b1, b2, b3, b4, b5, b6, rfl, hr1, _⟩ := h6
                  refine D_yes rfl ?_
                  refine OpR_loadE T.ok 1 rfl hep rfl rfl ?_
                  exact ⟨_, rfl, Fr0.refl _, hr1⟩
                refine D_cons (D_step2 (js := [(7, 64)]) (by kernel_rfl) fun gd hf => ?_) ?_
                · have hsd := hs.dr.call hf; have hfe := (G.le_dr _).trans hf.le
                  refine QA_any fun v7 h7 => ?_
                  refine QA_nil ?_
                  refine D_yes rfl ?_
                  refine OpR_ret cl11 allF rfl rfl rfl rfl rfl (few_c _ x.l gd h7) fun g' v h1 h2 => ?_
                  obtain ⟨g2, hw2, hs2, hle2, hrs⟩ := (St.start gd).ownRs h1 h2
                  exact ⟨g2, hw2, hs2.fr0, hrs⟩
                exact D_nil
              intro g1 hf1; refine QA_any fun v2 h2 => ?_; refine QA_any fun v8 h8 => ?_; refine QA_nil ?_
              replace hs := hs.dr.call hf1; have hqe := (G.le_dr _).trans hf1.le; replace le0 := G.le.trans le0 hqe; replace ep0 := ep0.mono hqe; replace rs1 := rs1.mono hqe; replace rs3 := rs3.mono hqe; replace rs4 := rs4.mono hqe; replace rs6 := rs6.mono hqe; replace rs8 := rs8.mono hqe; replace rs9 := rs9.mono hqe
              obtain ⟨cells, hh, hrc⟩ := h2
              obtain ⟨a3, c3, rfl⟩ := hh.1.form
              clear hs
              have hs := hgs.dr.getOwn hf1 hh
              clear hgs hh
              obtain rfl := RcL.strs_inv hrc
              obtain ⟨ax, cx, rfl⟩ := h8.isSlice
              obtain ⟨_, news, hnw, hsrc⟩ := Src.of_rs h8
              obtain rfl := RcL.strs_inv (l := (fewM x.l).map Str.s) (by rw [List.map_map, show (Str.mk ∘ Str.s) = id from rfl, List.map_id]; exact hnw)
              skip
              refine WL_o rfl rfl (OpR_append T.ok 0 rfl hs rfl rfl rfl rfl rfl rfl rfl (by decide) rfl hsrc hnw.one (by rw [List.length_map]; have := fewM_len x.l; show (rs.length + (fewM x.l).length) * 16 ≤ _; omega) (by unfold maxLen; rw [List.length_map]; have := fewM_len x.l; omega) ?_)
              clear hs hsrc hrc hnw
              rintro a4 c4 g4 hs hqe; replace le0 := G.le.trans le0 hqe; replace ep0 := ep0.mono hqe; replace rs1 := rs1.mono hqe; replace rs3 := rs3.mono hqe; replace rs4 := rs4.mono hqe; replace rs6 := rs6.mono hqe; replace rs8 := rs8.mono hqe; replace rs9 := rs9.mono hqe
              obtain ⟨gz4, hwz, hsz2, hqz, rwant⟩ := hs.fzRow (α := Str) (xs := (rs ++ (fewM x.l).map Str.s).map Str.mk) (i := 0) rfl (by
                have h := RcL.strs g4 (rs ++ (fewM x.l).map Str.s)
                rw [show strL (rs ++ (fewM x.l).map Str.s) = strL rs ++ strL ((fewM x.l).map Str.s) from by simp [strL]] at h
                exact h)
              have hqe := hqz; rw [← hwz]; replace hs := hsz2; clear hsz2 hqz h8; replace le0 := G.le.trans le0 hqe; replace ep0 := ep0.mono hqe; replace rs1 := rs1.mono hqe; replace rs3 := rs3.mono hqe; replace rs4 := rs4.mono hqe; replace rs6 := rs6.mono hqe; replace rs8 := rs8.mono hqe; replace rs9 := rs9.mono hqe
              replace hs : St g gz4 (jnL ⟨B.b, ra', rc'⟩ ⟨A0.b, A0.bd, A0.bv, pa', pc'⟩ br' Y' ++ (dkL ⟨A0.b, A0.bd, A0.bv, pa', pc'⟩ D' ++ L)) := hs
              have rs2 := rwant
              clear rwant
              have hlq : (rs.map Str.mk).length + (fewM x.l).length = ((rs ++ (fewM x.l).map Str.s).map Str.mk).length := by simp
              rw [hlq] at rs2 ⊢
              clear hlq
              generalize rs ++ (fewM x.l).map Str.s = rsq at *
              refine P1 T.ok rfl rfl rfl ?_; refine WL_nil ?_; (with_reducible refine T_bn ?_); (with_reducible refine T_then ?_); refine W_seq ?_; refine W_region ?_; refine P1 T.ok rfl rfl rfl ?_
              have hyok := hany.ok.2.2.2
              have hrec := records_c hyok.1 hs
              rw [hyok.2] at hrec
              refine WL_o rfl rfl (OpR_ret cl19 allF rfl rfl rfl rfl rfl (hrec) ?_); rintro g1 vo hf1 hvo; obtain ⟨gz, hwz, hsz, hqz, rs3⟩ := hs.ownRs hf1 hvo; have hqe := hf1.le.trans hqz; rw [← hwz]; replace hs := hsz; clear hsz hvo; replace le0 := G.le.trans le0 hqe; replace ep0 := ep0.mono hqe; replace rs1 := rs1.mono hqe; replace rs2 := rs2.mono hqe; replace rs4 := rs4.mono hqe; replace rs6 := rs6.mono hqe; replace rs8 := rs8.mono hqe; replace rs9 := rs9.mono hqe
              clear hrec
              obtain ⟨a3, c3, rfl⟩ := rs3.isSlice
              refine P1 T.ok rfl rfl rfl ?_; refine WL_nil ?_; (with_reducible refine T_then ?_); refine W_seq ?_; refine W_region ?_; (iterate 6 refine P1 T.ok rfl rfl rfl ?_)
              refine WL_know 130 (b' := false) (by simp) rfl ?_
              (iterate 3 refine P1 T.ok rfl rfl rfl ?_)
              refine WL_o rfl rfl (OpR_cut T.ok (a := 0) rfl rfl rfl rfl rfl rfl ⟨_, rfl⟩ (Nat.zero_le _) rs3.cap_le.2.1 ?_)
              have rs4 := rs3.cut (a := 0) (Nat.zero_le _) (Nat.le_refl _)
              rw [List.take_length, List.drop_zero] at rs4
              refine P1 T.ok rfl rfl rfl ?_
              refine WL_o rfl rfl (OpR_ret cl18 allF rfl rfl rfl rfl rfl (same_c _ _ _ _ _ rs4 rs2) ?_); rintro g1 _ hf1 ⟨bb, rfl, hbb⟩; replace hs := hs.call hf1; have hqe := hf1.le; replace le0 := G.le.trans le0 hqe; replace ep0 := ep0.mono hqe; replace rs1 := rs1.mono hqe; replace rs2 := rs2.mono hqe; replace rs3 := rs3.mono hqe; replace rs4 := rs4.mono hqe; replace rs6 := rs6.mono hqe; replace rs8 := rs8.mono hqe; replace rs9 := rs9.mono hqe
              obtain rfl := hbb.2 rfl
              refine P1 T.ok rfl rfl rfl ?_; refine P1 T.ok rfl rfl rfl ?_; refine WL_nil ?_; (with_reducible refine T_then ?_)
              refine W_no rfl rfl ?_
              refine W_skip ?_; (with_reducible refine T_bn ?_); (with_reducible refine T_then ?_); refine W_region ?_; (iterate 3 refine P1 T.ok rfl rfl rfl ?_); refine WL_nil ?_
              exact fun a ha => ⟨20 - (k + 1), by omega, k + 1, _, _, _, _, _, _, _, _, _, _, _, rfl, hs, le0, rs2, hany, hll, by omega, by omega, rfl, ha.keep ⟨rfl, rfl, rfl, rfl, rfl, kI rfl (by rw [wr (by omega) (by omega)]; omega), trivial⟩⟩
            · clear hany hll
              have hany := hany'
              have hll := hll'
              clear hany' hll'
              obtain ⟨a2, c2, rfl⟩ := rs2.isSlice
              refine P1 T.ok rfl rfl rfl ?_; refine WL_nil ?_; (with_reducible refine T_then ?_)
              refine W_no (b := e' == 0) (by simp; exact hne) rfl ?_
              refine W_skip ?_; (with_reducible refine T_bn ?_); (with_reducible refine T_then ?_); refine W_seq ?_; refine W_region ?_; refine P1 T.ok rfl rfl rfl ?_
              have hyok := hany.ok.2.2.2
              have hrec := records_c hyok.1 hs
              rw [hyok.2] at hrec
              refine WL_o rfl rfl (OpR_ret cl19 allF rfl rfl rfl rfl rfl (hrec) ?_); rintro g1 vo hf1 hvo; obtain ⟨gz, hwz, hsz, hqz, rs3⟩ := hs.ownRs hf1 hvo; have hqe := hf1.le.trans hqz; rw [← hwz]; replace hs := hsz; clear hsz hvo; replace le0 := G.le.trans le0 hqe; replace ep0 := ep0.mono hqe; replace rs1 := rs1.mono hqe; replace rs2 := rs2.mono hqe; replace rs4 := rs4.mono hqe; replace rs6 := rs6.mono hqe; replace rs8 := rs8.mono hqe; replace rs9 := rs9.mono hqe
              clear hrec
              obtain ⟨a3, c3, rfl⟩ := rs3.isSlice
              refine P1 T.ok rfl rfl rfl ?_; refine WL_nil ?_; (with_reducible refine T_then ?_); refine W_seq ?_; refine W_region ?_; (iterate 6 refine P1 T.ok rfl rfl rfl ?_)
              refine WL_know 130 (b' := false) (by simp) rfl ?_
              (iterate 3 refine P1 T.ok rfl rfl rfl ?_)
              refine WL_o rfl rfl (OpR_cut T.ok (a := 0) rfl rfl rfl rfl rfl rfl ⟨_, rfl⟩ (Nat.zero_le _) rs3.cap_le.2.1 ?_)
              have rs4 := rs3.cut (a := 0) (Nat.zero_le _) (Nat.le_refl _)
              rw [List.take_length, List.drop_zero] at rs4
              refine P1 T.ok rfl rfl rfl ?_
              refine WL_o rfl rfl (OpR_ret cl18 allF rfl rfl rfl rfl rfl (same_c _ _ _ _ _ rs4 rs2) ?_); rintro g1 _ hf1 ⟨bb, rfl, hbb⟩; replace hs := hs.call hf1; have hqe := hf1.le; replace le0 := G.le.trans le0 hqe; replace ep0 := ep0.mono hqe; replace rs1 := rs1.mono hqe; replace rs2 := rs2.mono hqe; replace rs3 := rs3.mono hqe; replace rs4 := rs4.mono hqe; replace rs6 := rs6.mono hqe; replace rs8 := rs8.mono hqe; replace rs9 := rs9.mono hqe
              obtain rfl := hbb.2 rfl
              refine P1 T.ok rfl rfl rfl ?_; refine P1 T.ok rfl rfl rfl ?_; refine WL_nil ?_; (with_reducible refine T_then ?_)
              refine W_no rfl rfl ?_
              refine W_skip ?_; (with_reducible refine T_bn ?_); (with_reducible refine T_then ?_); refine W_region ?_; (iterate 3 refine P1 T.ok rfl rfl rfl ?_); refine WL_nil ?_
              exact fun a ha => ⟨20 - (k + 1), by omega, k + 1, _, _, _, _, _, _, _, _, _, _, _, rfl, hs, le0, rs2, hany, hll, by omega, by omega, rfl, ha.keep ⟨rfl, rfl, rfl, rfl, rfl, kI rfl (by rw [wr (by omega) (by omega)]; omega), trivial⟩⟩
    · refine W_no (b := decide ((k : Int) < 20)) (decide_eq_false (by omega)) rfl ?_
      refine W_exit ?_; (with_reducible refine T_tx ?_; with_reducible refine T_tx ?_); (with_reducible refine T_bx ?_); (with_reducible refine T_then ?_); refine W_seq ?_; refine W_region ?_; refine P1 T.ok rfl rfl rfl ?_; refine P1 T.ok rfl rfl rfl ?_; refine WL_nil ?_; (with_reducible refine T_then ?_)
      exact W_ret (ret1 rfl rfl (hs.ret rfl))
  · refine WL_know 34 (b := decide ((k : Int) < (ops.length : Int))) (b' := false) (decide_eq_false (by omega)) rfl ?_
    refine S1 allF rfl rfl ?_; refine S1 allF rfl rfl ?_; refine P1 T.ok rfl rfl rfl ?_; refine WL_nil ?_; (with_reducible refine T_then ?_)
    refine W_no rfl rfl ?_
    refine W_exit ?_; (with_reducible refine T_tx ?_; with_reducible refine T_tx ?_); (with_reducible refine T_bx ?_); (with_reducible refine T_then ?_); refine W_seq ?_; refine W_region ?_; refine P1 T.ok rfl rfl rfl ?_; refine P1 T.ok rfl rfl rfl ?_; refine WL_nil ?_; (with_reducible refine T_then ?_)
    exact W_ret (ret1 rfl rfl (hs.ret rfl))


end Go.Proofs.YteohjgndanlldaaGreatDoor
