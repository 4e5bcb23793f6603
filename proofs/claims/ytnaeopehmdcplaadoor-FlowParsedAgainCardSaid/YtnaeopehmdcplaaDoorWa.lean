/- The walk through FlowParsedAgain. -/
import Derived.Test.YtnaeopehmdcplaaDoorFg

/- The walk of FlowRoundTrip. -/
namespace Go.Proofs.YtnaeopehmdcplaaDoor
open Go Go.K
set_option maxRecDepth 10000
attribute [local irreducible] W WL OpR bitAnd bitOr bitXor bitClr bitNot shlI shrI
set_option maxHeartbeats 8000000

def RFlowC (g : G) (cs : List Value) (f : Flow) : Prop :=
  ∃ a1 n1 c1 a2 n2 c2, cs = [.int .i64 f.moveMin, .int .i64 f.moveMax, .slice a1 n1 c1, .slice a2 n2 c2] ∧ Rs g (.slice a1 n1 c1) f.steps ∧ Rs g (.slice a2 n2 c2) f.windows
instance : El Flow where
  k := 4
  pos := by omega
  rc := RFlowC
  len h := by obtain ⟨_, _, _, _, _, _, rfl, _⟩ := h; rfl
  mono hle h := by obtain ⟨a1, n1, c1, a2, n2, c2, e, h1, h2⟩ := h; exact ⟨a1, n1, c1, a2, n2, c2, e, h1.mono hle, h2.mono hle⟩
  one h := by obtain ⟨_, _, _, _, _, _, rfl, _⟩ := h; simp [Value.oneCell']
theorem printM_small {f : Flow} (h : valid f = true) : (printM f).length ≤ 8192 := printM_len (valid_N h)


theorem roundTrip_c (v : Value) (raw : Flow) (u : Value) (x : List Y6) (t : Value) (zs : List Y3) (g : G) (hF : FlAt g) (fl0 : RFlow g v raw) (rs0 : Rs g u x) (hx : ∀ y ∈ x, y.fit) (rs1 : Rs g t zs) (hz : ∀ z ∈ zs, z.fit) :
    CallsIn Wd 0 Tryd.prog 3 #[v, u, t] g.w (Ret g fun _ r => r = .bool true) := by
  obtain ⟨a1, n1, c1, a2, n2, c2, rfl, rs2, rs3⟩ := fl0
  obtain ⟨ua, uc, rfl⟩ := rs0.isSlice
  obtain ⟨ta, tc, rfl⟩ := rs1.isSlice
  have hs := St.start g
  have le0 := G.le.refl g
  refine enter Tryd.func3 rfl Tryd.ntmps3 rfl ?_
  refine W_seq ?_; refine W_region ?_
  refine WL_o rfl rfl (OpR_box rfl hs rfl rfl ?_); clear hs; rintro bx g1 hs hqe; replace le0 := G.le.trans le0 hqe; replace rs0 := rs0.mono hqe; replace rs1 := rs1.mono hqe; replace rs2 := rs2.mono hqe; replace rs3 := rs3.mono hqe
  refine P1 T.ok rfl rfl rfl ?_; refine WL_nil ?_; (with_reducible refine T_then ?_); refine W_seq ?_; refine W_region ?_
  refine WL_o rfl rfl (OpR_ret cl8 allF rfl rfl rfl rfl rfl (sane_c _ (hF.mono le0)) ?_); rintro g1 _ hf1 rfl; replace hs := hs.call hf1; have hqe := hf1.le; replace le0 := G.le.trans le0 hqe; replace rs0 := rs0.mono hqe; replace rs1 := rs1.mono hqe; replace rs2 := rs2.mono hqe; replace rs3 := rs3.mono hqe
  refine P1 T.ok rfl rfl rfl ?_; refine WL_nil ?_; (with_reducible refine T_then ?_); refine W_seq ?_; refine W_seq ?_; refine W_region ?_; refine WL_o rfl rfl (OpR_loadO T.ok 0 rfl hs rfl rfl rfl ?_)
  refine WL_o rfl rfl (OpR_ret cl9 allF rfl rfl rfl rfl rfl (few_c _ raw _ ⟨_, _, _, _, _, _, rfl, rs2, rs3⟩) ?_); rintro g1 _ hf1 fl1; replace hs := hs.call hf1; have hqe := hf1.le; replace le0 := G.le.trans le0 hqe; replace rs0 := rs0.mono hqe; replace rs1 := rs1.mono hqe; replace rs2 := rs2.mono hqe; replace rs3 := rs3.mono hqe
  refine P1 T.ok rfl rfl rfl ?_; refine P1 T.ok rfl rfl rfl ?_
  refine WL_o rfl rfl (OpR_ret cl10 allF rfl rfl rfl rfl rfl (make_c _ _ x zs _ rs0 rs1 hx hz) ?_); rintro g1 _ hf1 fl2; replace hs := hs.call hf1; have hqe := hf1.le; replace le0 := G.le.trans le0 hqe; replace rs0 := rs0.mono hqe; replace rs1 := rs1.mono hqe; replace rs2 := rs2.mono hqe; replace rs3 := rs3.mono hqe; replace fl1 := fl1.mono hqe
  obtain ⟨a3, n3, c3, a4, n4, c4, rfl, rs4, rs5⟩ := fl1
  obtain ⟨a5, n5, c5, a6, n6, c6, rfl, rs6, rs7⟩ := fl2
  skip
  refine WL_o rfl rfl (OpR_lit T.ok rfl hs (vs := [(0, .agg #[.int .i64 (fewM raw).moveMin, .int .i64 (fewM raw).moveMax, .slice a3 n3 c3, .slice a4 n4 c4]), (1, .agg #[.int .i64 (mk x zs).moveMin, .int .i64 (mk x zs).moveMax, .slice a5 n5 c5, .slice a6 n6 c6])]) (cells := [.int .i64 (fewM raw).moveMin, .int .i64 (fewM raw).moveMax, .slice a3 n3 c3, .slice a4 n4 c4, .int .i64 (mk x zs).moveMin, .int .i64 (mk x zs).moveMax, .slice a5 n5 c5, .slice a6 n6 c6]) rfl rfl rfl rfl rfl rfl (by decide) (by decide) (by kernel_rfl) rfl ?_)
  clear hs
  rintro bl gl hs hqe; replace le0 := G.le.trans le0 hqe; replace rs0 := rs0.mono hqe; replace rs1 := rs1.mono hqe; replace rs2 := rs2.mono hqe; replace rs3 := rs3.mono hqe; replace rs4 := rs4.mono hqe; replace rs5 := rs5.mono hqe; replace rs6 := rs6.mono hqe; replace rs7 := rs7.mono hqe
  obtain ⟨gz, hwz, hsz, hqz, rs8⟩ := hs.fzRow (α := Flow) (xs := [fewM raw, mk x zs]) (i := 0) rfl ⟨_, _, rfl, ⟨_, _, _, _, _, _, rfl, rs4, rs5⟩, [.int .i64 (mk x zs).moveMin, .int .i64 (mk x zs).moveMax, .slice a5 n5 c5, .slice a6 n6 c6], [], rfl, ⟨_, _, _, _, _, _, rfl, rs6, rs7⟩, rfl⟩
  have hqe := hqz; rw [← hwz]; replace hs := hsz; clear hsz hqz; replace le0 := G.le.trans le0 hqe; replace rs0 := rs0.mono hqe; replace rs1 := rs1.mono hqe; replace rs2 := rs2.mono hqe; replace rs3 := rs3.mono hqe; replace rs4 := rs4.mono hqe; replace rs5 := rs5.mono hqe; replace rs6 := rs6.mono hqe; replace rs7 := rs7.mono hqe
  clear rs4 rs5 rs6 rs7 rs2 rs3 rs0 rs1
  replace hs : St g gz [] := hs.tail (M := [_])
  refine P1 T.ok rfl rfl rfl ?_; refine P1 T.ok rfl rfl rfl ?_; refine WL_nil ?_; (with_reducible refine T_then ?_); refine W_block ?_
  have rs8c := rs8
  have le0c := le0
  have hget : ∀ k : Nat, k < 2 → ∃ f, geti [fewM raw, mk x zs] (k : Int) = some f := fun k hk => ⟨_, geti_of (xs := [fewM raw, mk x zs]) rfl hk⟩
  generalize hFSx : [fewM raw, mk x zs] = FSx at *
  clear hFSx
  refine W_loop (fun m a' w => ∃ (k : Nat) (g' : G), w = g'.w ∧ St g g' [] ∧ G.le gz g' ∧ k ≤ 2 ∧ m = 2 - k ∧
    Fr 76 [] [(7, .bool true), (21, .slice (some ⟨bl, 0, none⟩) 2 2), (22, .int .i64 2), (23, .int .i64 k)] a') 2 (fun a' ha => ⟨0, gz, rfl, hs, G.le.refl _, Nat.zero_le _, rfl, ha.keep (by (repeat (first | exact trivial | refine ⟨rfl, ?_⟩)))⟩) ?_
  clear hs le0 rs8
  rintro m a' _ ⟨k, g', rfl, hs, le8, hk, rfl, ha'⟩
  have rs8 := rs8c.mono le8
  have le0 := le0c.trans le8
  revert a'
  (with_reducible refine T_wp ?_); refine W_seq ?_; refine W_region ?_; refine P1 T.ok rfl rfl rfl ?_; refine WL_nil ?_; (with_reducible refine T_then ?_); refine W_seq ?_
  by_cases hlt : k < 2
  · refine W_yes (b := _) ?_ rfl ?_
    · simp; omega
    obtain ⟨f, hgf⟩ := hget k hlt
    refine W_skip ?_; (with_reducible refine T_then ?_); refine W_seq ?_; refine W_block ?_; refine W_seq ?_; refine W_region ?_
    refine WL_o rfl rfl (OpR_idx T.ok rfl rs8 (y := f) hgf rfl rfl rfl rfl rfl rfl ?_)
    rintro bq pq ys hep ⟨a1, n1, c1, a2, n2, c2, rfl, rs2, rs3⟩
    refine WL_o rfl rfl (OpR_loadE T.ok 0 rfl hep rfl rfl ?_)
    skip
    refine WL_o rfl rfl (OpR_alloc T.ok rfl hs rfl rfl ?_); clear hs; rintro b9 g1 hs hqe; replace le0 := G.le.trans le0 hqe; replace le8 := G.le.trans le8 hqe; replace rs2 := rs2.mono hqe; replace rs3 := rs3.mono hqe; replace rs8 := rs8.mono hqe
    skip
    refine WL_n rfl (OpR_storeO T.ok 0 rfl hs rfl rfl rfl rfl rfl rfl rfl rfl rfl ?_); replace hs := hs; rintro g1 hs hqe; replace le0 := G.le.trans le0 hqe; replace le8 := G.le.trans le8 hqe; replace rs2 := rs2.mono hqe; replace rs3 := rs3.mono hqe; replace rs8 := rs8.mono hqe
    refine WL_nil ?_; (with_reducible refine T_then ?_); refine W_seq ?_; refine W_region ?_; refine WL_o rfl rfl (OpR_loadO T.ok 0 rfl hs rfl rfl rfl ?_)
    refine WL_o rfl rfl (OpR_ret cl11 allF rfl rfl rfl rfl rfl (print_c _ f _ ⟨_, _, _, _, _, _, rfl, rs2, rs3⟩ (hF.mono le0)) ?_); rintro g1 _ hf1 hp; replace hs := hs.call hf1; have hqe := hf1.le; replace le0 := G.le.trans le0 hqe; replace le8 := G.le.trans le8 hqe; replace rs2 := rs2.mono hqe; replace rs3 := rs3.mono hqe; replace rs8 := rs8.mono hqe
    by_cases hv : valid f = true
    · rw [printRes_yes hv] at hp
      subst hp
      have hl := printM_small hv
      (iterate 5 refine P1 T.ok rfl rfl rfl ?_); refine WL_nil ?_; (with_reducible refine T_then ?_); refine W_seq ?_; refine W_seq ?_; refine W_region ?_; refine P1 T.ok rfl rfl rfl ?_; refine P1 T.ok rfl rfl rfl ?_; refine WL_o rfl rfl (OpR_loadO T.ok 0 rfl hs rfl rfl rfl ?_)
      refine WL_o rfl rfl (OpR_ret cl12 allF rfl rfl rfl rfl rfl (valid_c _ f _ ⟨_, _, _, _, _, _, rfl, rs2, rs3⟩) ?_); rintro g1 _ hf1 hp; replace hs := hs.call hf1; have hqe := hf1.le; replace le0 := G.le.trans le0 hqe; replace le8 := G.le.trans le8 hqe; replace rs2 := rs2.mono hqe; replace rs3 := rs3.mono hqe; replace rs8 := rs8.mono hqe
      rw [hv] at hp
      subst hp
      refine WL_o rfl rfl (OpR_eqBool T.ok (neg := true) rfl rfl rfl rfl rfl ?_)
      (iterate 4 refine P1 T.ok rfl rfl rfl ?_); (iterate 6 refine S1 allF rfl rfl ?_); refine P1 T.ok rfl rfl rfl ?_; refine P1 T.ok rfl rfl rfl ?_; refine WL_nil ?_; (with_reducible refine T_then ?_)
      refine W_no rfl rfl ?_
      refine W_skip ?_; (with_reducible refine T_then ?_); refine W_seq ?_; refine W_seq ?_; refine W_region ?_; refine P1 T.ok rfl rfl rfl ?_; refine P1 T.ok rfl rfl rfl ?_; refine WL_nil ?_; (with_reducible refine T_then ?_)
      refine W_no rfl rfl ?_
      refine W_skip ?_; (with_reducible refine T_then ?_); refine W_seq ?_; refine W_region ?_; refine P1 T.ok rfl rfl rfl ?_
      refine WL_o rfl rfl (OpR_ret cl13 allF rfl rfl rfl rfl rfl (parse_c (printM f) _ (by omega) (hF.mono le0)) ?_); rintro g1 _ hf1 hp; replace hs := hs.call hf1; have hqe := hf1.le; replace le0 := G.le.trans le0 hqe; replace le8 := G.le.trans le8 hqe; replace rs2 := rs2.mono hqe; replace rs3 := rs3.mono hqe; replace rs8 := rs8.mono hqe
      rw [parse_print hv] at hp
      obtain ⟨_, rfl, a5, n5, c5, a6, n6, c6, rfl, rs4, rs5⟩ := hp
      (iterate 4 refine P1 T.ok rfl rfl rfl ?_)
      refine WL_o rfl rfl (OpR_alloc T.ok rfl hs rfl rfl ?_); clear hs; rintro b12 g1 hs hqe; replace le0 := G.le.trans le0 hqe; replace le8 := G.le.trans le8 hqe; replace rs2 := rs2.mono hqe; replace rs3 := rs3.mono hqe; replace rs4 := rs4.mono hqe; replace rs5 := rs5.mono hqe; replace rs8 := rs8.mono hqe
      skip
      refine WL_n rfl (OpR_storeO T.ok 0 rfl hs rfl rfl rfl rfl rfl rfl rfl rfl rfl ?_); replace hs := hs; rintro g1 hs hqe; replace le0 := G.le.trans le0 hqe; replace le8 := G.le.trans le8 hqe; replace rs2 := rs2.mono hqe; replace rs3 := rs3.mono hqe; replace rs4 := rs4.mono hqe; replace rs5 := rs5.mono hqe; replace rs8 := rs8.mono hqe
      refine P1 T.ok rfl rfl rfl ?_; refine P1 T.ok rfl rfl rfl ?_; refine WL_nil ?_; (with_reducible refine T_then ?_); refine W_seq ?_; refine W_region ?_; (iterate 7 refine P1 T.ok rfl rfl rfl ?_); refine WL_o rfl rfl (OpR_loadO T.ok 1 rfl hs rfl rfl rfl ?_); refine WL_o rfl rfl (OpR_loadO T.ok 0 rfl hs rfl rfl rfl ?_)
      refine WL_o rfl rfl (OpR_ret cl14 allF rfl rfl rfl rfl rfl (same_c _ _ f f _ ⟨_, _, _, _, _, _, rfl, rs2, rs3⟩ ⟨_, _, _, _, _, _, rfl, rs4, rs5⟩) ?_); rintro g1 _ hf1 hp; replace hs := hs.call hf1; have hqe := hf1.le; replace le0 := G.le.trans le0 hqe; replace le8 := G.le.trans le8 hqe; replace rs2 := rs2.mono hqe; replace rs3 := rs3.mono hqe; replace rs4 := rs4.mono hqe; replace rs5 := rs5.mono hqe; replace rs8 := rs8.mono hqe
      rw [(sameF_iff f f).2 rfl] at hp
      subst hp
      (iterate 7 refine P1 T.ok rfl rfl rfl ?_); refine WL_nil ?_; (with_reducible refine T_then ?_)
      refine W_no (b := _) ?_ rfl ?_
      · simp [bs_size]; omega
      refine W_skip ?_; (with_reducible refine T_bn ?_); (with_reducible refine T_then ?_); refine W_region ?_; refine P1 T.ok rfl rfl rfl ?_; refine P1 T.ok rfl rfl rfl ?_; refine WL_nil ?_
      exact fun a ha => ⟨2 - (k + 1), by omega, k + 1, _, rfl, hs.tail (M := [_, _]), le8, by omega, rfl, ha.keep ⟨rfl, rfl, rfl, kI rfl (by rw [wr (by omega) (by omega)]; omega), trivial⟩⟩
    · have hv0 : valid f = false := by simpa using hv
      rw [printRes_no hv0] at hp
      subst hp
      (iterate 5 refine P1 T.ok rfl rfl rfl ?_); refine WL_nil ?_; (with_reducible refine T_then ?_); refine W_seq ?_; refine W_seq ?_; refine W_region ?_; refine P1 T.ok rfl rfl rfl ?_; refine P1 T.ok rfl rfl rfl ?_; refine WL_o rfl rfl (OpR_loadO T.ok 0 rfl hs rfl rfl rfl ?_)
      refine WL_o rfl rfl (OpR_ret cl12 allF rfl rfl rfl rfl rfl (valid_c _ f _ ⟨_, _, _, _, _, _, rfl, rs2, rs3⟩) ?_); rintro g1 _ hf1 hp; replace hs := hs.call hf1; have hqe := hf1.le; replace le0 := G.le.trans le0 hqe; replace le8 := G.le.trans le8 hqe; replace rs2 := rs2.mono hqe; replace rs3 := rs3.mono hqe; replace rs8 := rs8.mono hqe
      rw [hv0] at hp
      subst hp
      refine WL_o rfl rfl (OpR_eqBool T.ok (neg := true) rfl rfl rfl rfl rfl ?_)
      (iterate 12 refine P1 T.ok rfl rfl rfl ?_); refine WL_nil ?_; (with_reducible refine T_then ?_)
      refine W_no (b := _) ?_ rfl ?_
      · simp [bs_toList]
      refine W_skip ?_; (with_reducible refine T_then ?_); refine W_seq ?_; refine W_seq ?_; refine W_region ?_; refine P1 T.ok rfl rfl rfl ?_; refine P1 T.ok rfl rfl rfl ?_; refine WL_nil ?_; (with_reducible refine T_then ?_)
      refine W_yes rfl rfl ?_
      refine W_exit ?_; (with_reducible refine T_tx ?_); (with_reducible refine T_bx ?_); (with_reducible refine T_then ?_); refine W_region ?_; refine P1 T.ok rfl rfl rfl ?_; refine P1 T.ok rfl rfl rfl ?_; refine WL_nil ?_
      exact fun a ha => ⟨2 - (k + 1), by omega, k + 1, _, rfl, hs.tail (M := [_]), le8, by omega, rfl, ha.keep ⟨rfl, rfl, rfl, kI rfl (by rw [wr (by omega) (by omega)]; omega), trivial⟩⟩
  · refine W_no (b := _) ?_ rfl ?_
    · simp; omega
    refine W_exit ?_; (with_reducible refine T_tx ?_; with_reducible refine T_tx ?_); (with_reducible refine T_bx ?_); (with_reducible refine T_then ?_); refine W_seq ?_; refine W_region ?_; refine P1 T.ok rfl rfl rfl ?_; refine P1 T.ok rfl rfl rfl ?_; refine WL_nil ?_; (with_reducible refine T_then ?_)
    refine W_ret ?_
    skip
    exact ret1 rfl rfl (hs.ret rfl)
end Go.Proofs.YtnaeopehmdcplaaDoor

/- The walk of FlowParsedAgain. -/
namespace Go.Proofs.YtnaeopehmdcplaaDoor
open Go Go.K
set_option maxRecDepth 10000
attribute [local irreducible] W WL OpR bitAnd bitOr bitXor bitClr bitNot shlI shrI
set_option maxHeartbeats 8000000

theorem bd_src {e : TypeId} {v : Value} {xs : List UInt8} {Lr L : List Ent} {g0 g : G} (hb : BdRow e v xs Lr) (hs : St g0 g (Lr ++ L)) : ∃ ad c, v = .slice ad xs.length c ∧ Src g.w ad xs.length 1 ((xs.map fun b : UInt8 => (b.toNat : Int)).map (Value.int .u8)) := by
  rcases hb with ⟨rfl, rfl, rfl⟩ | ⟨br, cap, cur, rfl, rfl, h1, h2, h3, h4⟩
  · exact ⟨none, 0, rfl, by simp, .inl rfl⟩
  · refine ⟨_, _, rfl, by simp, .inr ⟨br, 0, rfl, fun j u hu => ?_⟩⟩
    have ho := (hs.own 0 _ rfl).2.1
    have hj : j < xs.length := by
      have := (List.getElem?_eq_some_iff.1 hu).1
      simpa using this
    have hu2 : (byteV xs)[j]? = some u := by rw [← hu, List.map_map]; rfl
    rw [← h4, List.getElem?_take_of_lt hj, Array.getElem?_toList] at hu2
    rw [Nat.zero_add]
    exact (CellsAt.plain ho).cell hu2
theorem bs_ints (xs : List UInt8) : (xs.map fun b : UInt8 => (b.toNat : Int)).map (fun m => UInt8.ofNat m.toNat) = xs := by
  rw [List.map_map]
  conv => rhs; rw [← List.map_id xs]
  exact List.map_congr_left fun b _ => by simp
theorem parse_pos {s : List UInt8} {k : Nat} (h : parseM s = .inr k) : 1 ≤ k := by
  have hp : ∀ (ls : List (List UInt8)) (first : Bool) (f : Flow) (i a : Nat), parseGo first f i ls = .inr a → 1 ≤ a := by
    intro ls
    induction ls with
    | nil => intro _ _ _ _ h; cases h
    | cons l r ih =>
      intro first f i a h
      rw [parseGo] at h
      split at h
      · exact ih _ _ _ _ h
      · cases hd : headR first f l with
        | none => rw [hd] at h; have := Sum.inr.inj h; omega
        | some f1 => rw [hd] at h; exact ih _ _ _ _ h
  have h1 : 1 ≤ (splitC 10 s).length := by
    cases s with
    | nil => decide
    | cons b t =>
      unfold splitC
      split
      · simp
      · split <;> simp
  unfold parseM at h
  cases hg : parseGo true flow0 0 (splitC 10 s) with
  | inl f =>
    rw [hg] at h
    dsimp only at h
    split at h
    · cases h
    · have := Sum.inr.inj h; omega
  | inr j =>
    rw [hg] at h
    have := Sum.inr.inj h
    have := hp _ _ _ _ _ hg
    omega
/-- The text without its ignored lines, so far. -/
def wantM (ls : List (List UInt8)) (k : Nat) : List UInt8 := textOf ((ls.take k).filter fun l => !skipL l)
theorem want_yes {ls : List (List UInt8)} {k : Nat} (hk : k < ls.length) (h : skipL ls[k] = false) : wantM ls (k + 1) = wantM ls k ++ ls[k] ++ [10] := by
  unfold wantM
  rw [List.take_succ_eq_append_getElem hk, List.filter_append, textOf_app]
  simp [h, textOf, List.append_assoc]
theorem want_no {ls : List (List UInt8)} {k : Nat} (hk : k < ls.length) (h : skipL ls[k] = true) : wantM ls (k + 1) = wantM ls k := by
  unfold wantM
  rw [List.take_succ_eq_append_getElem hk, List.filter_append]
  simp [h]
theorem want_len (ls : List (List UInt8)) (c : Nat) (h : ∀ l ∈ ls, l.length ≤ c) (k : Nat) : (wantM ls k).length ≤ ls.length * (c + 1) := by
  unfold wantM
  refine Nat.le_trans (textOf_len (c := c) fun l hl => h l (List.mem_of_mem_take (List.mem_filter.1 hl).1)) (Nat.mul_le_mul_right _ ?_)
  refine Nat.le_trans (List.length_filter_le _ _) ?_
  rw [List.length_take]; omega
theorem skip_cons (b : UInt8) (t : List UInt8) : skipL (b :: t) = (b == 35) := by
  unfold skipL
  rw [show ((b :: t) == []) = false from rfl, Bool.false_or]
  show ((35 : UInt8) == b && ([] : List UInt8).isPrefixOf t) = _
  rw [show ([] : List UInt8).isPrefixOf t = true from by cases t <;> rfl, Bool.and_true]
  exact BEq.comm




theorem parsedAgain_c (raw : List UInt8) (u : Value) (x : List Y6) (t : Value) (zs : List Y3) (at' : Int) (c : UInt8) (g : G) (hF : FlAt g) (rs0 : Rs g u x) (hx : ∀ y ∈ x, y.fit) (rs1 : Rs g t zs) (hz : ∀ z ∈ zs, z.fit) (hat : I64 at') :
    CallsIn Wd 0 Tryd.prog 4 #[.string (bs raw), u, t, .int .i64 at', .int .u8 (c.toNat : Int)] g.w (Ret g fun _ r => r = .bool true) := by
  obtain ⟨ua, uc, rfl⟩ := rs0.isSlice
  obtain ⟨ta, tc, rfl⟩ := rs1.isSlice
  have hs := St.start g
  have le0 := G.le.refl g
  refine enter Tryd.func4 rfl Tryd.ntmps4 rfl ?_
  refine W_seq ?_; refine W_region ?_; refine P1 T.ok rfl rfl rfl ?_; refine WL_nil ?_; (with_reducible refine T_then ?_); refine W_seq ?_; refine W_region ?_
  refine WL_o rfl rfl (OpR_ret cl8 allF rfl rfl rfl rfl rfl (sane_c _ (hF.mono le0)) ?_); rintro g1 _ hf1 rfl; replace hs := hs.call hf1; have hqe := hf1.le; replace le0 := G.le.trans le0 hqe; replace rs0 := rs0.mono hqe; replace rs1 := rs1.mono hqe
  refine P1 T.ok rfl rfl rfl ?_; refine WL_nil ?_; (with_reducible refine T_then ?_); refine W_seq ?_; refine W_region ?_; refine P1 T.ok rfl rfl rfl ?_; refine P1 T.ok rfl rfl rfl ?_
  refine WL_o rfl rfl (OpR_ret cl10 allF rfl rfl rfl rfl rfl (make_c _ _ x zs _ rs0 rs1 hx hz) ?_); rintro g1 _ hf1 fl1; replace hs := hs.call hf1; have hqe := hf1.le; replace le0 := G.le.trans le0 hqe; replace rs0 := rs0.mono hqe; replace rs1 := rs1.mono hqe
  skip
  refine WL_o rfl rfl (OpR_ret cl11 allF rfl rfl rfl rfl rfl (print_c _ _ _ fl1 (hF.mono le0)) ?_); rintro g1 _ hf1 hp; replace hs := hs.call hf1; have hqe := hf1.le; replace le0 := G.le.trans le0 hqe; replace rs0 := rs0.mono hqe; replace rs1 := rs1.mono hqe; replace fl1 := fl1.mono hqe
  have hmv := mk_valid x zs
  rw [printRes_yes hmv] at hp
  subst hp
  have hTl := printM_small hmv
  have hT0 : 0 < (printM (mk x zs)).length := by
    unfold printM; rw [List.length_append, List.length_cons]; omega
  generalize printM (mk x zs) = TX at *
  clear fl1 rs0 rs1 hx hz hmv
  (iterate 5 refine P1 T.ok rfl rfl rfl ?_); refine WL_nil ?_; (with_reducible refine T_then ?_); refine W_seq ?_; refine W_seq ?_; refine W_region ?_; (iterate 6 refine P1 T.ok rfl rfl rfl ?_); refine WL_nil ?_; (with_reducible refine T_then ?_)
  refine W_no (b := _) ?_ rfl ?_
  · have : TX ≠ [] := by intro h; rw [h] at hT0; simp at hT0
    rw [bs_toList]; simp [toList0, this]
  refine W_skip ?_; (with_reducible refine T_then ?_); refine W_seq ?_; refine W_region ?_; (iterate 3 refine P1 T.ok rfl rfl rfl ?_)
  have hcall := lpick_c at' (TX.length : Int) g1 hat (by omega)
  refine WL_re (.int .i64 (TX.length : Int)) (t := 41) rfl (congrArg (Value.int .i64) (by rw [bs_size])) ?_
  refine WL_o rfl rfl (OpR_ret cl15 allF rfl rfl rfl rfl rfl (hcall) ?_); rintro g1 _ hf1 rfl; replace hs := hs.call hf1; have hqe := hf1.le; replace le0 := G.le.trans le0 hqe
  clear hcall
  have hpr := pickM_range (c := at') (n := (TX.length : Int)) (by omega)
  obtain ⟨kk, hkk⟩ : ∃ kk : Nat, pickM at' (TX.length : Int) = kk := ⟨(pickM at' (TX.length : Int)).toNat, by omega⟩
  rw [hkk] at hpr ⊢
  clear hkk
  have hkl : kk < TX.length := by omega
  refine P1 T.ok rfl rfl rfl ?_; refine WL_nil ?_; (with_reducible refine T_then ?_); refine W_seq ?_; refine W_seq ?_
  apply W_draw allF rfl (Fact.eq _ :: Fact.eq _ :: Fact.eq _ :: Fact.eq _ :: Fact.eq _ :: Fact.eq _ :: Fact.eq _ :: Fact.eq _ :: Fact.eq _ :: (Fact.rs [c]) :: Fact.eq _ :: Fact.eq _ :: Fact.eq _ :: Fact.eq _ :: Fact.eq _ :: Fact.eq _ :: Fact.eq _ :: (Fact.rs [Str.mk ((raw.take (min raw.length 3000)).drop 0), Str.mk ((TX.take kk).drop 0 ++ [c] ++ (TX.take TX.length).drop (kk + 1))]) :: Fact.eq _ :: Fact.eq _ :: []) 20 [(17, 60), (18, 61), (19, 62)] rfl rfl
  · refine D_cons (D_step2 (js := []) (by kernel_rfl) fun gd hf => ?_) ?_
    · have hsd := hs.dr.call hf; have hfe := (G.le_dr _).trans hf.le
      refine QA_nil ?_
      (refine D_yes rfl ?_; refine OpR_pure _ T.ok rfl ?_; refine ⟨_, rfl, Fr0.refl _, ?_⟩; exact rfl)
    refine D_cons (D_step2 (js := []) (by kernel_rfl) fun gd hf => ?_) ?_
    · have hsd := hs.dr.call hf; have hfe := (G.le_dr _).trans hf.le
      refine QA_nil ?_
      (refine D_yes rfl ?_; refine OpR_pure _ T.ok rfl ?_; refine ⟨_, rfl, Fr0.refl _, ?_⟩; exact rfl)
    refine D_cons (D_step2 (js := [(1, 44)]) (by kernel_rfl) fun gd hf => ?_) ?_
    · have hsd := hs.dr.call hf; have hfe := (G.le_dr _).trans hf.le
      refine QA_eq rfl ?_
      refine QA_nil ?_
      refine D_yes rfl ?_
      refine OpR_pure _ T.ok rfl ?_
      refine ⟨_, rfl, Fr0.refl _, ?_⟩
      exact congrArg (Value.int .i64) (show _ = (raw.length : Int) from by rw [bs_size])
    refine D_cons (D_step2 (js := [(2, 45)]) (by kernel_rfl) fun gd hf => ?_) ?_
    · have hsd := hs.dr.call hf; have hfe := (G.le_dr _).trans hf.le
      refine QA_eq rfl ?_
      refine QA_nil ?_
      refine D_yes rfl ?_
      refine OpR_pure _ T.ok rfl ?_
      refine ⟨_, rfl, Fr0.refl _, ?_⟩
      exact congrArg (Value.int .i64) (min_int raw.length 3000)
    refine D_cons (D_step2 (js := [(0, 43), (3, 46)]) (by kernel_rfl) fun gd hf => ?_) ?_
    · have hsd := hs.dr.call hf; have hfe := (G.le_dr _).trans hf.le
      refine QA_eq rfl ?_; refine QA_eq rfl ?_
      refine QA_nil ?_
      refine D_yes rfl ?_
      refine OpR_cutS T.ok (s := raw) (a := 0) (b := min raw.length 3000) rfl rfl rfl rfl (rfl) (⟨_, rfl⟩) (by omega) (by omega) ?_
      exact ⟨_, rfl, Fr0.refl _, rfl⟩
    refine D_cons (D_step2 (js := []) (by kernel_rfl) fun gd hf => ?_) ?_
    · have hsd := hs.dr.call hf; have hfe := (G.le_dr _).trans hf.le
      refine QA_nil ?_
      (refine D_yes rfl ?_; refine OpR_pure _ T.ok rfl ?_; refine ⟨_, rfl, Fr0.refl _, ?_⟩; exact rfl)
    refine D_cons (D_step2 (js := []) (by kernel_rfl) fun gd hf => ?_) ?_
    · have hsd := hs.dr.call hf; have hfe := (G.le_dr _).trans hf.le
      refine QA_nil ?_
      (refine D_yes rfl ?_; refine OpR_pure _ T.ok rfl ?_; refine ⟨_, rfl, Fr0.refl _, ?_⟩; exact rfl)
    refine D_cons (D_step2 (js := [(5, 48), (6, 49)]) (by kernel_rfl) fun gd hf => ?_) ?_
    · have hsd := hs.dr.call hf; have hfe := (G.le_dr _).trans hf.le
      refine QA_eq rfl ?_; refine QA_eq rfl ?_
      refine QA_nil ?_
      refine D_yes rfl ?_
      refine OpR_cutS T.ok (s := TX) (a := 0) (b := kk) rfl rfl rfl rfl (rfl) (⟨_, rfl⟩) (by omega) (by omega) ?_
      exact ⟨_, rfl, Fr0.refl _, rfl⟩
    refine D_cons (D_step2 (js := []) (by kernel_rfl) fun gd hf => ?_) ?_
    · have hsd := hs.dr.call hf; have hfe := (G.le_dr _).trans hf.le
      refine QA_nil ?_
      (refine D_yes rfl ?_; refine OpR_pure _ T.ok rfl ?_; refine ⟨_, rfl, Fr0.refl _, ?_⟩; exact rfl)
    refine D_cons (D_step2 (js := [(8, 51)]) (by kernel_rfl) fun gd hf => ?_) ?_
    · have hsd := hs.dr.call hf; have hfe := (G.le_dr _).trans hf.le
      refine QA_eq rfl ?_
      refine QA_nil ?_
      refine D_yes rfl ?_
      refine OpR_lit T.ok rfl (St.start gd) (vs := [(0, .int .u8 (c.toNat : Int))]) (cells := [.int .u8 (c.toNat : Int)]) rfl rfl rfl rfl rfl rfl (by decide) (by decide) (by kernel_rfl) rfl ?_
      intro b2 g2 hs1 hqe1
      obtain ⟨g3, hw3, hs3, hqe3, hrl⟩ := hs1.fzRow (α := UInt8) (xs := [c]) (i := 0) rfl (RcL.bytes _ [c])
      exact ⟨g3, hw3, hs3.fr0, hrl⟩
    refine D_cons (D_step2 (js := [(9, 52)]) (by kernel_rfl) fun gd hf => ?_) ?_
    · have hsd := hs.dr.call hf; have hfe := (G.le_dr _).trans hf.le
      refine QA_any fun v9 h9 => ?_
      refine QA_nil ?_
      obtain ⟨ba, bc, rfl⟩ := Rs.isSlice h9
      obtain ⟨_, news, hnw, hsrc⟩ := Src.of_rs h9
      obtain rfl := RcL.bytes_inv hnw
      refine D_yes rfl ?_
      refine OpR_bytesStr T.ok (ns := [(c.toNat : Int)]) rfl rfl rfl rfl rfl rfl rfl rfl hsrc ?_
      refine ⟨_, rfl, Fr0.refl _, ?_⟩
      exact congrArg (fun y => Value.string (bs y)) (bs_ints [c])
    refine D_cons (D_step2 (js := [(7, 50), (10, 53)]) (by kernel_rfl) fun gd hf => ?_) ?_
    · have hsd := hs.dr.call hf; have hfe := (G.le_dr _).trans hf.le
      refine QA_eq rfl ?_; refine QA_eq rfl ?_
      refine QA_nil ?_
      refine D_yes rfl ?_
      refine OpR_addS (p := (TX.take kk).drop 0) (q := [c]) rfl rfl rfl (by simp only [List.length_append, List.length_take, List.length_drop, List.length_cons, List.length_nil]; omega) ?_
      exact ⟨_, rfl, Fr0.refl _, rfl⟩
    refine D_cons (D_step2 (js := []) (by kernel_rfl) fun gd hf => ?_) ?_
    · have hsd := hs.dr.call hf; have hfe := (G.le_dr _).trans hf.le
      refine QA_nil ?_
      (refine D_yes rfl ?_; refine OpR_pure _ T.ok rfl ?_; refine ⟨_, rfl, Fr0.refl _, ?_⟩; exact rfl)
    refine D_cons (D_step2 (js := []) (by kernel_rfl) fun gd hf => ?_) ?_
    · have hsd := hs.dr.call hf; have hfe := (G.le_dr _).trans hf.le
      refine QA_nil ?_
      (refine D_yes rfl ?_; refine OpR_pure _ T.ok rfl ?_; refine ⟨_, rfl, Fr0.refl _, ?_⟩; exact rfl)
    refine D_cons (D_step2 (js := [(13, 56)]) (by kernel_rfl) fun gd hf => ?_) ?_
    · have hsd := hs.dr.call hf; have hfe := (G.le_dr _).trans hf.le
      refine QA_eq rfl ?_
      refine QA_nil ?_
      refine D_yes rfl ?_
      refine OpR_pure _ T.ok rfl ?_
      refine ⟨_, rfl, Fr0.refl _, ?_⟩
      exact congrArg (Value.int .i64) (show _ = ((kk + 1 : Nat) : Int) from wr (by omega) (by omega))
    refine D_cons (D_step2 (js := [(12, 55), (14, 57)]) (by kernel_rfl) fun gd hf => ?_) ?_
    · have hsd := hs.dr.call hf; have hfe := (G.le_dr _).trans hf.le
      refine QA_eq rfl ?_; refine QA_eq rfl ?_
      refine QA_nil ?_
      refine D_yes rfl ?_
      refine OpR_cutS T.ok (s := TX) (a := kk + 1) (b := TX.length) rfl rfl rfl rfl (⟨_, rfl⟩) (rfl) (by omega) (by omega) ?_
      exact ⟨_, rfl, Fr0.refl _, rfl⟩
    refine D_cons (D_step2 (js := [(11, 54), (15, 58)]) (by kernel_rfl) fun gd hf => ?_) ?_
    · have hsd := hs.dr.call hf; have hfe := (G.le_dr _).trans hf.le
      refine QA_eq rfl ?_; refine QA_eq rfl ?_
      refine QA_nil ?_
      refine D_yes rfl ?_
      refine OpR_addS (p := (TX.take kk).drop 0 ++ [c]) (q := (TX.take TX.length).drop (kk + 1)) rfl rfl rfl (by simp only [List.length_append, List.length_take, List.length_drop, List.length_cons, List.length_nil]; omega) ?_
      exact ⟨_, rfl, Fr0.refl _, rfl⟩
    refine D_cons (D_step2 (js := [(4, 47), (16, 59)]) (by kernel_rfl) fun gd hf => ?_) ?_
    · have hsd := hs.dr.call hf; have hfe := (G.le_dr _).trans hf.le
      refine QA_eq rfl ?_; refine QA_eq rfl ?_
      refine QA_nil ?_
      refine D_yes rfl ?_
      refine OpR_lit T.ok rfl (St.start gd) (vs := [(0, .string (bs ((raw.take (min raw.length 3000)).drop 0))), (1, .string (bs ((TX.take kk).drop 0 ++ [c] ++ (TX.take TX.length).drop (kk + 1))))]) (cells := [.string (bs ((raw.take (min raw.length 3000)).drop 0)), .string (bs ((TX.take kk).drop 0 ++ [c] ++ (TX.take TX.length).drop (kk + 1)))]) rfl rfl rfl rfl rfl rfl (by decide) (by decide) (by kernel_rfl) rfl ?_
      intro b2 g2 hs1 hqe1
      obtain ⟨g3, hw3, hs3, hqe3, hrl⟩ := hs1.fzRow (α := Str) (xs := [Str.mk ((raw.take (min raw.length 3000)).drop 0), Str.mk ((TX.take kk).drop 0 ++ [c] ++ (TX.take TX.length).drop (kk + 1))]) (i := 0) rfl (RcL.strs _ [(raw.take (min raw.length 3000)).drop 0, (TX.take kk).drop 0 ++ [c] ++ (TX.take TX.length).drop (kk + 1)])
      exact ⟨g3, hw3, hs3.fr0, hrl⟩
    refine D_cons (D_step2 (js := [(17, 60)]) (by kernel_rfl) fun gd hf => ?_) ?_
    · have hsd := hs.dr.call hf; have hfe := (G.le_dr _).trans hf.le
      refine QA_any fun v17 h17 => ?_
      refine QA_nil ?_
      obtain ⟨ba, bc, rfl⟩ := Rs.isSlice h17
      refine D_yes rfl ?_
      refine OpR_pure _ T.ok rfl ?_
      exact ⟨_, rfl, Fr0.refl _, rfl⟩
    refine D_cons (D_step2 (js := []) (by kernel_rfl) fun gd hf => ?_) ?_
    · have hsd := hs.dr.call hf; have hfe := (G.le_dr _).trans hf.le
      refine QA_nil ?_
      (refine D_yes rfl ?_; refine OpR_pure _ T.ok rfl ?_; refine ⟨_, rfl, Fr0.refl _, ?_⟩; exact rfl)
    exact D_nil
  intro g1 hf1; refine QA_any fun v17 h17 => ?_; refine QA_eq rfl ?_; refine QA_eq rfl ?_; refine QA_nil ?_
  replace hs := hs.dr.call hf1; have hqe := (G.le_dr _).trans hf1.le; replace le0 := G.le.trans le0 hqe
  obtain ⟨sa, sc, rfl⟩ := Rs.isSlice h17
  have rs8 := h17
  clear h17
  have hS : ∀ y ∈ [Str.mk ((raw.take (min raw.length 3000)).drop 0), Str.mk ((TX.take kk).drop 0 ++ [c] ++ (TX.take TX.length).drop (kk + 1))], y.s.length ≤ 8192 := by
    intro y hy
    rcases List.mem_cons.1 hy with rfl | hy
    · rw [List.drop_zero, List.length_take]; omega
    · rw [List.mem_singleton.1 hy]
      simp only [List.length_append, List.length_take, List.length_drop, List.length_cons, List.length_nil]; omega
  have hSl : [Str.mk ((raw.take (min raw.length 3000)).drop 0), Str.mk ((TX.take kk).drop 0 ++ [c] ++ (TX.take TX.length).drop (kk + 1))].length = 2 := rfl
  generalize [Str.mk ((raw.take (min raw.length 3000)).drop 0), Str.mk ((TX.take kk).drop 0 ++ [c] ++ (TX.take TX.length).drop (kk + 1))] = SS at *
  refine WL_nil ?_; (with_reducible refine T_then ?_); refine W_block ?_
  have rs8c := rs8
  have le0c := le0
  refine W_loop (fun m a' w => ∃ (k : Nat) (g' : G), w = g'.w ∧ St g g' [] ∧ G.le g1 g' ∧ k ≤ 2 ∧ m = 2 - k ∧
    Fr 134 [] [(11, .bool true), (60, .slice sa SS.length sc), (61, .int .i64 2), (62, .int .i64 k)] a') 2 (fun a' ha => ⟨0, g1, rfl, hs, G.le.refl _, Nat.zero_le _, rfl, ha.keep ⟨rfl, rfl, kI rfl (by rw [hSl]; rfl), rfl, trivial⟩⟩) ?_
  clear hs le0 rs8
  rintro m a' _ ⟨k, g', rfl, hs, le8, hk, rfl, ha'⟩
  have rs8 := rs8c.mono le8
  have le0 := le0c.trans le8
  revert a'
  (with_reducible refine T_wp ?_); refine W_seq ?_; refine W_region ?_; refine P1 T.ok rfl rfl rfl ?_; refine WL_nil ?_; (with_reducible refine T_then ?_); refine W_seq ?_
  by_cases hlt : k < 2
  · refine W_yes (b := _) ?_ rfl ?_
    · simp; omega
    have hlk : k < SS.length := by omega
    have hsl := hS _ (List.getElem_mem hlk)
    have hgf : geti SS (k : Int) = some SS[k] := geti_of rfl hlk
    generalize SS[k] = y at *
    obtain ⟨s⟩ := y
    replace hsl : s.length ≤ 8192 := hsl
    refine W_skip ?_; (with_reducible refine T_then ?_); refine W_seq ?_; refine W_block ?_; refine W_seq ?_; refine W_region ?_
    refine WL_o rfl rfl (OpR_idx T.ok rfl rs8 (y := ⟨s⟩) hgf rfl rfl rfl rfl rfl rfl ?_)
    rintro bq pq ys hep rfl
    refine WL_o rfl rfl (OpR_loadE T.ok 0 rfl hep rfl rfl ?_)
    refine P1 T.ok rfl rfl rfl ?_; refine WL_nil ?_; (with_reducible refine T_then ?_); refine W_seq ?_; refine W_region ?_; refine P1 T.ok rfl rfl rfl ?_
    refine WL_o rfl rfl (OpR_ret cl13 allF rfl rfl rfl rfl rfl (parse_c s _ (by omega) (hF.mono le0)) ?_); rintro g1 _ hf1 hp; replace hs := hs.call hf1; have hqe := hf1.le; replace le0 := G.le.trans le0 hqe; replace le8 := G.le.trans le8 hqe; replace rs8 := rs8.mono hqe
    cases hpm : parseM s with
    | inr q =>
      rw [hpm] at hp
      obtain rfl := hp
      have hq1 := parse_pos hpm
      (iterate 4 refine P1 T.ok rfl rfl rfl ?_)
      refine WL_o rfl rfl (OpR_alloc T.ok rfl hs rfl rfl ?_); clear hs; rintro b8 g1 hs hqe; replace le0 := G.le.trans le0 hqe; replace le8 := G.le.trans le8 hqe; replace rs8 := rs8.mono hqe
      skip
      refine WL_n rfl (OpR_storeO T.ok 0 rfl hs rfl rfl rfl rfl rfl rfl rfl rfl rfl ?_); replace hs := hs; rintro g1 hs hqe; replace le0 := G.le.trans le0 hqe; replace le8 := G.le.trans le8 hqe; replace rs8 := rs8.mono hqe
      refine P1 T.ok rfl rfl rfl ?_; refine P1 T.ok rfl rfl rfl ?_; refine WL_nil ?_; (with_reducible refine T_then ?_); refine W_seq ?_; refine W_seq ?_; refine W_region ?_; refine P1 T.ok rfl rfl rfl ?_; refine P1 T.ok rfl rfl rfl ?_; refine WL_nil ?_; (with_reducible refine T_then ?_)
      refine W_yes rfl rfl ?_
      refine W_seq ?_; refine W_seq ?_; refine W_region ?_; (iterate 7 refine P1 T.ok rfl rfl rfl ?_)
      refine WL_know 80 (b' := false) (by simp; omega) rfl ?_
      refine P1 T.ok rfl rfl rfl ?_; refine WL_o rfl rfl (OpR_loadO T.ok 0 rfl hs rfl rfl rfl ?_); (iterate 3 refine P1 T.ok rfl rfl rfl ?_); refine WL_nil ?_; (with_reducible refine T_then ?_)
      refine W_no rfl rfl ?_
      refine W_skip ?_; (with_reducible refine T_then ?_); refine W_exit ?_; (with_reducible refine T_tx ?_); (with_reducible refine T_bx ?_); (with_reducible refine T_then ?_); refine W_region ?_; refine P1 T.ok rfl rfl rfl ?_; refine P1 T.ok rfl rfl rfl ?_; refine WL_nil ?_
      exact fun a ha => ⟨2 - (k + 1), by omega, k + 1, _, rfl, hs.tail (M := [_]), le8, by omega, rfl, ha.keep ⟨rfl, rfl, rfl, kI rfl (by rw [wr (by omega) (by omega)]; omega), trivial⟩⟩
    | inl f =>
      rw [hpm] at hp
      obtain ⟨_, rfl, a5, n5, c5, a6, n6, c6, rfl, rs4, rs5⟩ := hp
      obtain ⟨hv, hfil⟩ := parse_yes.1 hpm
      (iterate 4 refine P1 T.ok rfl rfl rfl ?_)
      refine WL_o rfl rfl (OpR_alloc T.ok rfl hs rfl rfl ?_); clear hs; rintro b8 g1 hs hqe; replace le0 := G.le.trans le0 hqe; replace le8 := G.le.trans le8 hqe; replace rs4 := rs4.mono hqe; replace rs5 := rs5.mono hqe; replace rs8 := rs8.mono hqe
      skip
      refine WL_n rfl (OpR_storeO T.ok 0 rfl hs rfl rfl rfl rfl rfl rfl rfl rfl rfl ?_); replace hs := hs; rintro g1 hs hqe; replace le0 := G.le.trans le0 hqe; replace le8 := G.le.trans le8 hqe; replace rs4 := rs4.mono hqe; replace rs5 := rs5.mono hqe; replace rs8 := rs8.mono hqe
      refine P1 T.ok rfl rfl rfl ?_; refine P1 T.ok rfl rfl rfl ?_; refine WL_nil ?_; (with_reducible refine T_then ?_); refine W_seq ?_; refine W_seq ?_; refine W_region ?_; refine P1 T.ok rfl rfl rfl ?_; refine P1 T.ok rfl rfl rfl ?_; refine WL_nil ?_; (with_reducible refine T_then ?_)
      refine W_no rfl rfl ?_
      refine W_skip ?_; (with_reducible refine T_then ?_); refine W_seq ?_; refine W_region ?_; refine WL_o rfl rfl (OpR_loadO T.ok 0 rfl hs rfl rfl rfl ?_)
      refine WL_o rfl rfl (OpR_ret cl11 allF rfl rfl rfl rfl rfl (print_c _ f _ ⟨_, _, _, _, _, _, rfl, rs4, rs5⟩ (hF.mono le0)) ?_); rintro g1 _ hf1 hp; replace hs := hs.call hf1; have hqe := hf1.le; replace le0 := G.le.trans le0 hqe; replace le8 := G.le.trans le8 hqe; replace rs4 := rs4.mono hqe; replace rs5 := rs5.mono hqe; replace rs8 := rs8.mono hqe
      rw [printRes_yes hv] at hp
      subst hp
      (iterate 5 refine P1 T.ok rfl rfl rfl ?_); refine WL_nil ?_; (with_reducible refine T_then ?_); refine W_seq ?_; refine W_region ?_; refine P1 T.ok rfl rfl rfl ?_; refine WL_nil ?_; (with_reducible refine T_then ?_); refine W_seq ?_; refine W_region ?_; refine P1 T.ok rfl rfl rfl ?_
      refine WL_o rfl rfl (OpR_ret cl16 allF rfl rfl rfl rfl rfl (lines_c s _ (by omega)) ?_); rintro g1 _ hf1 rs6; replace hs := hs.call hf1; have hqe := hf1.le; replace le0 := G.le.trans le0 hqe; replace le8 := G.le.trans le8 hqe; replace rs4 := rs4.mono hqe; replace rs5 := rs5.mono hqe; replace rs8 := rs8.mono hqe
      have hpl := split_len 10 s
      have hpm2 := split_mem 10 s
      have hwl : wantM (splitC 10 s) (splitC 10 s).length = printM f := by
        unfold wantM; rw [List.take_length, hfil, printM_lines]
      have hwlen := want_len (splitC 10 s) s.length hpm2
      generalize splitC 10 s = lines at *
      obtain ⟨la, lc, rfl⟩ := rs6.isSlice
      have hll : (lines.map Str.mk).length = lines.length := List.length_map _
      rw [hll] at rs6 ⊢
      have hmul : lines.length * (s.length + 1) ≤ 8193 * 8193 := Nat.mul_le_mul (by omega) (by omega)
      refine P1 T.ok rfl rfl rfl ?_; refine WL_nil ?_; (with_reducible refine T_then ?_); refine W_seq ?_; refine W_seq ?_; refine W_region ?_; refine P1 T.ok rfl rfl rfl ?_; refine WL_nil ?_; (with_reducible refine T_then ?_); refine W_block ?_
      have le7 := G.le.refl g1
      have rs6c := rs6; have le0d := le0
      have le8d := le8
      refine W_loop (fun m a' w => ∃ (j : Nat) (v : Value) (Lr : List Ent) (g2 : G), BdRow 5 v (wantM lines j) Lr ∧ (w = g2.w ∧ St g g2 (Lr ++ [.obj b8 (.cells [.int .i64 f.moveMin, .int .i64 f.moveMax, .slice a5 n5 c5, .slice a6 n6 c6].toArray 25 (0, 0))])) ∧ G.le g1 g2 ∧ j ≤ lines.length ∧ m = lines.length - j ∧ True ∧
        Fr 134 [] [(11, .bool true), (16, .string (bs s)), (18, .int .i64 0), (20, .string (bs (printM f))), (21, .int .i64 0), (22, v), (23, .slice la lines.length lc), (17, .pointer (some ⟨b8, 0, none⟩)), (19, .int .i64 0), (24, .int .i64 j), (60, .slice sa SS.length sc), (61, .int .i64 2), (62, .int .i64 k)] a') lines.length
        (fun a' ha => ⟨0, _, _, g1, BdRow.nil _, ⟨rfl, hs⟩, le7, Nat.zero_le _, rfl, trivial, ha.keep (by (repeat (first | exact trivial | refine ⟨rfl, ?_⟩)))⟩) ?_
      clear hs le0 le8 le7 rs6
      rintro m a' _ ⟨j, v, Lr, g2, hbd, ⟨rfl, hs⟩, le7, hj, rfl, _, ha'⟩
      have rs6 := rs6c.mono le7
      have le0 := le0d.trans le7
      have le8 := le8d.trans le7
      revert a'
      (with_reducible refine T_wp ?_); refine W_seq ?_; refine W_seq ?_; refine W_region ?_; (iterate 4 refine P1 T.ok rfl rfl rfl ?_); refine WL_nil ?_; (with_reducible refine T_then ?_)
      by_cases hjl : j < lines.length
      · refine W_yes (b := _) ?_ rfl ?_
        · simp; omega
        have hmem := hpm2 _ (List.getElem_mem hjl)
        have hwy := want_yes (ls := lines) hjl
        have hwn := want_no (ls := lines) hjl
        have hwj := hwlen j
        have hgl : geti (lines.map Str.mk) (j : Int) = some ⟨lines[j]⟩ := by simp [geti, hjl]
        generalize lines[j] = ln at *
        refine W_skip ?_; (with_reducible refine T_then ?_); refine W_seq ?_; refine W_block ?_; refine W_seq ?_; refine W_region ?_; refine P1 T.ok rfl rfl rfl ?_; refine P1 T.ok rfl rfl rfl ?_
        refine WL_o rfl rfl (OpR_idx T.ok rfl rs6 (y := ⟨ln⟩) hgl rfl rfl rfl rfl rfl rfl ?_)
        rintro bq pq ys hep rfl
        refine WL_o rfl rfl (OpR_loadE T.ok 0 rfl hep rfl rfl ?_)
        refine P1 T.ok rfl rfl rfl ?_; refine P1 T.ok rfl rfl rfl ?_
        cases ln with
        | nil =>
          refine WL_know 104 (b' := false) (by rw [bs_toList]; simp [toList0]) rfl ?_
          (iterate 6 refine S1 allF rfl rfl ?_); refine P1 T.ok rfl rfl rfl ?_; refine WL_nil ?_; (with_reducible refine T_then ?_)
          refine W_no rfl rfl ?_
          refine W_skip ?_; (with_reducible refine T_bn ?_); (with_reducible refine T_then ?_); refine W_region ?_; (iterate 3 refine P1 T.ok rfl rfl rfl ?_); refine WL_nil ?_
          refine fun a ha => ⟨lines.length - (j + 1), by omega, j + 1, _, _, _, hwn rfl ▸ hbd, ⟨rfl, hs⟩, le7, by omega, rfl, trivial, ha.keep ⟨rfl, rfl, rfl, rfl, rfl, rfl, rfl, rfl, rfl, kI rfl (by rw [wr (by omega) (by omega)]; omega), rfl, rfl, rfl, trivial⟩⟩
        | cons b0 tl =>
          refine WL_know 104 (b' := true) (by rw [bs_toList]; simp [toList0]) rfl ?_
          refine P1 T.ok rfl rfl rfl ?_; refine P1 T.ok rfl rfl rfl ?_
          refine WL_o rfl rfl (OpR_idx T.ok rfl rs6 (y := ⟨b0 :: tl⟩) hgl rfl rfl rfl rfl rfl rfl ?_)
          rintro bq pq ys hep rfl
          refine WL_o rfl rfl (OpR_loadE T.ok 0 rfl hep rfl rfl ?_)
          skip
          refine WL_o rfl rfl (OpR_idxS T.ok rfl rfl rfl rfl rfl (by omega) (by simp) ?_)
          refine P1 T.ok rfl rfl rfl ?_; refine P1 T.ok rfl rfl rfl ?_; refine WL_nil ?_; (with_reducible refine T_then ?_)
          by_cases h35 : b0 = 35
          · refine W_no (b := _) ?_ rfl ?_
            · simp [h35]
            have hsk : skipL (b0 :: tl) = true := by rw [skip_cons, h35]; rfl
            refine W_skip ?_; (with_reducible refine T_bn ?_); (with_reducible refine T_then ?_); refine W_region ?_; (iterate 3 refine P1 T.ok rfl rfl rfl ?_); refine WL_nil ?_
            refine fun a ha => ⟨lines.length - (j + 1), by omega, j + 1, _, _, _, hwn hsk ▸ hbd, ⟨rfl, hs⟩, le7, by omega, rfl, trivial, ha.keep ⟨rfl, rfl, rfl, rfl, rfl, rfl, rfl, rfl, rfl, kI rfl (by rw [wr (by omega) (by omega)]; omega), rfl, rfl, rfl, trivial⟩⟩
          · refine W_yes (b := _) ?_ rfl ?_
            · simp
              intro h; exact h35 (UInt8.toNat_inj.1 (show b0.toNat = 35 by omega))
            have hsk : skipL (b0 :: tl) = false := by rw [skip_cons]; simpa using h35
            refine W_region ?_; (iterate 3 refine P1 T.ok rfl rfl rfl ?_)
            refine WL_o rfl rfl (OpR_idx T.ok rfl rs6 (y := ⟨b0 :: tl⟩) hgl rfl rfl rfl rfl rfl rfl ?_)
            rintro bq pq ys hep rfl
            refine WL_o rfl rfl (OpR_loadE T.ok 0 rfl hep rfl rfl ?_)
            skip
            refine WL_o rfl rfl (OpR_appendB (ys := b0 :: tl) T.ok rfl hbd hs rfl rfl rfl rfl rfl rfl rfl rfl rfl rfl (by omega) ?_)
            clear hbd hs
            rintro v2 Lr2 g3 hbd hs hqe; replace le0 := G.le.trans le0 hqe; replace le8 := G.le.trans le8 hqe; replace rs6 := rs6.mono hqe
            replace le7 := le7.trans hqe
            skip
            refine WL_o rfl rfl (OpR_lit T.ok rfl hs (vs := [(0, .int .u8 10)]) (cells := [.int .u8 10]) rfl rfl rfl rfl rfl rfl (by decide) (by decide) (by kernel_rfl) rfl ?_)
            clear hs
            rintro bl gl hs hqe; replace le0 := G.le.trans le0 hqe; replace le8 := G.le.trans le8 hqe; replace rs6 := rs6.mono hqe
            replace le7 := le7.trans hqe
            obtain ⟨gz, hwz, hsz, hqz, rs0⟩ := hs.fzRow (α := UInt8) (xs := [10]) (i := 0) rfl (RcL.bytes _ [10])
            have hqe := hqz; rw [← hwz]; replace hs := hsz; clear hsz; replace le0 := G.le.trans le0 hqe; replace le8 := G.le.trans le8 hqe; replace rs6 := rs6.mono hqe
            replace le7 := le7.trans hqe
            replace hs : St g gz (Lr2 ++ [.obj b8 (.cells [.int .i64 f.moveMin, .int .i64 f.moveMax, .slice a5 n5 c5, .slice a6 n6 c6].toArray 25 (0, 0))]) := hs
            obtain ⟨_, news, hnw, hsrc⟩ := Src.of_rs rs0
            obtain rfl := RcL.bytes_inv hnw
            obtain ⟨b', p', hbp, hcell⟩ := hsrc.2.resolve_left (by simp)
            have hcl : ∀ j u, (byteV [10])[j]? = some u → gz.w.cell? ((⟨bl, 0, none⟩ : Addr).add j) = some u := by
              intro j u hu
              have := hcell j u hu
              rw [Addr.add_lit]
              cases hbp
              exact this
            skip
            refine WL_o rfl rfl (OpR_appendBS T.ok rfl hbd hs rfl rfl hcl (by simp) rfl rfl rfl rfl rfl rfl (by simp only [List.length_append, List.length_cons, List.length_nil] at hmem ⊢; omega) ?_)
            clear hbd hs
            rintro v3 Lr3 g4 hbd hs hqe; replace le0 := G.le.trans le0 hqe; replace le8 := G.le.trans le8 hqe; replace rs0 := rs0.mono hqe; replace rs6 := rs6.mono hqe
            replace le7 := le7.trans hqe
            clear rs0 hnw hsrc hcl hcell
            refine P1 T.ok rfl rfl rfl ?_; refine WL_nil ?_; (with_reducible refine T_bn ?_); (with_reducible refine T_then ?_); refine W_region ?_; (iterate 3 refine P1 T.ok rfl rfl rfl ?_); refine WL_nil ?_
            refine fun a ha => ⟨lines.length - (j + 1), by omega, j + 1, _, _, _, hwy hsk ▸ hbd, ⟨rfl, hs⟩, le7, by omega, rfl, trivial, ha.keep ⟨rfl, rfl, rfl, rfl, rfl, rfl, rfl, rfl, rfl, kI rfl (by rw [wr (by omega) (by omega)]; omega), rfl, rfl, rfl, trivial⟩⟩
      · obtain rfl : j = lines.length := by omega
        refine W_no (b := _) ?_ rfl ?_
        · simp
        refine W_exit ?_; (with_reducible refine T_tx ?_; with_reducible refine T_tx ?_); (with_reducible refine T_bx ?_); (with_reducible refine T_then ?_); refine W_seq ?_; refine W_region ?_; (iterate 5 refine P1 T.ok rfl rfl rfl ?_)
        obtain ⟨wa, wc, rfl, hsrc⟩ := bd_src hbd hs
        refine WL_o rfl rfl (OpR_bytesStr T.ok (ns := (wantM lines lines.length).map fun b : UInt8 => (b.toNat : Int)) rfl rfl rfl rfl rfl rfl rfl rfl hsrc ?_)
        rw [bs_ints, hwl]
        (iterate 3 refine P1 T.ok rfl rfl rfl ?_)
        refine WL_know 128 (b' := false) (by simp) rfl ?_
        (iterate 3 refine P1 T.ok rfl rfl rfl ?_); refine WL_nil ?_; (with_reducible refine T_then ?_)
        refine W_no rfl rfl ?_
        replace hs : St g g2 [] := (hs.tail (M := Lr)).drop 0
        refine W_skip ?_; (with_reducible refine T_bn ?_); (with_reducible refine T_then ?_); refine W_region ?_; refine P1 T.ok rfl rfl rfl ?_; refine P1 T.ok rfl rfl rfl ?_; refine WL_nil ?_
        exact fun a ha => ⟨2 - (k + 1), by omega, k + 1, _, rfl, hs.tail (M := []), le8, by omega, rfl, ha.keep ⟨rfl, rfl, rfl, kI rfl (by rw [wr (by omega) (by omega)]; omega), trivial⟩⟩
  · refine W_no (b := _) ?_ rfl ?_
    · simp; omega
    refine W_exit ?_; (with_reducible refine T_tx ?_; with_reducible refine T_tx ?_); (with_reducible refine T_bx ?_); (with_reducible refine T_then ?_); refine W_seq ?_; refine W_region ?_; refine P1 T.ok rfl rfl rfl ?_; refine P1 T.ok rfl rfl rfl ?_; refine WL_nil ?_; (with_reducible refine T_then ?_)
    refine W_ret ?_
    skip
    exact ret1 rfl rfl (hs.ret rfl)
end Go.Proofs.YtnaeopehmdcplaaDoor
