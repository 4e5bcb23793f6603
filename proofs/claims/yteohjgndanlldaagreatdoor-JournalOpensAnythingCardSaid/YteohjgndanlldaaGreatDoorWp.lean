/- The reference disk's small functions, the reference's wire. -/
import Derived.Test.YteohjgndanlldaaGreatDoorWg

/- The reference disk: whether a list of numbers has a number. -/
namespace Go.Proofs.YteohjgndanlldaaGreatDoor
open Go Go.K
set_option maxRecDepth 10000
attribute [local irreducible] W WL OpR bitAnd bitOr bitXor bitClr bitNot shlI shrI
set_option maxHeartbeats 1000000

theorem rhas_c (v : Value) (l : List Int) (n : Int) (g : G) (rs0 : Rs g v l) : CallsIn Wd 0 Tryz.prog 93 #[v, .int .i64 n] g.w (Ret g fun _ r => r = .bool (l.contains n)) := by
 have hs := St.start g
 have le0 := G.le.refl g
 obtain ⟨a, c, rfl⟩ := rs0.isSlice
 have hlen := rs0.len_le
 unfold maxLen at hlen
 refine enter Tryz.func93 rfl Tryz.ntmps93 rfl ?_
 refine W_seq ?_; refine W_region ?_; refine P1 T.ok rfl rfl rfl ?_; refine WL_nil ?_; (with_reducible refine T_then ?_); refine W_seq ?_; refine W_seq ?_; refine W_region ?_; refine P1 T.ok rfl rfl rfl ?_; refine WL_nil ?_; (with_reducible refine T_then ?_); refine W_block ?_
 refine W_loop (fun m a' w => ∃ (i : Nat), w = g.w ∧ i ≤ l.length ∧ (l.take i).contains n = false ∧ m = l.length - i ∧
   Fr 18 [] [(0, .slice a l.length c), (1, .int .i64 n), (5, .int .i64 i)] a') l.length
  (fun a' ha => ⟨0, rfl, Nat.zero_le _, by simp, rfl, ha.keep (by (repeat (first | exact trivial | refine ⟨rfl, ?_⟩)))⟩) ?_
 rintro m a' _ ⟨i, rfl, hi, hno, rfl, ha'⟩
 revert a'
 (with_reducible refine T_wp ?_); refine W_seq ?_; refine W_seq ?_; refine W_region ?_; (iterate 4 refine P1 T.ok rfl rfl rfl ?_); refine WL_nil ?_; (with_reducible refine T_then ?_)
 by_cases hlt : i < l.length
 ·refine W_yes (b := decide ((i : Int) < (l.length : Int))) (decide_eq_true (by omega)) rfl ?_
  have hgi : geti l (i : Int) = some l[i] := geti_of rfl hlt
  have htk : l.take (i + 1) = l.take i ++ [l[i]] := by rw [List.take_add_one, List.getElem?_eq_getElem hlt]; rfl
  have hmem : l[i] ∈ l := List.getElem_mem hlt
  generalize l[i] = x at *
  refine W_skip ?_; (with_reducible refine T_then ?_); refine W_seq ?_; refine W_block ?_; refine W_seq ?_; refine W_region ?_; refine P1 T.ok rfl rfl rfl ?_; refine P1 T.ok rfl rfl rfl ?_
  refine WL_o rfl rfl (OpR_idx T.ok rfl rs0 (y := x) hgi rfl rfl rfl rfl rfl rfl ?_)
  rintro b p ys hep hrc
  obtain rfl : ys = [.int .i64 x] := hrc
  have ep0 := hep
  refine WL_o rfl rfl (OpR_loadE T.ok 0 rfl ep0 rfl rfl ?_); refine P1 T.ok rfl rfl rfl ?_; refine P1 T.ok rfl rfl rfl ?_; refine WL_nil ?_; (with_reducible refine T_then ?_)
  by_cases hx : x = n
  ·subst hx
   refine W_yes (b := x == x) (by simp) rfl ?_
   refine W_seq ?_; refine W_region ?_; refine P1 T.ok rfl rfl rfl ?_; refine WL_nil ?_; (with_reducible refine T_then ?_)
   exact W_ret (ret1 rfl rfl (hs.ret (congrArg Value.bool (by simp [hmem]))))
  ·refine W_no (b := x == n) (by simp [hx]) rfl ?_
   refine W_skip ?_; (with_reducible refine T_bn ?_); (with_reducible refine T_then ?_); refine W_region ?_; (iterate 3 refine P1 T.ok rfl rfl rfl ?_); refine WL_nil ?_
   exact fun a ha => ⟨l.length - (i + 1), by omega, i + 1, rfl, by omega, by rw [htk]; simp at hno ⊢; exact ⟨hno, fun h => hx h.symm⟩, rfl, ha.keep ⟨rfl, rfl, kI rfl (by rw [wr (by omega) (by omega)]; omega), trivial⟩⟩
 ·refine W_no (b := decide ((i : Int) < (l.length : Int))) (decide_eq_false (by omega)) rfl ?_
  rw [List.take_of_length_le (by omega)] at hno
  refine W_exit ?_; (with_reducible refine T_tx ?_; with_reducible refine T_tx ?_); (with_reducible refine T_bx ?_); (with_reducible refine T_then ?_); refine W_seq ?_; refine W_region ?_; refine P1 T.ok rfl rfl rfl ?_; refine WL_nil ?_; (with_reducible refine T_then ?_)
  exact W_ret (ret1 rfl rfl (hs.ret (congrArg Value.bool hno.symm)))
end Go.Proofs.YteohjgndanlldaaGreatDoor

/- The reference disk: laying a string onto bytes. -/
namespace Go.Proofs.YteohjgndanlldaaGreatDoor
open Go Go.K
set_option maxRecDepth 10000
attribute [local irreducible] W WL OpR bitAnd bitOr bitXor bitClr bitNot shlI shrI
set_option maxHeartbeats 1000000

theorem spl_set (X : List UInt8) (j : Nat) (x : UInt8) (h : j < X.length) : spl (byteV X) j [.int .u8 (x.toNat : Int)] = byteV (X.set j x) := by
 unfold spl byteV
 rw [List.set_eq_take_append_cons_drop, if_pos h]
 simp
theorem onto_step (xs s : List UInt8) (off i : Nat) (hi : i < s.length) (hk : off + s.length ≤ xs.length) : (ontoM xs off (s.take i)).set (off + i) s[i] = ontoM xs off (s.take (i + 1)) := by
 unfold ontoM
 have h1 : (xs.take off ++ s.take i).length = off + i := by rw [List.length_append, List.length_take, List.length_take]; omega
 rw [List.set_append_right _ _ (by omega), h1, Nat.sub_self, List.length_take, Nat.min_eq_left (by omega), List.length_take, Nat.min_eq_left (by omega)]
 rw [List.drop_eq_getElem_cons (by omega), List.set_cons_zero, show s.take (i + 1) = s.take i ++ [s[i]] from by rw [List.take_add_one, List.getElem?_eq_getElem hi]; rfl]
 simp only [List.append_assoc, List.cons_append, List.nil_append, List.length_append, List.length_take, List.length_cons, List.length_nil, Nat.min_eq_left (Nat.le_of_lt hi), Nat.add_assoc, Nat.zero_add]
theorem rapply_c {b p N c : Nat} (xs s : List UInt8) (off : Nat) (hN : N = xs.length) (hk : off + s.length ≤ xs.length) (hb : xs.length ≤ 4194304) {g0 g : G} {L : List Ent} (hs : St g0 g (.row 5 1 (.slice (some ⟨b, p, none⟩) N c) N (byteV xs) :: L)) :
  CallsIn Wd 0 Tryz.prog 53 #[.slice (some ⟨b, p, none⟩) N c, .int .i64 (off : Int), .string (bs s)] g.w
   (RetS g fun g' r => r = .tuple #[] ∧ St g0 g' (.row 5 1 (.slice (some ⟨b, p, none⟩) N c) N (byteV (ontoM xs off s)) :: L)) := by
 have le0 := G.le.refl g
 refine enter Tryz.func53 rfl Tryz.ntmps53 rfl ?_
 refine W_seq ?_; refine W_region ?_; refine P1 T.ok rfl rfl rfl ?_; refine WL_nil ?_; (with_reducible refine T_then ?_); refine W_block ?_
 refine W_loop (fun m a' w => ∃ (i : Nat) (g2 : G), w = g2.w ∧ St g0 g2 (.row 5 1 (.slice (some ⟨b, p, none⟩) N c) N (byteV (ontoM xs off (s.take i))) :: L) ∧ G.le g g2 ∧ i ≤ s.length ∧ m = s.length - i ∧
   Fr 21 [] [(0, .slice (some ⟨b, p, none⟩) N c), (1, .int .i64 (off : Int)), (2, .string (bs s)), (6, .int .i64 i)] a') s.length
  (fun a' ha => ⟨0, g, rfl, by rw [List.take_zero, show ontoM xs off [] = xs from by simp [ontoM]]; exact hs, le0, Nat.zero_le _, rfl, ha.keep (by (repeat (first | exact trivial | refine ⟨rfl, ?_⟩)))⟩) ?_
 clear hs le0
 rintro m a' _ ⟨i, g2, rfl, hs, le0, hi, rfl, ha'⟩
 revert a'
 (with_reducible refine T_wp ?_); refine W_seq ?_; refine W_seq ?_; refine W_region ?_; (iterate 4 refine P1 T.ok rfl rfl rfl ?_); refine WL_nil ?_; (with_reducible refine T_then ?_)
 by_cases hlt : i < s.length
 ·refine W_yes (b := decide ((i : Int) < ((bs s).size : Int))) (decide_eq_true (by rw [bs_size]; omega)) rfl ?_
  have hst := onto_step xs s off i hlt hk
  have hol : (ontoM xs off (s.take i)).length = xs.length := ontoM_len (by rw [List.length_take]; omega)
  generalize ontoM xs off (s.take i) = X at *
  refine W_skip ?_; (with_reducible refine T_then ?_); refine W_seq ?_; refine W_block ?_; refine W_region ?_; (iterate 6 refine P1 T.ok rfl rfl rfl ?_)
  refine WL_re (.int .i64 ((off + i : Nat) : Int)) (t := 16) rfl (congrArg (Value.int .i64) (by rw [wr (by omega) (by omega)]; omega)) ?_
  skip
  refine WL_o rfl rfl (OpR_idxS T.ok rfl rfl rfl rfl rfl (by omega) (by omega) ?_)
  refine WL_re (.int .u8 (s[i].toNat : Int)) (t := 19) rfl rfl ?_
  generalize s[i] = x at *
  skip
  refine WL_o rfl rfl (OpR_idxR T.ok rfl (hs.own 0 _ rfl).1 (by omega) (by omega) rfl rfl rfl rfl rfl rfl ?_)
  rintro _ _ he
  cases he
  refine WL_n rfl (OpR_storeR T.ok 0 (((off + i : Nat) : Int).toNat * 1) (us := [.int .u8 (x.toNat : Int)]) rfl hs rfl rfl rfl rfl rfl rfl (by simp [Value.oneCell']) (by simp) (by simp [byteV]; omega) (xs' := byteV (X.set (off + i) x)) ?_ ?_)
  ·rw [Nat.mul_one, Int.toNat_natCast]; exact spl_set X (off + i) x (by omega)
  rintro g3 hs hqe; replace le0 := G.le.trans le0 hqe
  refine WL_nil ?_; (with_reducible refine T_bn ?_); (with_reducible refine T_then ?_); refine W_region ?_; (iterate 3 refine P1 T.ok rfl rfl rfl ?_); refine WL_nil ?_
  exact fun a ha => ⟨s.length - (i + 1), by omega, i + 1, g3, rfl, by rw [← hst]; exact hs, le0, by omega, rfl, ha.keep ⟨rfl, rfl, rfl, kI rfl (by rw [wr (by omega) (by omega)]; omega), trivial⟩⟩
 ·refine W_no (b := decide ((i : Int) < ((bs s).size : Int))) (decide_eq_false (by rw [bs_size]; omega)) rfl ?_
  rw [List.take_of_length_le (by omega)] at hs
  refine W_exit ?_; (with_reducible refine T_tx ?_; with_reducible refine T_tx ?_); (with_reducible refine T_bx ?_)
  exact end0 rfl (RetS.intro le0 ⟨rfl, hs⟩)
end Go.Proofs.YteohjgndanlldaaGreatDoor

/- The reference disk: where it lies; New, Cut. -/
namespace Go.Proofs.YteohjgndanlldaaGreatDoor
open Go Go.K
set_option maxRecDepth 10000
attribute [local irreducible] W WL OpR bitAnd bitOr bitXor bitClr bitNot shlI shrI
set_option maxHeartbeats 1000000

/-- Where a reference disk lies: its own block, its bytes, its list of writes. -/
structure RkA where
 b : Nat
 bd : Nat
 dp : Nat
 dc : Nat
 pa : Option Addr
 pc : Nat
def rkL (A : RkA) (D : DiskM) : List Ent :=
 [.obj A.b (.cells [.slice (some ⟨A.bd, A.dp, none⟩) D.dur.length A.dc, .slice A.pa D.pend.length A.pc, .bool D.off, .int .i64 D.left].toArray 67 (0, 0)),
  .row 5 1 (.slice (some ⟨A.bd, A.dp, none⟩) D.dur.length A.dc) D.dur.length (byteV D.dur),
  .row 100 2 (.slice A.pa D.pend.length A.pc) D.pend.length (wrL D.pend)]
theorem rkL_cons (A : RkA) (D : DiskM) (L : List Ent) : rkL A D ++ L =
 .obj A.b (.cells [.slice (some ⟨A.bd, A.dp, none⟩) D.dur.length A.dc, .slice A.pa D.pend.length A.pc, .bool D.off, .int .i64 D.left].toArray 67 (0, 0)) ::
  .row 5 1 (.slice (some ⟨A.bd, A.dp, none⟩) D.dur.length A.dc) D.dur.length (byteV D.dur) ::
  .row 100 2 (.slice A.pa D.pend.length A.pc) D.pend.length (wrL D.pend) :: L := rfl

theorem rcut_c {A : RkA} {D : DiskM} (ho : D.off = false) (n : Int) (hn : 0 ≤ n) {g0 g : G} {L : List Ent} (hs : St g0 g (rkL A D ++ L)) :
  CallsIn Wd 0 Tryz.prog 66 #[.pointer (some ⟨A.b, 0, none⟩), .int .i64 n] g.w (RetS g fun g' r => r = .int .i64 0 ∧ St g0 g' (rkL A (D.cut n) ++ L)) := by
 have le0 := G.le.refl g
 rw [rkL_cons, ho] at hs
 refine enter Tryz.func66 rfl Tryz.ntmps66 rfl ?_
 refine W_seq ?_; refine W_region ?_; refine P1 T.ok rfl rfl rfl ?_; refine WL_nil ?_; (with_reducible refine T_then ?_); refine W_seq ?_; refine W_seq ?_; refine W_region ?_; (iterate 3 refine P1 T.ok rfl rfl rfl ?_); refine WL_o rfl rfl (OpR_loadO T.ok 0 rfl hs rfl rfl rfl ?_); refine WL_nil ?_; (with_reducible refine T_then ?_)
 refine W_no rfl rfl ?_
 refine W_skip ?_; (with_reducible refine T_then ?_); refine W_seq ?_; refine W_seq ?_; refine W_region ?_; refine P1 T.ok rfl rfl rfl ?_; refine P1 T.ok rfl rfl rfl ?_; refine WL_nil ?_; (with_reducible refine T_then ?_)
 refine W_no (b := decide (n < 0)) (decide_eq_false (by omega)) rfl ?_
 refine W_skip ?_; (with_reducible refine T_then ?_); refine W_seq ?_; refine W_region ?_; (iterate 4 refine P1 T.ok rfl rfl rfl ?_)
 refine WL_n rfl (OpR_storeO T.ok 0 rfl hs rfl rfl rfl rfl rfl rfl rfl rfl rfl ?_); replace hs := hs; rintro g1 hs hqe; replace le0 := G.le.trans le0 hqe
 refine WL_nil ?_; (with_reducible refine T_then ?_); refine W_seq ?_; refine W_region ?_; (iterate 5 refine P1 T.ok rfl rfl rfl ?_)
 refine WL_n rfl (OpR_storeO T.ok 0 rfl hs rfl rfl rfl rfl rfl rfl rfl rfl rfl ?_); replace hs := hs; rintro g1 hs hqe; replace le0 := G.le.trans le0 hqe
 refine WL_nil ?_; (with_reducible refine T_then ?_); refine W_seq ?_; refine W_region ?_; refine P1 T.ok rfl rfl rfl ?_; refine WL_nil ?_; (with_reducible refine T_then ?_)
 exact W_ret (ret1 rfl rfl (RetS.intro le0 ⟨rfl, hs⟩))
theorem rcutD_c {A : RkA} {D : DiskM} (ho : D.off = true) (n : Int) {g0 g : G} {L : List Ent} (hs : St g0 g (rkL A D ++ L)) :
  CallsIn Wd 0 Tryz.prog 66 #[.pointer (some ⟨A.b, 0, none⟩), .int .i64 n] g.w (RetS g fun g' r => r = .int .i64 241 ∧ St g0 g' (rkL A D ++ L)) := by
 have le0 := G.le.refl g
 have hs0 := hs
 rw [rkL_cons, ho] at hs
 refine enter Tryz.func66 rfl Tryz.ntmps66 rfl ?_
 refine W_seq ?_; refine W_region ?_; refine P1 T.ok rfl rfl rfl ?_; refine WL_nil ?_; (with_reducible refine T_then ?_); refine W_seq ?_; refine W_seq ?_; refine W_region ?_; (iterate 3 refine P1 T.ok rfl rfl rfl ?_); refine WL_o rfl rfl (OpR_loadO T.ok 0 rfl hs rfl rfl rfl ?_); refine WL_nil ?_; (with_reducible refine T_then ?_)
 refine W_yes rfl rfl ?_
 refine W_seq ?_; refine W_region ?_; refine P1 T.ok rfl rfl rfl ?_; refine WL_nil ?_; (with_reducible refine T_then ?_)
 exact W_ret (ret1 rfl rfl (RetS.intro le0 ⟨rfl, hs0⟩))
end Go.Proofs.YteohjgndanlldaaGreatDoor

/- The reference disk: New. -/
namespace Go.Proofs.YteohjgndanlldaaGreatDoor
open Go Go.K
set_option maxRecDepth 10000
attribute [local irreducible] W WL OpR bitAnd bitOr bitXor bitClr bitNot shlI shrI
set_option maxHeartbeats 1000000

theorem rnew_c {n : Nat} (h : 1 ≤ n) (h2 : n ≤ 4194304) {g0 g : G} {L : List Ent} (hs : St g0 g L) : CallsIn Wd 0 Tryz.prog 33 #[.int .i64 (n : Int)] g.w
  (RetS g fun g' r => ∃ A : RkA, r = .tuple #[.pointer (some ⟨A.b, 0, none⟩), .int .i64 0] ∧ St g0 g' (rkL A (DiskM.new n) ++ L)) := by
 have le0 := G.le.refl g
 have hdl : (DiskM.new n).dur.length = n := by unfold DiskM.new; exact List.length_replicate
 refine enter Tryz.func33 rfl Tryz.ntmps33 rfl ?_
 refine W_seq ?_; refine W_region ?_; refine P1 T.ok rfl rfl rfl ?_; refine P1 T.ok rfl rfl rfl ?_; refine WL_nil ?_; (with_reducible refine T_then ?_); refine W_seq ?_; refine W_seq ?_; refine W_region ?_; (iterate 3 refine P1 T.ok rfl rfl rfl ?_)
 refine WL_know 6 (b' := false) (decide_eq_false (by omega)) rfl ?_
 (iterate 3 refine P1 T.ok rfl rfl rfl ?_); refine WL_nil ?_; (with_reducible refine T_then ?_)
 refine W_no (b := decide (4194304 < (n : Int))) (decide_eq_false (by omega)) rfl ?_
 replace hs := hs.nilrow 100 2 none
 refine W_skip ?_; (with_reducible refine T_then ?_); refine W_seq ?_; refine W_region ?_; refine P1 T.ok rfl rfl rfl ?_
 refine WL_o rfl rfl (OpR_makeX T.ok rfl hs rfl rfl rfl rfl rfl rfl (by decide) rfl (by show 1 * n ≤ _; omega) (by unfold maxLen; omega) (zeros_flat n) ?_)
 clear hs
 rintro b1 g1 hs hqe; replace le0 := G.le.trans le0 hqe
 skip
 refine WL_o rfl rfl (OpR_build T.ok rfl (vs := [(0, .slice (some ⟨b1, 0, none⟩) n n)]) (cells := [.slice (some ⟨b1, 0, none⟩) n n, .slice none 0 0, .bool false, .int .i64 0]) rfl rfl rfl rfl [(0, 1), (1, 1), (2, 1), (3, 1)] rfl (by kernel_rfl) ?_)
 skip
 refine WL_o rfl rfl (OpR_box rfl hs rfl rfl ?_); clear hs; rintro b2 g1 hs hqe; replace le0 := G.le.trans le0 hqe
 refine P1 T.ok rfl rfl rfl ?_; refine P1 T.ok rfl rfl rfl ?_; refine WL_nil ?_; (with_reducible refine T_then ?_)
 refine W_ret (ret2 rfl rfl rfl (RetS.intro le0 ⟨⟨b2, b1, 0, n, none, 0⟩, rfl, ?_⟩))
 rw [rkL_cons, hdl]
 exact hs
end Go.Proofs.YteohjgndanlldaaGreatDoor

/- Which numbers the reader of package wire takes: those that are written as they are read. In plain Lean. -/
namespace Go.Proofs.YteohjgndanlldaaGreatDoor
open Go Go.K
set_option maxRecDepth 10000
attribute [local irreducible] W WL OpR bitAnd bitOr bitXor bitClr bitNot shlI shrI

theorem vgo_len : ∀ (i k z : Nat), 1 ≤ i → z < 2 ^ (7 * i) → (vgo k z).length ≤ i
 | _, 0, _, h, _ => by simp [vgo]
 | 0, _ + 1, _, h, _ => by omega
 | i + 1, k + 1, z, _, h => by
  unfold vgo
  split
  ·simp
  ·rename_i h1
   cases i with
   | zero => simp at h; omega
   | succ i =>
    have h2 : z / 128 < 2 ^ (7 * (i + 1)) := by
     rw [show 7 * (i + 1 + 1) = 7 * (i + 1) + 7 from by omega, Nat.pow_add] at h
     omega
    have := vgo_len (i + 1) k (z / 128) (by omega) h2
    rw [List.length_cons]; omega
theorem intN_odd {n : Nat} (h : n < 4611686018427387904) : intN ((2 * n + 1 : Nat) : Int) = -(n : Int) - 1 := by
 unfold intN
 have e1 : shrI .u64 ((2 * n + 1 : Nat) : Int) 1 = (n : Int) := by
  unfold shrI
  rw [show min 1 IntKind.u64.bits = 1 from rfl, Int.fdiv_eq_ediv_of_nonneg _ (by decide)]; omega
 have e2 : bitAnd .u64 ((2 * n + 1 : Nat) : Int) 1 = 1 := by
  unfold bitAnd
  have e : (BitVec.ofInt IntKind.u64.bits ((2 * n + 1 : Nat) : Int) &&& BitVec.ofInt IntKind.u64.bits 1).toNat = 1 := by
   rw [BitVec.toNat_and]
   have e1 : (BitVec.ofInt IntKind.u64.bits ((2 * n + 1 : Nat) : Int)).toNat = 2 * n + 1 := by
    rw [BitVec.toNat_ofInt]; simp [IntKind.bits]; omega
   have e2 : (BitVec.ofInt IntKind.u64.bits 1).toNat = 2 ^ 1 - 1 := by decide
   rw [e1, e2, Nat.and_two_pow_sub_one_eq_mod]; omega
  rw [e]; rfl
 rw [e1, e2, wrapI64 (by omega) (by omega), show IntKind.i64.wrap (0 - IntKind.i64.wrap 1) = -1 from by decide]
 unfold bitXor
 have e : (BitVec.ofInt IntKind.i64.bits (n : Int) ^^^ BitVec.ofInt IntKind.i64.bits (-1)).toNat = 18446744073709551615 - n := by
  have e2 : BitVec.ofInt IntKind.i64.bits (-1) = BitVec.allOnes IntKind.i64.bits := by apply BitVec.eq_of_toNat_eq; decide
  rw [e2, BitVec.xor_allOnes, BitVec.toNat_not]
  have e1 : (BitVec.ofInt IntKind.i64.bits (n : Int)).toNat = n := by
   rw [BitVec.toNat_ofInt]; simp [IntKind.bits]; omega
  have e3 : (2 : Nat) ^ IntKind.i64.bits = 18446744073709551616 := by decide
  rw [e1]; omega
 rw [e]
 unfold IntKind.wrap; simp [IntKind.signed, IntKind.bits]; omega

/-- The number that a code stands for. -/
def unz (z : Nat) : Int := if z % 2 = 1 then -((z / 2 : Nat) : Int) - 1 else ((z / 2 : Nat) : Int)
theorem intN_unz {z : Nat} (h : z < 9223372036854775808) : intN (z : Int) = unz z := by
 unfold unz
 by_cases h1 : z % 2 = 1
 ·rw [if_pos h1]
  have := intN_odd (n := z / 2) (by omega)
  rwa [show 2 * (z / 2) + 1 = z from by omega] at this
 ·rw [if_neg h1]
  have := intN_nat (n := z / 2) (by omega)
  rwa [show 2 * (z / 2) = z from by omega] at this

/-- The reference's reader. -/
def rintGo (s : List UInt8) (a : Nat) : Nat → Nat → Nat → Int × Int × Int
 | 0, _, _ => (0, 0, 10)
 | k + 1, i, z =>
  if s.length ≤ a + i then (0, 0, 10)
  else if 128 ≤ (s.getD (a + i) 0).toNat then rintGo s a k (i + 1) (z + 2 ^ (7 * i) * ((s.getD (a + i) 0).toNat % 128))
  else if z + 2 ^ (7 * i) * (s.getD (a + i) 0).toNat = 9223372036854775807 ∨ vgo 10 (z + 2 ^ (7 * i) * (s.getD (a + i) 0).toNat) ≠ (s.drop a).take (i + 1) then (0, 0, 10)
  else (unz (z + 2 ^ (7 * i) * (s.getD (a + i) 0).toNat), ((a + i + 1 : Nat) : Int), 0)

theorem rintGo_eq (s : List UInt8) (a : Nat) (ha : a ≤ s.length) : ∀ k i z, i + k = 9 → z < 2 ^ (7 * i) → (i = 0 → z = 0) → i ≤ s.length - a →
  (∀ y, 1 ≤ y → vgo 10 (z + 2 ^ (7 * i) * y) = (s.drop a).take i ++ vgo (10 - i) y) → rintGo s a k i z = intGo s a k i (z : Int) := by
 intro k
 induction k with
 | zero => intros; rfl
 | succ k ih =>
  intro i z h9 hz h0 hil hinv
  unfold rintGo intGo
  by_cases hend : s.length ≤ a + i
  ·rw [if_pos hend, if_pos hend]
  rw [if_neg hend, if_neg hend]
  have hi7 : 2 ^ (7 * i) * 128 ≤ 2 ^ 63 := by
   have : 2 ^ (7 * i) ≤ 2 ^ 56 := Nat.pow_le_pow_right (by omega) (by omega)
   omega
  have hb2 : (s.getD (a + i) 0).toNat < 256 := (s.getD (a + i) 0).toNat_lt
  have htk : (s.drop a).take (i + 1) = (s.drop a).take i ++ [s.getD (a + i) 0] := by
   rw [List.take_add_one, List.getElem?_drop, List.getD_eq_getElem?_getD, List.getElem?_eq_getElem (by omega)]; rfl
  have hx : UInt8.ofNat (s.getD (a + i) 0).toNat = s.getD (a + i) 0 := UInt8.ofNat_toNat
  have hmul : ∀ x, x ≤ 127 → 2 ^ (7 * i) * x ≤ 2 ^ (7 * i) * 127 := fun x hx => Nat.mul_le_mul_left _ hx
  generalize hb : (s.getD (a + i) 0).toNat = b at *
  have hpos : 0 < 2 ^ (7 * i) := Nat.pow_pos (by omega)
  by_cases h128 : 128 ≤ b
  ·rw [if_pos h128, if_pos h128]
   have hm := hmul (b % 128) (by omega)
   rw [intStep_nat hb hb2 hz (by omega) (by omega)]
   refine ih (i + 1) _ (by omega) ?_ (by omega) (by omega) ?_
   ·rw [show 7 * (i + 1) = 7 * i + 7 from by omega, Nat.pow_add]; omega
   ·intro y hy
    have e1 : z + 2 ^ (7 * i) * (b % 128) + 2 ^ (7 * (i + 1)) * y = z + 2 ^ (7 * i) * (b % 128 + 128 * y) := by
     rw [show 7 * (i + 1) = 7 * i + 7 from by omega, Nat.pow_add, Nat.mul_add, Nat.mul_assoc, show (2 : Nat) ^ 7 = 128 from rfl]; omega
    rw [e1, hinv _ (by omega), htk, List.append_assoc]
    congr 1
    rw [show 10 - i = (10 - (i + 1)) + 1 from by omega, vgo, if_neg (by omega), show (b % 128 + 128 * y) % 128 + 128 = b from by omega, hx, show (b % 128 + 128 * y) / 128 = y from by omega]
    rfl
  ·rw [if_neg h128, if_neg h128]
   have hm := hmul b (by omega)
   have hst := intStep_nat (s := s) (a := a) (i := i) (z := z) hb hb2 hz (by rw [Nat.mod_eq_of_lt (by omega)]; omega) (by omega)
   rw [Nat.mod_eq_of_lt (by omega)] at hst
   rw [hst]
   have hlt : z + 2 ^ (7 * i) * b < 9223372036854775808 := by omega
   have hcanon : vgo 10 (z + 2 ^ (7 * i) * b) ≠ (s.drop a).take (i + 1) ↔ (b = 0 ∧ 0 < i) := by
    constructor
    ·intro hne
     by_cases hb0 : b = 0
     ·refine ⟨hb0, ?_⟩
      refine Nat.pos_of_ne_zero fun hi0 => hne ?_
      subst hi0
      have hz0 := h0 rfl
      subst hz0
      subst hb0
      rw [htk, ← hx]
      rfl
     ·exfalso
      refine hne ?_
      rw [hinv b (by omega), htk]
      congr 1
      rw [show 10 - i = (9 - i) + 1 from by omega, vgo, if_pos (by omega), hx]
    ·rintro ⟨rfl, hi0⟩ he
     have h1 := congrArg List.length he
     rw [Nat.mul_zero, Nat.add_zero, List.length_take, List.length_drop] at h1
     have h2 := vgo_len i 10 z hi0 hz
     omega
   rw [intN_unz hlt]
   generalize z + 2 ^ (7 * i) * b = z1 at *
   have hneg : z1 = 9223372036854775807 ↔ unz z1 < -4611686018427387903 := by
    unfold unz
    split <;> omega
   by_cases hc : z1 = 9223372036854775807 ∨ vgo 10 z1 ≠ (s.drop a).take (i + 1)
   ·rw [if_pos hc, if_pos (hc.elim (fun h => .inr (hneg.1 h)) fun h => .inl (hcanon.1 h))]
   ·rw [if_neg hc, if_neg (fun h => hc (h.elim (fun h => .inr (hcanon.2 h)) fun h => .inl (hneg.2 h)))]
theorem rintM_eq (s : List UInt8) (a : Nat) (ha : a ≤ s.length) : rintGo s a 9 0 0 = intM s a := by
 unfold intM
 rw [if_neg (by omega), rintGo_eq s a ha 9 0 0 rfl (by decide) (fun _ => rfl) (Nat.zero_le _) fun y hy => by simp]
 rfl

/-- What was read is written as it was read. -/
theorem rintGo_canon (s : List UInt8) (a : Nat) : ∀ k i z, (rintGo s a k i z).2.2 = 0 → 0 ≤ (rintGo s a k i z).1 → ∃ (z1 q : Nat), (rintGo s a k i z).2.1 = ((a + q : Nat) : Int) ∧ a + q ≤ s.length ∧ (rintGo s a k i z).1 = unz z1 ∧ vgo 10 z1 = (s.drop a).take q := by
 intro k
 induction k with
 | zero => intro i z h; simp [rintGo] at h
 | succ k ih =>
  intro i z h h2
  unfold rintGo at h h2 ⊢
  split at h
  ·simp at h
  ·rename_i c1
   rw [if_neg c1] at h2 ⊢
   split at h
   ·rename_i c2
    rw [if_pos c2] at h2 ⊢
    exact ih _ _ h h2
   ·rename_i c2
    rw [if_neg c2] at h2 ⊢
    split at h
    ·simp at h
    ·rename_i c3
     rw [if_neg c3] at h2 ⊢
     rw [not_or, Classical.not_not] at c3
     exact ⟨_, i + 1, rfl, by omega, rfl, c3.2⟩
theorem intM_canon {s : List UInt8} {a : Nat} (ha : a ≤ s.length) (h : (intM s a).2.2 = 0) (h2 : 0 ≤ (intM s a).1) (h3 : (intM s a).1 < 4611686018427387904) :
  ∃ q : Nat, (intM s a).2.1 = ((a + q : Nat) : Int) ∧ a + q ≤ s.length ∧ putIntM (intM s a).1 = (s.drop a).take q := by
 rw [← rintM_eq s a ha] at h h2 h3 ⊢
 obtain ⟨z1, q, e1, e2, e3, e4⟩ := rintGo_canon s a 9 0 0 h h2
 refine ⟨q, e1, e2, ?_⟩
 rw [e3] at h2 h3 ⊢
 rw [← e4]
 have hz : unz z1 = ((z1 / 2 : Nat) : Int) ∧ z1 % 2 = 0 := by
  unfold unz at h2 ⊢
  split at h2
  ·omega
  ·rename_i h5; rw [if_neg h5]; exact ⟨rfl, by omega⟩
 rw [hz.1] at h3 ⊢
 rw [putIntM_nat (by omega), show 2 * (z1 / 2) = z1 from by omega]
theorem stringM_canon {s : List UInt8} {a : Nat} (ha : a ≤ s.length) (h : (stringM s a).2.2 = 0) :
  ∃ q : Nat, (stringM s a).2.1 = ((a + q : Nat) : Int) ∧ a + q ≤ s.length ∧ putIntM ((stringM s a).1.length : Int) ++ (stringM s a).1 = (s.drop a).take q ∧ (stringM s a).1.length ≤ 65536 := by
 unfold stringM at h ⊢
 split at h
 ·rename_i h1; simp at h; exact absurd h h1
 ·rename_i h1
  rw [if_neg h1]
  split at h
  ·simp at h
  ·rename_i h2
   rw [if_neg h2]
   rw [Classical.not_not] at h1
   obtain ⟨q, e1, e2, e3⟩ := intM_canon ha h1 (by omega) (by omega)
   generalize intM s a = r at *
   obtain ⟨n, p, e⟩ := r
   simp only at *
   obtain ⟨m, rfl⟩ : ∃ m : Nat, n = m := ⟨n.toNat, by omega⟩
   subst e1
   simp only [Int.toNat_natCast]
   have hlen : ((s.drop (a + q)).take m).length = m := by rw [List.length_take, List.length_drop]; omega
   refine ⟨q + m, by omega, by omega, ?_, by rw [hlen]; omega⟩
   rw [hlen, e3, List.take_add, List.drop_drop]
end Go.Proofs.YteohjgndanlldaaGreatDoor

/- The reference's PutInt, for every number. -/
namespace Go.Proofs.YteohjgndanlldaaGreatDoor
open Go Go.K
set_option maxRecDepth 10000
attribute [local irreducible] W WL OpR bitAnd bitOr bitXor bitClr bitNot shlI shrI
set_option maxHeartbeats 1000000

/-- The code of a number. -/
def zN (n : Int) : Nat := if n < 0 then (2 * -n - 1).toNat else (2 * n).toNat
theorem zN_lt {n : Int} (h : inInt n) : zN n < 9223372036854775808 := by
 unfold inInt at h
 unfold zN
 split <;> omega
theorem zN_unz {z : Nat} : zN (unz z) = z := by
 unfold unz zN
 split <;> split <;> omega
theorem rzigzagZ_c (n : Int) (hn : inInt n) (g : G) : CallsIn Wd 0 Tryz.prog 86 #[.int .i64 n] g.w (Ret g fun _ r => r = .int .u64 ((zN n : Nat) : Int)) := by
 have hs := St.start g
 unfold inInt at hn
 refine enter Tryz.func86 rfl Tryz.ntmps86 rfl ?_
 unfold zN
 refine W_seq ?_; refine W_region ?_; refine P1 T.ok rfl rfl rfl ?_; refine WL_nil ?_; (with_reducible refine T_then ?_); refine W_seq ?_; refine W_seq ?_; refine W_region ?_; refine P1 T.ok rfl rfl rfl ?_; refine P1 T.ok rfl rfl rfl ?_; refine WL_nil ?_; (with_reducible refine T_then ?_)
 by_cases h0 : n < 0
 ·rw [if_pos h0]
  refine W_yes (b := decide (n < 0)) (decide_eq_true h0) rfl ?_
  refine W_seq ?_; refine W_region ?_; refine P1 T.ok rfl rfl rfl ?_; refine P1 T.ok rfl rfl rfl ?_; refine P2 T.ok rfl rfl rfl ?_; (iterate 3 refine P1 T.ok rfl rfl rfl ?_); refine WL_nil ?_; (with_reducible refine T_then ?_)
  refine W_ret (ret1 rfl rfl (hs.ret ?_))
  have e1 : IntKind.i64.wrap (0 - n) = -n := by rw [wr (by omega) (by omega)]; omega
  rw [e1, wrapU64 (n := -n) (by omega) (by omega), wrapU64 (n := -n * 2) (by omega) (by omega), wrapU64 (by omega) (by omega)]
  congr 1
  omega
 ·rw [if_neg h0]
  refine W_no (b := decide (n < 0)) (decide_eq_false h0) rfl ?_
  refine W_skip ?_; (with_reducible refine T_then ?_); refine W_seq ?_; refine W_region ?_; refine P1 T.ok rfl rfl rfl ?_; refine P2 T.ok rfl rfl rfl ?_; refine P1 T.ok rfl rfl rfl ?_; refine P1 T.ok rfl rfl rfl ?_; refine WL_nil ?_; (with_reducible refine T_then ?_)
  refine W_ret (ret1 rfl rfl (hs.ret ?_))
  rw [wrapU64 (n := n) (by omega) (by omega), wrapU64 (by omega) (by omega)]
  congr 1
  omega

theorem rputIntZ_c (n : Int) (hn : inInt n) (g : G) : CallsIn Wd 0 Tryz.prog 56 #[.int .i64 n] g.w (Ret g fun _ r => r = .tuple #[.string (bs (vgo 10 (zN n))), .int .i64 0]) := by
 have hs := St.start g
 have le0 := G.le.refl g
 have hzn := zN_lt hn
 unfold inInt at hn
 refine enter Tryz.func56 rfl Tryz.ntmps56 rfl ?_
 refine W_seq ?_; refine W_region ?_; refine P1 T.ok rfl rfl rfl ?_; refine P1 T.ok rfl rfl rfl ?_; refine WL_nil ?_; (with_reducible refine T_then ?_); refine W_seq ?_; refine W_seq ?_; refine W_region ?_; (iterate 3 refine P1 T.ok rfl rfl rfl ?_)
 refine WL_know 8 (b := decide (n < -4611686018427387903)) (b' := false) (decide_eq_false (by omega)) rfl ?_
 (iterate 3 refine P1 T.ok rfl rfl rfl ?_); refine WL_nil ?_; (with_reducible refine T_then ?_)
 refine W_no (b := decide ((4611686018427387903 : Int) < n)) (decide_eq_false (by omega)) rfl ?_
 refine W_skip ?_; (with_reducible refine T_then ?_); refine W_seq ?_; refine W_region ?_; refine P1 T.ok rfl rfl rfl ?_
 refine WL_o rfl rfl (OpR_ret cl86 allF rfl rfl rfl rfl rfl (rzigzagZ_c n ⟨by omega, by omega⟩ _) ?_); rintro g1 _ hf1 rfl; replace hs := hs.call hf1; have hqe := hf1.le; replace le0 := G.le.trans le0 hqe
 refine P1 T.ok rfl rfl rfl ?_; refine WL_nil ?_; (with_reducible refine T_then ?_); refine W_seq ?_; refine W_region ?_; refine P1 T.ok rfl rfl rfl ?_; refine WL_nil ?_; (with_reducible refine T_then ?_); refine W_seq ?_; refine W_block ?_
 replace hs := hs.nilrow 5 1 none
 refine W_loop (fun m a' w => ∃ (z : Nat) (g2 : G) (oa : Option Addr) (oc : Nat) (pre : List UInt8), w = g2.w ∧ St g g2 [.row 5 1 (.slice oa pre.length oc) pre.length (byteV pre)] ∧ g.le g2 ∧ m ≤ 9 ∧ pre.length + m = 9 ∧ z < 128 ^ (m + 1) ∧ z < 18446744073709551616 ∧ pre ++ vgo (m + 1) z = vgo 10 (zN n) ∧
   Fr 31 [] [(4, .int .u64 (z : Int)), (5, .slice oa pre.length oc)] a') 9
  (fun a' ha => ⟨zN n, _, none, 0, [], rfl, hs, le0, Nat.le_refl _, rfl, by show zN n < 1180591620717411303424; omega, by omega, rfl, ha.keep (by (repeat (first | exact trivial | refine ⟨rfl, ?_⟩)))⟩) ?_
 clear hs le0
 rintro m a' _ ⟨z, g2, oa, oc, pre, rfl, hs, le0, hm, hpm, hz, hz2, hv, ha'⟩
 revert a'
 (with_reducible refine T_wp ?_); refine W_seq ?_; refine W_seq ?_; refine W_region ?_; refine P1 T.ok rfl rfl rfl ?_; refine P1 T.ok rfl rfl rfl ?_; refine WL_nil ?_; (with_reducible refine T_then ?_)
 by_cases h1 : 128 ≤ z
 ·refine W_yes (b := decide ((128 : Int) ≤ (z : Int))) (decide_eq_true (by omega)) rfl ?_
  obtain ⟨m, rfl⟩ : ∃ m', m = m' + 1 := by
   cases m with
   | zero => simp at hz; omega
   | succ m => exact ⟨m, rfl⟩
  obtain ⟨x, hx⟩ : ∃ x : UInt8, x = UInt8.ofNat (z % 128 + 128) := ⟨_, rfl⟩
  have hxn : x.toNat = z % 128 + 128 := by rw [hx]; simp; omega
  have hvz : vgo (m + 1 + 1) z = x :: vgo (m + 1) (z / 128) := by rw [vgo, if_neg (by omega), hx]
  have hw1 : IntKind.u8.wrap (IntKind.u64.wrap ((z : Int).tmod 128 + 128)) = (x.toNat : Int) := by
   rw [Int.tmod_eq_emod_of_nonneg (by omega), wrapU64 (by omega) (by omega), wrapU8 (by omega) (by omega), hxn]; omega
  refine W_skip ?_; (with_reducible refine T_then ?_); refine W_block ?_; refine W_seq ?_; refine W_region ?_; (iterate 4 refine P1 T.ok rfl rfl rfl ?_); refine P2 T.ok rfl rfl rfl ?_
  refine WL_re (.int .u8 (x.toNat : Int)) (t := 20) rfl (congrArg (Value.int .u8) hw1) ?_
  refine WL_o rfl rfl (OpR_lit T.ok rfl hs (vs := [(0, .int .u8 (x.toNat : Int))]) (cells := [.int .u8 (x.toNat : Int)]) rfl rfl rfl rfl rfl rfl (by decide) (by decide) (by kernel_rfl) rfl ?_)
  clear hs
  rintro bl gl hs hqe; replace le0 := G.le.trans le0 hqe
  obtain ⟨gz, hwz, hsz, hqz, hrl⟩ := hs.fzRow (α := UInt8) (xs := [x]) (i := 0) rfl (RcL.bytes _ [x])
  clear hqe; have hqe := hqz; rw [← hwz]; replace hs := hsz; clear hsz; replace le0 := G.le.trans le0 hqe
  skip
  obtain ⟨_, news, hnw, hsrc⟩ := Src.of_rs hrl
  obtain rfl := RcL.bytes_inv hnw
  refine WL_o rfl rfl (OpR_append T.ok 0 rfl hs rfl rfl rfl rfl rfl rfl rfl (by decide) rfl hsrc hnw.one (by show (pre.length + 1) * 1 ≤ _; omega) (by unfold maxLen; show pre.length + 1 ≤ _; omega) ?_)
  clear hs hrl hsrc hnw
  rintro oa2 oc2 g5 hs hqe; replace le0 := G.le.trans le0 hqe
  replace hs : St g g5 [.row 5 1 (.slice oa2 (pre ++ [x]).length oc2) (pre ++ [x]).length (byteV (pre ++ [x]))] := by
   rw [List.length_append, byteV_app]; exact hs
  rw [show pre.length + 1 = (pre ++ [x]).length from by rw [List.length_append]; rfl]
  refine P1 T.ok rfl rfl rfl ?_; refine WL_nil ?_; (with_reducible refine T_then ?_); refine W_region ?_; (iterate 3 refine P1 T.ok rfl rfl rfl ?_); refine WL_nil ?_; (with_reducible refine T_bn ?_)
  have hw2 : IntKind.u64.wrap ((z : Int).tdiv 128) = ((z / 128 : Nat) : Int) := by
   rw [Int.tdiv_eq_ediv_of_nonneg (by omega), wrapU64 (by omega) (by omega)]; rfl
  exact fun a ha => ⟨m, by omega, z / 128, g5, oa2, oc2, pre ++ [x], rfl, hs, le0, by omega, by rw [List.length_append]; simp; omega, by rw [Nat.pow_succ] at hz; omega, by omega, by rw [List.append_assoc]; show pre ++ (x :: vgo (m + 1) (z / 128)) = _; rw [← hvz]; exact hv, ha.keep ⟨kV rfl (congrArg (Value.int .u64) hw2), rfl, trivial⟩⟩
 ·refine W_no (b := decide ((128 : Int) ≤ (z : Int))) (decide_eq_false (by omega)) rfl ?_
  obtain ⟨x, hx⟩ : ∃ x : UInt8, x = UInt8.ofNat z := ⟨_, rfl⟩
  have hxn : x.toNat = z := by rw [hx]; simp; omega
  have hvz : vgo (m + 1) z = [x] := by rw [vgo, if_pos (by omega), hx]
  have hw1 : IntKind.u8.wrap (z : Int) = (x.toNat : Int) := by rw [wrapU8 (by omega) (by omega), hxn]
  refine W_exit ?_; (with_reducible refine T_tx ?_; with_reducible refine T_tx ?_); (with_reducible refine T_bx ?_); (with_reducible refine T_then ?_); refine W_seq ?_; refine W_region ?_; refine P1 T.ok rfl rfl rfl ?_; refine P1 T.ok rfl rfl rfl ?_; refine P2 T.ok rfl rfl rfl ?_
  refine WL_re (.int .u8 (x.toNat : Int)) (t := 27) rfl (congrArg (Value.int .u8) hw1) ?_
  refine WL_o rfl rfl (OpR_lit T.ok rfl hs (vs := [(0, .int .u8 (x.toNat : Int))]) (cells := [.int .u8 (x.toNat : Int)]) rfl rfl rfl rfl rfl rfl (by decide) (by decide) (by kernel_rfl) rfl ?_)
  clear hs
  rintro bl gl hs hqe; replace le0 := G.le.trans le0 hqe
  obtain ⟨gz, hwz, hsz, hqz, hrl⟩ := hs.fzRow (α := UInt8) (xs := [x]) (i := 0) rfl (RcL.bytes _ [x])
  clear hqe; have hqe := hqz; rw [← hwz]; replace hs := hsz; clear hsz; replace le0 := G.le.trans le0 hqe
  skip
  obtain ⟨_, news, hnw, hsrc⟩ := Src.of_rs hrl
  obtain rfl := RcL.bytes_inv hnw
  refine WL_o rfl rfl (OpR_append T.ok 0 rfl hs rfl rfl rfl rfl rfl rfl rfl (by decide) rfl hsrc hnw.one (by show (pre.length + 1) * 1 ≤ _; omega) (by unfold maxLen; show pre.length + 1 ≤ _; omega) ?_)
  clear hs hrl hsrc hnw
  rintro oa2 oc2 g5 hs hqe; replace le0 := G.le.trans le0 hqe
  replace hs : St g g5 [.row 5 1 (.slice oa2 (pre ++ [x]).length oc2) (pre ++ [x]).length (byteV (pre ++ [x]))] := by
   rw [List.length_append, byteV_app]; exact hs
  rw [show pre.length + 1 = (pre ++ [x]).length from by rw [List.length_append]; rfl]
  have hsrc := (Src.of_row (hs.own 0 _ rfl).1).2
  refine WL_o rfl rfl (OpR_bytesStr T.ok (ns := (pre ++ [x]).map fun b => (b.toNat : Int)) rfl rfl rfl rfl rfl rfl rfl rfl (by rw [List.map_map]; exact hsrc) ?_)
  rw [show ((pre ++ [x]).map fun b : UInt8 => (b.toNat : Int)).map (fun m => UInt8.ofNat m.toNat) = vgo 10 (zN n) from by
   rw [List.map_map, ← hv, hvz, show ((fun m : Int => UInt8.ofNat m.toNat) ∘ fun b : UInt8 => (b.toNat : Int)) = id from by funext b; simp, List.map_id]]
  refine P1 T.ok rfl rfl rfl ?_; refine P1 T.ok rfl rfl rfl ?_; refine WL_nil ?_; (with_reducible refine T_then ?_)
  exact W_ret (ret2 rfl rfl rfl (hs.ret rfl))

end Go.Proofs.YteohjgndanlldaaGreatDoor

/- The reference's reader of package wire. -/
namespace Go.Proofs.YteohjgndanlldaaGreatDoor
open Go Go.K
set_option maxRecDepth 10000
attribute [local irreducible] W WL OpR bitAnd bitOr bitXor bitClr bitNot shlI shrI
set_option maxHeartbeats 400000

theorem shl_nat {x i : Nat} (hx : x < 128) (hi : i < 9) : shlI .u64 (x : Int) (7 * i) = ((2 ^ (7 * i) * x : Nat) : Int) := by
 have hp : 2 ^ (7 * i) ≤ 2 ^ 56 := Nat.pow_le_pow_right (by omega) (by omega)
 have hm : 2 ^ (7 * i) * x ≤ 2 ^ 56 * 127 := Nat.mul_le_mul hp (by omega)
 unfold shlI
 rw [show min (7 * i) IntKind.u64.bits = 7 * i from Nat.min_eq_left (by show 7 * i ≤ 64; omega)]
 have : (x : Int) * 2 ^ (7 * i) = ((2 ^ (7 * i) * x : Nat) : Int) := by
  rw [Nat.mul_comm (2 ^ (7 * i)), Int.natCast_mul, Int.natCast_pow]; rfl
 rw [this, wrapU64 (by omega) (by omega)]

theorem rputIntBad_c (n : Int) (hn : n < -4611686018427387903) (g : G) : CallsIn Wd 0 Tryz.prog 56 #[.int .i64 n] g.w (Ret g fun _ r => r = .tuple #[.string (bs []), .int .i64 10]) := by
 have hs := St.start g
 refine enter Tryz.func56 rfl Tryz.ntmps56 rfl ?_
 refine W_seq ?_; refine W_region ?_; refine P1 T.ok rfl rfl rfl ?_; refine P1 T.ok rfl rfl rfl ?_; refine WL_nil ?_; (with_reducible refine T_then ?_); refine W_seq ?_; refine W_seq ?_; refine W_region ?_; (iterate 3 refine P1 T.ok rfl rfl rfl ?_)
 refine WL_know 8 (b := decide (n < -4611686018427387903)) (b' := true) (decide_eq_true hn) rfl ?_
 refine S1 allF rfl rfl ?_; refine S1 allF rfl rfl ?_; refine P1 T.ok rfl rfl rfl ?_; refine WL_nil ?_; (with_reducible refine T_then ?_)
 refine W_yes rfl rfl ?_
 refine W_seq ?_; refine W_region ?_; refine P1 T.ok rfl rfl rfl ?_; refine P1 T.ok rfl rfl rfl ?_; refine WL_nil ?_; (with_reducible refine T_then ?_)
 exact W_ret (ret2 rfl rfl rfl (hs.ret rfl))



theorem rint_c (s : List UInt8) (a : Nat) (g : G) (hl : s.length ≤ 1099511627776) (ha : a ≤ s.length) : CallsIn Wd 0 Tryz.prog 97 #[.string (bs s), .int .i64 (a : Int)] g.w
  (Ret g fun _ r => r = .tuple #[.int .i64 (intM s a).1, .int .i64 (intM s a).2.1, .int .i64 (intM s a).2.2]) := by
 have hs := St.start g
 have le0 := G.le.refl g
 rw [← rintM_eq s a ha]
 refine enter Tryz.func97 rfl Tryz.ntmps97 rfl ?_
 refine W_seq ?_; refine W_region ?_; (iterate 3 refine P1 T.ok rfl rfl rfl ?_); refine WL_nil ?_; (with_reducible refine T_then ?_); refine W_seq ?_; refine W_seq ?_; refine W_region ?_; (iterate 8 refine P1 T.ok rfl rfl rfl ?_); refine WL_nil ?_; (with_reducible refine T_then ?_)
 refine W_no (b := decide (((bs s).size : Int) < (a : Int))) (decide_eq_false (by rw [bs_size]; omega)) rfl ?_
 refine W_skip ?_; (with_reducible refine T_then ?_); refine W_seq ?_; refine W_region ?_; refine P1 T.ok rfl rfl rfl ?_; refine WL_nil ?_; (with_reducible refine T_then ?_); refine W_seq ?_; refine W_seq ?_; refine W_region ?_; refine P1 T.ok rfl rfl rfl ?_; refine WL_nil ?_; (with_reducible refine T_then ?_); refine W_block ?_
 generalize hR : rintGo s a 9 0 0 = R
 refine W_loop (fun m a' w => ∃ (i z : Nat) (g2 : G), w = g2.w ∧ St g g2 [] ∧ G.le g g2 ∧ i ≤ 9 ∧ m = 9 - i ∧ R = rintGo s a (9 - i) i z ∧ z < 2 ^ (7 * i) ∧
   Fr 80 [] [(0, .string (bs s)), (1, .int .i64 (a : Int)), (7, .int .u64 (z : Int)), (8, .int .i64 i)] a') 9
  (fun a' ha => ⟨0, 0, g, rfl, hs, le0, Nat.zero_le _, rfl, hR.symm, by decide, ha.keep (by (repeat (first | exact trivial | refine ⟨rfl, ?_⟩)))⟩) ?_
 clear hs le0 hR
 rintro m a' _ ⟨i, z, g2, rfl, hs, le0, hi, rfl, hgo, hz, ha'⟩
 revert a'
 (with_reducible refine T_wp ?_); refine W_seq ?_; refine W_seq ?_; refine W_region ?_; (iterate 3 refine P1 T.ok rfl rfl rfl ?_)
 have hw : IntKind.i64.wrap ((a : Int) + (i : Int)) = ((a + i : Nat) : Int) := by rw [wr (by omega) (by omega)]; omega
 by_cases hli : i < 9
 ·refine WL_know 23 (b := decide ((i : Int) < 9)) (b' := true) (decide_eq_true (by omega)) rfl ?_
  have e9 : 9 - i = (9 - (i + 1)) + 1 := by omega
  rw [e9, rintGo] at hgo
  (iterate 7 refine P1 T.ok rfl rfl rfl ?_); refine WL_nil ?_; (with_reducible refine T_then ?_)
  by_cases hend : s.length ≤ a + i
  ·rw [if_pos hend] at hgo
   rw [hgo]
   refine W_no (b := decide (IntKind.i64.wrap ((a : Int) + (i : Int)) < ((bs s).size : Int))) (decide_eq_false (by rw [hw, bs_size]; omega)) rfl ?_
   refine W_exit ?_; (with_reducible refine T_tx ?_; with_reducible refine T_tx ?_); (with_reducible refine T_bx ?_); (with_reducible refine T_then ?_); refine W_seq ?_; refine W_region ?_; (iterate 3 refine P1 T.ok rfl rfl rfl ?_); refine WL_nil ?_; (with_reducible refine T_then ?_)
   exact W_ret (ret3 rfl rfl rfl rfl (hs.ret rfl))
  ·rw [if_neg hend] at hgo
   refine W_yes (b := decide (IntKind.i64.wrap ((a : Int) + (i : Int)) < ((bs s).size : Int))) (decide_eq_true (by rw [hw, bs_size]; omega)) rfl ?_
   have hge : s[((a + i : Nat) : Int).toNat]'(by omega) = s.getD (a + i) 0 := by
    rw [List.getD_eq_getElem?_getD, List.getElem?_eq_getElem (by omega)]; rfl
   have hb2 : (s.getD (a + i) 0).toNat < 256 := (s.getD (a + i) 0).toNat_lt
   have hp : 2 ^ (7 * i) ≤ 2 ^ 56 := Nat.pow_le_pow_right (by omega) (by omega)
   have hpp : 2 ^ (7 * (i + 1)) = 2 ^ (7 * i) * 128 := by rw [show 7 * (i + 1) = 7 * i + 7 from by omega, Nat.pow_add]
   have hm : ∀ x, x < 128 → 2 ^ (7 * i) * x ≤ 2 ^ (7 * i) * 127 := fun x hx => Nat.mul_le_mul_left _ (by omega)
   have hsh : ∀ x : Nat, x < 128 → shlI .u64 (x : Int) (7 * i) = ((2 ^ (7 * i) * x : Nat) : Int) := fun x hx => shl_nat hx hli
   refine W_skip ?_; (with_reducible refine T_then ?_); refine W_seq ?_; refine W_block ?_; refine W_seq ?_; refine W_region ?_; (iterate 4 refine P1 T.ok rfl rfl rfl ?_)
   refine WL_re (.int .i64 ((a + i : Nat) : Int)) (t := 36) rfl (congrArg (Value.int .i64) hw) ?_
   refine WL_o rfl rfl (OpR_idxS T.ok rfl rfl rfl rfl rfl (by omega) (by omega) ?_)
   rw [hge]
   generalize (s.getD (a + i) 0).toNat = b at *
   refine P2 T.ok rfl rfl rfl ?_; refine P1 T.ok rfl rfl rfl ?_; refine WL_nil ?_; (with_reducible refine T_then ?_); refine W_seq ?_; refine W_region ?_; (iterate 5 refine P1 T.ok rfl rfl rfl ?_)
   rw [wrapU64 (n := (b : Int)) (by omega) (by omega)]
   refine WL_re (.int .u64 ((b % 128 : Nat) : Int)) (t := 41) rfl (congrArg (Value.int .u64) (by rw [Int.tmod_eq_emod_of_nonneg (by omega)]; rfl)) ?_
   refine WL_re (.int .i64 ((7 * i : Nat) : Int)) (t := 43) rfl (congrArg (Value.int .i64) (by rw [wr (by omega) (by omega)]; omega)) ?_
   refine WL_o rfl rfl (OpR_shlV rfl rfl rfl (by omega) ?_)
   rw [Int.toNat_natCast, hsh _ (by omega)]
   have hmm := hm (b % 128) (by omega)
   refine P1 T.ok rfl rfl rfl ?_
   refine WL_re (.int .u64 ((z + 2 ^ (7 * i) * (b % 128) : Nat) : Int)) (t := 45) rfl (congrArg (Value.int .u64) (by rw [wrapU64 (by omega) (by omega)]; omega)) ?_
   clear hsh hm
   by_cases hb : 128 ≤ b
   ·rw [if_pos hb] at hgo
    have hz1 : z + 2 ^ (7 * i) * (b % 128) < 2 ^ (7 * (i + 1)) := by omega
    generalize z + 2 ^ (7 * i) * (b % 128) = z1 at *
    refine P1 T.ok rfl rfl rfl ?_; refine WL_nil ?_; (with_reducible refine T_then ?_); refine W_seq ?_; refine W_seq ?_; refine W_region ?_; refine P1 T.ok rfl rfl rfl ?_; refine P1 T.ok rfl rfl rfl ?_; refine WL_nil ?_; (with_reducible refine T_then ?_)
    refine W_yes (b := decide ((128 : Int) ≤ (b : Int))) (decide_eq_true (by omega)) rfl ?_
    refine W_exit ?_; (with_reducible refine T_tx ?_); (with_reducible refine T_bx ?_); (with_reducible refine T_then ?_); refine W_region ?_; (iterate 3 refine P1 T.ok rfl rfl rfl ?_); refine WL_nil ?_
    exact fun a ha => ⟨9 - (i + 1), by omega, i + 1, z1, _, rfl, hs, le0, by omega, rfl, hgo, by omega, ha.keep ⟨rfl, rfl, rfl, kI rfl (by rw [wr (by omega) (by omega)]; omega), trivial⟩⟩
   ·rw [if_neg hb] at hgo
    rw [Nat.mod_eq_of_lt (by omega)] at hmm ⊢
    have hz1 : z + 2 ^ (7 * i) * b < 9223372036854775808 := by omega
    generalize z + 2 ^ (7 * i) * b = z1 at *
    refine P1 T.ok rfl rfl rfl ?_; refine WL_nil ?_; (with_reducible refine T_then ?_); refine W_seq ?_; refine W_seq ?_; refine W_region ?_; refine P1 T.ok rfl rfl rfl ?_; refine P1 T.ok rfl rfl rfl ?_; refine WL_nil ?_; (with_reducible refine T_then ?_)
    refine W_no (b := decide ((128 : Int) ≤ (b : Int))) (decide_eq_false (by omega)) rfl ?_
    refine W_skip ?_; (with_reducible refine T_then ?_); refine W_seq ?_; refine W_region ?_; refine P1 T.ok rfl rfl rfl ?_; refine P1 T.ok rfl rfl rfl ?_; refine P2 T.ok rfl rfl rfl ?_; refine P1 T.ok rfl rfl rfl ?_; refine WL_nil ?_; (with_reducible refine T_then ?_); refine W_seq ?_; refine W_seq ?_; refine W_region ?_; (iterate 3 refine P1 T.ok rfl rfl rfl ?_); refine WL_nil ?_; (with_reducible refine T_then ?_)
    have hq : IntKind.i64.wrap (IntKind.u64.wrap ((z1 : Int).tdiv 2)) = ((z1 / 2 : Nat) : Int) := by
     rw [Int.tdiv_eq_ediv_of_nonneg (by omega), wrapU64 (by omega) (by omega), wr (by omega) (by omega)]; omega
    refine W_re (.int .i64 ((z1 / 2 : Nat) : Int)) (t := 10) rfl (congrArg (Value.int .i64) hq) ?_
    have hmo : (z1 : Int).tmod 2 = ((z1 % 2 : Nat) : Int) := by rw [Int.tmod_eq_emod_of_nonneg (by omega)]; rfl
    by_cases hodd : z1 % 2 = 1
    ·refine W_yes (b := (z1 : Int).tmod 2 == 1) (by rw [hmo]; simp; omega) rfl ?_
     refine W_region ?_; (iterate 4 refine P1 T.ok rfl rfl rfl ?_); refine WL_nil ?_; (with_reducible refine T_then ?_); refine W_seq ?_; refine W_region ?_; refine P1 T.ok rfl rfl rfl ?_
     have hq2 : IntKind.i64.wrap (IntKind.i64.wrap (0 - ((z1 / 2 : Nat) : Int)) - 1) = -((z1 / 2 : Nat) : Int) - 1 := by
      rw [wr (n := 0 - ((z1 / 2 : Nat) : Int)) (by omega) (by omega), wr (by omega) (by omega)]; omega
     refine WL_re (.int .i64 (-((z1 / 2 : Nat) : Int) - 1)) (t := 10) rfl (congrArg (Value.int .i64) hq2) ?_
     refine WL_re (.int .i64 (-((z1 / 2 : Nat) : Int) - 1)) (t := 58) rfl (congrArg (Value.int .i64) hq2) ?_
     have hun : unz z1 = -((z1 / 2 : Nat) : Int) - 1 := if_pos hodd
     rw [← hun]
     have hzu := zN_unz (z := z1)
     have hbad : z1 = 9223372036854775807 ↔ unz z1 < -4611686018427387903 := by
      unfold unz
      split <;> omega
     have hin : z1 ≠ 9223372036854775807 → inInt (unz z1) := by
      unfold unz inInt
      split <;> omega
     clear hun
     generalize unz z1 = n at *
     skip
     by_cases hb : z1 = 9223372036854775807
     ·rw [if_pos (.inl hb)] at hgo
      rw [hgo]
      refine WL_o rfl rfl (OpR_ret cl56 allF rfl rfl rfl rfl rfl (rputIntBad_c n (hbad.1 hb) _) ?_); rintro g1 _ hf1 rfl; replace hs := hs.call hf1; have hqe := hf1.le; replace le0 := G.le.trans le0 hqe
      (iterate 5 refine P1 T.ok rfl rfl rfl ?_); refine WL_nil ?_; (with_reducible refine T_then ?_); refine W_seq ?_; refine W_seq ?_; refine W_region ?_; (iterate 3 refine P1 T.ok rfl rfl rfl ?_); (iterate 9 refine S1 allF rfl rfl ?_); refine P1 T.ok rfl rfl rfl ?_; refine WL_nil ?_; (with_reducible refine T_then ?_)
      refine W_yes rfl rfl ?_
      refine W_seq ?_; refine W_region ?_; (iterate 3 refine P1 T.ok rfl rfl rfl ?_); refine WL_nil ?_; (with_reducible refine T_then ?_)
      exact W_ret (ret3 rfl rfl rfl rfl (hs.ret rfl))
     ·refine WL_o rfl rfl (OpR_ret cl56 allF rfl rfl rfl rfl rfl (rputIntZ_c n (hin hb) _) ?_); rintro g1 _ hf1 rfl; replace hs := hs.call hf1; have hqe := hf1.le; replace le0 := G.le.trans le0 hqe
      rw [hzu]
      have htd : (s.take (a + i + 1)).drop a = (s.drop a).take (i + 1) := by rw [List.drop_take]; congr 1; omega
      have hw2 : IntKind.i64.wrap (IntKind.i64.wrap ((a : Int) + (i : Int)) + 1) = ((a + i + 1 : Nat) : Int) := by rw [hw, wr (by omega) (by omega)]; omega
      (iterate 5 refine P1 T.ok rfl rfl rfl ?_); refine WL_nil ?_; (with_reducible refine T_then ?_); refine W_seq ?_; refine W_seq ?_; refine W_region ?_; (iterate 10 refine P1 T.ok rfl rfl rfl ?_)
      refine WL_re (.int .i64 ((a + i + 1 : Nat) : Int)) (t := 71) rfl (congrArg (Value.int .i64) hw2) ?_
      refine WL_o rfl rfl (OpR_cutS T.ok (a := a) (b := a + i + 1) rfl rfl rfl rfl ⟨_, rfl⟩ ⟨_, rfl⟩ (by omega) (by omega) ?_)
      rw [htd]
      generalize (s.drop a).take (i + 1) = u at *
      generalize vgo 10 z1 = t at *
      refine WL_o rfl rfl (OpR_eqS (neg := true) rfl rfl rfl ?_)
      refine P1 T.ok rfl rfl rfl ?_; refine WL_nil ?_; (with_reducible refine T_then ?_)
      by_cases ht : t = u
      ·subst ht
       rw [if_neg (by simp [hb])] at hgo
       rw [hgo]
       refine W_no (b := true != (t == t)) (by simp) rfl ?_
       refine W_skip ?_; (with_reducible refine T_then ?_); refine W_seq ?_; refine W_region ?_; (iterate 8 refine P1 T.ok rfl rfl rfl ?_); refine WL_nil ?_; (with_reducible refine T_then ?_)
       refine W_ret (ret3 rfl rfl rfl rfl (hs.ret ?_))
       rw [hw2]
      ·rw [if_pos (.inr ht)] at hgo
       rw [hgo]
       refine W_yes (b := true != (t == u)) (by simp [ht]) rfl ?_
       refine W_seq ?_; refine W_region ?_; (iterate 3 refine P1 T.ok rfl rfl rfl ?_); refine WL_nil ?_; (with_reducible refine T_then ?_)
       exact W_ret (ret3 rfl rfl rfl rfl (hs.ret rfl))
    ·refine W_no (b := (z1 : Int).tmod 2 == 1) (by rw [hmo]; simp; omega) rfl ?_
     have hun : unz z1 = ((z1 / 2 : Nat) : Int) := if_neg hodd
     rw [← hun]
     have hzu := zN_unz (z := z1)
     have hbad : z1 = 9223372036854775807 ↔ unz z1 < -4611686018427387903 := by
      unfold unz
      split <;> omega
     have hin : z1 ≠ 9223372036854775807 → inInt (unz z1) := by
      unfold unz inInt
      split <;> omega
     clear hun
     generalize unz z1 = n at *
     refine W_skip ?_; (with_reducible refine T_then ?_); refine W_seq ?_; refine W_region ?_; refine P1 T.ok rfl rfl rfl ?_
     by_cases hb : z1 = 9223372036854775807
     ·rw [if_pos (.inl hb)] at hgo
      rw [hgo]
      refine WL_o rfl rfl (OpR_ret cl56 allF rfl rfl rfl rfl rfl (rputIntBad_c n (hbad.1 hb) _) ?_); rintro g1 _ hf1 rfl; replace hs := hs.call hf1; have hqe := hf1.le; replace le0 := G.le.trans le0 hqe
      (iterate 5 refine P1 T.ok rfl rfl rfl ?_); refine WL_nil ?_; (with_reducible refine T_then ?_); refine W_seq ?_; refine W_seq ?_; refine W_region ?_; (iterate 3 refine P1 T.ok rfl rfl rfl ?_); (iterate 9 refine S1 allF rfl rfl ?_); refine P1 T.ok rfl rfl rfl ?_; refine WL_nil ?_; (with_reducible refine T_then ?_)
      refine W_yes rfl rfl ?_
      refine W_seq ?_; refine W_region ?_; (iterate 3 refine P1 T.ok rfl rfl rfl ?_); refine WL_nil ?_; (with_reducible refine T_then ?_)
      exact W_ret (ret3 rfl rfl rfl rfl (hs.ret rfl))
     ·refine WL_o rfl rfl (OpR_ret cl56 allF rfl rfl rfl rfl rfl (rputIntZ_c n (hin hb) _) ?_); rintro g1 _ hf1 rfl; replace hs := hs.call hf1; have hqe := hf1.le; replace le0 := G.le.trans le0 hqe
      rw [hzu]
      have htd : (s.take (a + i + 1)).drop a = (s.drop a).take (i + 1) := by rw [List.drop_take]; congr 1; omega
      have hw2 : IntKind.i64.wrap (IntKind.i64.wrap ((a : Int) + (i : Int)) + 1) = ((a + i + 1 : Nat) : Int) := by rw [hw, wr (by omega) (by omega)]; omega
      (iterate 5 refine P1 T.ok rfl rfl rfl ?_); refine WL_nil ?_; (with_reducible refine T_then ?_); refine W_seq ?_; refine W_seq ?_; refine W_region ?_; (iterate 10 refine P1 T.ok rfl rfl rfl ?_)
      refine WL_re (.int .i64 ((a + i + 1 : Nat) : Int)) (t := 71) rfl (congrArg (Value.int .i64) hw2) ?_
      refine WL_o rfl rfl (OpR_cutS T.ok (a := a) (b := a + i + 1) rfl rfl rfl rfl ⟨_, rfl⟩ ⟨_, rfl⟩ (by omega) (by omega) ?_)
      rw [htd]
      generalize (s.drop a).take (i + 1) = u at *
      generalize vgo 10 z1 = t at *
      refine WL_o rfl rfl (OpR_eqS (neg := true) rfl rfl rfl ?_)
      refine P1 T.ok rfl rfl rfl ?_; refine WL_nil ?_; (with_reducible refine T_then ?_)
      by_cases ht : t = u
      ·subst ht
       rw [if_neg (by simp [hb])] at hgo
       rw [hgo]
       refine W_no (b := true != (t == t)) (by simp) rfl ?_
       refine W_skip ?_; (with_reducible refine T_then ?_); refine W_seq ?_; refine W_region ?_; (iterate 8 refine P1 T.ok rfl rfl rfl ?_); refine WL_nil ?_; (with_reducible refine T_then ?_)
       refine W_ret (ret3 rfl rfl rfl rfl (hs.ret ?_))
       rw [hw2]
      ·rw [if_pos (.inr ht)] at hgo
       rw [hgo]
       refine W_yes (b := true != (t == u)) (by simp [ht]) rfl ?_
       refine W_seq ?_; refine W_region ?_; (iterate 3 refine P1 T.ok rfl rfl rfl ?_); refine WL_nil ?_; (with_reducible refine T_then ?_)
       exact W_ret (ret3 rfl rfl rfl rfl (hs.ret rfl))
 ·refine WL_know 23 (b := decide ((i : Int) < 9)) (b' := false) (decide_eq_false (by omega)) rfl ?_
  (iterate 6 refine S1 allF rfl rfl ?_); refine P1 T.ok rfl rfl rfl ?_; refine WL_nil ?_; (with_reducible refine T_then ?_)
  refine W_no rfl rfl ?_
  obtain rfl : i = 9 := by omega
  rw [hgo]
  refine W_exit ?_; (with_reducible refine T_tx ?_; with_reducible refine T_tx ?_); (with_reducible refine T_bx ?_); (with_reducible refine T_then ?_); refine W_seq ?_; refine W_region ?_; (iterate 3 refine P1 T.ok rfl rfl rfl ?_); refine WL_nil ?_; (with_reducible refine T_then ?_)
  exact W_ret (ret3 rfl rfl rfl rfl (hs.ret rfl))
end Go.Proofs.YteohjgndanlldaaGreatDoor

/- The reference's reader of strings. -/
namespace Go.Proofs.YteohjgndanlldaaGreatDoor
open Go Go.K
set_option maxRecDepth 10000
attribute [local irreducible] W WL OpR bitAnd bitOr bitXor bitClr bitNot shlI shrI
set_option maxHeartbeats 400000


theorem rstring_c (s : List UInt8) (a : Nat) (g : G) (hl : s.length ≤ 1099511627776) (ha : a ≤ s.length) : CallsIn Wd 0 Tryz.prog 75 #[.string (bs s), .int .i64 (a : Int)] g.w
  (Ret g fun _ r => r = .tuple #[.string (bs (stringM s a).1), .int .i64 (stringM s a).2.1, .int .i64 (stringM s a).2.2]) := by
 have hs := St.start g
 have le0 := G.le.refl g
 refine enter Tryz.func75 rfl Tryz.ntmps75 rfl ?_
 refine W_seq ?_; refine W_region ?_; (iterate 3 refine P1 T.ok rfl rfl rfl ?_); refine WL_nil ?_; (with_reducible refine T_then ?_); refine W_seq ?_; refine W_region ?_; refine P1 T.ok rfl rfl rfl ?_; refine P1 T.ok rfl rfl rfl ?_
 refine WL_o rfl rfl (OpR_ret cl97 allF rfl rfl rfl rfl rfl (rint_c s a _ hl ha) ?_); rintro g1 _ hf1 rfl; replace hs := hs.call hf1; have hqe := hf1.le; replace le0 := G.le.trans le0 hqe
 unfold stringM
 have hnext := intM_next (s := s) (a := a)
 generalize intM s a = r at *
 obtain ⟨n, q, e⟩ := r
 simp only at hnext ⊢
 (iterate 7 refine P1 T.ok rfl rfl rfl ?_); refine WL_nil ?_; (with_reducible refine T_then ?_); refine W_seq ?_; refine W_seq ?_; refine W_region ?_; refine P1 T.ok rfl rfl rfl ?_; refine P1 T.ok rfl rfl rfl ?_; refine WL_nil ?_; (with_reducible refine T_then ?_)
 by_cases he : e = 0
 ·subst he
  obtain ⟨q, rfl, hq1, hq2⟩ := hnext rfl
  rw [if_neg (by simp)]
  refine W_no rfl rfl ?_
  have hw : IntKind.i64.wrap (((bs s).size : Int) - (q : Int)) = (s.length : Int) - q := by rw [bs_size, wr (by omega) (by omega)]
  refine W_skip ?_; (with_reducible refine T_then ?_); refine W_seq ?_; refine W_seq ?_; refine W_region ?_; (iterate 3 refine P1 T.ok rfl rfl rfl ?_)
  by_cases h0 : n < 0
  ·rw [if_pos (.inl h0)]
   refine WL_know 22 (b' := true) (decide_eq_true h0) rfl ?_
   refine S1 allF rfl rfl ?_; refine S1 allF rfl rfl ?_; refine P1 T.ok rfl rfl rfl ?_; refine P1 T.ok rfl rfl rfl ?_; (iterate 6 refine S1 allF rfl rfl ?_); refine P1 T.ok rfl rfl rfl ?_; refine WL_nil ?_; (with_reducible refine T_then ?_)
   refine W_yes rfl rfl ?_
   refine W_seq ?_; refine W_region ?_; (iterate 3 refine P1 T.ok rfl rfl rfl ?_); refine WL_nil ?_; (with_reducible refine T_then ?_)
   exact W_ret (ret3 rfl rfl rfl rfl (hs.ret rfl))
  ·refine WL_know 22 (b' := false) (decide_eq_false h0) rfl ?_
   (iterate 4 refine P1 T.ok rfl rfl rfl ?_)
   by_cases h1 : 65536 < n
   ·rw [if_pos (.inr (.inl h1))]
    refine WL_know 26 (b' := true) (decide_eq_true h1) rfl ?_
    (iterate 6 refine S1 allF rfl rfl ?_); refine P1 T.ok rfl rfl rfl ?_; refine WL_nil ?_; (with_reducible refine T_then ?_)
    refine W_yes rfl rfl ?_
    refine W_seq ?_; refine W_region ?_; (iterate 3 refine P1 T.ok rfl rfl rfl ?_); refine WL_nil ?_; (with_reducible refine T_then ?_)
    exact W_ret (ret3 rfl rfl rfl rfl (hs.ret rfl))
   ·refine WL_know 26 (b' := false) (decide_eq_false h1) rfl ?_
    (iterate 7 refine P1 T.ok rfl rfl rfl ?_); refine WL_nil ?_; (with_reducible refine T_then ?_)
    by_cases h2 : (s.length : Int) - q < n
    ·rw [if_pos (.inr (.inr h2))]
     refine W_yes (b := decide (IntKind.i64.wrap (((bs s).size : Int) - (q : Int)) < n)) (decide_eq_true (by rw [hw]; exact h2)) rfl ?_
     refine W_seq ?_; refine W_region ?_; (iterate 3 refine P1 T.ok rfl rfl rfl ?_); refine WL_nil ?_; (with_reducible refine T_then ?_)
     exact W_ret (ret3 rfl rfl rfl rfl (hs.ret rfl))
    ·rw [if_neg (by omega)]
     refine W_no (b := decide (IntKind.i64.wrap (((bs s).size : Int) - (q : Int)) < n)) (decide_eq_false (by rw [hw]; exact h2)) rfl ?_
     obtain ⟨m, rfl⟩ : ∃ m : Nat, n = m := ⟨n.toNat, by omega⟩
     have hw2 : IntKind.i64.wrap ((q : Int) + (m : Int)) = ((q + m : Nat) : Int) := by rw [wr (by omega) (by omega)]; omega
     refine W_skip ?_; (with_reducible refine T_then ?_); refine W_seq ?_; refine W_region ?_; (iterate 5 refine P1 T.ok rfl rfl rfl ?_)
     refine WL_re (.int .i64 ((q + m : Nat) : Int)) (t := 38) rfl (congrArg (Value.int .i64) hw2) ?_
     refine WL_o rfl rfl (OpR_cutS T.ok (a := q) (b := q + m) rfl rfl rfl rfl ⟨_, rfl⟩ ⟨_, rfl⟩ (by omega) (by omega) ?_)
     (iterate 6 refine P1 T.ok rfl rfl rfl ?_); refine WL_nil ?_; (with_reducible refine T_then ?_)
     refine W_ret (ret3 rfl rfl rfl rfl (hs.ret ?_))
     have e1 : (s.take (q + m)).drop q = (s.drop q).take m := by rw [List.drop_take]; congr 1; omega
     rw [hw2, e1]
     rfl
 ·rw [if_pos (by simpa using he)]
  refine W_yes (b := e != 0) (by simpa using he) rfl ?_
  refine W_seq ?_; refine W_region ?_; (iterate 4 refine P1 T.ok rfl rfl rfl ?_); refine WL_nil ?_; (with_reducible refine T_then ?_)
  exact W_ret (ret3 rfl rfl rfl rfl (hs.ret rfl))
end Go.Proofs.YteohjgndanlldaaGreatDoor
