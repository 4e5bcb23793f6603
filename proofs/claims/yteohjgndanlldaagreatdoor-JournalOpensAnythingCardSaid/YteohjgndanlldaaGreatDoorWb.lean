/- The walks through package wire, and what it computes. -/
import Derived.Test.YteohjgndanlldaaGreatDoorKg
import Derived.Test.YteohjgndanlldaaGreatDoorSa

/- What package wire computes, in plain Lean. -/
namespace Go.Proofs.YteohjgndanlldaaGreatDoor
open Go Go.K

def grpGo : Nat → Int → List (Int × Bool)
 | 0, _ => []
 | k + 1, z => (IntKind.u8.wrap (bitAnd .u64 z 127), decide (z < 128)) :: if z < 128 then [] else grpGo k (shrI .u64 z 7)
def zz (n : Int) : Int := bitXor .u64 (shlI .u64 (IntKind.u64.wrap n) 1) (IntKind.u64.wrap (shrI .i64 n 63))
def grpB (x : Int × Bool) : Int := if x.2 = true then x.1 else bitOr .u8 x.1 128
def putIntM (n : Int) : List UInt8 := ((grpGo 10 (zz n)).map grpB).map fun m => UInt8.ofNat m.toNat
def inInt (n : Int) : Prop := -4611686018427387903 ≤ n ∧ n ≤ 4611686018427387903
theorem grpGo_len (k : Nat) : ∀ z, (grpGo k z).length ≤ k := by
 induction k with
 | zero => intro z; simp [grpGo]
 | succ k ih =>
  intro z; unfold grpGo; rw [List.length_cons]; split
  ·simp
  ·have := ih (shrI .u64 z 7); omega
theorem putIntM_len (n : Int) : (putIntM n).length ≤ 10 := by
 unfold putIntM; rw [List.length_map, List.length_map]; exact grpGo_len 10 _
theorem wrapU64_range (n : Int) : 0 ≤ IntKind.u64.wrap n ∧ IntKind.u64.wrap n < 18446744073709551616 := by
 unfold IntKind.wrap; simp [IntKind.signed, IntKind.bits]; omega
theorem zz_range (n : Int) : 0 ≤ zz n ∧ zz n < 128 ^ 10 := by
 have : zz n = IntKind.u64.wrap ((BitVec.ofInt IntKind.u64.bits (shlI .u64 (IntKind.u64.wrap n) 1) ^^^ BitVec.ofInt IntKind.u64.bits (IntKind.u64.wrap (shrI .i64 n 63))).toNat : Int) := rfl
 rw [this]
 have h := wrapU64_range ((BitVec.ofInt IntKind.u64.bits (shlI .u64 (IntKind.u64.wrap n) 1) ^^^ BitVec.ofInt IntKind.u64.bits (IntKind.u64.wrap (shrI .i64 n 63))).toNat : Int)
 generalize IntKind.u64.wrap _ = m at *
 omega
theorem shr7 {z : Int} (h0 : 0 ≤ z) : shrI .u64 z 7 = z / 128 := by
 have : shrI .u64 z 7 = z.fdiv 128 := rfl
 rw [this, Int.fdiv_eq_ediv_of_nonneg _ (by omega)]

def putStrM (s : List UInt8) : List UInt8 × Int := if 65536 < s.length then ([], 10) else (putIntM s.length ++ s, 0)

def intStep (s : List UInt8) (a i : Nat) (z : Int) : Int := bitOr .u64 z (shlI .u64 (IntKind.u64.wrap (bitAnd .u8 ((s.getD (a + i) 0).toNat : Int) 127)) (7 * i))
def intN (z : Int) : Int := bitXor .i64 (IntKind.i64.wrap (shrI .u64 z 1)) (IntKind.i64.wrap (0 - IntKind.i64.wrap (bitAnd .u64 z 1)))
def intGo (s : List UInt8) (a : Nat) : Nat → Nat → Int → Int × Int × Int
 | 0, _, _ => (0, 0, 10)
 | k + 1, i, z =>
  if s.length ≤ a + i then (0, 0, 10)
  else if 128 ≤ (s.getD (a + i) 0).toNat then intGo s a k (i + 1) (intStep s a i z)
  else if ((s.getD (a + i) 0).toNat = 0 ∧ 0 < i) ∨ intN (intStep s a i z) < -4611686018427387903 then (0, 0, 10)
  else (intN (intStep s a i z), ((a + i + 1 : Nat) : Int), 0)
def intM (s : List UInt8) (a : Nat) : Int × Int × Int := if s.length < a then (0, 0, 2) else intGo s a 9 0 0
theorem intGo_next (s : List UInt8) (a : Nat) : ∀ (k i : Nat) (z : Int), (intGo s a k i z).2.2 = 0 → ∃ q : Nat, (intGo s a k i z).2.1 = (q : Int) ∧ a + i < q ∧ q ≤ s.length ∧ q ≤ a + i + k := by
 intro k
 induction k with
 | zero => intro i z h; simp [intGo] at h
 | succ k ih =>
  intro i z h
  unfold intGo at h ⊢
  split at h
  ·simp at h
  ·rename_i h1
   rw [if_neg h1]
   split at h
   ·rename_i h2
    rw [if_pos h2]
    obtain ⟨q, e1, e2, e3, e4⟩ := ih _ _ h
    exact ⟨q, e1, by omega, e3, by omega⟩
   ·rename_i h2
    rw [if_neg h2]
    split at h
    ·simp at h
    ·rename_i h3
     rw [if_neg h3]
     exact ⟨_, rfl, by omega, by omega, by omega⟩
theorem intM_next {s : List UInt8} {a : Nat} (h : (intM s a).2.2 = 0) : ∃ q : Nat, (intM s a).2.1 = (q : Int) ∧ a < q ∧ q ≤ s.length := by
 unfold intM at h ⊢
 split at h
 ·simp at h
 ·rename_i h1
  rw [if_neg h1]
  obtain ⟨q, e1, e2, e3, _⟩ := intGo_next s a 9 0 0 h
  exact ⟨q, e1, by omega, e3⟩
def stringM (s : List UInt8) (a : Nat) : List UInt8 × Int × Int :=
 if (intM s a).2.2 ≠ 0 then ([], 0, (intM s a).2.2)
 else if (intM s a).1 < 0 ∨ 65536 < (intM s a).1 ∨ (s.length : Int) - (intM s a).2.1 < (intM s a).1 then ([], 0, 10)
 else ((s.drop (intM s a).2.1.toNat).take (intM s a).1.toNat, (intM s a).2.1 + (intM s a).1, 0)
end Go.Proofs.YteohjgndanlldaaGreatDoor

/- The walks through package wire: writing. -/
namespace Go.Proofs.YteohjgndanlldaaGreatDoor
open Go Go.K
set_option maxRecDepth 10000
attribute [local irreducible] W WL OpR bitAnd bitOr bitXor bitClr bitNot shlI shrI
set_option maxHeartbeats 2000000

def zObj (b : Nat) (z : Int) : Ent := .obj b (.cells [.int .u64 z].toArray 141 (0, 0))

theorem groupsSeq_c (b : Nat) (k0 : Nat) (z0 : Int) (g : G) (hz0 : 0 ≤ z0 ∧ z0 < 128 ^ (k0 + 1)) :
  SeqO Tryz.prog 132 #[.pointer (some ⟨b, 0, none⟩)] (fun x : Int × Bool => [.int .u8 x.1, .bool x.2]) (grpGo (k0 + 1) z0) (zObj b z0) g := by
 intro g1 hle yv J Jx hacc hy hJ0
 have le0 := G.le.refl g1
 refine enter Tryz.func132 rfl Tryz.ntmps132 rfl ?_
 refine W_block ?_
 refine W_loop (fun m a' w => ∃ (k : Nat) (z : Int) (pre : List (Int × Bool)) (g2 : G), w = g2.w ∧ G.le g1 g2 ∧ k ≤ k0 ∧ m = k ∧ (0 ≤ z ∧ z < 128 ^ (k + 1)) ∧ J pre (zObj b z) g2 ∧ grpGo (k0 + 1) z0 = pre ++ grpGo (k + 1) z ∧
   Fr 18 [] [(0, yv), (1, .pointer (some ⟨b, 0, none⟩))] a') k0
  (fun a' ha => ⟨k0, z0, [], g1, rfl, le0, Nat.le_refl _, rfl, hz0, hJ0, rfl, ha.keep (by (repeat (first | exact trivial | refine ⟨rfl, ?_⟩)))⟩) ?_
 clear le0
 rintro k a' _ ⟨_, z, pre, g2, rfl, le0, hk, rfl, hz, hJp, hx, ha'⟩
 obtain ⟨g0, L, i, hs, hi, hback⟩ := hacc _ _ _ hJp
 revert a'
 have hgo : grpGo (k + 1) z = (IntKind.u8.wrap (bitAnd .u64 z 127), decide (z < 128)) :: if z < 128 then [] else grpGo k (shrI .u64 z 7) := rfl
 rw [hgo] at hx
 (with_reducible refine T_wp ?_); refine W_block ?_; refine W_seq ?_; refine W_region ?_
 refine WL_o rfl rfl (OpR_loadO T.ok i rfl hs hi rfl rfl ?_)
 refine P1 T.ok rfl rfl rfl ?_; refine P1 T.ok rfl rfl rfl ?_; refine WL_nil ?_; (with_reducible refine T_then ?_); refine W_seq ?_; refine W_seq ?_; refine W_region ?_; refine P1 T.ok rfl rfl rfl ?_
 refine WL_o rfl rfl (OpR_loadO T.ok i rfl hs hi rfl rfl ?_)
 refine P2 T.ok rfl rfl rfl ?_; refine P2 T.ok rfl rfl rfl ?_; refine P1 T.ok rfl rfl rfl ?_
 refine WL_o rfl rfl (OpR_callV rfl rfl rfl rfl rfl rfl ((hy pre _ _ _ _ hx le0 hJp).mono ?_))
 rintro _ _ ⟨g3, bb, rfl, rfl, hqe, ht, hf⟩
 refine ⟨_, rfl, ?_⟩
 replace le0 := le0.trans hqe
 have hpre : pre ++ [(IntKind.u8.wrap (bitAnd .u64 z 127), decide (z < 128))] <+: grpGo (k0 + 1) z0 := ⟨if z < 128 then [] else grpGo k (shrI .u64 z 7), by rw [hx]; simp⟩
 cases bb with
 | false =>
  refine P1 T.ok rfl rfl rfl ?_; refine P1 T.ok rfl rfl rfl ?_; refine S1 allF rfl rfl ?_; refine P1 T.ok rfl rfl rfl ?_; refine WL_nil ?_; (with_reducible refine T_then ?_)
  refine W_yes rfl rfl ?_
  skip
  refine W_ret ?_; (with_reducible refine T_tr ?_); (with_reducible refine T_br ?_); (with_reducible refine T_tr ?_); (with_reducible refine T_br ?_); refine ret0 rfl ?_
  exact ⟨g3, _, rfl, rfl, le0, .inr ⟨_, _, hpre, hf rfl⟩⟩
 | true =>
  have hJ2 := ht rfl
  by_cases hlt : z < 128
  ·rw [if_pos hlt] at hx
   (iterate 4 refine P1 T.ok rfl rfl rfl ?_); refine WL_nil ?_; (with_reducible refine T_then ?_)
   refine W_yes (b := decide (z < 128)) (decide_eq_true hlt) rfl ?_
   skip
   refine W_ret ?_; (with_reducible refine T_tr ?_); (with_reducible refine T_br ?_); (with_reducible refine T_tr ?_); (with_reducible refine T_br ?_); refine ret0 rfl ?_
   exact ⟨g3, _, rfl, rfl, le0, .inl ⟨_, by rw [hx]; exact hJ2⟩⟩
  ·rw [if_neg hlt] at hx
   obtain ⟨k, rfl⟩ : ∃ k', k = k' + 1 := ⟨k - 1, by
    rcases k with _ | k
    ·simp at hz; omega
    ·rfl⟩
   obtain ⟨g4, L', i', hs', hi', hback'⟩ := hacc _ _ _ hJ2
   (iterate 4 refine P1 T.ok rfl rfl rfl ?_); refine WL_nil ?_; (with_reducible refine T_then ?_)
   refine W_no (b := decide (z < 128)) (decide_eq_false hlt) rfl ?_
   refine W_skip ?_; (with_reducible refine T_then ?_); refine W_region ?_
   refine WL_o rfl rfl (OpR_loadO T.ok i' rfl hs' hi' rfl rfl ?_)
   refine P2 T.ok rfl rfl rfl ?_
   refine WL_n rfl (OpR_storeO T.ok i' rfl hs' hi' rfl rfl rfl rfl rfl rfl rfl rfl ?_)
   rintro g5 hs5 hqe
   have hJ3 := hback' (zObj b (shrI .u64 z 7)) g5 hs5 hqe
   refine WL_nil ?_; (with_reducible refine T_bn ?_)
   exact fun a ha => ⟨k, by omega, k, shrI .u64 z 7, _, g5, rfl, le0.trans hqe, by omega, rfl, by
    rw [shr7 hz.1]
    have h := hz.2
    rw [Int.pow_succ] at h
    exact ⟨by omega, by omega⟩, hJ3, by rw [hx]; simp, ha.keep (by (repeat (first | exact trivial | refine ⟨rfl, ?_⟩)))⟩

theorem groups_c (z : Int) (g : G) : CallsIn Wd 0 Tryz.prog 112 #[.int .u64 z] g.w
  (Ret g fun g' r => ∃ b, r = .func (.func 132) #[] #[.pointer (some ⟨b, 0, none⟩)] ∧ (zObj b z).holds g.w.heap.size g') := by
 have hs := St.start g
 have le0 := G.le.refl g
 refine enter Tryz.func112 rfl Tryz.ntmps112 rfl ?_
 refine W_seq ?_; refine W_region ?_
 refine WL_o rfl rfl (OpR_box rfl hs rfl rfl ?_); clear hs; rintro b1 g1 hs hqe; replace le0 := G.le.trans le0 hqe
 refine P1 T.ok rfl rfl rfl ?_; refine WL_nil ?_; (with_reducible refine T_then ?_); refine W_seq ?_; refine W_region ?_; refine P1 T.ok rfl rfl rfl ?_; refine P1 T.ok rfl rfl rfl ?_; refine WL_nil ?_; (with_reducible refine T_then ?_)
 exact W_ret (ret1 rfl rfl (hs.ret ⟨_, rfl, hs.own 0 _ rfl⟩))

theorem putInt_c (n : Int) (g : G) (hn : inInt n) : CallsIn Wd 0 Tryz.prog 96 #[.int .i64 n] g.w (Ret g fun _ r => r = .tuple #[.string (bs (putIntM n)), .int .i64 0]) := by
 have hs := St.start g
 have le0 := G.le.refl g
 have hn1 := hn.1; have hn2 := hn.2
 refine enterM Tryz.func96 rfl Tryz.ntmps96 rfl ?_
 refine W_seq ?_; refine W_region ?_; refine P1 T.ok rfl rfl rfl ?_; refine P1 T.ok rfl rfl rfl ?_; refine WL_nil ?_; (with_reducible refine T_then ?_); refine W_seq ?_; refine W_seq ?_; refine W_region ?_; (iterate 3 refine P1 T.ok rfl rfl rfl ?_)
 refine WL_know 9 (b' := false) (decide_eq_false (by omega)) rfl ?_
 (iterate 3 refine P1 T.ok rfl rfl rfl ?_); refine WL_nil ?_; (with_reducible refine T_then ?_)
 refine W_no (b := decide (4611686018427387903 < n)) (decide_eq_false (by omega)) rfl ?_
 refine W_skip ?_; (with_reducible refine T_then ?_); refine W_seq ?_; refine W_region ?_
 refine WL_o rfl rfl (OpR_alloc T.ok rfl hs rfl rfl ?_); clear hs; rintro bo g1 hs hqe; replace le0 := G.le.trans le0 hqe
 replace hs := hs.nilrow 5 1 none
 refine WL_nil ?_; (with_reducible refine T_then ?_); refine W_seq ?_; refine W_seq ?_; refine W_region ?_; refine P1 T.ok rfl rfl rfl ?_; refine P2 T.ok rfl rfl rfl ?_; refine P2 T.ok rfl rfl rfl ?_; refine P1 T.ok rfl rfl rfl ?_; (iterate 3 refine P2 T.ok rfl rfl rfl ?_)
 have hzz := zz_range n
 have hgl := grpGo_len 10 (zz n)
 unfold putIntM
 refine WL_re (.int .u64 (zz n)) (t := 19) rfl rfl ?_
 generalize zz n = z at *
 refine WL_o rfl rfl (OpR_ret cl112 allF rfl rfl rfl rfl rfl (groups_c z _) ?_); rintro g4 _ hf4 ⟨bz, rfl, hh⟩; replace hs := hs.getOwn hf4 hh; have hqe := hf4.le
 replace le0 := le0.trans hqe; clear hh
 refine WL_nil ?_; (with_reducible refine T_then ?_); refine W_block ?_
 refine W_rangeO (N := 33) hs rfl cl132 (groupsSeq_c bz 9 z g4 hzz) rfl (fun _ => rfl)
  (fun pre L _ => ∃ v, L = [.row 5 1 v pre.length (pre.map fun x => Value.int .u8 (grpB x)), .obj bo (.cells #[v] 39 (0, 0))]) (fun _ _ _ _ => False)
  (fun _ _ _ _ _ h => h) (fun _ _ _ _ _ _ h => h) ⟨_, rfl⟩ (fun x => [(5, .int .u8 x.1), (6, .bool x.2), (4, .pointer (some ⟨bo, 0, none⟩))]) ?_ ?_ ?_ ?_
 ·intro x ro w
  refine W_seq ?_; refine W_region ?_; refine P1 T.ok rfl rfl rfl ?_; refine WL_nil ?_; (with_reducible refine T_then ?_); refine W_region ?_; refine P1 T.ok rfl rfl rfl ?_; refine WL_nil ?_
  exact fun a ha => ⟨rfl, ha.keep (by (repeat (first | exact trivial | refine ⟨rfl, ?_⟩)))⟩
 ·rintro lp D ro pre x rest e gr Lr hxs hle hs ⟨v, rfl⟩
  have le4 := G.le.refl gr
  have hpl : pre.length < 10 := by have := congrArg List.length hxs; simp at this; omega
  obtain ⟨xb, xl⟩ := x
  refine W_block ?_; refine W_seq ?_; refine W_seq ?_; refine W_region ?_; refine P1 T.ok rfl rfl rfl ?_; refine P1 T.ok rfl rfl rfl ?_; refine WL_nil ?_; (with_reducible refine T_then ?_)
  refine W_mid (fun a' w' => w' = gr.w ∧ Fr 33 [] [(5, .int .u8 (grpB (xb, xl))), (4, .pointer (some ⟨bo, 0, none⟩))] a') ?_ ?_
  ·cases xl with
   | true =>
    skip
    refine W_no rfl rfl ?_
    refine W_skip ?_
    exact fun a ha => ⟨rfl, ha.keep (by (repeat (first | exact trivial | refine ⟨rfl, ?_⟩)))⟩
   | false =>
    skip
    refine W_yes rfl rfl ?_
    refine W_region ?_; refine P1 T.ok rfl rfl rfl ?_; refine P2 T.ok rfl rfl rfl ?_; refine P1 T.ok rfl rfl rfl ?_; refine WL_nil ?_
    exact fun a ha => ⟨rfl, ha.keep (by (repeat (first | exact trivial | refine ⟨rfl, ?_⟩)))⟩
  ·rintro a' _ ⟨rfl, ha'⟩
   revert a'
   (with_reducible refine T_wp ?_); refine W_region ?_; refine WL_o rfl rfl (OpR_loadO T.ok 4 rfl hs rfl rfl rfl ?_); refine P1 T.ok rfl rfl rfl ?_
   refine WL_o rfl rfl (OpR_lit T.ok rfl hs (vs := [(0, .int .u8 (grpB (xb, xl)))]) (cells := [.int .u8 (grpB (xb, xl))]) rfl rfl rfl rfl rfl rfl (by decide) (by decide) (by kernel_rfl) rfl ?_); rintro b2 g2 hs hqe; replace le4 := G.le.trans le4 hqe
   skip
   refine WL_o rfl rfl (OpR_append T.ok 4 rfl hs rfl rfl rfl rfl rfl rfl rfl (by decide) rfl (Src.of_row (hs.own 0 _ rfl).1).2 (by simp [Value.oneCell']) (by show (pre.length + 1) * 1 ≤ _; omega) (by unfold maxLen; omega) ?_); rintro a9 c9 g3 hs hqe; replace le4 := G.le.trans le4 hqe
   skip
   refine WL_n rfl (OpR_storeO T.ok 5 rfl hs rfl rfl rfl rfl rfl rfl rfl rfl rfl ?_); replace hs := hs; rintro g1 hs hqe; replace le4 := G.le.trans le4 hqe
   refine WL_nil ?_; (with_reducible refine T_bn ?_)
   exact fun a ha => ⟨_, _, rfl, hs.drop 0, le4, _, rfl, .slice a9 (pre.length + 1) c9, by simp [spl]⟩
 ·rintro lp D o e Lr ge hle hs ⟨v, rfl⟩
  obtain ⟨av, cv, rfl⟩ := (hs.own 3 _ rfl).1.form
  have hsrc := (Src.of_row (hs.own 3 _ rfl).1).2
  (with_reducible refine T_bn ?_); (with_reducible refine T_then ?_); refine W_seq ?_; refine W_region ?_; refine WL_o rfl rfl (OpR_loadO T.ok 4 rfl hs rfl rfl rfl ?_)
  refine WL_o rfl rfl (OpR_bytesStr T.ok (ns := (grpGo (9 + 1) z).map grpB) rfl rfl rfl rfl rfl rfl rfl rfl (by rw [List.map_map]; exact hsrc) ?_)
  refine P1 T.ok rfl rfl rfl ?_; refine P1 T.ok rfl rfl rfl ?_; refine WL_nil ?_; (with_reducible refine T_then ?_)
  refine W_ret ?_; skip
  refine retM2 1 rfl hs rfl rfl rfl (fun g' hs' hle' => ?_)
  exact hs'.ret rfl
 ·rintro c lp D o pre e Lr ge _ _ _ h
  exact h.elim
end Go.Proofs.YteohjgndanlldaaGreatDoor

/- The walks through package wire: strings. -/
namespace Go.Proofs.YteohjgndanlldaaGreatDoor
open Go Go.K
set_option maxRecDepth 10000
attribute [local irreducible] W WL OpR bitAnd bitOr bitXor bitClr bitNot shlI shrI
set_option maxHeartbeats 2000000

theorem putStr_c (s : List UInt8) (g : G) (hl : s.length ≤ 1099511627776) : CallsIn Wd 0 Tryz.prog 71 #[.string (bs s)] g.w (Ret g fun _ r => r = .tuple #[.string (bs (putStrM s).1), .int .i64 (putStrM s).2]) := by
 have hs := St.start g
 have le0 := G.le.refl g
 refine enter Tryz.func71 rfl Tryz.ntmps71 rfl ?_
 unfold putStrM
 refine W_seq ?_; refine W_region ?_; refine P1 T.ok rfl rfl rfl ?_; refine P1 T.ok rfl rfl rfl ?_; refine WL_nil ?_; (with_reducible refine T_then ?_); refine W_seq ?_; refine W_seq ?_; refine W_region ?_; (iterate 3 refine P1 T.ok rfl rfl rfl ?_); refine WL_nil ?_; (with_reducible refine T_then ?_)
 by_cases hlt : 65536 < s.length
 ·rw [if_pos hlt]
  refine W_yes (b := decide ((65536 : Int) < ((bs s).size : Int))) (decide_eq_true (by rw [bs_size]; omega)) rfl ?_
  refine W_seq ?_; refine W_region ?_; refine P1 T.ok rfl rfl rfl ?_; refine P1 T.ok rfl rfl rfl ?_; refine WL_nil ?_; (with_reducible refine T_then ?_)
  exact W_ret (ret2 rfl rfl rfl (hs.ret rfl))
 ·rw [if_neg hlt]
  refine W_no (b := decide ((65536 : Int) < ((bs s).size : Int))) (decide_eq_false (by rw [bs_size]; omega)) rfl ?_
  have hpl := putIntM_len (s.length : Int)
  refine W_skip ?_; (with_reducible refine T_then ?_); refine W_seq ?_; refine W_region ?_; refine P1 T.ok rfl rfl rfl ?_; refine P1 T.ok rfl rfl rfl ?_
  refine WL_re (.int .i64 (s.length : Int)) (t := 11) rfl (by rw [bs_size]) ?_
  refine WL_o rfl rfl (OpR_ret cl96 allF rfl rfl rfl rfl rfl (putInt_c (s.length : Int) _ ⟨by omega, by omega⟩) ?_); rintro g1 _ hf1 rfl; replace hs := hs.call hf1; have hqe := hf1.le; replace le0 := G.le.trans le0 hqe
  (iterate 5 refine P1 T.ok rfl rfl rfl ?_); refine WL_nil ?_; (with_reducible refine T_then ?_); refine W_seq ?_; refine W_region ?_; refine P1 T.ok rfl rfl rfl ?_; refine P1 T.ok rfl rfl rfl ?_
  refine WL_o rfl rfl (OpR_addS (p := putIntM s.length) (q := s) rfl rfl rfl (by omega) ?_)
  refine P1 T.ok rfl rfl rfl ?_; refine P1 T.ok rfl rfl rfl ?_; refine WL_nil ?_; (with_reducible refine T_then ?_)
  exact W_ret (ret2 rfl rfl rfl (hs.ret rfl))



theorem int_c (s : List UInt8) (a : Nat) (g : G) (hl : s.length ≤ 1099511627776) (ha : a ≤ 1099511627776) : CallsIn Wd 0 Tryz.prog 113 #[.string (bs s), .int .i64 (a : Int)] g.w
  (Ret g fun _ r => r = .tuple #[.int .i64 (intM s a).1, .int .i64 (intM s a).2.1, .int .i64 (intM s a).2.2]) := by
 have hs := St.start g
 have le0 := G.le.refl g
 refine enter Tryz.func113 rfl Tryz.ntmps113 rfl ?_
 unfold intM
 refine W_seq ?_; refine W_region ?_; (iterate 3 refine P1 T.ok rfl rfl rfl ?_); refine WL_nil ?_; (with_reducible refine T_then ?_); refine W_seq ?_; refine W_seq ?_; refine W_region ?_; (iterate 8 refine P1 T.ok rfl rfl rfl ?_); refine WL_nil ?_; (with_reducible refine T_then ?_)
 skip
 by_cases hlt : s.length < a
 ·rw [if_pos hlt]
  refine W_yes (b := decide (((bs s).size : Int) < (a : Int))) (decide_eq_true (by rw [bs_size]; omega)) rfl ?_
  refine W_seq ?_; refine W_region ?_; (iterate 3 refine P1 T.ok rfl rfl rfl ?_); refine WL_nil ?_; (with_reducible refine T_then ?_)
  exact W_ret (ret3 rfl rfl rfl rfl (hs.ret rfl))
 ·rw [if_neg hlt]
  refine W_no (b := decide (((bs s).size : Int) < (a : Int))) (decide_eq_false (by rw [bs_size]; omega)) rfl ?_
  refine W_skip ?_; (with_reducible refine T_then ?_); refine W_seq ?_; refine W_region ?_; refine P1 T.ok rfl rfl rfl ?_; refine WL_nil ?_; (with_reducible refine T_then ?_); refine W_seq ?_; refine W_seq ?_; refine W_region ?_; refine P1 T.ok rfl rfl rfl ?_; refine WL_nil ?_; (with_reducible refine T_then ?_); refine W_block ?_
  have le8 := G.le.refl g
  generalize hR : intGo s a 9 0 0 = R
  refine W_loop (fun m a' w => ∃ (i : Nat) (z : Int) (g2 : G), w = g2.w ∧ St g g2 [] ∧ G.le g g2 ∧ i ≤ 9 ∧ m = 9 - i ∧ R = intGo s a (9 - i) i z ∧
    Fr 67 [] [(0, .string (bs s)), (1, .int .i64 (a : Int)), (7, .int .u64 z), (19, .int .i64 i)] a') 9
   (fun a' ha => ⟨0, 0, g, rfl, hs, le8, Nat.zero_le _, rfl, hR.symm, ha.keep (by (repeat (first | exact trivial | refine ⟨rfl, ?_⟩)))⟩) ?_
  clear hs le8 hR
  rintro m a' _ ⟨i, z, g2, rfl, hs, le8, hi, rfl, hgo, ha'⟩
  revert a'
  (with_reducible refine T_wp ?_); refine W_seq ?_; refine W_region ?_; refine P1 T.ok rfl rfl rfl ?_; refine WL_nil ?_; (with_reducible refine T_then ?_); refine W_seq ?_
  by_cases hli : i < 9
  ·refine W_yes (b := decide ((i : Int) < 9)) (decide_eq_true (by omega)) rfl ?_
   have e9 : 9 - i = (9 - (i + 1)) + 1 := by omega
   rw [e9, intGo] at hgo
   have hw : IntKind.i64.wrap ((a : Int) + (i : Int)) = ((a + i : Nat) : Int) := by rw [wr (by omega) (by omega)]; omega
   refine W_skip ?_; (with_reducible refine T_then ?_); refine W_seq ?_; refine W_block ?_; refine W_seq ?_; refine W_region ?_; refine P1 T.ok rfl rfl rfl ?_; refine P1 T.ok rfl rfl rfl ?_; refine WL_nil ?_; (with_reducible refine T_then ?_); refine W_seq ?_; refine W_seq ?_; refine W_region ?_; (iterate 6 refine P1 T.ok rfl rfl rfl ?_); refine WL_nil ?_; (with_reducible refine T_then ?_)
   by_cases hend : s.length ≤ a + i
   ·rw [if_pos hend] at hgo
    rw [hgo]
    refine W_yes (b := decide (((bs s).size : Int) ≤ IntKind.i64.wrap ((a : Int) + (i : Int)))) (decide_eq_true (by rw [hw, bs_size]; omega)) rfl ?_
    refine W_exit ?_; (with_reducible refine T_tx ?_); ((with_reducible refine T_by ?_ ?_); exact rfl); (with_reducible refine T_tx ?_; with_reducible refine T_tx ?_); (with_reducible refine T_bx ?_); (with_reducible refine T_then ?_); refine W_seq ?_; refine W_region ?_; (iterate 3 refine P1 T.ok rfl rfl rfl ?_); refine WL_nil ?_; (with_reducible refine T_then ?_)
    exact W_ret (ret3 rfl rfl rfl rfl (hs.ret rfl))
   ·rw [if_neg hend] at hgo
    refine W_no (b := decide (((bs s).size : Int) ≤ IntKind.i64.wrap ((a : Int) + (i : Int)))) (decide_eq_false (by rw [hw, bs_size]; omega)) rfl ?_
    have hge : s[((a + i : Nat) : Int).toNat]'(by omega) = s.getD (a + i) 0 := by
     rw [List.getD_eq_getElem?_getD, List.getElem?_eq_getElem (by omega)]; rfl
    refine W_skip ?_; (with_reducible refine T_then ?_); refine W_seq ?_; refine W_region ?_; (iterate 4 refine P1 T.ok rfl rfl rfl ?_)
    refine WL_re (.int .i64 ((a + i : Nat) : Int)) (t := 31) rfl (congrArg (Value.int .i64) hw) ?_
    refine WL_o rfl rfl (OpR_idxS T.ok rfl rfl rfl rfl rfl (by omega) (by omega) ?_)
    rw [hge]
    have hst : intStep s a i z = bitOr .u64 z (shlI .u64 (IntKind.u64.wrap (bitAnd .u8 ((s.getD (a + i) 0).toNat : Int) 127)) (7 * i)) := rfl
    generalize (s.getD (a + i) 0).toNat = b at *
    refine P1 T.ok rfl rfl rfl ?_; refine WL_nil ?_; (with_reducible refine T_then ?_); refine W_seq ?_; refine W_region ?_; refine P1 T.ok rfl rfl rfl ?_; refine P1 T.ok rfl rfl rfl ?_; refine P2 T.ok rfl rfl rfl ?_; refine P2 T.ok rfl rfl rfl ?_; refine P1 T.ok rfl rfl rfl ?_; refine P1 T.ok rfl rfl rfl ?_
    refine WL_re (.int .i64 ((7 * i : Nat) : Int)) (t := 38) rfl (congrArg (Value.int .i64) (by rw [wr (by omega) (by omega)]; omega)) ?_
    refine WL_o rfl rfl (OpR_shlV rfl rfl rfl (by omega) ?_)
    rw [Int.toNat_natCast]
    refine WL_o rfl rfl (OpR_pure2 _ T.ok rfl ?_)
    refine WL_re (.int .u64 (intStep s a i z)) (t := 40) rfl (congrArg (Value.int .u64) hst.symm) ?_
    clear hst
    generalize intStep s a i z = z1 at *
    refine P1 T.ok rfl rfl rfl ?_; refine WL_nil ?_; (with_reducible refine T_then ?_); refine W_seq ?_; refine W_seq ?_; refine W_region ?_; refine P1 T.ok rfl rfl rfl ?_; refine P1 T.ok rfl rfl rfl ?_; refine WL_nil ?_; (with_reducible refine T_then ?_)
    by_cases hb : 128 ≤ b
    ·rw [if_pos hb] at hgo
     refine W_yes (b := decide ((128 : Int) ≤ (b : Int))) (decide_eq_true (by omega)) rfl ?_
     refine W_exit ?_; (with_reducible refine T_tx ?_); (with_reducible refine T_bx ?_); (with_reducible refine T_then ?_); refine W_region ?_; refine P1 T.ok rfl rfl rfl ?_; refine P1 T.ok rfl rfl rfl ?_; refine WL_nil ?_
     exact fun a ha => ⟨9 - (i + 1), by omega, i + 1, z1, _, rfl, hs, le8, by omega, rfl, hgo, ha.keep ⟨rfl, rfl, rfl, kI rfl (by rw [wr (by omega) (by omega)]; omega), trivial⟩⟩
    ·rw [if_neg hb] at hgo
     refine W_no (b := decide ((128 : Int) ≤ (b : Int))) (decide_eq_false (by omega)) rfl ?_
     refine W_skip ?_; (with_reducible refine T_then ?_); refine W_seq ?_; refine W_region ?_; refine P1 T.ok rfl rfl rfl ?_; refine P2 T.ok rfl rfl rfl ?_; refine P2 T.ok rfl rfl rfl ?_; refine P1 T.ok rfl rfl rfl ?_; refine P2 T.ok rfl rfl rfl ?_; refine P2 T.ok rfl rfl rfl ?_; refine P1 T.ok rfl rfl rfl ?_; refine P2 T.ok rfl rfl rfl ?_; refine P1 T.ok rfl rfl rfl ?_; refine WL_nil ?_; (with_reducible refine T_then ?_); refine W_seq ?_; refine W_seq ?_; refine W_region ?_; (iterate 3 refine P1 T.ok rfl rfl rfl ?_)
     have hn : intN z1 = bitXor .i64 (IntKind.i64.wrap (shrI .u64 z1 1)) (IntKind.i64.wrap (0 - IntKind.i64.wrap (bitAnd .u64 z1 1))) := rfl
     rw [← hn]
     generalize intN z1 = n at *
     by_cases hb0 : b = 0
     ·refine WL_know 53 (b' := true) (by rw [hb0]; rfl) rfl ?_
      (iterate 4 refine P1 T.ok rfl rfl rfl ?_)
      by_cases hi0 : 0 < i
      ·rw [if_pos (.inl ⟨hb0, hi0⟩)] at hgo
       rw [hgo]
       refine WL_know 57 (b' := true) (decide_eq_true (by omega)) rfl ?_
       refine S1 allF rfl rfl ?_; refine S1 allF rfl rfl ?_; refine P1 T.ok rfl rfl rfl ?_; refine WL_nil ?_; (with_reducible refine T_then ?_)
       refine W_yes rfl rfl ?_
       refine W_exit ?_; (with_reducible refine T_tx ?_); ((with_reducible refine T_by ?_ ?_); exact rfl); (with_reducible refine T_tx ?_; with_reducible refine T_tx ?_); (with_reducible refine T_bx ?_); (with_reducible refine T_then ?_); refine W_seq ?_; refine W_region ?_; (iterate 3 refine P1 T.ok rfl rfl rfl ?_); refine WL_nil ?_; (with_reducible refine T_then ?_)
       exact W_ret (ret3 rfl rfl rfl rfl (hs.ret rfl))
      ·refine WL_know 57 (b' := false) (decide_eq_false (by omega)) rfl ?_
       (iterate 3 refine P1 T.ok rfl rfl rfl ?_); refine WL_nil ?_; (with_reducible refine T_then ?_)
       by_cases hneg : n < -4611686018427387903
       ·rw [if_pos (.inr hneg)] at hgo
        rw [hgo]
        refine W_yes (b := decide (n < -4611686018427387903)) (decide_eq_true hneg) rfl ?_
        refine W_exit ?_; (with_reducible refine T_tx ?_); ((with_reducible refine T_by ?_ ?_); exact rfl); (with_reducible refine T_tx ?_; with_reducible refine T_tx ?_); (with_reducible refine T_bx ?_); (with_reducible refine T_then ?_); refine W_seq ?_; refine W_region ?_; (iterate 3 refine P1 T.ok rfl rfl rfl ?_); refine WL_nil ?_; (with_reducible refine T_then ?_)
        exact W_ret (ret3 rfl rfl rfl rfl (hs.ret rfl))
       ·rw [if_neg (fun h => h.elim (fun h => hi0 h.2) hneg)] at hgo
        rw [hgo]
        refine W_no (b := decide (n < -4611686018427387903)) (decide_eq_false hneg) rfl ?_
        refine W_skip ?_; (with_reducible refine T_then ?_); refine W_seq ?_; refine W_region ?_; (iterate 8 refine P1 T.ok rfl rfl rfl ?_); refine WL_nil ?_; (with_reducible refine T_then ?_)
        refine W_ret (ret3 rfl rfl rfl rfl (hs.ret ?_))
        rw [hw, wr (by omega) (by omega)]; rfl
     ·refine WL_know 53 (b' := false) (by simp; omega) rfl ?_
      refine S1 allF rfl rfl ?_; refine S1 allF rfl rfl ?_; (iterate 5 refine P1 T.ok rfl rfl rfl ?_); refine WL_nil ?_; (with_reducible refine T_then ?_)
      by_cases hneg : n < -4611686018427387903
      ·rw [if_pos (.inr hneg)] at hgo
       rw [hgo]
       refine W_yes (b := decide (n < -4611686018427387903)) (decide_eq_true hneg) rfl ?_
       refine W_exit ?_; (with_reducible refine T_tx ?_); ((with_reducible refine T_by ?_ ?_); exact rfl); (with_reducible refine T_tx ?_; with_reducible refine T_tx ?_); (with_reducible refine T_bx ?_); (with_reducible refine T_then ?_); refine W_seq ?_; refine W_region ?_; (iterate 3 refine P1 T.ok rfl rfl rfl ?_); refine WL_nil ?_; (with_reducible refine T_then ?_)
       exact W_ret (ret3 rfl rfl rfl rfl (hs.ret rfl))
      ·rw [if_neg (fun h => h.elim (fun h => hb0 h.1) hneg)] at hgo
       rw [hgo]
       refine W_no (b := decide (n < -4611686018427387903)) (decide_eq_false hneg) rfl ?_
       refine W_skip ?_; (with_reducible refine T_then ?_); refine W_seq ?_; refine W_region ?_; (iterate 8 refine P1 T.ok rfl rfl rfl ?_); refine WL_nil ?_; (with_reducible refine T_then ?_)
       refine W_ret (ret3 rfl rfl rfl rfl (hs.ret ?_))
       rw [hw, wr (by omega) (by omega)]; rfl
  ·refine W_no (b := decide ((i : Int) < 9)) (decide_eq_false (by omega)) rfl ?_
   obtain rfl : i = 9 := by omega
   rw [hgo]
   refine W_exit ?_; (with_reducible refine T_tx ?_; with_reducible refine T_tx ?_); (with_reducible refine T_bx ?_); (with_reducible refine T_then ?_); refine W_seq ?_; refine W_region ?_; (iterate 3 refine P1 T.ok rfl rfl rfl ?_); refine WL_nil ?_; (with_reducible refine T_then ?_)
   exact W_ret (ret3 rfl rfl rfl rfl (hs.ret rfl))

theorem intGo_err (s : List UInt8) (a : Nat) : ∀ k i z, (intGo s a k i z).2.2 = 0 ∨ (intGo s a k i z).2.2 = 10 := by
 intro k
 induction k with
 | zero => intro i z; exact .inr rfl
 | succ k ih =>
  intro i z
  unfold intGo
  split
  ·exact .inr rfl
  ·split
   ·exact ih _ _
   ·split
    ·exact .inr rfl
    ·exact .inl rfl

theorem string_c (s : List UInt8) (a : Nat) (g : G) (hl : s.length ≤ 1099511627776) (ha : a ≤ 1099511627776) : CallsIn Wd 0 Tryz.prog 101 #[.string (bs s), .int .i64 (a : Int)] g.w
  (Ret g fun _ r => r = .tuple #[.string (bs (stringM s a).1), .int .i64 (stringM s a).2.1, .int .i64 (stringM s a).2.2]) := by
 have hs := St.start g
 have le0 := G.le.refl g
 refine enter Tryz.func101 rfl Tryz.ntmps101 rfl ?_
 refine W_seq ?_; refine W_region ?_; (iterate 3 refine P1 T.ok rfl rfl rfl ?_); refine WL_nil ?_; (with_reducible refine T_then ?_); refine W_seq ?_; refine W_region ?_; refine P1 T.ok rfl rfl rfl ?_; refine P1 T.ok rfl rfl rfl ?_
 refine WL_o rfl rfl (OpR_ret cl113 allF rfl rfl rfl rfl rfl (int_c s a _ hl ha) ?_); rintro g1 _ hf1 rfl; replace hs := hs.call hf1; have hqe := hf1.le; replace le0 := G.le.trans le0 hqe
 unfold stringM
 have hnext := intM_next (s := s) (a := a)
 generalize intM s a = r at *
 obtain ⟨n, q, e⟩ := r
 simp only at hnext ⊢
 (iterate 7 refine P1 T.ok rfl rfl rfl ?_); refine WL_nil ?_; (with_reducible refine T_then ?_); refine W_seq ?_; refine W_seq ?_; refine W_region ?_; refine P1 T.ok rfl rfl rfl ?_; refine P1 T.ok rfl rfl rfl ?_; refine WL_nil ?_; (with_reducible refine T_then ?_)
 by_cases he : e = 0
 ·subst he
  obtain ⟨q, rfl, hq1, hq2⟩ := hnext rfl
  rw [if_neg (by simp)]
  refine W_no rfl rfl ?_
  have hw : IntKind.i64.wrap (((bs s).size : Int) - (q : Int)) = (s.length : Int) - q := by rw [bs_size, wr (by omega) (by omega)]
  refine W_skip ?_; (with_reducible refine T_then ?_); refine W_seq ?_; refine W_seq ?_; refine W_region ?_; (iterate 3 refine P1 T.ok rfl rfl rfl ?_)
  by_cases h0 : n < 0
  ·rw [if_pos (.inl h0)]
   refine WL_know 22 (b' := true) (decide_eq_true h0) rfl ?_
   refine S1 allF rfl rfl ?_; refine S1 allF rfl rfl ?_; refine P1 T.ok rfl rfl rfl ?_; refine P1 T.ok rfl rfl rfl ?_; (iterate 6 refine S1 allF rfl rfl ?_); refine P1 T.ok rfl rfl rfl ?_; refine WL_nil ?_; (with_reducible refine T_then ?_)
   refine W_yes rfl rfl ?_
   refine W_seq ?_; refine W_region ?_; (iterate 3 refine P1 T.ok rfl rfl rfl ?_); refine WL_nil ?_; (with_reducible refine T_then ?_)
   exact W_ret (ret3 rfl rfl rfl rfl (hs.ret rfl))
  ·refine WL_know 22 (b' := false) (decide_eq_false h0) rfl ?_
   (iterate 4 refine P1 T.ok rfl rfl rfl ?_)
   by_cases h1 : 65536 < n
   ·rw [if_pos (.inr (.inl h1))]
    refine WL_know 26 (b' := true) (decide_eq_true h1) rfl ?_
    (iterate 6 refine S1 allF rfl rfl ?_); refine P1 T.ok rfl rfl rfl ?_; refine WL_nil ?_; (with_reducible refine T_then ?_)
    refine W_yes rfl rfl ?_
    refine W_seq ?_; refine W_region ?_; (iterate 3 refine P1 T.ok rfl rfl rfl ?_); refine WL_nil ?_; (with_reducible refine T_then ?_)
    exact W_ret (ret3 rfl rfl rfl rfl (hs.ret rfl))
   ·refine WL_know 26 (b' := false) (decide_eq_false h1) rfl ?_
    (iterate 7 refine P1 T.ok rfl rfl rfl ?_); refine WL_nil ?_; (with_reducible refine T_then ?_)
    by_cases h2 : (s.length : Int) - q < n
    ·rw [if_pos (.inr (.inr h2))]
     refine W_yes (b := decide (IntKind.i64.wrap (((bs s).size : Int) - (q : Int)) < n)) (decide_eq_true (by rw [hw]; exact h2)) rfl ?_
     refine W_seq ?_; refine W_region ?_; (iterate 3 refine P1 T.ok rfl rfl rfl ?_); refine WL_nil ?_; (with_reducible refine T_then ?_)
     exact W_ret (ret3 rfl rfl rfl rfl (hs.ret rfl))
    ·rw [if_neg (by omega)]
     refine W_no (b := decide (IntKind.i64.wrap (((bs s).size : Int) - (q : Int)) < n)) (decide_eq_false (by rw [hw]; exact h2)) rfl ?_
     obtain ⟨m, rfl⟩ : ∃ m : Nat, n = m := ⟨n.toNat, by omega⟩
     have hw2 : IntKind.i64.wrap ((q : Int) + (m : Int)) = ((q + m : Nat) : Int) := by rw [wr (by omega) (by omega)]; omega
     refine W_skip ?_; (with_reducible refine T_then ?_); refine W_seq ?_; refine W_region ?_; (iterate 5 refine P1 T.ok rfl rfl rfl ?_)
     refine WL_re (.int .i64 ((q + m : Nat) : Int)) (t := 38) rfl (congrArg (Value.int .i64) hw2) ?_
     refine WL_o rfl rfl (OpR_cutS T.ok (a := q) (b := q + m) rfl rfl rfl rfl ⟨_, rfl⟩ ⟨_, rfl⟩ (by omega) (by omega) ?_)
     (iterate 6 refine P1 T.ok rfl rfl rfl ?_); refine WL_nil ?_; (with_reducible refine T_then ?_)
     refine W_ret (ret3 rfl rfl rfl rfl (hs.ret ?_))
     have e1 : (s.take (q + m)).drop q = (s.drop q).take m := by rw [List.drop_take]; congr 1; omega
     rw [hw2, e1]
     rfl
 ·rw [if_pos (by simpa using he)]
  refine W_yes (b := e != 0) (by simpa using he) rfl ?_
  refine W_seq ?_; refine W_region ?_; (iterate 4 refine P1 T.ok rfl rfl rfl ?_); refine WL_nil ?_; (with_reducible refine T_then ?_)
  exact W_ret (ret3 rfl rfl rfl rfl (hs.ret rfl))
end Go.Proofs.YteohjgndanlldaaGreatDoor

/- What package wire's bits come to. -/
namespace Go.Proofs.YteohjgndanlldaaGreatDoor
open Go Go.K
set_option maxRecDepth 10000
attribute [local irreducible] W WL OpR bitAnd bitOr bitXor bitClr bitNot shlI shrI

theorem wrapU64 {n : Int} (h : 0 ≤ n) (h2 : n < 18446744073709551616) : IntKind.u64.wrap n = n := by
 unfold IntKind.wrap; simp [IntKind.signed, IntKind.bits]; omega
theorem wrapU8 {n : Int} (h : 0 ≤ n) (h2 : n < 256) : IntKind.u8.wrap n = n := by
 unfold IntKind.wrap; simp [IntKind.signed, IntKind.bits]; omega
theorem and127 {z : Nat} (h : z < 18446744073709551616) : bitAnd .u64 (z : Int) 127 = ((z % 128 : Nat) : Int) := by
 unfold bitAnd
 have e : (BitVec.ofInt IntKind.u64.bits (z : Int) &&& BitVec.ofInt IntKind.u64.bits 127).toNat = z % 128 := by
  rw [BitVec.toNat_and]
  have e1 : (BitVec.ofInt IntKind.u64.bits (z : Int)).toNat = z := by
   rw [BitVec.toNat_ofInt]; simp [IntKind.bits]; omega
  have e2 : (BitVec.ofInt IntKind.u64.bits 127).toNat = 2 ^ 7 - 1 := by decide
  rw [e1, e2, Nat.and_two_pow_sub_one_eq_mod]
 rw [e, wrapU64 (by omega) (by omega)]
theorem or128 {z : Nat} (h : z < 128) : bitOr .u8 (z : Int) 128 = ((z + 128 : Nat) : Int) := by
 unfold bitOr
 have e : (BitVec.ofInt IntKind.u8.bits (z : Int) ||| BitVec.ofInt IntKind.u8.bits 128).toNat = z + 128 := by
  rw [BitVec.toNat_or]
  have e1 : (BitVec.ofInt IntKind.u8.bits (z : Int)).toNat = z := by
   rw [BitVec.toNat_ofInt]; simp [IntKind.bits]; omega
  have e2 : (BitVec.ofInt IntKind.u8.bits 128).toNat = 2 ^ 7 * 1 := by decide
  rw [e1, e2, Nat.or_comm, ← Nat.two_pow_add_eq_or_of_lt (by omega)]
  omega
 rw [e, wrapU8 (by omega) (by omega)]
theorem and127u8 {z : Nat} (h : z < 256) : bitAnd .u8 (z : Int) 127 = ((z % 128 : Nat) : Int) := by
 unfold bitAnd
 have e : (BitVec.ofInt IntKind.u8.bits (z : Int) &&& BitVec.ofInt IntKind.u8.bits 127).toNat = z % 128 := by
  rw [BitVec.toNat_and]
  have e1 : (BitVec.ofInt IntKind.u8.bits (z : Int)).toNat = z := by
   rw [BitVec.toNat_ofInt]; simp [IntKind.bits]; omega
  have e2 : (BitVec.ofInt IntKind.u8.bits 127).toNat = 2 ^ 7 - 1 := by decide
  rw [e1, e2, Nat.and_two_pow_sub_one_eq_mod]
 rw [e, wrapU8 (by omega) (by omega)]
theorem zz_nat {n : Nat} (h : n < 4611686018427387904) : zz (n : Int) = ((2 * n : Nat) : Int) := by
 unfold zz
 have e1 : IntKind.u64.wrap (n : Int) = n := wrapU64 (by omega) (by omega)
 have e2 : shlI .u64 (n : Int) 1 = ((2 * n : Nat) : Int) := by
  unfold shlI
  rw [show min 1 IntKind.u64.bits = 1 from rfl, wrapU64 (by omega) (by omega)]; omega
 have e3 : shrI .i64 (n : Int) 63 = 0 := by
  unfold shrI
  rw [show min 63 IntKind.i64.bits = 63 from rfl, Int.fdiv_eq_ediv_of_nonneg _ (by decide)]; omega
 rw [e1, e2, e3]
 unfold bitXor
 have e : (BitVec.ofInt IntKind.u64.bits ((2 * n : Nat) : Int) ^^^ BitVec.ofInt IntKind.u64.bits (IntKind.u64.wrap 0)).toNat = 2 * n := by
  rw [BitVec.toNat_xor]
  have e1 : (BitVec.ofInt IntKind.u64.bits ((2 * n : Nat) : Int)).toNat = 2 * n := by
   rw [BitVec.toNat_ofInt]; simp [IntKind.bits]; omega
  have e2 : (BitVec.ofInt IntKind.u64.bits (IntKind.u64.wrap 0)).toNat = 0 := by decide
  rw [e1, e2, Nat.xor_zero]
 rw [e, wrapU64 (by omega) (by omega)]

/-- The bytes of a number, seven bits each. -/
def vgo : Nat → Nat → List UInt8
 | 0, _ => []
 | k + 1, z => if z < 128 then [UInt8.ofNat z] else UInt8.ofNat (z % 128 + 128) :: vgo k (z / 128)
theorem grpGo_vgo : ∀ (k z : Nat), z < 18446744073709551616 → ((grpGo k (z : Int)).map grpB).map (fun m => UInt8.ofNat m.toNat) = vgo k z
 | 0, _, _ => rfl
 | k + 1, z, h => by
  unfold grpGo vgo
  rw [and127 h]
  have e8 : IntKind.u8.wrap ((z % 128 : Nat) : Int) = ((z % 128 : Nat) : Int) := wrapU8 (by omega) (by omega)
  by_cases hz : z < 128
  ·rw [if_pos (by omega), if_pos hz, e8, List.map_cons, List.map_cons, List.map_nil, List.map_nil]
   simp only [grpB, decide_eq_true_eq]
   rw [if_pos (by omega), Int.toNat_natCast, Nat.mod_eq_of_lt hz]
  ·rw [if_neg (by omega), if_neg hz, e8, List.map_cons, List.map_cons, shr7 (by omega), show ((z : Int) / 128) = ((z / 128 : Nat) : Int) from rfl, grpGo_vgo k (z / 128) (by omega)]
   simp only [grpB, decide_eq_true_eq]
   rw [if_neg (by omega), or128 (by omega), Int.toNat_natCast]
theorem putIntM_nat {n : Nat} (h : n < 4611686018427387904) : putIntM (n : Int) = vgo 10 (2 * n) := by
 unfold putIntM
 rw [zz_nat h, grpGo_vgo _ _ (by omega)]
end Go.Proofs.YteohjgndanlldaaGreatDoor

/- What package wire writes, it reads back. -/
namespace Go.Proofs.YteohjgndanlldaaGreatDoor
open Go Go.K
set_option maxRecDepth 10000
attribute [local irreducible] W WL OpR bitAnd bitOr bitXor bitClr bitNot shlI shrI

theorem orU64 {z x i : Nat} (h : z < 2 ^ i) (h2 : 2 ^ i * x < 18446744073709551616) (h3 : z + 2 ^ i * x < 18446744073709551616) : bitOr .u64 (z : Int) ((2 ^ i * x : Nat) : Int) = ((z + 2 ^ i * x : Nat) : Int) := by
 unfold bitOr
 have e : (BitVec.ofInt IntKind.u64.bits (z : Int) ||| BitVec.ofInt IntKind.u64.bits ((2 ^ i * x : Nat) : Int)).toNat = z + 2 ^ i * x := by
  generalize hq : 2 ^ i * x = q at *
  rw [BitVec.toNat_or]
  have e1 : (BitVec.ofInt IntKind.u64.bits (z : Int)).toNat = z := by
   rw [BitVec.toNat_ofInt]; simp [IntKind.bits]; omega
  have e2 : (BitVec.ofInt IntKind.u64.bits (q : Int)).toNat = q := by
   rw [BitVec.toNat_ofInt]; simp [IntKind.bits]; omega
  rw [e1, e2, Nat.or_comm, ← hq, ← Nat.two_pow_add_eq_or_of_lt h]
  omega
 rw [e, wrapU64 (by omega) (by omega)]
theorem wrapI64 {n : Int} (h : -9223372036854775808 ≤ n) (h2 : n < 9223372036854775808) : IntKind.i64.wrap n = n := wr (by omega) (by omega)
theorem intN_nat {n : Nat} (h : n < 4611686018427387904) : intN ((2 * n : Nat) : Int) = (n : Int) := by
 unfold intN
 have e1 : shrI .u64 ((2 * n : Nat) : Int) 1 = (n : Int) := by
  unfold shrI
  rw [show min 1 IntKind.u64.bits = 1 from rfl, Int.fdiv_eq_ediv_of_nonneg _ (by decide)]; omega
 have e2 : bitAnd .u64 ((2 * n : Nat) : Int) 1 = 0 := by
  unfold bitAnd
  have e : (BitVec.ofInt IntKind.u64.bits ((2 * n : Nat) : Int) &&& BitVec.ofInt IntKind.u64.bits 1).toNat = 0 := by
   rw [BitVec.toNat_and]
   have e1 : (BitVec.ofInt IntKind.u64.bits ((2 * n : Nat) : Int)).toNat = 2 * n := by
    rw [BitVec.toNat_ofInt]; simp [IntKind.bits]; omega
   have e2 : (BitVec.ofInt IntKind.u64.bits 1).toNat = 2 ^ 1 - 1 := by decide
   rw [e1, e2, Nat.and_two_pow_sub_one_eq_mod]; omega
  rw [e]; rfl
 rw [e1, e2, wrapI64 (by omega) (by omega), show IntKind.i64.wrap (0 - IntKind.i64.wrap 0) = 0 from by decide]
 unfold bitXor
 have e : (BitVec.ofInt IntKind.i64.bits (n : Int) ^^^ BitVec.ofInt IntKind.i64.bits 0).toNat = n := by
  rw [BitVec.toNat_xor]
  have e1 : (BitVec.ofInt IntKind.i64.bits (n : Int)).toNat = n := by
   rw [BitVec.toNat_ofInt]; simp [IntKind.bits]; omega
  have e2 : (BitVec.ofInt IntKind.i64.bits 0).toNat = 0 := by decide
  rw [e1, e2, Nat.xor_zero]
 rw [e, wrapI64 (by omega) (by omega)]

theorem intStep_nat {s : List UInt8} {a i z b : Nat} (hb : (s.getD (a + i) 0).toNat = b) (hb2 : b < 256) (hz : z < 2 ^ (7 * i)) (hlt : z + 2 ^ (7 * i) * (b % 128) < 18446744073709551616) (hi : 7 * i ≤ 64) : intStep s a i (z : Int) = ((z + 2 ^ (7 * i) * (b % 128) : Nat) : Int) := by
 unfold intStep
 rw [hb, and127u8 hb2, wrapU64 (by omega) (by omega)]
 have e : shlI .u64 ((b % 128 : Nat) : Int) (7 * i) = ((2 ^ (7 * i) * (b % 128) : Nat) : Int) := by
  unfold shlI
  rw [show min (7 * i) IntKind.u64.bits = 7 * i from Nat.min_eq_left hi]
  have : ((b % 128 : Nat) : Int) * 2 ^ (7 * i) = ((2 ^ (7 * i) * (b % 128) : Nat) : Int) := by
   rw [Nat.mul_comm (2 ^ (7 * i)), Int.natCast_mul, Int.natCast_pow]; rfl
  rw [this, wrapU64 (by omega) (by omega)]
 rw [e, orU64 hz (by omega) hlt]

theorem intGo_vgo (s : List UInt8) (a n : Nat) (rest : List UInt8) (hn : n < 4611686018427387904) : ∀ k i y z, s.drop (a + i) = vgo (k + 1) y ++ rest → i + k = 9 → y < 128 ^ k → z < 2 ^ (7 * i) → z + 2 ^ (7 * i) * y = 2 * n → (0 < i → 0 < y) →
  intGo s a k i (z : Int) = ((n : Int), ((a + i + (vgo (k + 1) y).length : Nat) : Int), 0) := by
 intro k
 induction k with
 | zero =>
  intro i y z _ h9 hy _ _ hpos
  simp at hy
  have := hpos (by omega)
  omega
 | succ k ih =>
  intro i y z hd h9 hy hz hsum hpos
  have hat : ∀ x t, s.drop (a + i) = x :: t → a + i < s.length ∧ s.getD (a + i) 0 = x := by
   intro x t h
   have h1 : (s.drop (a + i))[0]? = some x := by rw [h]; rfl
   rw [List.getElem?_drop, Nat.add_zero] at h1
   exact ⟨(List.getElem?_eq_some_iff.1 h1).1, by rw [List.getD_eq_getElem?_getD, h1]; rfl⟩
  unfold intGo
  by_cases hlt : y < 128
  ·have hv : vgo (k + 1 + 1) y = [UInt8.ofNat y] := by unfold vgo; rw [if_pos hlt]
   rw [hv] at hd ⊢
   obtain ⟨h1, h2⟩ := hat _ _ hd
   have hb : (s.getD (a + i) 0).toNat = y := by rw [h2]; simp; omega
   have hst := intStep_nat (s := s) (a := a) (i := i) (z := z) hb (by omega) hz (by rw [Nat.mod_eq_of_lt hlt]; omega) (by omega)
   rw [Nat.mod_eq_of_lt hlt, hsum] at hst
   rw [if_neg (by omega), if_neg (by omega), hst, intN_nat hn, if_neg (by
    rintro (⟨h3, h4⟩ | h3)
    ·have := hpos h4; omega
    ·omega)]
   rfl
  ·have hv : vgo (k + 1 + 1) y = UInt8.ofNat (y % 128 + 128) :: vgo (k + 1) (y / 128) := by
    rw [vgo, if_neg hlt]
   rw [hv] at hd ⊢
   obtain ⟨h1, h2⟩ := hat _ _ hd
   have hb : (s.getD (a + i) 0).toNat = y % 128 + 128 := by rw [h2]; simp; omega
   have hmod : (y % 128 + 128) % 128 = y % 128 := by omega
   have hyd : 2 ^ (7 * i) * y = 2 ^ (7 * i) * (y % 128) + 2 ^ (7 * (i + 1)) * (y / 128) := by
    conv => lhs; rw [← Nat.mod_add_div y 128]
    rw [Nat.mul_add, show 7 * (i + 1) = 7 * i + 7 from by omega, Nat.pow_add, Nat.mul_assoc]
   have hst := intStep_nat (s := s) (a := a) (i := i) (z := z) hb (by omega) hz (by rw [hmod]; omega) (by omega)
   rw [hmod] at hst
   rw [if_neg (by omega), if_pos (by omega), hst]
   have hlt7 : z + 2 ^ (7 * i) * (y % 128) < 2 ^ (7 * (i + 1)) := by
    rw [show 7 * (i + 1) = 7 * i + 7 from by omega, Nat.pow_add]
    have : 2 ^ (7 * i) * (y % 128) ≤ 2 ^ (7 * i) * 127 := Nat.mul_le_mul_left _ (by omega)
    omega
   have := ih (i + 1) (y / 128) (z + 2 ^ (7 * i) * (y % 128)) (by
     have h5 := congrArg (List.drop 1) hd
     rw [List.drop_drop] at h5
     rw [show a + (i + 1) = a + i + 1 from by omega, h5]; rfl) (by omega) (by
     rw [Nat.pow_succ] at hy
     omega) hlt7 (by omega) (fun _ => by omega)
   rw [this, List.length_cons]
   congr 2
   omega
theorem intM_put {s : List UInt8} {a n : Nat} {rest : List UInt8} (hn : n < 4611686018427387904) (ha : a ≤ s.length) (h : s.drop a = putIntM (n : Int) ++ rest) : intM s a = ((n : Int), ((a + (putIntM (n : Int)).length : Nat) : Int), 0) := by
 unfold intM
 rw [putIntM_nat hn] at h ⊢
 rw [if_neg (by omega)]
 exact intGo_vgo s a n rest hn 9 0 (2 * n) 0 h rfl (by omega) (by decide) (by omega) (fun h => by omega)
end Go.Proofs.YteohjgndanlldaaGreatDoor
