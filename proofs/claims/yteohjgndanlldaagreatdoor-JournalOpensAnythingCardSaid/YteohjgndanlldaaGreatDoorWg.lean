/- The reference's PutString, a journal that is well, the fixed examples. -/
import Derived.Test.YteohjgndanlldaaGreatDoorWf

/- The reference's PutString. -/
namespace Go.Proofs.YteohjgndanlldaaGreatDoor
open Go Go.K
set_option maxRecDepth 10000
attribute [local irreducible] W WL OpR bitAnd bitOr bitXor bitClr bitNot shlI shrI
set_option maxHeartbeats 2000000

theorem rzigzag_c (n : Nat) (hn : n < 4611686018427387904) (g : G) : CallsIn Wd 0 Tryz.prog 86 #[.int .i64 (n : Int)] g.w (Ret g fun _ r => r = .int .u64 ((2 * n : Nat) : Int)) := by
 have hs := St.start g
 refine enter Tryz.func86 rfl Tryz.ntmps86 rfl ?_
 refine W_seq ?_; refine W_region ?_; refine P1 T.ok rfl rfl rfl ?_; refine WL_nil ?_; (with_reducible refine T_then ?_); refine W_seq ?_; refine W_seq ?_; refine W_region ?_; refine P1 T.ok rfl rfl rfl ?_; refine P1 T.ok rfl rfl rfl ?_; refine WL_nil ?_; (with_reducible refine T_then ?_)
 refine W_no (b := decide ((n : Int) < 0)) (decide_eq_false (by omega)) rfl ?_
 refine W_skip ?_; (with_reducible refine T_then ?_); refine W_seq ?_; refine W_region ?_; refine P1 T.ok rfl rfl rfl ?_; refine P2 T.ok rfl rfl rfl ?_; refine P1 T.ok rfl rfl rfl ?_; refine P1 T.ok rfl rfl rfl ?_; refine WL_nil ?_; (with_reducible refine T_then ?_)
 refine W_ret (ret1 rfl rfl (hs.ret ?_))
 rw [wrapU64 (n := (n : Int)) (by omega) (by omega), wrapU64 (by omega) (by omega)]
 congr 1
 omega

theorem rputInt_c (n : Nat) (hn : n < 4611686018427387904) (g : G) : CallsIn Wd 0 Tryz.prog 56 #[.int .i64 (n : Int)] g.w (Ret g fun _ r => r = .tuple #[.string (bs (putIntM (n : Int))), .int .i64 0]) := by
 have hs := St.start g
 have le0 := G.le.refl g
 rw [putIntM_nat hn]
 refine enter Tryz.func56 rfl Tryz.ntmps56 rfl ?_
 refine W_seq ?_; refine W_region ?_; refine P1 T.ok rfl rfl rfl ?_; refine P1 T.ok rfl rfl rfl ?_; refine WL_nil ?_; (with_reducible refine T_then ?_); refine W_seq ?_; refine W_seq ?_; refine W_region ?_; (iterate 6 refine P1 T.ok rfl rfl rfl ?_); refine WL_nil ?_; (with_reducible refine T_then ?_)
 refine W_no (b := decide ((4611686018427387903 : Int) < (n : Int))) (decide_eq_false (by omega)) rfl ?_
 refine W_skip ?_; (with_reducible refine T_then ?_); refine W_seq ?_; refine W_region ?_; refine P1 T.ok rfl rfl rfl ?_
 refine WL_o rfl rfl (OpR_ret cl86 allF rfl rfl rfl rfl rfl (rzigzag_c n hn _) ?_); rintro g1 _ hf1 rfl; replace hs := hs.call hf1; have hqe := hf1.le; replace le0 := G.le.trans le0 hqe
 refine P1 T.ok rfl rfl rfl ?_; refine WL_nil ?_; (with_reducible refine T_then ?_); refine W_seq ?_; refine W_region ?_; refine P1 T.ok rfl rfl rfl ?_; refine WL_nil ?_; (with_reducible refine T_then ?_); refine W_seq ?_; refine W_block ?_
 replace hs := hs.nilrow 5 1 none
 refine W_loop (fun m a' w => ∃ (z : Nat) (g2 : G) (oa : Option Addr) (oc : Nat) (pre : List UInt8), w = g2.w ∧ St g g2 [.row 5 1 (.slice oa pre.length oc) pre.length (byteV pre)] ∧ g.le g2 ∧ m ≤ 9 ∧ pre.length + m = 9 ∧ z < 128 ^ (m + 1) ∧ z < 18446744073709551616 ∧ pre ++ vgo (m + 1) z = vgo 10 (2 * n) ∧
   Fr 31 [] [(4, .int .u64 (z : Int)), (5, .slice oa pre.length oc)] a') 9
  (fun a' ha => ⟨2 * n, _, none, 0, [], rfl, hs, le0, Nat.le_refl _, rfl, by show 2 * n < 1180591620717411303424; omega, by omega, rfl, ha.keep (by (repeat (first | exact trivial | refine ⟨rfl, ?_⟩)))⟩) ?_
 clear hs le0
 rintro m a' _ ⟨z, g2, oa, oc, pre, rfl, hs, le0, hm, hpm, hz, hz2, hv, ha'⟩
 revert a'
 (with_reducible refine T_wp ?_); refine W_seq ?_; refine W_seq ?_; refine W_region ?_; refine P1 T.ok rfl rfl rfl ?_; refine P1 T.ok rfl rfl rfl ?_; refine WL_nil ?_; (with_reducible refine T_then ?_)
 by_cases h1 : 128 ≤ z
 ·refine W_yes (b := decide ((128 : Int) ≤ (z : Int))) (decide_eq_true (by omega)) rfl ?_
  obtain ⟨m, rfl⟩ : ∃ m', m = m' + 1 := by
   cases m with
   | zero => simp at hz; omega
   | succ m => exact ⟨m, rfl⟩
  obtain ⟨x, hx⟩ : ∃ x : UInt8, x = UInt8.ofNat (z % 128 + 128) := ⟨_, rfl⟩
  have hxn : x.toNat = z % 128 + 128 := by rw [hx]; simp; omega
  have hvz : vgo (m + 1 + 1) z = x :: vgo (m + 1) (z / 128) := by rw [vgo, if_neg (by omega), hx]
  have hw1 : IntKind.u8.wrap (IntKind.u64.wrap ((z : Int).tmod 128 + 128)) = (x.toNat : Int) := by
   rw [Int.tmod_eq_emod_of_nonneg (by omega), wrapU64 (by omega) (by omega), wrapU8 (by omega) (by omega), hxn]; omega
  refine W_skip ?_; (with_reducible refine T_then ?_); refine W_block ?_; refine W_seq ?_; refine W_region ?_; (iterate 4 refine P1 T.ok rfl rfl rfl ?_); refine P2 T.ok rfl rfl rfl ?_
  refine WL_re (.int .u8 (x.toNat : Int)) (t := 20) rfl (congrArg (Value.int .u8) hw1) ?_
  refine WL_o rfl rfl (OpR_lit T.ok rfl hs (vs := [(0, .int .u8 (x.toNat : Int))]) (cells := [.int .u8 (x.toNat : Int)]) rfl rfl rfl rfl rfl rfl (by decide) (by decide) (by kernel_rfl) rfl ?_)
  clear hs
  rintro bl gl hs hqe; replace le0 := G.le.trans le0 hqe
  obtain ⟨gz, hwz, hsz, hqz, hrl⟩ := hs.fzRow (α := UInt8) (xs := [x]) (i := 0) rfl (RcL.bytes _ [x])
  clear hqe; have hqe := hqz; rw [← hwz]; replace hs := hsz; clear hsz; replace le0 := G.le.trans le0 hqe
  skip
  obtain ⟨_, news, hnw, hsrc⟩ := Src.of_rs hrl
  obtain rfl := RcL.bytes_inv hnw
  refine WL_o rfl rfl (OpR_append T.ok 0 rfl hs rfl rfl rfl rfl rfl rfl rfl (by decide) rfl hsrc hnw.one (by show (pre.length + 1) * 1 ≤ _; omega) (by unfold maxLen; show pre.length + 1 ≤ _; omega) ?_)
  clear hs hrl hsrc hnw
  rintro oa2 oc2 g5 hs hqe; replace le0 := G.le.trans le0 hqe
  replace hs : St g g5 [.row 5 1 (.slice oa2 (pre ++ [x]).length oc2) (pre ++ [x]).length (byteV (pre ++ [x]))] := by
   rw [List.length_append, byteV_app]; exact hs
  rw [show pre.length + 1 = (pre ++ [x]).length from by rw [List.length_append]; rfl]
  refine P1 T.ok rfl rfl rfl ?_; refine WL_nil ?_; (with_reducible refine T_then ?_); refine W_region ?_; (iterate 3 refine P1 T.ok rfl rfl rfl ?_); refine WL_nil ?_; (with_reducible refine T_bn ?_)
  have hw2 : IntKind.u64.wrap ((z : Int).tdiv 128) = ((z / 128 : Nat) : Int) := by
   rw [Int.tdiv_eq_ediv_of_nonneg (by omega), wrapU64 (by omega) (by omega)]; rfl
  exact fun a ha => ⟨m, by omega, z / 128, g5, oa2, oc2, pre ++ [x], rfl, hs, le0, by omega, by rw [List.length_append]; simp; omega, by rw [Nat.pow_succ] at hz; omega, by omega, by rw [List.append_assoc]; show pre ++ (x :: vgo (m + 1) (z / 128)) = _; rw [← hvz]; exact hv, ha.keep ⟨kV rfl (congrArg (Value.int .u64) hw2), rfl, trivial⟩⟩
 ·refine W_no (b := decide ((128 : Int) ≤ (z : Int))) (decide_eq_false (by omega)) rfl ?_
  obtain ⟨x, hx⟩ : ∃ x : UInt8, x = UInt8.ofNat z := ⟨_, rfl⟩
  have hxn : x.toNat = z := by rw [hx]; simp; omega
  have hvz : vgo (m + 1) z = [x] := by rw [vgo, if_pos (by omega), hx]
  have hw1 : IntKind.u8.wrap (z : Int) = (x.toNat : Int) := by rw [wrapU8 (by omega) (by omega), hxn]
  refine W_exit ?_; (with_reducible refine T_tx ?_; with_reducible refine T_tx ?_); (with_reducible refine T_bx ?_); (with_reducible refine T_then ?_); refine W_seq ?_; refine W_region ?_; refine P1 T.ok rfl rfl rfl ?_; refine P1 T.ok rfl rfl rfl ?_; refine P2 T.ok rfl rfl rfl ?_
  refine WL_re (.int .u8 (x.toNat : Int)) (t := 27) rfl (congrArg (Value.int .u8) hw1) ?_
  refine WL_o rfl rfl (OpR_lit T.ok rfl hs (vs := [(0, .int .u8 (x.toNat : Int))]) (cells := [.int .u8 (x.toNat : Int)]) rfl rfl rfl rfl rfl rfl (by decide) (by decide) (by kernel_rfl) rfl ?_)
  clear hs
  rintro bl gl hs hqe; replace le0 := G.le.trans le0 hqe
  obtain ⟨gz, hwz, hsz, hqz, hrl⟩ := hs.fzRow (α := UInt8) (xs := [x]) (i := 0) rfl (RcL.bytes _ [x])
  clear hqe; have hqe := hqz; rw [← hwz]; replace hs := hsz; clear hsz; replace le0 := G.le.trans le0 hqe
  skip
  obtain ⟨_, news, hnw, hsrc⟩ := Src.of_rs hrl
  obtain rfl := RcL.bytes_inv hnw
  refine WL_o rfl rfl (OpR_append T.ok 0 rfl hs rfl rfl rfl rfl rfl rfl rfl (by decide) rfl hsrc hnw.one (by show (pre.length + 1) * 1 ≤ _; omega) (by unfold maxLen; show pre.length + 1 ≤ _; omega) ?_)
  clear hs hrl hsrc hnw
  rintro oa2 oc2 g5 hs hqe; replace le0 := G.le.trans le0 hqe
  replace hs : St g g5 [.row 5 1 (.slice oa2 (pre ++ [x]).length oc2) (pre ++ [x]).length (byteV (pre ++ [x]))] := by
   rw [List.length_append, byteV_app]; exact hs
  rw [show pre.length + 1 = (pre ++ [x]).length from by rw [List.length_append]; rfl]
  have hsrc := (Src.of_row (hs.own 0 _ rfl).1).2
  refine WL_o rfl rfl (OpR_bytesStr T.ok (ns := (pre ++ [x]).map fun b => (b.toNat : Int)) rfl rfl rfl rfl rfl rfl rfl rfl (by rw [List.map_map]; exact hsrc) ?_)
  rw [show ((pre ++ [x]).map fun b : UInt8 => (b.toNat : Int)).map (fun m => UInt8.ofNat m.toNat) = vgo 10 (2 * n) from by
   rw [List.map_map, ← hv, hvz, show ((fun m : Int => UInt8.ofNat m.toNat) ∘ fun b : UInt8 => (b.toNat : Int)) = id from by funext b; simp, List.map_id]]
  refine P1 T.ok rfl rfl rfl ?_; refine P1 T.ok rfl rfl rfl ?_; refine WL_nil ?_; (with_reducible refine T_then ?_)
  exact W_ret (ret2 rfl rfl rfl (hs.ret rfl))

theorem rputStr_c (s : List UInt8) (hl : s.length ≤ 65536) (g : G) : CallsIn Wd 0 Tryz.prog 73 #[.string (bs s)] g.w (Ret g fun _ r => r = .tuple #[.string (bs (putIntM (s.length : Int) ++ s)), .int .i64 0]) := by
 have hs := St.start g
 have le0 := G.le.refl g
 have hpl := putIntM_len (s.length : Int)
 refine enter Tryz.func73 rfl Tryz.ntmps73 rfl ?_
 refine W_seq ?_; refine W_region ?_; refine P1 T.ok rfl rfl rfl ?_; refine P1 T.ok rfl rfl rfl ?_; refine WL_nil ?_; (with_reducible refine T_then ?_); refine W_seq ?_; refine W_seq ?_; refine W_region ?_; (iterate 3 refine P1 T.ok rfl rfl rfl ?_); refine WL_nil ?_; (with_reducible refine T_then ?_)
 refine W_no (b := decide ((65536 : Int) < ((bs s).size : Int))) (decide_eq_false (by rw [bs_size]; omega)) rfl ?_
 refine W_skip ?_; (with_reducible refine T_then ?_); refine W_seq ?_; refine W_region ?_; refine P1 T.ok rfl rfl rfl ?_; refine P1 T.ok rfl rfl rfl ?_
 refine WL_re (.int .i64 (s.length : Int)) (t := 11) rfl (by rw [bs_size]) ?_
 refine WL_o rfl rfl (OpR_ret cl56 allF rfl rfl rfl rfl rfl (rputInt_c s.length (by omega) _) ?_); rintro g1 _ hf1 rfl; replace hs := hs.call hf1; have hqe := hf1.le; replace le0 := G.le.trans le0 hqe
 (iterate 5 refine P1 T.ok rfl rfl rfl ?_); refine WL_nil ?_; (with_reducible refine T_then ?_); refine W_seq ?_; refine W_region ?_; refine P1 T.ok rfl rfl rfl ?_; refine P1 T.ok rfl rfl rfl ?_
 refine WL_o rfl rfl (OpR_addS (p := putIntM (s.length : Int)) (q := s) rfl rfl rfl (by omega) ?_)
 refine P1 T.ok rfl rfl rfl ?_; refine P1 T.ok rfl rfl rfl ?_; refine WL_nil ?_; (with_reducible refine T_then ?_)
 exact W_ret (ret2 rfl rfl rfl (hs.ret rfl))
end Go.Proofs.YteohjgndanlldaaGreatDoor

/- A journal on a disk with power: in plain Lean. -/
namespace Go.Proofs.YteohjgndanlldaaGreatDoor
open Go Go.K
set_option maxRecDepth 10000
attribute [local irreducible] W WL OpR bitAnd bitOr bitXor bitClr bitNot shlI shrI

structure JInv (D : DiskM) (Y : TapeM) (rs : List (List UInt8)) : Prop where
 ok : D.ok
 eq : Y = tape0.adds rs
 short : ∀ r ∈ rs, r.length ≤ 65536
 wire : D.vis.take Y.size = wireM tape0 rs
 zero : isZero (D.vis.drop Y.size) = true
 le : Y.size ≤ D.vis.length
theorem JInv.recs {D : DiskM} {Y : TapeM} {rs : List (List UInt8)} (h : JInv D Y rs) : Y.recs = rs := by rw [h.eq, adds_recs]; rfl
theorem JInv.size {D : DiskM} {Y : TapeM} {rs : List (List UInt8)} (h : JInv D Y rs) : Y.size = (wireM tape0 rs).length := by
 rw [h.eq, adds_size, show tape0.size = 0 from rfl, Nat.zero_add]
theorem JInv.tok {D : DiskM} {Y : TapeM} {rs : List (List UInt8)} (h : JInv D Y rs) : Y.ok := by
 have h1 := h.size
 have h2 := wireM_pos rs tape0
 have h3 := h.le
 have h4 := h.ok.len
 have h5 := h.ok.le
 refine ⟨by rw [h.recs]; omega, ?_, by omega⟩
 rw [h.eq]; exact adds_head rs tape0_ok.head
theorem JInv.nrec {D : DiskM} {Y : TapeM} {rs : List (List UInt8)} (h : JInv D Y rs) : rs.length ≤ D.dur.length := by
 have h1 := h.size
 have h2 := wireM_pos rs tape0
 have h3 := h.le
 have h4 := h.ok.len
 omega

theorem isZero_at {s : List UInt8} (h : isZero s = true) : ∀ x t, s = x :: t → x = 0 := by
 intro x t e
 subst e
 unfold isZero at h
 rw [List.all_cons, Bool.and_eq_true] at h
 simpa using h.1
theorem JInv.load {D : DiskM} {Y : TapeM} {rs : List (List UInt8)} (h : JInv D Y rs) : loadGo (D.vis.length + 1) tape0 D.vis = some Y := by
 have h2 := wireM_pos rs tape0
 have h1 := h.size
 have h3 := h.le
 have := loadGo_wire D.vis (D.vis.drop Y.size) (isZero_at h.zero) rs (D.vis.length + 1) tape0 h.short (Nat.zero_le _) (by
  rw [← h.wire, List.take_append_drop]; rfl) (by omega)
 rw [this, h.eq]
theorem JInv.open {D : DiskM} {Y : TapeM} {rs : List (List UInt8)} (h : JInv D Y rs) (ho : D.off = false) : openM D = (some Y, D, 0) := by
 unfold openM
 rw [if_neg (by simp [ho]), h.load]
 exact if_pos h.zero
theorem isZero_rep (n : Nat) : isZero (List.replicate n 0) = true := by simp [isZero]
theorem JInv.new {n : Nat} (h1 : 1 ≤ n) (h2 : n ≤ 4194304) : JInv (DiskM.new n) tape0 [] :=
 ⟨DiskM.new_ok h1 h2, rfl, fun r hr => by simp at hr, by simp [tape0, wireM], by show isZero (List.drop 0 (List.replicate n 0)) = true; rw [List.drop_zero]; exact isZero_rep n, Nat.zero_le _⟩

theorem ontoM_two {v out : List UInt8} {k : Nat} (h : k + out.length ≤ v.length) (h1 : 1 ≤ out.length) : ontoM (ontoM v (k + 1) (out.drop 1)) k (out.take 1) = v.take k ++ out ++ v.drop (k + out.length) := by
 cases out with
 | nil => simp at h1
 | cons x t =>
  simp only [List.length_cons] at h
  have e1 : ontoM v (k + 1) t = v.take (k + 1) ++ (t ++ v.drop (k + 1 + t.length)) := by rw [ontoM, List.append_assoc]
  simp only [List.drop_succ_cons, List.drop_zero, List.take_succ_cons, List.take_zero, List.length_cons]
  rw [e1]
  unfold ontoM
  rw [List.take_append_of_le_length (by rw [List.length_take]; omega), List.take_take, Nat.min_eq_left (by omega)]
  rw [show ([x] : List UInt8).length = 1 from rfl]
  have hlt : (v.take (k + 1)).length = k + 1 := by rw [List.length_take]; omega
  have e2 : (v.take (k + 1) ++ (t ++ v.drop (k + 1 + t.length))).drop (k + 1) = t ++ v.drop (k + 1 + t.length) := by
   have := @List.drop_left _ (v.take (k + 1)) (t ++ v.drop (k + 1 + t.length))
   rwa [hlt] at this
  rw [e2, show k + (t.length + 1) = k + 1 + t.length from by omega]
  simp only [List.append_assoc, List.cons_append, List.nil_append]

theorem storeM_on {D : DiskM} (ho : D.off = false) (hl : D.left = 0) (k : Nat) (out : List UInt8) : storeM D k out = ({ off := false, left := 0, dur := ontoM (ontoM D.vis (k + 1) (out.drop 1)) k (out.take 1), vis := ontoM (ontoM D.vis (k + 1) (out.drop 1)) k (out.take 1), pend := [] }, 0) := by
 obtain ⟨off, left, dur, vis, pend⟩ := D
 simp only at ho hl
 subst ho; subst hl
 simp [storeM, storeFs, runM, DiskM.wr, DiskM.sy, DiskM.put, DiskM.sync, usedM]

theorem wireM_adds (rs l : List (List UInt8)) : ∀ Y : TapeM, wireM Y (rs ++ l) = wireM Y rs ++ wireM (Y.adds rs) l := by
 induction rs with
 | nil => intro Y; rfl
 | cons r rs ih => intro Y; rw [List.cons_append, wireM, ih, wireM, adds_cons, List.append_assoc]
theorem adds_app (rs l : List (List UInt8)) (Y : TapeM) : Y.adds (rs ++ l) = (Y.adds rs).adds l := by unfold TapeM.adds; rw [List.foldl_append]

/-- What stays of a disk. -/
structure DOn (D D' : DiskM) : Prop where
 off : D'.off = false
 left : D'.left = 0
 pend : D'.pend = []
 len : D'.dur.length = D.dur.length
 dv : D'.dur = D'.vis
theorem JInv.store {D : DiskM} {Y : TapeM} {rs : List (List UInt8)} (h : JInv D Y rs) (ho : D.off = false) (hl0 : D.left = 0) {l : List (List UInt8)} (hl : ∀ r ∈ l, r.length ≤ 65536) (hfit : ((wireM Y l).length : Int) ≤ (D.dur.length : Int) - Y.size) (hne : wireM Y l ≠ []) :
  (storeM D Y.size (wireM Y l)).2 = 0 ∧ JInv (storeM D Y.size (wireM Y l)).1 (Y.adds l) (rs ++ l) ∧ DOn D (storeM D Y.size (wireM Y l)).1 := by
 have h1 : 1 ≤ (wireM Y l).length := by
  cases hw : wireM Y l with
  | nil => exact absurd hw hne
  | cons x t => simp
 have hv := h.ok.len
 have hk : Y.size + (wireM Y l).length ≤ D.vis.length := by omega
 rw [storeM_on ho hl0, ontoM_two hk h1]
 have hlen : (D.vis.take Y.size ++ wireM Y l ++ D.vis.drop (Y.size + (wireM Y l).length)).length = D.vis.length := by
  simp only [List.length_append, List.length_take, List.length_drop]; omega
 have hpos := h.ok.pos
 have hle := h.ok.le
 have hsz : (Y.adds l).size = Y.size + (wireM Y l).length := adds_size l Y
 have hlt : (D.vis.take Y.size ++ wireM Y l).length = (Y.adds l).size := by rw [hsz, List.length_append, List.length_take, Nat.min_eq_left h.le]
 refine ⟨rfl, ⟨⟨rfl, by show 1 ≤ (_ : List UInt8).length; rw [hlen]; omega, by show (_ : List UInt8).length ≤ _; rw [hlen]; omega, by simp⟩, ?_, ?_, ?_, ?_, ?_⟩, ⟨rfl, rfl, rfl, by show (_ : List UInt8).length = _; rw [hlen, hv], rfl⟩⟩
 ·rw [adds_app, ← h.eq]
 ·intro r hr
  rcases List.mem_append.1 hr with hr | hr
  ·exact h.short r hr
  ·exact hl r hr
 ·show (D.vis.take Y.size ++ wireM Y l ++ D.vis.drop _).take _ = _
  rw [← hlt, List.take_left, wireM_adds, ← h.eq, h.wire]
 ·show isZero ((D.vis.take Y.size ++ wireM Y l ++ D.vis.drop _).drop _) = true
  rw [← hlt, List.drop_left]
  have h0 := h.zero
  unfold isZero at h0 ⊢
  rw [List.all_eq_true] at h0 ⊢
  intro x hx
  rw [← List.drop_drop] at hx
  exact h0 x (List.mem_of_mem_drop hx)
 ·show (Y.adds l).size ≤ (D.vis.take Y.size ++ wireM Y l ++ D.vis.drop _).length
  rw [hlen, hsz]; exact hk

/-- Appending to a journal that is well. -/
theorem JInv.app_full {D : DiskM} {Y : TapeM} {l : List (List UInt8)} (hl : ∀ r ∈ l, r.length ≤ 65536) (hfull : (D.dur.length : Int) - Y.size < (wireM Y l).length) : appM false Y D l = (false, Y, D, 251) := by
 unfold appM
 rw [if_neg, if_pos hfull]
 simp only [Bool.false_eq_true, false_or, List.any_eq_true, decide_eq_true_eq, not_exists, not_and]
 intro r hr
 have := hl r hr
 omega
theorem wireM_nil {Y : TapeM} {l : List (List UInt8)} (h : wireM Y l = []) : l = [] := by
 have := wireM_pos l Y
 rw [h, List.length_nil] at this
 exact List.eq_nil_of_length_eq_zero (by omega)
theorem JInv.app_fits {D : DiskM} {Y : TapeM} {rs : List (List UInt8)} (h : JInv D Y rs) (ho : D.off = false) (hl0 : D.left = 0) (hd : DOn D D) {l : List (List UInt8)} (hl : ∀ r ∈ l, r.length ≤ 65536) (hfit : ¬ ((D.dur.length : Int) - Y.size < (wireM Y l).length)) :
  ∃ D', appM false Y D l = (false, Y.adds l, D', 0) ∧ JInv D' (Y.adds l) (rs ++ l) ∧ DOn D D' := by
 have hno : ¬ (false = true ∨ (l.any fun s => decide (65536 < s.length)) = true) := by
  simp only [Bool.false_eq_true, false_or, List.any_eq_true, decide_eq_true_eq, not_exists, not_and]
  intro r hr
  have := hl r hr
  omega
 unfold appM
 rw [if_neg hno, if_neg hfit]
 by_cases hw : wireM Y l = []
 ·rw [if_pos hw]
  obtain rfl := wireM_nil hw
  refine ⟨D, rfl, ?_, hd⟩
  rw [List.append_nil]; exact h
 ·rw [if_neg hw]
  obtain ⟨h1, h2, h3⟩ := h.store ho hl0 hl (by omega) hw
  rw [if_pos h1]
  exact ⟨_, rfl, h2, h3⟩
end Go.Proofs.YteohjgndanlldaaGreatDoor

/- A journal that is well: what its calls do. -/
namespace Go.Proofs.YteohjgndanlldaaGreatDoor
open Go Go.K
set_option maxRecDepth 10000
attribute [local irreducible] W WL OpR bitAnd bitOr bitXor bitClr bitNot shlI shrI
set_option maxHeartbeats 2000000

theorem DOn.new (n : Nat) : DOn (DiskM.new n) (DiskM.new n) := ⟨rfl, rfl, rfl, rfl, rfl⟩
theorem DOn.self {D D' : DiskM} (h : DOn D D') : DOn D' D' := ⟨h.off, h.left, h.pend, rfl, h.dv⟩
theorem outM_length (h r : List UInt8) : (outM h r).length = 33 + (putIntM (r.length : Int)).length + r.length := by
 unfold outM; simp only [List.length_append, List.length_cons, List.length_nil, chainM_len]; omega
theorem wireM_length (rs : List (List UInt8)) : ∀ Y : TapeM, (wireM Y rs).length = (rs.map fun r => 33 + (putIntM (r.length : Int)).length + r.length).sum := by
 induction rs with
 | nil => intro Y; rfl
 | cons r rs ih => intro Y; rw [wireM, List.length_append, ih, outM_length, List.map_cons, List.sum_cons]

/-- What an Append to a journal that is well leaves. -/
def appJ (B : JnA) (A : DkA) (D : DiskM) (Y : TapeM) (rs l : List (List UInt8)) (L : List Ent) (g0 g' : G) (r : Value) : Prop :=
 ∃ ra rc pa pc D' Y' rs' e, r = .int .i64 e ∧ JInv D' Y' rs' ∧ DOn D D' ∧ St g0 g' (jnL ⟨B.b, ra, rc⟩ ⟨A.b, A.bd, A.bv, pa, pc⟩ false Y' ++ (dkL ⟨A.b, A.bd, A.bv, pa, pc⟩ D' ++ L)) ∧
  (((D.dur.length : Int) - Y.size < (wireM Y l).length ∧ e = 251 ∧ Y' = Y ∧ rs' = rs ∧ D' = D) ∨ (¬ (D.dur.length : Int) - Y.size < (wireM Y l).length ∧ e = 0 ∧ Y' = Y.adds l ∧ rs' = rs ++ l))
theorem appendJ_c {B : JnA} {A : DkA} {Y : TapeM} {D : DiskM} {rs : List (List UInt8)} (hJ : JInv D Y rs) (hd : DOn D D) (v : Value) (xs : List Str) (hsh : ∀ r ∈ xs.map Str.s, r.length ≤ 65536) (hn : xs.length ≤ 1000)
  {g0 g : G} {L : List Ent} (hrk0 : RoundAt g) (rs00 : Rs g v xs) (hs0 : St g0 g (jnL B A false Y ++ (dkL A D ++ L))) :
  CallsIn Wd 0 Tryz.prog 10 #[.pointer (some ⟨B.b, 0, none⟩), v] g.w (RetS g (appJ B A D Y rs (xs.map Str.s) L g0)) := by
 have h1 := hJ.tok
 have h2 := hJ.ok.le
 have h3 := hJ.ok.len
 have h4 := hJ.le
 have h5 := hJ.nrec
 refine (append_c hJ.ok (by rw [hd.pend]; simp) h1 v xs (by rw [hJ.recs]; omega) (by omega) hrk0 rs00 hs0).mono ?_
 rintro e w' ⟨g', r, hw, he, hle, rfl, hok, hdl, hpl, ra, rc, pa, pc, hs⟩
 refine ⟨g', _, hw, he, hle, ?_⟩
 by_cases hfull : (D.dur.length : Int) - Y.size < (wireM Y (xs.map Str.s)).length
 ·rw [JInv.app_full hsh hfull] at hs ⊢
  exact ⟨ra, rc, pa, pc, D, Y, rs, 251, rfl, hJ, hd, hs, .inl ⟨hfull, rfl, rfl, rfl, rfl⟩⟩
 ·obtain ⟨D', hA, hJ', hd'⟩ := hJ.app_fits hd.off hd.left hd hsh hfull
  rw [hA] at hs ⊢
  exact ⟨ra, rc, pa, pc, D', Y.adds (xs.map Str.s), rs ++ xs.map Str.s, 0, rfl, hJ', hd', hs, .inr ⟨hfull, rfl, rfl, rfl⟩⟩

/-- Opening what is well. -/
theorem jopenJ_c {A : DkA} {D : DiskM} {Y : TapeM} {rs : List (List UInt8)} (hJ : JInv D Y rs) (ho : D.off = false) (hp : D.pend.length ≤ 999990) {e : Addr} {g0 g : G} {L : List Ent} (hrk : RoundAt g) (hE : ErrAt e g) (hs : St g0 g (dkL A D ++ L)) :
  CallsIn Wd 0 Tryz.prog 25 #[.pointer (some ⟨A.b, 0, none⟩)] g.w (RetS g fun g' r => ∃ pa pc, ∃ B : JnA, r = .tuple #[.pointer (some ⟨B.b, 0, none⟩), .int .i64 0] ∧ St g0 g' (jnL B ⟨A.b, A.bd, A.bv, pa, pc⟩ false Y ++ (dkL ⟨A.b, A.bd, A.bv, pa, pc⟩ D ++ L))) := by
 refine (jopen_c hJ.ok hp hrk hE hs).mono ?_
 rintro e w' ⟨g', r, hw, he, hle, h⟩
 unfold openRes at h
 rw [hJ.open ho] at h
 obtain ⟨_, _, _, pa, pc, B, hr, hs⟩ := h
 exact ⟨g', _, hw, he, hle, pa, pc, B, hr, hs⟩
end Go.Proofs.YteohjgndanlldaaGreatDoor

/- The law's fixed examples. -/
namespace Go.Proofs.YteohjgndanlldaaGreatDoor
open Go Go.K
set_option maxRecDepth 10000
attribute [local irreducible] W WL OpR bitAnd bitOr bitXor bitClr bitNot shlI shrI
set_option maxHeartbeats 4000000

def recAB : List (List UInt8) := [[97, 98], []]
def zrec (n : Nat) : List (List UInt8) := [List.replicate n 0]
theorem plen (n m : Nat) (h : n < 4611686018427387904) (hv : (vgo 10 (2 * n)).length = m) : (putIntM (n : Int)).length = m := by rw [putIntM_nat h, hv]
theorem wlAB (Y : TapeM) : (wireM Y recAB).length = 70 := by
 rw [wireM_length]
 show 33 + (putIntM ((2 : Nat) : Int)).length + 2 + (33 + (putIntM ((0 : Nat) : Int)).length + 0 + 0) = 70
 rw [plen 2 1 (by decide) rfl, plen 0 1 (by decide) rfl]
theorem wlZ (Y : TapeM) (n : Nat) (h1 : 64 ≤ n) (h2 : n < 8192) : (wireM Y (zrec n)).length = 35 + n := by
 have e : (vgo 10 (2 * n)).length = 2 := by
  unfold vgo
  rw [if_neg (by omega)]
  unfold vgo
  rw [if_pos (by omega)]
  rfl
 rw [wireM_length]
 unfold zrec
 rw [List.map_cons, List.map_nil, List.sum_cons, List.sum_nil, List.length_replicate, plen n 2 (by omega) e]
 omega
theorem size_adds (Y : TapeM) (l : List (List UInt8)) : (Y.adds l).size = Y.size + (wireM Y l).length := adds_size l Y
theorem bad_open {D : DiskM} (hD : D.ok) (ho : D.off = false) (hl : D.left = 0) : openM (D.put 0 [2]) = (none, D.put 0 [2], 252) := by
 have h1 := hD.pos
 have h2 := hD.len
 unfold openM
 rw [if_neg (by show ¬ (usedM D.off D.left).1 = true; rw [ho, hl]; simp [usedM])]
 have e : (D.put 0 [2]).vis = 2 :: D.vis.drop 1 := by show ontoM D.vis 0 [2] = _; simp [ontoM]
 have : loadGo ((D.put 0 [2]).vis.length + 1) tape0 (D.put 0 [2]).vis = none := by
  rw [e]
  unfold loadGo
  rw [show tape0.size = 0 from rfl, if_pos ⟨by simp, by simp⟩, if_pos (by simp)]
 rw [this]

theorem zrow_len (n : Nat) : (zrec n) = [(⟨List.replicate n 0⟩ : Str)].map Str.s := rfl




theorem sane_c {e : Addr} (g : G) (hrk : RoundAt g) (hE : ErrAt e g) : CallsIn Wd 0 Tryz.prog 8 #[] g.w (Ret g fun _ r => r = .bool true) := by
 have hs := St.start g
 have le0 := G.le.refl g
 refine enter Tryz.func8 rfl Tryz.ntmps8 rfl ?_
 refine W_seq ?_; refine W_region ?_; refine P1 T.ok rfl rfl rfl ?_; refine WL_nil ?_; (with_reducible refine T_then ?_); refine W_seq ?_; refine W_region ?_
 refine WL_o rfl rfl (OpR_st cl24 allF rfl rfl rfl rfl rfl (dnew_c (n := 200) (by decide) (by decide) hs) ?_)
 clear hs
 rintro g1 _ hqe ⟨A, rfl, hs⟩; replace le0 := G.le.trans le0 hqe
 (iterate 5 refine P1 T.ok rfl rfl rfl ?_); refine WL_nil ?_; (with_reducible refine T_then ?_); refine W_seq ?_; refine W_region ?_; refine P1 T.ok rfl rfl rfl ?_
 have hJ := JInv.new (n := 200) (by decide) (by decide)
 have hd := DOn.new 200
 refine WL_o rfl rfl (OpR_st cl25 allF rfl rfl rfl rfl rfl (jopenJ_c hJ rfl (Nat.zero_le _) (hrk.mono le0) (hE.mono le0) hs) ?_)
 clear hs
 rintro g2 _ hqe ⟨pa, pc, B, rfl, hs⟩; replace le0 := G.le.trans le0 hqe
 (iterate 5 refine P1 T.ok rfl rfl rfl ?_); refine WL_nil ?_; (with_reducible refine T_then ?_); refine W_seq ?_; refine W_seq ?_; refine W_region ?_; refine P1 T.ok rfl rfl rfl ?_
 refine WL_o rfl rfl (OpR_eqNilPtr T.ok (neg := false) rfl rfl rfl rfl rfl ?_)
 (iterate 6 refine P1 T.ok rfl rfl rfl ?_)
 refine WL_o rfl rfl (OpR_ret cl19 allF rfl rfl rfl rfl rfl (records_c hJ.tok hs) ?_); rintro g1 vo hf1 hvo; obtain ⟨gz, hwz, hsz, hqz, rs0⟩ := hs.ownRs hf1 hvo; have hqe := hf1.le.trans hqz; rw [← hwz]; replace hs := hsz; clear hsz hvo; replace le0 := G.le.trans le0 hqe
 obtain ⟨ax, cx, rfl⟩ := rs0.isSlice
 (iterate 5 refine P1 T.ok rfl rfl rfl ?_)
 refine WL_o rfl rfl (OpR_ret cl20 allF rfl rfl rfl rfl rfl (room_c hJ.ok hJ.tok hs) ?_); rintro g1 _ hf1 rfl; replace hs := hs.call hf1; have hqe := hf1.le; replace le0 := G.le.trans le0 hqe; replace rs0 := rs0.mono hqe
 refine P1 T.ok rfl rfl rfl ?_; refine P1 T.ok rfl rfl rfl ?_; refine WL_nil ?_; (with_reducible refine T_then ?_)
 refine W_no rfl rfl ?_
 refine W_skip ?_; (with_reducible refine T_then ?_); refine W_seq ?_; refine W_region ?_; refine P1 T.ok rfl rfl rfl ?_
 refine WL_o rfl rfl (OpR_lit T.ok rfl hs (vs := [(0, .string (bs [97, 98])), (1, .string (bs []))]) (cells := [.string (bs [97, 98]), .string (bs [])]) rfl rfl rfl rfl rfl rfl (by decide) (by decide) (by kernel_rfl) rfl ?_)
 clear hs
 rintro bl gl hs hqe; replace le0 := G.le.trans le0 hqe; replace rs0 := rs0.mono hqe
 obtain ⟨gz, hwz, hsz, hqz, hrl⟩ := hs.fzRow (α := Str) (xs := [⟨[97, 98]⟩, ⟨[]⟩]) (i := 0) rfl (RcL.strs _ [[97, 98], []])
 have hqe := hqz; rw [← hwz]; replace hs := hsz; clear hsz hqz; replace le0 := G.le.trans le0 hqe; replace rs0 := rs0.mono hqe
 skip
 replace hs : St g gz (jnL B ⟨A.b, A.bd, A.bv, pa, pc⟩ false tape0 ++ (dkL ⟨A.b, A.bd, A.bv, pa, pc⟩ (DiskM.new 200) ++ [])) := hs
 have hN0 : (DiskM.new 200).dur.length = 200 := by simp [DiskM.new]
 have hcall := appendJ_c hJ hd _ [⟨[97, 98]⟩, ⟨[]⟩] (by decide) (by decide) (hrk.mono le0) hrl hs
 refine WL_o rfl rfl (OpR_st cl10 allF rfl rfl rfl rfl rfl hcall ?_)
 clear hs hrl hcall
 rintro g9 _ hqe ⟨ra, rc, pa, pc, D', Y', rs', e', rfl, hJ', hd', hs, hcase⟩; replace le0 := G.le.trans le0 hqe; replace rs0 := rs0.mono hqe
 dsimp only at hs
 obtain ⟨rfl, hJ1, hN1, hY1, hrs1, hd1⟩ : e' = 0 ∧ JInv D' Y' rs' ∧ D'.dur.length = 200 ∧ Y'.size = 70 ∧ rs' = recAB ∧ DOn D' D' := by
  rw [show ([⟨[97, 98]⟩, ⟨[]⟩] : List Str).map Str.s = recAB from rfl] at hcase
  rcases hcase with ⟨h, _⟩ | ⟨_, h1, h2, h3⟩
  ·rw [wlAB, hN0, show tape0.size = 0 from rfl] at h; omega
  ·exact ⟨h1, hJ', hd'.len.trans hN0, by rw [h2, size_adds, wlAB]; rfl, h3, hd'.self⟩
 clear hcase hJ' hd' hJ hd hN0 rs0
 refine P1 T.ok rfl rfl rfl ?_; refine WL_nil ?_; (with_reducible refine T_then ?_); refine W_seq ?_; refine W_region ?_; refine P1 T.ok rfl rfl rfl ?_
 refine WL_o rfl rfl (OpR_makeX T.ok rfl hs rfl rfl rfl rfl rfl rfl (by decide) rfl (by decide) (by decide) (zeros_flat 96) ?_)
 clear hs
 rintro bz g1 hs hqe; replace le0 := G.le.trans le0 hqe
 obtain ⟨gz, hwz, hsz, hqz, hrl⟩ := hs.fzRow (α := UInt8) (xs := List.replicate 96 0) (i := 0) rfl (RcL.bytes _ _)
 have hqe := hqz; rw [← hwz]; replace hs := hsz; clear hsz hqz; replace le0 := G.le.trans le0 hqe
 skip
 obtain ⟨_, news, hnw, hsrc⟩ := Src.of_rs hrl
 obtain rfl := RcL.bytes_inv hnw
 refine WL_o rfl rfl (OpR_bytesStr T.ok (ns := List.replicate 96 0) rfl rfl rfl rfl rfl rfl rfl rfl hsrc ?_)
 rw [show (List.replicate 96 (0 : Int)).map (fun m => UInt8.ofNat m.toNat) = List.replicate 96 0 from by simp]
 clear hrl hnw hsrc
 skip
 refine WL_o rfl rfl (OpR_lit T.ok rfl hs (vs := [(0, .string (bs (List.replicate 96 0)))]) (cells := [.string (bs (List.replicate 96 0))]) rfl rfl rfl rfl rfl rfl (by decide) (by decide) (by kernel_rfl) rfl ?_)
 clear hs
 rintro bl gl hs hqe; replace le0 := G.le.trans le0 hqe
 obtain ⟨gz, hwz, hsz, hqz, hrl⟩ := hs.fzRow (α := Str) (xs := [⟨List.replicate 96 0⟩]) (i := 0) rfl (RcL.strs _ [List.replicate 96 0])
 have hqe := hqz; rw [← hwz]; replace hs := hsz; clear hsz hqz; replace le0 := G.le.trans le0 hqe
 skip
 replace hs : St g gz (jnL ⟨B.b, ra, rc⟩ ⟨A.b, A.bd, A.bv, pa, pc⟩ false Y' ++ (dkL ⟨A.b, A.bd, A.bv, pa, pc⟩ D' ++ [])) := hs
 have hJ := hJ1; have hd := hd1; have hN0 := hN1; have hY0 := hY1; have hrs0 := hrs1
 generalize D' = D0 at *; generalize hYY : Y' = Y0 at *; generalize rs' = rs0 at *
 clear hJ1 hd1 hN1 hY1 hrs1 hYY
 have hcall := appendJ_c hJ hd _ [⟨List.replicate 96 0⟩] (by intro r hr; obtain rfl := List.mem_singleton.1 hr; rw [List.length_replicate]; decide) (by decide) (hrk.mono le0) hrl hs
 refine WL_o rfl rfl (OpR_st cl10 allF rfl rfl rfl rfl rfl hcall ?_)
 clear hs hrl hcall
 rintro g9 _ hqe ⟨ra, rc, pa, pc, D', Y', rs', e', rfl, hJ', hd', hs, hcase⟩; replace le0 := G.le.trans le0 hqe
 dsimp only at hs
 obtain ⟨rfl, rfl, rfl, rfl⟩ : e' = 251 ∧ Y' = Y0 ∧ rs' = rs0 ∧ D' = D0 := by
  rw [show ([⟨List.replicate 96 0⟩] : List Str).map Str.s = zrec 96 from rfl] at hcase
  rcases hcase with ⟨h, h1⟩ | ⟨h, _⟩
  ·exact h1
  ·rw [wlZ _ 96 (by decide) (by decide), hN0, hY0] at h; omega
 clear hcase hJ' hd'
 refine P1 T.ok rfl rfl rfl ?_; refine WL_nil ?_; (with_reducible refine T_then ?_); refine W_seq ?_; refine W_region ?_; refine P1 T.ok rfl rfl rfl ?_
 have hcall := room_c hJ.ok hJ.tok hs
 refine WL_o rfl rfl (OpR_ret cl20 allF rfl rfl rfl rfl rfl (hcall) ?_); rintro g1 _ hf1 rfl; replace hs := hs.call hf1; have hqe := hf1.le; replace le0 := G.le.trans le0 hqe
 clear hcall
 rw [hN0, hY0]
 refine P1 T.ok rfl rfl rfl ?_; refine WL_nil ?_; (with_reducible refine T_then ?_); refine W_seq ?_; refine W_region ?_; refine P1 T.ok rfl rfl rfl ?_
 refine WL_o rfl rfl (OpR_makeX T.ok rfl hs rfl rfl rfl rfl rfl rfl (by decide) rfl (by decide) (by decide) (zeros_flat 95) ?_)
 clear hs
 rintro bz g1 hs hqe; replace le0 := G.le.trans le0 hqe
 obtain ⟨gz, hwz, hsz, hqz, hrl⟩ := hs.fzRow (α := UInt8) (xs := List.replicate 95 0) (i := 0) rfl (RcL.bytes _ _)
 have hqe := hqz; rw [← hwz]; replace hs := hsz; clear hsz hqz; replace le0 := G.le.trans le0 hqe
 skip
 obtain ⟨_, news, hnw, hsrc⟩ := Src.of_rs hrl
 obtain rfl := RcL.bytes_inv hnw
 refine WL_o rfl rfl (OpR_bytesStr T.ok (ns := List.replicate 95 0) rfl rfl rfl rfl rfl rfl rfl rfl hsrc ?_)
 rw [show (List.replicate 95 (0 : Int)).map (fun m => UInt8.ofNat m.toNat) = List.replicate 95 0 from by simp]
 clear hrl hnw hsrc
 skip
 refine WL_o rfl rfl (OpR_lit T.ok rfl hs (vs := [(0, .string (bs (List.replicate 95 0)))]) (cells := [.string (bs (List.replicate 95 0))]) rfl rfl rfl rfl rfl rfl (by decide) (by decide) (by kernel_rfl) rfl ?_)
 clear hs
 rintro bl gl hs hqe; replace le0 := G.le.trans le0 hqe
 obtain ⟨gz, hwz, hsz, hqz, hrl⟩ := hs.fzRow (α := Str) (xs := [⟨List.replicate 95 0⟩]) (i := 0) rfl (RcL.strs _ [List.replicate 95 0])
 have hqe := hqz; rw [← hwz]; replace hs := hsz; clear hsz hqz; replace le0 := G.le.trans le0 hqe
 skip
 replace hs : St g gz (jnL ⟨B.b, ra, rc⟩ ⟨A.b, A.bd, A.bv, pa, pc⟩ false Y' ++ (dkL ⟨A.b, A.bd, A.bv, pa, pc⟩ D' ++ [])) := hs
 generalize D' = D0 at *; generalize hYY : Y' = Y0 at *; generalize rs' = rs0 at *
 clear hYY
 have hcall := appendJ_c hJ hd _ [⟨List.replicate 95 0⟩] (by intro r hr; obtain rfl := List.mem_singleton.1 hr; rw [List.length_replicate]; decide) (by decide) (hrk.mono le0) hrl hs
 refine WL_o rfl rfl (OpR_st cl10 allF rfl rfl rfl rfl rfl hcall ?_)
 clear hs hrl hcall
 rintro g9 _ hqe ⟨ra, rc, pa, pc, D', Y', rs', e', rfl, hJ', hd', hs, hcase⟩; replace le0 := G.le.trans le0 hqe
 dsimp only at hs
 obtain ⟨rfl, hJ1, hN1, hY1, hrs1, hd1⟩ : e' = 0 ∧ JInv D' Y' rs' ∧ D'.dur.length = 200 ∧ Y'.size = 200 ∧ rs' = recAB ++ zrec 95 ∧ DOn D' D' := by
  rw [show ([⟨List.replicate 95 0⟩] : List Str).map Str.s = zrec 95 from rfl] at hcase
  rcases hcase with ⟨h, _⟩ | ⟨_, h1, h2, h3⟩
  ·rw [wlZ _ 95 (by decide) (by decide), hN0, hY0] at h; omega
  ·exact ⟨h1, hJ', hd'.len.trans hN0, by rw [h2, size_adds, wlZ _ 95 (by decide) (by decide), hY0], by rw [h3, hrs0], hd'.self⟩
 clear hcase hJ' hd' hJ hd hN0 hY0 hrs0
 refine P1 T.ok rfl rfl rfl ?_; refine WL_nil ?_; (with_reducible refine T_then ?_); refine W_seq ?_; refine W_region ?_; refine P1 T.ok rfl rfl rfl ?_
 have hcall := jopenJ_c hJ1 hd1.off (by rw [hd1.pend]; decide) (hrk.mono le0) (hE.mono le0) hs.swap
 refine WL_o rfl rfl (OpR_st cl25 allF rfl rfl rfl rfl rfl hcall ?_)
 clear hs hcall
 rintro g10 _ hqe ⟨pa2, pc2, B2, rfl, hs⟩; replace le0 := G.le.trans le0 hqe
 dsimp only at hs
 (iterate 5 refine P1 T.ok rfl rfl rfl ?_); refine WL_nil ?_; (with_reducible refine T_then ?_); refine W_seq ?_; refine W_seq ?_; refine W_region ?_; refine P1 T.ok rfl rfl rfl ?_
 refine WL_o rfl rfl (OpR_eqNilPtr T.ok (neg := false) rfl rfl rfl rfl rfl ?_)
 refine WL_nil ?_
 (with_reducible refine T_then ?_)
 refine W_no rfl rfl ?_
 refine W_skip ?_; (with_reducible refine T_then ?_); refine W_seq ?_; refine W_region ?_; refine P1 T.ok rfl rfl rfl ?_
 have hcall := dwrite_c hJ1.ok hd1.off 0 [2] (by rw [hN1]; decide) hs.swap
 refine WL_o rfl rfl (OpR_st cl13 allF rfl rfl rfl rfl rfl hcall ?_)
 clear hs hcall
 rintro g11 _ hqe ⟨rfl, pa3, pc3, hs⟩; replace le0 := G.le.trans le0 hqe
 dsimp only at hs
 refine WL_nil ?_; (with_reducible refine T_then ?_); refine W_seq ?_; refine W_region ?_; refine P1 T.ok rfl rfl rfl ?_
 have hok2 : (D'.put 0 [2]).ok := hJ1.ok.put (by rw [hN1]; decide) (by rw [hd1.pend]; decide)
 have hcall := jopen_c hok2 (by show (D'.pend ++ [_]).length ≤ _; rw [hd1.pend]; decide) (hrk.mono le0) (hE.mono le0) hs
 refine WL_o rfl rfl (OpR_st cl25 allF rfl rfl rfl rfl rfl hcall ?_)
 clear hs hcall
 rintro g12 r hqe hres; replace le0 := G.le.trans le0 hqe
 unfold openRes at hres
 rw [bad_open hJ1.ok hd1.off hd1.left] at hres
 obtain ⟨_, _, _, pa4, pc4, rfl, hs⟩ := hres
 dsimp only at hs
 (iterate 5 refine P1 T.ok rfl rfl rfl ?_); refine WL_nil ?_; (with_reducible refine T_then ?_); refine W_seq ?_; refine W_region ?_
 refine WL_o rfl rfl (OpR_ret cl25 allF rfl rfl rfl rfl rfl (jopen_nil _) ?_); rintro g1 _ hf1 rfl; replace hs := hs.call hf1; have hqe := hf1.le; replace le0 := G.le.trans le0 hqe
 (iterate 5 refine P1 T.ok rfl rfl rfl ?_); refine WL_nil ?_; (with_reducible refine T_then ?_); refine W_seq ?_; refine W_region ?_; (iterate 16 refine P1 T.ok rfl rfl rfl ?_)
 have hs1 : St g g1 (jnL ⟨B.b, ra, rc⟩ ⟨A.b, A.bd, A.bv, pa4, pc4⟩ false Y' ++ (dkL ⟨A.b, A.bd, A.bv, pa4, pc4⟩ (D'.put 0 [2]) ++ jnL B2 ⟨A.b, A.bd, A.bv, pa2, pc2⟩ false Y')) := by
  rw [← List.append_assoc] at hs
  exact hs.flip
 have hcall := room_c hok2 hJ1.tok hs1
 clear hs
 have hs := hs1
 clear hs1
 refine WL_o rfl rfl (OpR_ret cl20 allF rfl rfl rfl rfl rfl (hcall) ?_); rintro g1 _ hf1 rfl; replace hs := hs.call hf1; have hqe := hf1.le; replace le0 := G.le.trans le0 hqe
 rw [put_dur, hN1, hY1]
 clear hcall
 (iterate 8 refine P1 T.ok rfl rfl rfl ?_)
 have hs1 : St g g1 (jnL B2 ⟨A.b, A.bd, A.bv, pa2, pc2⟩ false Y' ++ (jnL ⟨B.b, ra, rc⟩ ⟨A.b, A.bd, A.bv, pa4, pc4⟩ false Y' ++ dkL ⟨A.b, A.bd, A.bv, pa4, pc4⟩ (D'.put 0 [2]))) := by
  rw [← List.append_assoc] at hs
  exact hs.flip
 clear hs
 have hs := hs1
 clear hs1
 have hrec := records_c hJ1.tok hs
 rw [hJ1.recs, hrs1] at hrec
 refine WL_o rfl rfl (OpR_ret cl19 allF rfl rfl rfl rfl rfl (hrec) ?_); rintro g1 vo hf1 hvo; obtain ⟨gz, hwz, hsz, hqz, rs0⟩ := hs.ownRs hf1 hvo; have hqe := hf1.le.trans hqz; rw [← hwz]; replace hs := hsz; clear hsz hvo; replace le0 := G.le.trans le0 hqe
 clear hrec
 obtain ⟨ax, cx, rfl⟩ := rs0.isSlice
 (iterate 5 refine P1 T.ok rfl rfl rfl ?_)
 have hrec := records_c hJ1.tok hs
 rw [hJ1.recs, hrs1] at hrec
 refine WL_o rfl rfl (OpR_ret cl19 allF rfl rfl rfl rfl rfl (hrec) ?_); rintro g1 vo hf1 hvo; obtain ⟨gz, hwz, hsz, hqz, rs1⟩ := hs.ownRs hf1 hvo; have hqe := hf1.le.trans hqz; rw [← hwz]; replace hs := hsz; clear hsz hvo; replace le0 := G.le.trans le0 hqe; replace rs0 := rs0.mono hqe
 clear hrec
 obtain ⟨ay, cy, rfl⟩ := rs1.isSlice
 skip
 refine WL_o rfl rfl (OpR_idx T.ok rfl rs1 (y := ⟨[97, 98]⟩) rfl rfl rfl rfl rfl rfl rfl ?_)
 intro b p ys hep hrc
 obtain rfl : ys = [.string (bs [97, 98])] := hrc
 have ep0 := hep
 refine WL_o rfl rfl (OpR_loadE T.ok 0 rfl ep0 rfl rfl ?_); (iterate 3 refine P1 T.ok rfl rfl rfl ?_)
 refine WL_know 110 (b' := true) (by rw [bs_toList, show (⟨#[97, 98]⟩ : ByteArray) = bs [97, 98] from rfl, bs_toList]; rfl) rfl ?_
 (iterate 8 refine P1 T.ok rfl rfl rfl ?_); refine WL_nil ?_; (with_reducible refine T_then ?_)
 refine W_ret (ret1 rfl rfl (hs.ret rfl))
end Go.Proofs.YteohjgndanlldaaGreatDoor
