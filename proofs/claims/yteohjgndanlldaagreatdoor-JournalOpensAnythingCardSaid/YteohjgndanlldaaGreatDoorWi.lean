/- Package slices at integers, and the walk through Crash. -/
import Derived.Test.YteohjgndanlldaaGreatDoorKi
import Derived.Test.YteohjgndanlldaaGreatDoorWg

/- Package slices: Values, AppendSeq, Collect, Sorted, Compact, of integers. -/
namespace Go.Proofs.YteohjgndanlldaaGreatDoor
open Go Go.K
set_option maxRecDepth 10000
attribute [local irreducible] W WL OpR bitAnd bitOr bitXor bitClr bitNot shlI shrI
set_option maxHeartbeats 2000000

theorem RcL.ints_inv {g : G} : ∀ {l : List Int} {cs : List Value}, RcL g cs l → cs = intsV l
 | [], _, h => h
 | x :: r, _, ⟨c1, c2, e, h1, h2⟩ => by rw [e, show c1 = [.int .i64 x] from h1, RcL.ints_inv h2]; rfl

theorem values_c (ad : Option Addr) (n c : Nat) (g : G) : CallsIn Wd 0 Tryz.prog 62 #[.slice ad n c] g.w
  (Ret g fun g' r => ∃ b1, r = .func (.func 91) #[] #[.pointer (some ⟨b1, 0, none⟩)] ∧ EP g' b1 0 [.slice ad n c]) := by
 have hs := St.start g
 have le0 := G.le.refl g
 refine enter Tryz.func62 rfl Tryz.ntmps62 rfl ?_
 refine W_seq ?_; refine W_region ?_
 refine WL_o rfl rfl (OpR_box rfl hs rfl rfl ?_); clear hs; rintro b1 g1 hs hqe; replace le0 := G.le.trans le0 hqe
 obtain ⟨g2, hw2, hs2, hqe, hep⟩ := hs.fzObj (i := 0) rfl; replace hs := hs2; clear hs2; rw [← hw2]; replace le0 := G.le.trans le0 hqe
 have ep0 := hep; clear hep
 refine P1 T.ok rfl rfl rfl ?_; refine WL_nil ?_; (with_reducible refine T_then ?_); refine W_seq ?_; refine W_region ?_; refine P1 T.ok rfl rfl rfl ?_; refine P1 T.ok rfl rfl rfl ?_; refine WL_nil ?_; (with_reducible refine T_then ?_)
 exact W_ret (ret1 rfl rfl (hs.ret ⟨_, rfl, ep0⟩))

theorem valuesSeq_c (b1 : Nat) (v : Value) (xs : List Int) (g : G) (ep0 : EP g b1 0 [v]) (rs0 : Rs g v xs) :
  SeqC Tryz.prog 91 #[.pointer (some ⟨b1, 0, none⟩)] (fun x : Int => [.int .i64 x]) xs g := by
 obtain ⟨a, c, rfl⟩ := rs0.isSlice
 have hlen := rs0.len_le
 unfold maxLen at hlen
 intro g1 hle yv J Jx hJ hJx hy hJ0
 have le0 := G.le.refl g1
 have ep0c := ep0.mono hle
 have rs0c := rs0.mono hle
 clear rs0
 refine enter Tryz.func91 rfl Tryz.ntmps91 rfl ?_
 replace ep0 := ep0c
 refine W_seq ?_; refine W_region ?_; refine WL_o rfl rfl (OpR_loadE T.ok 0 rfl ep0 rfl rfl ?_); refine P1 T.ok rfl rfl rfl ?_; refine P1 T.ok rfl rfl rfl ?_; refine WL_nil ?_; (with_reducible refine T_then ?_); refine W_block ?_
 refine W_loop (fun m a' w => ∃ (j : Nat) (g2 : G), w = g2.w ∧ G.le g1 g2 ∧ j ≤ xs.length ∧ m = xs.length - j ∧ J (xs.take j) g2 ∧
   Fr 16 [] [(0, yv), (5, .slice a xs.length c), (6, .int .i64 (xs.length : Int)), (7, .int .i64 (j : Int))] a') xs.length
  (fun a' ha => ⟨0, g1, rfl, le0, Nat.zero_le _, rfl, hJ0, ha.keep (by (repeat (first | exact trivial | refine ⟨rfl, ?_⟩)))⟩) ?_
 clear ep0 le0
 rintro m a' _ ⟨j, g2, rfl, le0, hj, rfl, hJp, ha'⟩
 have rs1 := rs0c.mono le0
 revert a'
 (with_reducible refine T_wp ?_); refine W_seq ?_; refine W_region ?_; refine P1 T.ok rfl rfl rfl ?_; refine WL_nil ?_; (with_reducible refine T_then ?_); refine W_seq ?_
 by_cases hlt : j < xs.length
 ·refine W_yes (b := decide ((j : Int) < (xs.length : Int))) (decide_eq_true (by omega)) rfl ?_
  have htk : xs.take (j + 1) = xs.take j ++ [xs[j]] := by rw [List.take_add_one, List.getElem?_eq_getElem hlt]; rfl
  have hspl : xs = xs.take j ++ xs[j] :: xs.drop (j + 1) := by rw [← List.drop_eq_getElem_cons hlt, List.take_append_drop]
  have hgi : geti xs (j : Int) = some xs[j] := geti_of rfl hlt
  refine W_skip ?_; (with_reducible refine T_then ?_); refine W_seq ?_; refine W_block ?_; refine W_seq ?_; refine W_region ?_
  refine WL_o rfl rfl (OpR_idx T.ok rfl rs1 (y := xs[j]) hgi rfl rfl rfl rfl rfl rfl ?_)
  intro b p ys hep hrc
  obtain rfl : ys = [.int .i64 xs[j]] := hrc
  generalize xs[j] = x at *
  have ep0 := hep
  refine WL_o rfl rfl (OpR_loadE T.ok 0 rfl ep0 rfl rfl ?_)
  refine P1 T.ok rfl rfl rfl ?_; refine WL_nil ?_; (with_reducible refine T_then ?_); refine W_seq ?_; refine W_region ?_; refine P1 T.ok rfl rfl rfl ?_; refine P1 T.ok rfl rfl rfl ?_
  refine WL_o rfl rfl (OpR_callV rfl rfl rfl rfl rfl rfl ((hy (xs.take j) x (xs.drop (j + 1)) _ hspl le0 hJp).mono ?_))
  rintro _ _ ⟨g3, bb, rfl, rfl, hqe, ht, hf⟩
  refine ⟨_, rfl, ?_⟩
  replace le0 := G.le.trans le0 hqe; replace ep0 := ep0.mono hqe; replace rs1 := rs1.mono hqe
  cases bb with
  | false =>
   refine P1 T.ok rfl rfl rfl ?_; refine WL_nil ?_; (with_reducible refine T_then ?_)
   refine W_yes rfl rfl ?_
   skip
   refine W_ret ?_; (with_reducible refine T_br ?_); (with_reducible refine T_tr ?_; with_reducible refine T_tr ?_); (with_reducible refine T_br ?_); refine ret0 rfl ?_
   exact ⟨g3, _, rfl, rfl, le0, .inr ⟨_, ⟨xs.drop (j + 1), by rw [← htk]; exact List.take_append_drop _ _⟩, hf rfl⟩⟩
  | true =>
   refine P1 T.ok rfl rfl rfl ?_; refine WL_nil ?_; (with_reducible refine T_then ?_)
   refine W_no rfl rfl ?_
   refine W_skip ?_; (with_reducible refine T_bn ?_); (with_reducible refine T_then ?_); refine W_region ?_; refine P1 T.ok rfl rfl rfl ?_; refine P1 T.ok rfl rfl rfl ?_; refine WL_nil ?_
   exact fun a ha => ⟨xs.length - (j + 1), by omega, j + 1, _, rfl, le0, by omega, rfl, by rw [htk]; exact ht rfl, ha.keep ⟨rfl, rfl, rfl, kI rfl (by rw [wr (by omega) (by omega)]; omega), trivial⟩⟩
 ·refine W_no (b := decide ((j : Int) < (xs.length : Int))) (decide_eq_false (by omega)) rfl ?_
  obtain rfl : j = xs.length := by omega
  rw [List.take_length] at hJp
  refine W_exit ?_; (with_reducible refine T_tx ?_; with_reducible refine T_tx ?_); (with_reducible refine T_bx ?_)
  refine end0 rfl ?_
  exact ⟨g2, _, rfl, rfl, le0, .inl hJp⟩

theorem appendSeq_c (b1 : Nat) (xs : List Int) (g : G) (hl : xs.length ≤ 1000000) (hseq : SeqC Tryz.prog 91 #[.pointer (some ⟨b1, 0, none⟩)] (fun x : Int => [.int .i64 x]) xs g) :
  CallsIn Wd 0 Tryz.prog 106 #[.slice none 0 0, .func (.func 91) #[] #[.pointer (some ⟨b1, 0, none⟩)]] g.w (Ret g (OwnR 3 g xs)) := by
 have hs := St.start g
 have le0 := G.le.refl g
 refine enterM Tryz.func106 rfl Tryz.ntmps106 rfl ?_
 refine W_seq ?_; refine W_region ?_
 refine WL_o rfl rfl (OpR_box rfl hs rfl rfl ?_); clear hs; rintro bo g1 hs hqe; replace le0 := G.le.trans le0 hqe
 replace hs := hs.nilrow 3 1 none
 refine P1 T.ok rfl rfl rfl ?_; refine WL_nil ?_; (with_reducible refine T_then ?_); refine W_seq ?_; refine W_seq ?_; refine W_region ?_; refine P1 T.ok rfl rfl rfl ?_; refine WL_nil ?_; (with_reducible refine T_then ?_); refine W_block ?_
 refine W_range (N := 13) hs rfl cl91 (hseq.mono le0) rfl (fun _ => rfl)
  (fun pre L _ => ∃ v, L = [.row 3 1 v pre.length (intsV pre), .obj bo (.cells #[v] 56 (0, 0))]) (fun _ _ _ _ => False)
  (fun _ _ _ _ _ h => h) (fun _ _ _ _ _ _ h => h) ⟨_, rfl⟩ (fun x => [(5, .int .i64 x), (2, .pointer (some ⟨bo, 0, none⟩))]) ?_ ?_ ?_ ?_
 ·intro x ro w
  refine W_region ?_; refine P1 T.ok rfl rfl rfl ?_; refine WL_nil ?_
  exact fun a ha => ⟨rfl, ha.keep (by (repeat (first | exact trivial | refine ⟨rfl, ?_⟩)))⟩
 ·rintro lp D ro pre x rest gr Lr hxs hle hs ⟨v, rfl⟩
  have le4 := G.le.refl gr
  have hpl : pre.length < xs.length := by rw [hxs]; simp
  obtain ⟨av, cv, rfl⟩ := (hs.own 2 _ rfl).1.form
  refine W_block ?_; refine W_region ?_; refine WL_o rfl rfl (OpR_loadO T.ok 3 rfl hs rfl rfl rfl ?_); refine P1 T.ok rfl rfl rfl ?_
  refine WL_o rfl rfl (OpR_lit T.ok rfl hs (vs := [(0, .int .i64 x)]) (cells := [.int .i64 x]) rfl rfl rfl rfl rfl rfl (by decide) (by decide) (by kernel_rfl) rfl ?_); rintro b2 g2 hs hqe; replace le4 := G.le.trans le4 hqe
  skip
  refine WL_o rfl rfl (OpR_append T.ok 3 rfl hs rfl rfl rfl rfl rfl rfl rfl (by decide) rfl (Src.of_row (hs.own 0 _ rfl).1).2 (by simp [Value.oneCell']) (by show (pre.length + 1) * 8 ≤ _; omega) (by unfold maxLen; omega) ?_); rintro a9 c9 g3 hs hqe; replace le4 := G.le.trans le4 hqe
  skip
  refine WL_n rfl (OpR_storeO T.ok 4 rfl hs rfl rfl rfl rfl rfl rfl rfl rfl rfl ?_); replace hs := hs; rintro g1 hs hqe; replace le4 := G.le.trans le4 hqe
  refine WL_nil ?_; (with_reducible refine T_bn ?_)
  exact fun a ha => ⟨_, _, rfl, hs.drop 0, le4, .slice a9 (pre.length + 1) c9, by simp [spl, intsV]⟩
 ·rintro lp D o Lr ge hle hs ⟨v, rfl⟩
  obtain ⟨av, cv, rfl⟩ := (hs.own 2 _ rfl).1.form
  (with_reducible refine T_bn ?_); (with_reducible refine T_then ?_); refine W_seq ?_; refine W_region ?_; refine WL_o rfl rfl (OpR_loadO T.ok 3 rfl hs rfl rfl rfl ?_); refine P1 T.ok rfl rfl rfl ?_; refine WL_nil ?_; (with_reducible refine T_then ?_)
  refine W_ret ?_; skip
  refine retM1 1 rfl hs rfl rfl (fun g' hs' hle' => ?_)
  exact hs'.ret ⟨intsV xs, hs'.own 1 _ rfl, RcL.ints _ _⟩
 ·rintro c lp D o pre Lr ge _ _ _ h
  exact h.elim
theorem collect_c (b1 : Nat) (xs : List Int) (g : G) (hl : xs.length ≤ 1000000) (hseq : SeqC Tryz.prog 91 #[.pointer (some ⟨b1, 0, none⟩)] (fun x : Int => [.int .i64 x]) xs g) :
  CallsIn Wd 0 Tryz.prog 89 #[.func (.func 91) #[] #[.pointer (some ⟨b1, 0, none⟩)]] g.w (Ret g (OwnR 3 g xs)) := by
 have hf0 := Fr0.refl g
 refine enter Tryz.func89 rfl Tryz.ntmps89 rfl ?_
 refine W_seq ?_; refine W_region ?_; refine P1 T.ok rfl rfl rfl ?_; refine WL_nil ?_; (with_reducible refine T_then ?_); refine W_seq ?_; refine W_region ?_; refine P1 T.ok rfl rfl rfl ?_
 refine WL_o rfl rfl (OpR_ret cl106 allF rfl rfl rfl rfl rfl (appendSeq_c b1 xs g hl hseq) ?_)
 rintro g1 r hf1 hown
 refine P1 T.ok rfl rfl rfl ?_; refine WL_nil ?_; (with_reducible refine T_then ?_)
 exact W_ret (ret1 rfl rfl (Ret.of hf1 hown))

def sortI (xs : List Int) : List Int := xs.mergeSort fun x y => decide (x ≤ y)
theorem sortI_len (xs : List Int) : (sortI xs).length = xs.length := by unfold sortI; exact List.length_mergeSort _

theorem sorted_c (b1 : Nat) (xs : List Int) (g : G) (hl : xs.length ≤ 1000000) (hseq : SeqC Tryz.prog 91 #[.pointer (some ⟨b1, 0, none⟩)] (fun x : Int => [.int .i64 x]) xs g) :
  CallsIn Wd 0 Tryz.prog 61 #[.func (.func 91) #[] #[.pointer (some ⟨b1, 0, none⟩)]] g.w (Ret g (OwnR 3 g (sortI xs))) := by
 have hs := St.start g
 refine enter Tryz.func61 rfl Tryz.ntmps61 rfl ?_
 refine W_seq ?_; refine W_region ?_; refine P1 T.ok rfl rfl rfl ?_; refine WL_nil ?_; (with_reducible refine T_then ?_); refine W_seq ?_; refine W_region ?_; refine P1 T.ok rfl rfl rfl ?_
 refine WL_o rfl rfl (OpR_ret cl89 allF rfl rfl rfl rfl rfl (collect_c b1 xs g hl hseq) ?_)
 rintro g1 r hf1 ⟨cells, hown, hrc⟩
 obtain rfl : cells = intsV xs := RcL.ints_inv hrc
 obtain ⟨ad, c, rfl⟩ := hown.1.form
 replace hs := hs.getOwn hf1 hown
 clear hrc hown
 refine P1 T.ok rfl rfl rfl ?_; refine WL_nil ?_; (with_reducible refine T_then ?_); refine W_seq ?_; refine W_region ?_; refine P1 T.ok rfl rfl rfl ?_
 have hr := hs.own 0 _ rfl
 by_cases h0 : xs.length = 0
 ·obtain rfl : xs = [] := List.eq_nil_of_length_eq_zero h0
  refine WL_o rfl rfl (OpR_call cl90 allF rfl rfl rfl rfl rfl (callsIn_wide.2 ((Tryz.slices_Sort_int_none ad c g1.w).mono ?_)))
  rintro e w' ⟨rfl, rfl⟩
  refine ⟨_, rfl, ?_⟩
  refine WL_nil ?_; (with_reducible refine T_then ?_); refine W_seq ?_; refine W_region ?_; refine P1 T.ok rfl rfl rfl ?_; refine P1 T.ok rfl rfl rfl ?_; refine WL_nil ?_; (with_reducible refine T_then ?_)
  have e0 : sortI [] = [] := by unfold sortI; simp
  rw [e0]
  exact W_ret (ret1 rfl rfl (hs.ret ⟨[], hs.own 0 _ rfl, rfl⟩))
 ·obtain ⟨bk, off, rfl⟩ := hr.1.pos h0
  obtain ⟨hH, hblk, _, hnc, hcm⟩ := hr.1.holdsI h0
  refine WL_o rfl rfl (OpR_call cl90 allF rfl rfl rfl rfl rfl (callsIn_wide.2 ((Tryz.slices_Sort_int bk off c xs g1.w hH hblk (by omega)).mono ?_)))
  rintro e w' ⟨rfl, q, os, rfl⟩
  refine ⟨_, rfl, ?_⟩
  obtain ⟨g2, hw2, hs2, hqe⟩ := hs.putRow (i := 0) (q := q) (os := os) (d := sortI xs) rfl h0 (sortI_len xs)
  rw [show (xs.mergeSort fun x y => decide (x ≤ y)) = sortI xs from rfl, ← hw2]
  refine WL_nil ?_; (with_reducible refine T_then ?_); refine W_seq ?_; refine W_region ?_; refine P1 T.ok rfl rfl rfl ?_; refine P1 T.ok rfl rfl rfl ?_; refine WL_nil ?_; (with_reducible refine T_then ?_)
  have hl2 := sortI_len xs
  refine W_ret (ret1 rfl rfl (hs2.ret ⟨intsV (sortI xs), ?_, RcL.ints _ _⟩))
  rw [hl2]
  exact hs2.own 0 _ rfl
theorem compact_c {ad : Option Addr} {n c : Nat} {zs : List Int} {g0 g : G} {L : List Ent} (hs : St g0 g (.row 3 1 (.slice ad n c) n (intsV zs) :: L)) :
  CallsIn Wd 0 Tryz.prog 60 #[.slice ad n c] g.w
   (RetS g fun g' r => r = .slice ad (Lib.compact zs).length c ∧ St g0 g' (.row 3 1 (.slice ad (Lib.compact zs).length c) (Lib.compact zs).length (intsV (Lib.compact zs)) :: L)) := by
 have hr := hs.own 0 _ rfl
 by_cases h0 : n = 0
 ·subst h0
  have hz : zs = [] := by
   have := hr.1.1
   rw [intsV_len, Nat.zero_mul] at this
   exact List.eq_nil_of_length_eq_zero this
  subst hz
  refine callsIn_wide.2 ((Tryz.slices_Compact_int_empty ad c g.w).mono ?_)
  rintro e w' ⟨rfl, rfl⟩
  exact ⟨g, _, rfl, rfl, G.le.refl g, rfl, hs⟩
 ·obtain ⟨bk, off, rfl⟩ := hr.1.pos h0
  obtain ⟨hH, hblk, rfl, hnc, hcm⟩ := hr.1.holdsI h0
  unfold maxLen at hcm
  have hcl := Lib.compact_length_le zs
  refine callsIn_wide.2 ((Tryz.slices_Compact_int bk off c zs g.w hH (by omega) hnc).mono ?_)
  rintro e w' ⟨rfl, q, rfl⟩
  obtain ⟨g2, hw2, hs2, hqe⟩ := hs.putRow (i := 0) (q := q) (os := #[]) (d := Lib.compact zs ++ List.replicate (zs.length - (Lib.compact zs).length) 0) rfl h0 (by simp; omega)
  have hcut := hs2.cutTo (i := 0) (a := (Lib.compact zs).length) rfl hcl
  rw [if_neg (by omega), Option.map_some, Addr.add_lit, Nat.zero_mul, Nat.add_zero, Nat.sub_zero, Nat.sub_zero] at hcut
  refine ⟨g2, _, hw2, rfl, hqe, rfl, ?_⟩
  have e : (intsV (Lib.compact zs ++ List.replicate (zs.length - (Lib.compact zs).length) 0)).take ((Lib.compact zs).length * 1) = intsV (Lib.compact zs) := by
   unfold intsV
   rw [Nat.mul_one, List.map_append, show (Lib.compact zs).length = ((Lib.compact zs).map (Value.int .i64)).length from by simp, List.take_left]
  rw [← e]
  exact hcut
end Go.Proofs.YteohjgndanlldaaGreatDoor

/- Package slices: IndexFunc, DeleteFunc, with the condition of Crash. -/
namespace Go.Proofs.YteohjgndanlldaaGreatDoor
open Go Go.K
set_option maxRecDepth 10000
attribute [local irreducible] W WL OpR bitAnd bitOr bitXor bitClr bitNot shlI shrI
set_option maxHeartbeats 2000000

def badM (D : DiskM) (i : Int) : Bool := decide (i < 0 ∨ (D.pend.length : Int) ≤ i)
def cloC (b3 : Nat) : Value := .func (.func 64) #[] #[.pointer (some ⟨b3, 0, none⟩)]
theorem crash1_c {A : DkA} {D : DiskM} {b3 : Nat} (i : Int) {g0 g : G} {L : List Ent} (ep0 : EP g b3 0 [.pointer (some ⟨A.b, 0, none⟩)]) (hs : St g0 g (dkL A D ++ L)) :
  CallsIn Wd 0 Tryz.prog 64 #[.int .i64 i, .pointer (some ⟨b3, 0, none⟩)] g.w (Ret g fun _ r => r = .bool (badM D i)) := by
 rw [dkL_cons] at hs
 refine enter Tryz.func64 rfl Tryz.ntmps64 rfl ?_
 refine W_seq ?_; refine W_region ?_; refine P1 T.ok rfl rfl rfl ?_; refine WL_nil ?_; (with_reducible refine T_then ?_); refine W_seq ?_; refine W_region ?_; (iterate 3 refine P1 T.ok rfl rfl rfl ?_)
 unfold badM
 by_cases h0 : i < 0
 ·refine WL_know 6 (b := decide (i < 0)) (b' := true) (decide_eq_true h0) rfl ?_
  (iterate 7 refine S1 allF rfl rfl ?_); refine P1 T.ok rfl rfl rfl ?_; refine P1 T.ok rfl rfl rfl ?_; refine WL_nil ?_; (with_reducible refine T_then ?_)
  refine W_ret (ret1 rfl rfl (Ret.same ?_))
  simp [h0]
 ·refine WL_know 6 (b := decide (i < 0)) (b' := false) (decide_eq_false h0) rfl ?_
  refine P1 T.ok rfl rfl rfl ?_; refine WL_o rfl rfl (OpR_loadE T.ok 0 rfl ep0 rfl rfl ?_); refine P1 T.ok rfl rfl rfl ?_; refine P1 T.ok rfl rfl rfl ?_; refine WL_o rfl rfl (OpR_loadO T.ok 0 rfl hs rfl rfl rfl ?_); (iterate 4 refine P1 T.ok rfl rfl rfl ?_); refine WL_nil ?_; (with_reducible refine T_then ?_)
  refine W_ret (ret1 rfl rfl (Ret.same ?_))
  simp [h0]

theorem indexBad_c {A : DkA} {D : DiskM} {b3 : Nat} {ad : Option Addr} {n c : Nat} {zs : List Int} {g0 g : G} {L : List Ent} (hn : n ≤ 1000000) (ep00 : EP g b3 0 [.pointer (some ⟨A.b, 0, none⟩)]) (hs : St g0 g (.row 3 1 (.slice ad n c) n (intsV zs) :: (dkL A D ++ L))) :
  CallsIn Wd 0 Tryz.prog 92 #[.slice ad n c, cloC b3] g.w
   (Ret g fun _ r => ∃ e : Int, r = .int .i64 e ∧ ((e = -1 ∧ ∀ z ∈ zs, badM D z = false) ∨ ∃ k : Nat, e = k ∧ k < n ∧ (∀ z ∈ zs.take k, badM D z = false) ∧ ∀ h : k < zs.length, badM D zs[k] = true)) := by
 have hnz : n = zs.length := by have := (hs.own 0 _ rfl).1.1; rw [intsV_len, Nat.mul_one] at this; exact this.symm
 have hs00 := hs
 have hf0 := Fr0.refl g
 have le0 := G.le.refl g
 refine enter Tryz.func92 rfl Tryz.ntmps92 rfl ?_
 unfold cloC
 refine W_seq ?_; refine W_region ?_; refine P1 T.ok rfl rfl rfl ?_; refine WL_nil ?_; (with_reducible refine T_then ?_); refine W_seq ?_; refine W_seq ?_; refine W_region ?_; (iterate 3 refine P1 T.ok rfl rfl rfl ?_); refine WL_nil ?_; (with_reducible refine T_then ?_); refine W_block ?_
 refine W_loop (fun m a' w => ∃ (k : Nat) (g2 : G), w = g2.w ∧ Fr0 g g2 ∧ k ≤ n ∧ m = n - k ∧ (∀ z ∈ zs.take k, badM D z = false) ∧
   Fr 19 [] [(0, .slice ad n c), (1, cloC b3), (7, .int .i64 (n : Int)), (8, .int .i64 (k : Int))] a') n
  (fun a' ha => ⟨0, g, rfl, hf0, Nat.zero_le _, rfl, by simp, ha.keep (by (repeat (first | exact trivial | refine ⟨rfl, ?_⟩)))⟩) ?_
 clear hs hf0 le0
 rintro m a' _ ⟨k, g2, rfl, hf0, hk, rfl, hno, ha'⟩
 have hs := hs00.call hf0
 have ep0 := ep00.mono hf0.le
 revert a'
 unfold cloC
 (with_reducible refine T_wp ?_); refine W_seq ?_; refine W_region ?_; refine P1 T.ok rfl rfl rfl ?_; refine WL_nil ?_; (with_reducible refine T_then ?_); refine W_seq ?_
 by_cases hlt : k < n
 ·refine W_yes (b := decide ((k : Int) < (n : Int))) (decide_eq_true (by omega)) rfl ?_
  have hlz : k < zs.length := by omega
  have htk : zs.take (k + 1) = zs.take k ++ [zs[k]] := by rw [List.take_add_one, List.getElem?_eq_getElem hlz]; rfl
  have hcell : (intsV zs)[k]? = some (.int .i64 zs[k]) := by unfold intsV; rw [List.getElem?_map, List.getElem?_eq_getElem hlz]; rfl
  refine W_skip ?_; (with_reducible refine T_then ?_); refine W_seq ?_; refine W_block ?_; refine W_seq ?_; refine W_region ?_; refine P1 T.ok rfl rfl rfl ?_; refine P1 T.ok rfl rfl rfl ?_; refine WL_nil ?_; (with_reducible refine T_then ?_); refine W_seq ?_; refine W_region ?_; (iterate 3 refine P1 T.ok rfl rfl rfl ?_)
  refine WL_o rfl rfl (OpR_idxR T.ok rfl (hs.own 0 _ rfl).1 (n := (k : Int)) (by omega) (by omega) rfl rfl rfl rfl rfl rfl ?_)
  rintro bb pp rfl
  rw [Int.toNat_natCast]
  refine WL_o rfl rfl (OpR_loadR T.ok (k * 1) rfl (hs.own 0 _ rfl).1 rfl (v := .int .i64 zs[k]) (by show (intsV zs)[k * 1]? = _; rw [Nat.mul_one]; exact hcell) ?_)
  generalize hz : zs[k] = z at *
  skip
  refine WL_o rfl rfl (OpR_ret cl64 allF rfl rfl rfl rfl rfl (crash1_c z ep0 (hs.drop 0)) ?_)
  rintro g3 _ hf3 rfl
  have hf4 := hf0.trans hf3
  refine WL_nil ?_; (with_reducible refine T_then ?_)
  cases hb : badM D z with
  | true =>
   refine W_yes rfl rfl ?_
   refine W_seq ?_; refine W_region ?_; refine P1 T.ok rfl rfl rfl ?_; refine P1 T.ok rfl rfl rfl ?_; refine WL_nil ?_; (with_reducible refine T_then ?_)
   exact W_ret (ret1 rfl rfl (Ret.of hf4 ⟨_, rfl,   .inr ⟨k, rfl, hlt, hno, fun h => by rw [hz]; exact hb⟩⟩))
  | false =>
   refine W_no rfl rfl ?_
   refine W_skip ?_; (with_reducible refine T_bn ?_); (with_reducible refine T_then ?_); refine W_region ?_; refine P1 T.ok rfl rfl rfl ?_; refine P1 T.ok rfl rfl rfl ?_; refine WL_nil ?_
   exact fun a ha => ⟨n - (k + 1), by omega, k + 1, g3, rfl, hf4, by omega, rfl, by
    intro y hy
    rw [htk] at hy
    rcases List.mem_append.1 hy with h | h
    ·exact hno y h
    ·rw [List.mem_singleton.1 h]; exact hb, ha.keep ⟨rfl, rfl, rfl, kI rfl (by rw [wr (by omega) (by omega)]; omega), trivial⟩⟩
 ·refine W_no (b := decide ((k : Int) < (n : Int))) (decide_eq_false (by omega)) rfl ?_
  obtain rfl : k = zs.length := by omega
  rw [List.take_length] at hno
  refine W_exit ?_; (with_reducible refine T_tx ?_; with_reducible refine T_tx ?_); (with_reducible refine T_bx ?_); (with_reducible refine T_then ?_); refine W_seq ?_; refine W_region ?_; refine P1 T.ok rfl rfl rfl ?_; refine WL_nil ?_; (with_reducible refine T_then ?_)
  exact W_ret (ret1 rfl rfl (Ret.of hf0 ⟨-1, rfl, .inl ⟨rfl, hno⟩⟩))
end Go.Proofs.YteohjgndanlldaaGreatDoor

/- Package slices: DeleteFunc, with the condition of Crash. -/
namespace Go.Proofs.YteohjgndanlldaaGreatDoor
open Go Go.K
set_option maxRecDepth 10000
attribute [local irreducible] W WL OpR bitAnd bitOr bitXor bitClr bitNot shlI shrI
set_option maxHeartbeats 2000000

theorem intsV_take (xs : List Int) (n : Nat) : (intsV xs).take n = intsV (xs.take n) := by simp [intsV]
theorem take_set_succ {α : Type} {cs : List α} {i : Nat} {x : α} (h : i < cs.length) : (cs.set i x).take (i + 1) = cs.take i ++ [x] := by
 rw [List.set_eq_take_append_cons_drop, if_pos h, show cs.take i ++ x :: cs.drop (i + 1) = (cs.take i ++ [x]) ++ cs.drop (i + 1) from by simp]
 exact List.take_left' (by simp; omega)
theorem deleteBad_c {A : DkA} {D : DiskM} {b3 : Nat} {ad : Option Addr} {n cap : Nat} {xs : List Int} {g0 g : G} {L : List Ent} (hlen : n ≤ 1000000) (ep00 : EP g b3 0 [.pointer (some ⟨A.b, 0, none⟩)]) (hs : St g0 g (.row 3 1 (.slice ad n cap) n (intsV xs) :: (dkL A D ++ L))) :
  CallsIn Wd 0 Tryz.prog 63 #[.slice ad n cap, cloC b3] g.w
   (RetS g fun g' r => ∃ k, k = (xs.filter fun x => !badM D x).length ∧ r = .slice ad k cap ∧ St g0 g' (.row 3 1 (.slice ad k cap) k (intsV (xs.filter fun x => !badM D x)) :: (dkL A D ++ L))) := by
 have hnz : n = xs.length := by have := (hs.own 0 _ rfl).1.1; rw [intsV_len, Nat.mul_one] at this; exact this.symm
 subst hnz
 have le0 := G.le.refl g
 have ep0 := ep00
 refine enter Tryz.func63 rfl Tryz.ntmps63 rfl ?_
 refine W_seq ?_; refine W_region ?_; refine P1 T.ok rfl rfl rfl ?_; refine WL_nil ?_; (with_reducible refine T_then ?_); refine W_seq ?_; refine W_region ?_; refine P1 T.ok rfl rfl rfl ?_; refine P1 T.ok rfl rfl rfl ?_
 refine WL_o rfl rfl (OpR_ret cl92 allF rfl rfl rfl rfl rfl (indexBad_c hlen ep00 hs) ?_)
 rintro g3 _ hf3 ⟨e, rfl, hcase⟩
 replace hs := hs.call hf3
 have hqe := hf3.le; replace le0 := G.le.trans le0 hqe; replace ep0 := ep0.mono hqe
 refine P1 T.ok rfl rfl rfl ?_; refine WL_nil ?_; (with_reducible refine T_then ?_); refine W_seq ?_; refine W_seq ?_; refine W_region ?_; refine P1 T.ok rfl rfl rfl ?_; refine P1 T.ok rfl rfl rfl ?_; refine WL_nil ?_; (with_reducible refine T_then ?_)
 rcases hcase with ⟨rfl, hno⟩ | ⟨k0, rfl, hk0, hno, hpk⟩
 ·refine W_yes rfl rfl ?_
  refine W_seq ?_; refine W_region ?_; refine P1 T.ok rfl rfl rfl ?_; refine P1 T.ok rfl rfl rfl ?_; refine WL_nil ?_; (with_reducible refine T_then ?_)
  have hfil : (xs.filter fun x => !badM D x) = xs := List.filter_eq_self.2 fun x hx => by simp [hno x hx]
  rw [hfil]
  exact W_ret (ret1 rfl rfl (RetS.intro le0 ⟨_, rfl, rfl, hs⟩))
 ·refine W_no (b := (k0 : Int) == -1) (by simp only [beq_eq_false_iff_ne]; omega) rfl ?_
  obtain ⟨⟨b0, p0, rfl⟩, hcap⟩ : (∃ b p, ad = some ⟨b, p, none⟩) ∧ xs.length ≤ cap ∧ cap ≤ maxLen := by
   rcases (hs.own 0 _ rfl).1.2 with ⟨h, _⟩ | ⟨b, q, c, cur, e1, _, _, h1, h2, _⟩
   ·omega
   ·simp only [Value.slice.injEq] at e1
    obtain ⟨rfl, _, rfl⟩ := e1
    exact ⟨⟨b, q, rfl⟩, h1, h2⟩
  unfold maxLen at hcap
  have hfirst : xs.take k0 = (xs.take (k0 + 1)).filter (fun x => !badM D x) := by
   rw [List.take_succ_eq_append_getElem hk0, List.filter_append, List.filter_eq_self.2 (fun x hx => by simp [hno x hx])]
   simp [hpk hk0]
  refine W_skip ?_; (with_reducible refine T_then ?_); refine W_seq ?_; refine W_seq ?_; refine W_region ?_; (iterate 3 refine P1 T.ok rfl rfl rfl ?_); refine WL_nil ?_; (with_reducible refine T_then ?_); refine W_block ?_
  refine W_loop (fun m a' w => ∃ (j i' : Nat) (cs : List Int) (g' : G), w = g'.w ∧ St g0 g' (.row 3 1 (.slice (some ⟨b0, p0, none⟩) xs.length cap) xs.length (intsV cs) :: (dkL A D ++ L)) ∧ G.le g g' ∧ j ≤ xs.length ∧ m = xs.length - j ∧
   cs.length = xs.length ∧ i' < j ∧ cs.take i' = (xs.take j).filter (fun x => !badM D x) ∧ cs.drop j = xs.drop j ∧
   Fr 42 [] [(0, .slice (some ⟨b0, p0, none⟩) xs.length cap), (1, cloC b3), (5, .int .i64 i'), (6, .int .i64 j)] a') (xs.length - (k0 + 1))
   (fun a' ha => ⟨k0 + 1, k0, xs, g3, rfl, hs, le0, hk0, rfl, rfl, Nat.lt_succ_self _, hfirst, rfl, ha.keep ⟨rfl, rfl, rfl, kI rfl (by rw [wr (by omega) (by omega)]; omega), trivial⟩⟩) ?_
  clear hs le0 ep0
  rintro m a' _ ⟨j, i', cs, g', rfl, hs, le0, hj, rfl, hcl, hij, htk, hdr, ha'⟩
  have ep0 := ep00.mono le0
  revert a'
  unfold cloC
  (with_reducible refine T_wp ?_); refine W_seq ?_; refine W_seq ?_; refine W_region ?_; (iterate 4 refine P1 T.ok rfl rfl rfl ?_); refine WL_nil ?_; (with_reducible refine T_then ?_)
  by_cases hlt : j < xs.length
  ·refine W_yes (b := decide ((j : Int) < (xs.length : Int))) (by simp; omega) rfl ?_
   have hxj : cs[j]? = some xs[j] := by
    have := congrArg (fun l => l[0]?) hdr
    simpa [List.getElem?_eq_getElem hlt] using this
   have hcell : (intsV cs)[j]? = some (.int .i64 xs[j]) := by unfold intsV; rw [List.getElem?_map, hxj]; rfl
   refine W_skip ?_; (with_reducible refine T_then ?_); refine W_seq ?_; refine W_block ?_; refine W_seq ?_; refine W_region ?_; refine P1 T.ok rfl rfl rfl ?_; refine P1 T.ok rfl rfl rfl ?_
   refine WL_o rfl rfl (OpR_idxR T.ok rfl (hs.own 0 _ rfl).1 (n := (j : Int)) (by omega) (by omega) rfl rfl rfl rfl rfl rfl ?_)
   rintro b q hh; obtain ⟨rfl, rfl⟩ : b0 = b ∧ p0 = q := by simpa using hh
   refine WL_o rfl rfl (OpR_loadR T.ok (j * 1) rfl (hs.own 0 _ rfl).1 rfl (v := .int .i64 xs[j]) (by show (intsV cs)[j * 1]? = _; rw [Nat.mul_one]; exact hcell) ?_)
   refine P1 T.ok rfl rfl rfl ?_; refine WL_nil ?_; (with_reducible refine T_then ?_); refine W_seq ?_; refine W_region ?_; refine P1 T.ok rfl rfl rfl ?_; refine P1 T.ok rfl rfl rfl ?_
   refine WL_o rfl rfl (OpR_ret cl64 allF rfl rfl rfl rfl rfl (crash1_c xs[j] ep0 (hs.drop 0)) ?_)
   rintro g4 _ hf4 rfl
   replace hs := hs.call hf4
   have hqe := hf4.le; replace le0 := G.le.trans le0 hqe; replace ep0 := ep0.mono hqe
   refine P1 T.ok rfl rfl rfl ?_; refine WL_nil ?_; (with_reducible refine T_then ?_)
   have hft : (xs.take (j + 1)).filter (fun x => !badM D x) = (xs.take j).filter (fun x => !badM D x) ++ (if badM D xs[j] then [] else [xs[j]]) := by
    rw [List.take_succ_eq_append_getElem hlt, List.filter_append]
    cases hpp : badM D xs[j] <;> simp [hpp]
   have hdr2 : cs.drop (j + 1) = xs.drop (j + 1) := by
    have := congrArg (List.drop 1) hdr
    simpa [List.drop_drop] using this
   cases hb : badM D xs[j] with
   | true =>
    refine W_no rfl rfl ?_
    rw [hb, if_pos rfl, List.append_nil] at hft
    refine W_skip ?_; (with_reducible refine T_bn ?_); (with_reducible refine T_then ?_); refine W_region ?_; (iterate 3 refine P1 T.ok rfl rfl rfl ?_); refine WL_nil ?_
    exact fun a ha => ⟨xs.length - (j + 1), by omega, j + 1, i', cs, _, rfl, hs, le0, by omega, rfl, hcl, by omega, by rw [htk, hft], hdr2, ha.keep ⟨rfl, rfl, rfl, kI rfl (by rw [wr (by omega) (by omega)]; omega), trivial⟩⟩
   | false =>
    refine W_yes rfl rfl ?_
    rw [hb, if_neg (by simp)] at hft
    refine W_seq ?_; refine W_region ?_; (iterate 3 refine P1 T.ok rfl rfl rfl ?_)
    refine WL_o rfl rfl (OpR_idxR T.ok rfl (hs.own 0 _ rfl).1 (n := (i' : Int)) (by omega) (by omega) rfl rfl rfl rfl rfl rfl ?_)
    rintro b q hh; obtain ⟨rfl, rfl⟩ : b0 = b ∧ p0 = q := by simpa using hh
    refine WL_n rfl (OpR_storeR T.ok 0 (i' * 1) (us := [.int .i64 xs[j]]) rfl hs rfl rfl rfl rfl rfl rfl rfl (by simp) (by simp [intsV]; omega) (xs' := intsV (cs.set i' xs[j])) ?_ ?_)
    ·rw [Nat.mul_one]
     unfold spl intsV
     rw [List.map_set, List.set_eq_take_append_cons_drop]
     simp [hcl, show i' < xs.length from by omega]
    rintro g5 hs hqe; replace le0 := G.le.trans le0 hqe; replace ep0 := ep0.mono hqe
    refine WL_nil ?_; (with_reducible refine T_then ?_); refine W_region ?_; (iterate 3 refine P1 T.ok rfl rfl rfl ?_); refine WL_nil ?_; (with_reducible refine T_bn ?_); (with_reducible refine T_then ?_); refine W_region ?_; (iterate 3 refine P1 T.ok rfl rfl rfl ?_); refine WL_nil ?_
    exact fun a ha => ⟨xs.length - (j + 1), by omega, j + 1, i' + 1, cs.set i' xs[j], _, rfl, hs, le0, by omega, rfl, by simp [hcl], by omega,
     by rw [hft, ← htk, take_set_succ (by omega)],
     by rw [List.drop_set_of_lt (by omega)]; exact hdr2, ha.keep ⟨rfl, rfl, kI rfl (by rw [wr (by omega) (by omega)]; omega), kI rfl (by rw [wr (by omega) (by omega)]; omega), trivial⟩⟩
  ·refine W_no (b := decide ((j : Int) < (xs.length : Int))) (by simp; omega) rfl ?_
   obtain rfl : j = xs.length := by omega
   rw [List.take_length] at htk
   refine W_exit ?_; (with_reducible refine T_tx ?_; with_reducible refine T_tx ?_); (with_reducible refine T_bx ?_); (with_reducible refine T_then ?_); refine W_seq ?_; refine W_region ?_; refine P1 T.ok rfl rfl rfl ?_; refine P1 T.ok rfl rfl rfl ?_
   refine WL_o rfl rfl (OpR_cut T.ok rfl rfl rfl rfl rfl (a := i') (b := xs.length) ⟨_, rfl⟩ rfl (by omega) (by omega) ?_)
   refine WL_n rfl (OpR_clear T.ok 0 (a := i') (xs' := intsV (cs.take i') ++ (List.replicate (xs.length - i') [Value.int .i64 0]).flatten) rfl hs rfl rfl rfl rfl rfl rfl (by decide) rfl (by decide) ?_ (by omega) (by rw [Nat.mul_one, intsV_take]; rfl) ?_)
   ·by_cases hci : cap = i'
    ·exact .inl (by omega)
    ·right; rw [if_neg hci]; simp [Addr.add_lit]
   rintro g5 hs hqe; replace le0 := G.le.trans le0 hqe; replace ep0 := ep0.mono hqe
   refine WL_nil ?_; (with_reducible refine T_then ?_); refine W_seq ?_; refine W_region ?_; refine P1 T.ok rfl rfl rfl ?_; refine P1 T.ok rfl rfl rfl ?_
   refine WL_o rfl rfl (OpR_cut T.ok rfl rfl rfl rfl rfl (a := 0) (b := i') rfl ⟨_, rfl⟩ (by omega) (by omega) ?_)
   refine P1 T.ok rfl rfl rfl ?_; refine WL_nil ?_; (with_reducible refine T_then ?_)
   have hc0 : cap ≠ 0 := by omega
   have hcut := hs.cutTo (i := 0) (a := i') rfl (by omega)
   have hl : (xs.filter fun x => !badM D x).length = i' := by rw [← htk, List.length_take]; omega
   have he : List.take (i' * 1) (intsV (cs.take i') ++ (List.replicate (xs.length - i') [Value.int .i64 0]).flatten) = intsV (cs.take i') := by
    rw [List.take_left' (by simp [intsV]; omega)]
   rw [he, htk, if_neg hc0, Option.map_some, Addr.add_lit, Nat.zero_mul, Nat.add_zero, Nat.sub_zero, Nat.sub_zero] at hcut
   refine W_ret (ret1 rfl rfl (RetS.intro le0 ⟨i', hl.symm, ?_, hcut⟩))
   rw [if_neg hc0, Option.map_some, Addr.add_lit, Nat.zero_mul, Nat.add_zero, Nat.sub_zero, Nat.sub_zero]
end Go.Proofs.YteohjgndanlldaaGreatDoor

/- Package disk: Crash. -/
namespace Go.Proofs.YteohjgndanlldaaGreatDoor
open Go Go.K
set_option maxRecDepth 10000
attribute [local irreducible] W WL OpR bitAnd bitOr bitXor bitClr bitNot shlI shrI
set_option maxHeartbeats 4000000


theorem settleC_c {A : DkA} {D : DiskM} (hD : D.ok) {g0 g : G} {L : List Ent} (hs : St g0 g (dkL A D ++ L)) :
  CallsIn Wd 0 Tryz.prog 65 #[.pointer (some ⟨A.b, 0, none⟩), .slice (some ⟨A.bd, 0, none⟩) D.dur.length D.dur.length, .slice (some ⟨A.bv, 0, none⟩) D.dur.length D.dur.length] g.w
   (RetS g fun g' v => v = .tuple #[] ∧ ∃ pa pc, St g0 g' (dkL ⟨A.b, A.bd, A.bv, pa, pc⟩ { D with vis := D.dur, pend := [] } ++ L)) := by
 have le0 := G.le.refl g
 rw [dkL_cons] at hs
 have hlen := hD.len
 refine enter Tryz.func65 rfl Tryz.ntmps65 rfl ?_
 refine W_seq ?_; refine W_region ?_; refine P1 T.ok rfl rfl rfl ?_; refine P1 T.ok rfl rfl rfl ?_
 obtain ⟨_, hsrc⟩ := Src.of_row (hs.own 1 _ rfl).1
 refine WL_o rfl rfl (OpR_copyR (q := D.dur.length) (off := 0) (xs' := byteV D.dur) T.ok 2 rfl hs rfl rfl rfl rfl rfl rfl rfl (.inr rfl) (by omega) (CopySrc.src hsrc (RcL.bytes g _).one) ?_ ?_ ?_)
 ·show _ = min _ _
  rw [byteV_len]; omega
 ·rw [List.take_of_length_le (by rw [byteV_len]; omega)]
  unfold spl
  rw [List.take_zero, List.nil_append, List.drop_of_length_le (by rw [byteV_len, byteV_len]; omega), List.append_nil]
 rintro g5 hs hqe; replace le0 := G.le.trans le0 hqe
 refine WL_nil ?_; (with_reducible refine T_then ?_); refine W_seq ?_; refine W_region ?_; (iterate 3 refine P1 T.ok rfl rfl rfl ?_); refine WL_o rfl rfl (OpR_loadO T.ok 0 rfl hs rfl rfl rfl ?_)
 refine WL_n rfl (OpR_clearR T.ok 3 rfl hs rfl rfl rfl rfl rfl rfl (by decide) rfl rfl ?_)
 rintro g6 hs hqe; replace le0 := G.le.trans le0 hqe
 refine WL_nil ?_; (with_reducible refine T_then ?_); refine W_region ?_; (iterate 4 refine P1 T.ok rfl rfl rfl ?_); refine WL_o rfl rfl (OpR_loadO T.ok 0 rfl hs rfl rfl rfl ?_)
 refine WL_o rfl rfl (OpR_cut T.ok (a := 0) (b := 0) rfl rfl rfl rfl rfl rfl ⟨_, rfl⟩ (Nat.zero_le _) (Nat.zero_le _) ?_)
 replace hs := hs.cutTo (i := 3) rfl (Nat.zero_le _)
 refine P1 T.ok rfl rfl rfl ?_; refine P1 T.ok rfl rfl rfl ?_
 refine WL_n rfl (OpR_storeO T.ok 0 rfl hs rfl rfl rfl rfl rfl rfl rfl rfl rfl ?_); replace hs := hs; rintro g1 hs hqe; replace le0 := G.le.trans le0 hqe
 refine WL_nil ?_
 refine end0 rfl (RetS.intro le0 ⟨rfl, ?_⟩)
 by_cases hc : A.pc = 0
 ·refine ⟨A.pa, A.pc - 0, ?_⟩
  simp only [if_pos hc] at hs
  exact (by rw [dkL_cons]; exact hs)
 ·refine ⟨A.pa.map (·.add (0 * 2)), A.pc - 0, ?_⟩
  simp only [if_neg hc] at hs
  exact (by rw [dkL_cons]; exact hs)

def crashOrd (D : DiskM) (keep : List Int) : List Int := (Lib.compact (sortI keep)).filter fun x => !badM D x
def crashGo (p : List Wr) (torn : Int) : List Int → List UInt8 → List UInt8
 | [], d => d
 | i :: r, d => crashGo p torn r (ontoM d (p.getD i.toNat ⟨0, []⟩).off.toNat (if r = [] ∧ 0 ≤ torn then (p.getD i.toNat ⟨0, []⟩).s.take torn.toNat else (p.getD i.toNat ⟨0, []⟩).s))
def crashD (D : DiskM) (keep : List Int) (torn : Int) : List UInt8 := crashGo D.pend torn (crashOrd D keep) D.dur
def DiskM.crash (D : DiskM) (keep : List Int) (torn : Int) : DiskM := ⟨false, 0, crashD D keep torn, crashD D keep torn, []⟩
/-- Each write that is pending lies on the disk. -/
def PendOk (D : DiskM) : Prop := ∀ w ∈ D.pend, ∃ k : Nat, w.off = (k : Int) ∧ k + w.s.length ≤ D.dur.length

theorem crashOrd_good {D : DiskM} {keep : List Int} {i : Int} (h : i ∈ crashOrd D keep) : 0 ≤ i ∧ i.toNat < D.pend.length := by
 unfold crashOrd at h
 have := (List.mem_filter.1 h).2
 unfold badM at this
 simp only [Bool.not_eq_true', decide_eq_false_iff_not, not_or] at this
 omega
theorem crashOrd_len (D : DiskM) (keep : List Int) : (crashOrd D keep).length ≤ keep.length := by
 unfold crashOrd
 have h1 := List.length_filter_le (fun x => !badM D x) (Lib.compact (sortI keep))
 have h2 := Lib.compact_length_le (sortI keep)
 rw [sortI_len] at h2
 omega
theorem wrL_at {p : List Wr} {i : Nat} (h : i < p.length) : ((wrL p).drop (i * 2)).take 2 = [.int .i64 (p.getD i ⟨0, []⟩).off, .string (bs (p.getD i ⟨0, []⟩).s)] := by
 induction p generalizing i with
 | nil => simp at h
 | cons x p ih =>
  cases i with
  | zero => simp [wrL]
  | succ i =>
   have := ih (i := i) (by simpa using h)
   rw [show wrL (x :: p) = [.int .i64 x.off, .string (bs x.s)] ++ wrL p from rfl]
   rw [show (i + 1) * 2 = i * 2 + 2 from by omega, List.drop_append, List.drop_of_length_le (by simp), List.nil_append]
   simpa using this


theorem crash_c {A : DkA} {D : DiskM} (hD : D.ok) (hP : PendOk D) (v : Value) (keep : List Int) (torn : Int) {g0 g : G} {L : List Ent} (hkl : keep.length ≤ 1000000) (htn : I64 torn) (rsk : Rs g v keep) (hs : St g0 g (dkL A D ++ L)) :
  CallsIn Wd 0 Tryz.prog 30 #[.pointer (some ⟨A.b, 0, none⟩), v, .int .i64 torn] g.w
   (RetS g fun g' r => r = .int .i64 0 ∧ ∃ pa pc, St g0 g' (dkL ⟨A.b, A.bd, A.bv, pa, pc⟩ (D.crash keep torn) ++ L)) := by
 obtain ⟨a, c, rfl⟩ := rsk.isSlice
 have le0 := G.le.refl g
 have rs0 := rsk
 unfold I64 at htn
 refine enter Tryz.func30 rfl Tryz.ntmps30 rfl ?_
 refine W_seq ?_; refine W_region ?_
 refine WL_o rfl rfl (OpR_box rfl hs rfl rfl ?_); clear hs; rintro b3 g1 hs hqe; replace le0 := G.le.trans le0 hqe; replace rs0 := rs0.mono hqe
 obtain ⟨g2, hw2, hs2, hqe, hep⟩ := hs.fzObj (i := 0) rfl; replace hs := hs2; clear hs2; rw [← hw2]; replace le0 := G.le.trans le0 hqe; replace rs0 := rs0.mono hqe
 have ep0 := hep; clear hep
 refine P1 T.ok rfl rfl rfl ?_; refine WL_nil ?_; (with_reducible refine T_then ?_); refine W_seq ?_; refine W_seq ?_; refine W_region ?_; refine WL_o rfl rfl (OpR_loadE T.ok 0 rfl ep0 rfl rfl ?_)
 refine WL_o rfl rfl (OpR_eqNilPtr T.ok (neg := false) rfl rfl rfl rfl rfl ?_)
 refine WL_nil ?_
 (with_reducible refine T_then ?_)
 refine W_no rfl rfl ?_
 refine W_skip ?_; (with_reducible refine T_then ?_); refine W_seq ?_; refine W_region ?_; refine P1 T.ok rfl rfl rfl ?_
 refine WL_o rfl rfl (OpR_ret cl62 allF rfl rfl rfl rfl rfl (values_c a keep.length c _) ?_); rintro g1 _ hf1 ⟨b1, rfl, ep1⟩; replace hs := hs.call hf1; have hqe := hf1.le; replace le0 := G.le.trans le0 hqe; replace ep0 := ep0.mono hqe; replace rs0 := rs0.mono hqe
 skip
 refine WL_o rfl rfl (OpR_ret cl61 allF rfl rfl rfl rfl rfl (sorted_c b1 keep _ hkl (valuesSeq_c b1 _ keep _ ep1 rs0)) ?_)
 rintro g4 r hf4 ⟨cells, hown, hrc⟩
 obtain rfl : cells = intsV (sortI keep) := RcL.ints_inv hrc
 obtain ⟨ad, cap, rfl⟩ := hown.1.form
 replace hs := hs.getOwn hf4 hown
 have hqe := hf4.le; replace le0 := G.le.trans le0 hqe; replace ep0 := ep0.mono hqe; replace ep1 := ep1.mono hqe; replace rs0 := rs0.mono hqe
 clear hrc hown ep1
 skip
 refine WL_o rfl rfl (OpR_st cl60 allF rfl rfl rfl rfl rfl (compact_c hs) ?_)
 clear hs
 rintro g5 _ hqe ⟨rfl, hs⟩; replace le0 := G.le.trans le0 hqe; replace ep0 := ep0.mono hqe; replace rs0 := rs0.mono hqe
 have hcl := Lib.compact_length_le (sortI keep)
 rw [sortI_len] at hcl
 refine P1 T.ok rfl rfl rfl ?_; refine WL_nil ?_; (with_reducible refine T_then ?_); refine W_seq ?_; refine W_region ?_; refine P1 T.ok rfl rfl rfl ?_; refine P1 T.ok rfl rfl rfl ?_
 refine WL_o rfl rfl (OpR_st cl63 allF rfl rfl rfl rfl rfl (deleteBad_c (by omega) ep0 hs) ?_)
 clear hs
 rintro g6 _ hqe ⟨kn, hkn, rfl, hs⟩; replace le0 := G.le.trans le0 hqe; replace ep0 := ep0.mono hqe; replace rs0 := rs0.mono hqe
 have hgood : ∀ i ∈ crashOrd D keep, 0 ≤ i ∧ i.toNat < D.pend.length := fun i hi => crashOrd_good hi
 have hol := crashOrd_len D keep
 have hcd : D.crash keep torn = ⟨false, 0, crashGo D.pend torn (crashOrd D keep) D.dur, crashGo D.pend torn (crashOrd D keep) D.dur, []⟩ := rfl
 rw [show (Lib.compact (sortI keep)).filter (fun x => !badM D x) = crashOrd D keep from rfl] at hs hkn
 generalize crashOrd D keep = ord at *
 subst hkn
 have hcr : crashGo D.pend torn (ord.drop 0) D.dur = crashGo D.pend torn ord D.dur := rfl
 have hs' : St g0 g6 (.row 3 1 (.slice ad ord.length cap) ord.length (intsV ord) :: (dkL A { D with dur := D.dur } ++ L)) := hs
 have ep00 := ep0
 refine P1 T.ok rfl rfl rfl ?_; refine WL_nil ?_; (with_reducible refine T_then ?_); refine W_seq ?_; refine W_seq ?_; refine W_region ?_; (iterate 3 refine P1 T.ok rfl rfl rfl ?_); refine WL_nil ?_; (with_reducible refine T_then ?_); refine W_block ?_
 refine W_loop (fun m a' w => ∃ (k : Nat) (g2 : G) (dk : List UInt8), w = g2.w ∧ St g0 g2 (.row 3 1 (.slice ad ord.length cap) ord.length (intsV ord) :: (dkL A { D with dur := dk } ++ L)) ∧ G.le g g2 ∧ EP g2 b3 0 [.pointer (some ⟨A.b, 0, none⟩)] ∧ dk.length = D.dur.length ∧
   crashGo D.pend torn (ord.drop k) dk = crashGo D.pend torn ord D.dur ∧ k ≤ ord.length ∧ m = ord.length - k ∧
   Fr 73 [] [(2, .int .i64 torn), (3, .pointer (some ⟨b3, 0, none⟩)), (7, .slice ad ord.length cap), (20, .slice ad ord.length cap), (21, .int .i64 (ord.length : Int)), (22, .int .i64 (k : Int))] a') ord.length
  (fun a' ha => ⟨0, g6, D.dur, rfl, hs', le0, ep00, rfl, hcr, Nat.zero_le _, rfl, ha.keep (by (repeat (first | exact trivial | refine ⟨rfl, ?_⟩)))⟩) ?_
 clear hs hs' le0 ep0 ep00 hcr rs0
 rintro m a' _ ⟨k, g2, dk, rfl, hs, le0, ep0, hdk, hcr, hk, rfl, ha'⟩
 revert a'
 (with_reducible refine T_wp ?_); refine W_seq ?_; refine W_region ?_; refine P1 T.ok rfl rfl rfl ?_; refine WL_nil ?_; (with_reducible refine T_then ?_); refine W_seq ?_
 by_cases hlt : k < ord.length
 ·refine W_yes (b := decide ((k : Int) < (ord.length : Int))) (decide_eq_true (by omega)) rfl ?_
  have hdrop : ord.drop k = ord[k] :: ord.drop (k + 1) := List.drop_eq_getElem_cons hlt
  have hcell : (intsV ord)[k]? = some (.int .i64 ord[k]) := by unfold intsV; rw [List.getElem?_map, List.getElem?_eq_getElem hlt]; rfl
  have hz := hgood ord[k] (List.getElem_mem hlt)
  rw [hdrop, crashGo] at hcr
  have hlast : ord.drop (k + 1) = [] ↔ k + 1 = ord.length := by rw [List.drop_eq_nil_iff]; omega
  refine W_skip ?_; (with_reducible refine T_then ?_); refine W_seq ?_; refine W_block ?_; refine W_seq ?_; refine W_region ?_; refine P1 T.ok rfl rfl rfl ?_
  refine WL_o rfl rfl (OpR_idxR T.ok rfl (hs.own 0 _ rfl).1 (n := (k : Int)) (by omega) (by omega) rfl rfl rfl rfl rfl rfl ?_)
  rintro bb pp had
  rw [Int.toNat_natCast]
  have hr0 : Row g0.w.heap.size 3 1 (.slice (some ⟨bb, pp, none⟩) ord.length cap) ord.length (intsV ord) g2.w := by rw [← had]; exact (hs.own 0 _ rfl).1
  refine WL_o rfl rfl (OpR_loadR T.ok (k * 1) rfl hr0 rfl (v := .int .i64 ord[k]) (by show (intsV ord)[k * 1]? = _; rw [Nat.mul_one]; exact hcell) ?_)
  generalize ord[k] = z at *
  obtain ⟨zi, rfl⟩ : ∃ zi : Nat, z = (zi : Int) := ⟨z.toNat, by omega⟩
  rw [Int.toNat_natCast] at hz hcr
  refine P1 T.ok rfl rfl rfl ?_; refine P1 T.ok rfl rfl rfl ?_; refine WL_nil ?_; (with_reducible refine T_then ?_); refine W_seq ?_; refine W_region ?_; refine WL_o rfl rfl (OpR_loadE T.ok 0 rfl ep0 rfl rfl ?_); refine P1 T.ok rfl rfl rfl ?_; refine P1 T.ok rfl rfl rfl ?_; refine WL_o rfl rfl (OpR_loadO T.ok 1 rfl hs rfl rfl rfl ?_); refine P1 T.ok rfl rfl rfl ?_
  have hpr := (hs.own 4 _ rfl).1
  refine WL_o rfl rfl (OpR_idxR T.ok rfl hpr (n := (zi : Int)) (by omega) (by rw [Int.toNat_natCast]; exact hz.2) rfl rfl rfl rfl rfl rfl ?_)
  rintro bp pp2 hpa
  rw [Int.toNat_natCast]
  have hpr2 : Row g0.w.heap.size 92 2 (.slice (some ⟨bp, pp2, none⟩) D.pend.length A.pc) D.pend.length (wrL D.pend) g2.w := by rw [← hpa]; exact hpr
  obtain ⟨w, hw⟩ : ∃ w, w = D.pend.getD zi ⟨0, []⟩ := ⟨_, rfl⟩
  have hwm : w ∈ D.pend := by rw [hw, List.getD_eq_getElem?_getD, List.getElem?_eq_getElem hz.2]; exact List.getElem_mem hz.2
  have hwl := wrL_at hz.2
  rw [← hw] at hwl hcr
  obtain ⟨kk, hkk, hkl2⟩ := hP w hwm
  rw [hkk, Int.toNat_natCast] at hcr
  rw [hkk] at hwl
  have hwn : (wrL D.pend).length = D.pend.length * 2 := wrL_len _
  generalize w.s = ws at *
  refine WL_o rfl rfl (OpR_loadR T.ok (zi * 2) rfl hpr2 rfl (v := .agg #[.int .i64 (kk : Int), .string (bs ws)]) (by
   show (bif Nat.ble (zi * 2 + 2) (wrL D.pend).length then some (Value.agg (((wrL D.pend).drop (zi * 2)).take 2).toArray) else none) = _
   rw [hwl, show Nat.ble (zi * 2 + 2) (wrL D.pend).length = true from Nat.ble_eq_true_of_le (by omega)]; rfl) ?_)
  skip
  refine WL_o rfl rfl (OpR_alloc T.ok rfl hs rfl rfl ?_); clear hs; rintro bw g1 hs hqe; replace le0 := G.le.trans le0 hqe; replace ep0 := ep0.mono hqe
  skip
  refine WL_n rfl (OpR_storeO T.ok 0 rfl hs rfl rfl rfl rfl rfl rfl rfl rfl rfl ?_); replace hs := hs; rintro g1 hs hqe; replace le0 := G.le.trans le0 hqe; replace ep0 := ep0.mono hqe
  replace hs : St g0 _ (.obj bw (.cells [.int .i64 (kk : Int), .string (bs ws)].toArray 92 (0, 0)) :: .row 3 1 (.slice ad ord.length cap) ord.length (intsV ord) :: (dkL A { D with dur := dk } ++ L)) := hs
  have hwrn : IntKind.i64.wrap ((ord.length : Int) - 1) = (ord.length : Int) - 1 := wr (by omega) (by omega)
  refine WL_nil ?_; (with_reducible refine T_then ?_); refine W_seq ?_; refine W_seq ?_; refine W_region ?_; (iterate 6 refine P1 T.ok rfl rfl rfl ?_)
  by_cases hla : k + 1 = ord.length
  ·refine WL_know 39 (b := (k : Int) == IntKind.i64.wrap ((ord.length : Int) - 1)) (b' := true) (by rw [hwrn]; simp; omega) rfl ?_
   (iterate 3 refine P1 T.ok rfl rfl rfl ?_); refine WL_nil ?_; (with_reducible refine T_then ?_)
   by_cases ht : 0 ≤ torn
   ·refine W_yes (b := decide (0 ≤ torn)) (decide_eq_true ht) rfl ?_
    rw [if_pos ⟨hlast.2 hla, ht⟩] at hcr
    obtain ⟨tn, rfl⟩ : ∃ tn : Nat, torn = (tn : Int) := ⟨torn.toNat, by omega⟩
    rw [Int.toNat_natCast] at hcr
    refine W_region ?_; refine P1 T.ok rfl rfl rfl ?_; refine WL_o rfl rfl (OpR_loadO T.ok 0 rfl hs rfl rfl rfl ?_); refine P1 T.ok rfl rfl rfl ?_; refine P1 T.ok rfl rfl rfl ?_; refine WL_o rfl rfl (OpR_loadO T.ok 0 rfl hs rfl rfl rfl ?_); refine P1 T.ok rfl rfl rfl ?_; refine P1 T.ok rfl rfl rfl ?_
    refine WL_re (.int .i64 ((min tn ws.length : Nat) : Int)) (t := 49) rfl (congrArg (Value.int .i64) (by rw [bs_size]; split <;> omega)) ?_
    refine WL_o rfl rfl (OpR_cutS T.ok (s := ws) (a := 0) (b := min tn ws.length) rfl rfl rfl rfl rfl ⟨_, rfl⟩ (Nat.zero_le _) (Nat.min_le_right _ _) ?_)
    rw [List.drop_zero, show ws.take (min tn ws.length) = ws.take tn from by rw [List.take_eq_take_iff]; omega]
    have hkl3 : kk + (ws.take tn).length ≤ D.dur.length := by rw [List.length_take]; omega
    clear hkl2 hwl
    generalize ws.take tn = wt at *
    refine P1 T.ok rfl rfl rfl ?_
    refine WL_n rfl (OpR_storeO T.ok 0 rfl hs rfl rfl rfl rfl rfl rfl rfl rfl rfl ?_); replace hs := hs; rintro g1 hs hqe; replace le0 := G.le.trans le0 hqe; replace ep0 := ep0.mono hqe
    replace hs : St g0 _ (.obj bw (.cells [.int .i64 (kk : Int), .string (bs wt)].toArray 92 (0, 0)) :: .row 3 1 (.slice ad ord.length cap) ord.length (intsV ord) :: (dkL A { D with dur := dk } ++ L)) := hs
    refine WL_nil ?_; (with_reducible refine T_then ?_)
    apply W_draw allF rfl (Fact.eq _ :: Fact.eq _ :: Fact.eq _ :: Fact.eq _ :: Fact.eq _ :: []) 5 [(0, 52), (4, 56)] rfl rfl
    ·refine D_s (js := []) (by kernel_rfl) (fun _ hf => QA_nil (DLo T.ok 0 rfl rfl (hs.dr.call hf) rfl rfl rfl rfl)) ?_
     refine D_s (js := []) (by kernel_rfl) (fun _ hf => QA_nil (DLe T.ok 0 rfl rfl (ep0.mono ((G.le_dr _).trans hf.le)) rfl rfl rfl)) ?_
     refine D_s (js := [(1, 53)]) (by kernel_rfl) (fun _ _ => QA_eq rfl (QA_nil (DPu T.ok rfl rfl rfl))) ?_
     refine D_s (js := [(2, 54)]) (by kernel_rfl) (fun _ _ => QA_eq rfl (QA_nil (DPu T.ok rfl rfl rfl))) ?_
     refine D_s (js := [(3, 55)]) (by kernel_rfl) (fun _ hf => QA_eq rfl (QA_nil (DLo T.ok 2 rfl rfl (hs.dr.call hf) rfl rfl rfl rfl))) ?_
     exact D_nil
    intro g1 hf1; refine QA_eq rfl ?_; refine QA_eq rfl ?_; refine QA_nil ?_
    replace hs := hs.dr.call hf1; have hqe := (G.le_dr _).trans hf1.le; replace le0 := G.le.trans le0 hqe; replace ep0 := ep0.mono hqe
    skip
    have hon := ontoM_len (xs := dk) (k := kk) (s := wt) (by rw [hdk]; exact hkl3)
    refine WL_o rfl rfl (OpR_st cl48 allF rfl rfl rfl rfl rfl (onto_c (i := 3) (k := kk) (xs := dk) (s := wt) hs rfl rfl (by rw [hdk]; exact hkl3)) ?_)
    clear hs
    rintro g8 _ hqe ⟨rfl, hs⟩; replace le0 := G.le.trans le0 hqe; replace ep0 := ep0.mono hqe
    replace hs : St g0 g8 (.row 3 1 (.slice ad ord.length cap) ord.length (intsV ord) :: (dkL A { D with dur := ontoM dk kk wt } ++ L)) := by
     have h := hs.drop 0
     rw [dkL_cons]
     simp only [hon]
     exact h
    refine WL_nil ?_; (with_reducible refine T_bn ?_); (with_reducible refine T_then ?_); refine W_region ?_; refine P1 T.ok rfl rfl rfl ?_; refine P1 T.ok rfl rfl rfl ?_; refine WL_nil ?_
    exact fun a ha => ⟨ord.length - (k + 1), by omega, k + 1, g8, ontoM dk kk wt, rfl, hs, le0, ep0, hon.trans hdk, hcr, by omega, rfl, ha.keep ⟨rfl, rfl, rfl, rfl, rfl, kI rfl (by rw [wr (by omega) (by omega)]; omega), trivial⟩⟩
   ·refine W_no (b := decide (0 ≤ torn)) (decide_eq_false ht) rfl ?_
    rw [if_neg (fun h => ht h.2)] at hcr
    refine W_skip ?_; (with_reducible refine T_then ?_)
    apply W_draw allF rfl (Fact.eq _ :: Fact.eq _ :: Fact.eq _ :: Fact.eq _ :: Fact.eq _ :: []) 5 [(0, 52), (4, 56)] rfl rfl
    ·refine D_s (js := []) (by kernel_rfl) (fun _ hf => QA_nil (DLo T.ok 0 rfl rfl (hs.dr.call hf) rfl rfl rfl rfl)) ?_
     refine D_s (js := []) (by kernel_rfl) (fun _ hf => QA_nil (DLe T.ok 0 rfl rfl (ep0.mono ((G.le_dr _).trans hf.le)) rfl rfl rfl)) ?_
     refine D_s (js := [(1, 53)]) (by kernel_rfl) (fun _ _ => QA_eq rfl (QA_nil (DPu T.ok rfl rfl rfl))) ?_
     refine D_s (js := [(2, 54)]) (by kernel_rfl) (fun _ _ => QA_eq rfl (QA_nil (DPu T.ok rfl rfl rfl))) ?_
     refine D_s (js := [(3, 55)]) (by kernel_rfl) (fun _ hf => QA_eq rfl (QA_nil (DLo T.ok 2 rfl rfl (hs.dr.call hf) rfl rfl rfl rfl))) ?_
     exact D_nil
    intro g1 hf1; refine QA_eq rfl ?_; refine QA_eq rfl ?_; refine QA_nil ?_
    replace hs := hs.dr.call hf1; have hqe := (G.le_dr _).trans hf1.le; replace le0 := G.le.trans le0 hqe; replace ep0 := ep0.mono hqe
    skip
    have hon := ontoM_len (xs := dk) (k := kk) (s := ws) (by rw [hdk]; exact hkl2)
    refine WL_o rfl rfl (OpR_st cl48 allF rfl rfl rfl rfl rfl (onto_c (i := 3) (k := kk) (xs := dk) (s := ws) hs rfl rfl (by rw [hdk]; exact hkl2)) ?_)
    clear hs
    rintro g8 _ hqe ⟨rfl, hs⟩; replace le0 := G.le.trans le0 hqe; replace ep0 := ep0.mono hqe
    replace hs : St g0 g8 (.row 3 1 (.slice ad ord.length cap) ord.length (intsV ord) :: (dkL A { D with dur := ontoM dk kk ws } ++ L)) := by
     have h := hs.drop 0
     rw [dkL_cons]
     simp only [hon]
     exact h
    refine WL_nil ?_; (with_reducible refine T_bn ?_); (with_reducible refine T_then ?_); refine W_region ?_; refine P1 T.ok rfl rfl rfl ?_; refine P1 T.ok rfl rfl rfl ?_; refine WL_nil ?_
    exact fun a ha => ⟨ord.length - (k + 1), by omega, k + 1, g8, ontoM dk kk ws, rfl, hs, le0, ep0, hon.trans hdk, hcr, by omega, rfl, ha.keep ⟨rfl, rfl, rfl, rfl, rfl, kI rfl (by rw [wr (by omega) (by omega)]; omega), trivial⟩⟩
  ·refine WL_know 39 (b := (k : Int) == IntKind.i64.wrap ((ord.length : Int) - 1)) (b' := false) (by rw [hwrn]; simp; omega) rfl ?_
   refine S1 allF rfl rfl ?_; refine S1 allF rfl rfl ?_; refine P1 T.ok rfl rfl rfl ?_; refine WL_nil ?_; (with_reducible refine T_then ?_)
   refine W_no rfl rfl ?_
   rw [if_neg (fun h => hla (hlast.1 h.1))] at hcr
   refine W_skip ?_; (with_reducible refine T_then ?_)
   apply W_draw allF rfl (Fact.eq _ :: Fact.eq _ :: Fact.eq _ :: Fact.eq _ :: Fact.eq _ :: []) 5 [(0, 52), (4, 56)] rfl rfl
   ·refine D_s (js := []) (by kernel_rfl) (fun _ hf => QA_nil (DLo T.ok 0 rfl rfl (hs.dr.call hf) rfl rfl rfl rfl)) ?_
    refine D_s (js := []) (by kernel_rfl) (fun _ hf => QA_nil (DLe T.ok 0 rfl rfl (ep0.mono ((G.le_dr _).trans hf.le)) rfl rfl rfl)) ?_
    refine D_s (js := [(1, 53)]) (by kernel_rfl) (fun _ _ => QA_eq rfl (QA_nil (DPu T.ok rfl rfl rfl))) ?_
    refine D_s (js := [(2, 54)]) (by kernel_rfl) (fun _ _ => QA_eq rfl (QA_nil (DPu T.ok rfl rfl rfl))) ?_
    refine D_s (js := [(3, 55)]) (by kernel_rfl) (fun _ hf => QA_eq rfl (QA_nil (DLo T.ok 2 rfl rfl (hs.dr.call hf) rfl rfl rfl rfl))) ?_
    exact D_nil
   intro g1 hf1; refine QA_eq rfl ?_; refine QA_eq rfl ?_; refine QA_nil ?_
   replace hs := hs.dr.call hf1; have hqe := (G.le_dr _).trans hf1.le; replace le0 := G.le.trans le0 hqe; replace ep0 := ep0.mono hqe
   skip
   have hon := ontoM_len (xs := dk) (k := kk) (s := ws) (by rw [hdk]; exact hkl2)
   refine WL_o rfl rfl (OpR_st cl48 allF rfl rfl rfl rfl rfl (onto_c (i := 3) (k := kk) (xs := dk) (s := ws) hs rfl rfl (by rw [hdk]; exact hkl2)) ?_)
   clear hs
   rintro g8 _ hqe ⟨rfl, hs⟩; replace le0 := G.le.trans le0 hqe; replace ep0 := ep0.mono hqe
   replace hs : St g0 g8 (.row 3 1 (.slice ad ord.length cap) ord.length (intsV ord) :: (dkL A { D with dur := ontoM dk kk ws } ++ L)) := by
    have h := hs.drop 0
    rw [dkL_cons]
    simp only [hon]
    exact h
   refine WL_nil ?_; (with_reducible refine T_bn ?_); (with_reducible refine T_then ?_); refine W_region ?_; refine P1 T.ok rfl rfl rfl ?_; refine P1 T.ok rfl rfl rfl ?_; refine WL_nil ?_
   exact fun a ha => ⟨ord.length - (k + 1), by omega, k + 1, g8, ontoM dk kk ws, rfl, hs, le0, ep0, hon.trans hdk, hcr, by omega, rfl, ha.keep ⟨rfl, rfl, rfl, rfl, rfl, kI rfl (by rw [wr (by omega) (by omega)]; omega), trivial⟩⟩
 ·refine W_no (b := decide ((k : Int) < (ord.length : Int))) (decide_eq_false (by omega)) rfl ?_
  obtain rfl : k = ord.length := by omega
  rw [List.drop_length, crashGo] at hcr
  rw [← hcr] at hcd
  have hDk : ({ D with dur := dk } : DiskM).ok := ⟨by show D.vis.length = dk.length; rw [hdk]; exact hD.len, by show 1 ≤ dk.length; rw [hdk]; exact hD.pos, by show dk.length ≤ _; rw [hdk]; exact hD.le, hD.pend⟩
  refine W_exit ?_; (with_reducible refine T_tx ?_; with_reducible refine T_tx ?_); (with_reducible refine T_bx ?_); (with_reducible refine T_then ?_); refine W_seq ?_
  apply W_draw allF rfl (Fact.eq _ :: Fact.eq _ :: Fact.eq _ :: Fact.eq _ :: Fact.eq _ :: Fact.eq _ :: Fact.eq _ :: Fact.eq _ :: Fact.eq _ :: []) 9 [(0, 59), (4, 63), (8, 67)] rfl rfl
  ·refine D_s (js := []) (by kernel_rfl) (fun _ hf => QA_nil (DLe T.ok 0 rfl rfl (ep0.mono ((G.le_dr _).trans hf.le)) rfl rfl rfl)) ?_
   refine D_s (js := []) (by kernel_rfl) (fun _ hf => QA_nil (DLe T.ok 0 rfl rfl (ep0.mono ((G.le_dr _).trans hf.le)) rfl rfl rfl)) ?_
   refine D_s (js := [(1, 60)]) (by kernel_rfl) (fun _ _ => QA_eq rfl (QA_nil (DPu T.ok rfl rfl rfl))) ?_
   refine D_s (js := [(2, 61)]) (by kernel_rfl) (fun _ _ => QA_eq rfl (QA_nil (DPu T.ok rfl rfl rfl))) ?_
   refine D_s (js := [(3, 62)]) (by kernel_rfl) (fun _ hf => QA_eq rfl (QA_nil (DLo T.ok 1 rfl rfl (hs.dr.call hf) rfl rfl rfl rfl))) ?_
   refine D_s (js := []) (by kernel_rfl) (fun _ hf => QA_nil (DLe T.ok 0 rfl rfl (ep0.mono ((G.le_dr _).trans hf.le)) rfl rfl rfl)) ?_
   refine D_s (js := [(5, 64)]) (by kernel_rfl) (fun _ _ => QA_eq rfl (QA_nil (DPu T.ok rfl rfl rfl))) ?_
   refine D_s (js := [(6, 65)]) (by kernel_rfl) (fun _ _ => QA_eq rfl (QA_nil (DPu T.ok rfl rfl rfl))) ?_
   refine D_s (js := [(7, 66)]) (by kernel_rfl) (fun _ hf => QA_eq rfl (QA_nil (DLo T.ok 1 rfl rfl (hs.dr.call hf) rfl rfl rfl rfl))) ?_
   exact D_nil
  intro g1 hf1; refine QA_eq rfl ?_; refine QA_eq rfl ?_; refine QA_eq rfl ?_; refine QA_nil ?_
  replace hs := hs.dr.call hf1; have hqe := (G.le_dr _).trans hf1.le; replace le0 := G.le.trans le0 hqe; replace ep0 := ep0.mono hqe
  skip
  refine WL_o rfl rfl (OpR_st cl65 allF rfl rfl rfl rfl rfl (settleC_c (A := A) (D := { D with dur := dk }) hDk (hs.drop 0)) ?_)
  clear hs
  rintro g8 _ hqe ⟨rfl, pa, pc, hs⟩; replace le0 := G.le.trans le0 hqe; replace ep0 := ep0.mono hqe
  refine WL_nil ?_; (with_reducible refine T_then ?_); refine W_seq ?_; refine W_region ?_; refine WL_o rfl rfl (OpR_loadE T.ok 0 rfl ep0 rfl rfl ?_)
  refine WL_o rfl rfl (OpR_build T.ok rfl (vs := []) (cells := [.bool false, .int .i64 0]) rfl rfl rfl rfl [(0, 1), (1, 1)] rfl (by kernel_rfl) ?_)
  refine P1 T.ok rfl rfl rfl ?_; refine P1 T.ok rfl rfl rfl ?_
  refine WL_n rfl (OpR_storeO T.ok 0 rfl hs rfl rfl rfl rfl rfl rfl rfl rfl rfl ?_); replace hs := hs; rintro g1 hs hqe; replace le0 := G.le.trans le0 hqe; replace ep0 := ep0.mono hqe
  refine WL_nil ?_; (with_reducible refine T_then ?_); refine W_seq ?_; refine W_region ?_; refine P1 T.ok rfl rfl rfl ?_; refine WL_nil ?_; (with_reducible refine T_then ?_)
  refine W_ret (ret1 rfl rfl (RetS.intro le0 ⟨rfl, pa, pc, ?_⟩))
  rw [hcd]
  exact hs
end Go.Proofs.YteohjgndanlldaaGreatDoor
