/- The law's helpers, and what a damaged byte comes to, in plain Lean. -/
import Derived.Test.YteohjgndanlldaaGreatDoorWm
import Derived.Test.YteohjgndanlldaaGreatDoorWg

/- The law's helpers heads and sized. -/
namespace Go.Proofs.YteohjgndanlldaaGreatDoor
open Go Go.K
set_option maxRecDepth 10000
attribute [local irreducible] W WL OpR bitAnd bitOr bitXor bitClr bitNot shlI shrI
set_option maxHeartbeats 1000000

def headsTo (l : List (List UInt8)) (i : Nat) : List (List UInt8) := (List.range i).map fun j => [2] ++ (headM (l.take j) ++ l.getD j [])
theorem headsTo_succ (l : List (List UInt8)) (i : Nat) : headsTo l (i + 1) = headsTo l i ++ [[2] ++ (headM (l.take i) ++ l.getD i [])] := by
  unfold headsTo; rw [List.range_succ, List.map_append]; rfl
def headsM (l : List (List UInt8)) : List (List UInt8) := headsTo l l.length
theorem heads_c (v : Value) (l : List Str) (g : G) (rs0 : Rs g v l) (hl : ∀ x ∈ l, x.s.length ≤ 1099511627000) (hn : l.length ≤ 4194304) : CallsIn Wd 0 Tryz.prog 27 #[v] g.w (Ret g fun g' r => Rs g' r ((headsM (l.map Str.s)).map Str.mk)) := by
  have hs := St.start g
  have le0 := G.le.refl g
  obtain ⟨a, c, rfl⟩ := rs0.isSlice
  refine enter Tryz.func27 rfl Tryz.ntmps27 rfl ?_
  refine W_seq ?_; refine W_region ?_; refine P1 T.ok rfl rfl rfl ?_; refine WL_nil ?_; (with_reducible refine T_then ?_); refine W_seq ?_; refine W_region ?_; refine P1 T.ok rfl rfl rfl ?_; refine WL_nil ?_; (with_reducible refine T_then ?_); refine W_seq ?_; refine W_region ?_
  refine WL_o rfl rfl (OpR_ret cl43 allF rfl rfl rfl rfl rfl (rhead_c _ [] _ (Rs.nil _) (by simp)) ?_); rintro g1 _ hf1 rfl; replace hs := hs.call hf1; have hqe := hf1.le; replace le0 := G.le.trans le0 hqe; replace rs0 := rs0.mono hqe
  refine P1 T.ok rfl rfl rfl ?_; refine WL_nil ?_; (with_reducible refine T_then ?_); refine W_seq ?_; refine W_seq ?_; refine W_region ?_; refine P1 T.ok rfl rfl rfl ?_; refine WL_nil ?_; (with_reducible refine T_then ?_); refine W_block ?_
  replace hs := hs.nilrow 9 1 none
  have le8 := G.le.refl g1
  have rs0c := rs0
  refine W_loop (fun m a' w => ∃ (i : Nat) (ad : Option Addr) (cc : Nat) (g2 : G), w = g2.w ∧ St g g2 [.row 9 1 (.slice ad i cc) i (strL (headsTo (l.map Str.s) i))] ∧ G.le g g2 ∧ G.le g1 g2 ∧ i ≤ l.length ∧ m = l.length - i ∧
      Fr 30 [] [(0, .slice a l.length c), (3, .slice ad i cc), (4, .string (bs (headM ((l.map Str.s).take i)))), (5, .int .i64 i)] a') l.length
    (fun a' ha => ⟨0, none, 0, g1, rfl, hs, le0, le8, Nat.zero_le _, rfl, ha.keep (by (repeat (first | exact trivial | refine ⟨rfl, ?_⟩)))⟩) ?_
  clear hs le0 le8 rs0
  rintro m a' _ ⟨i, ad, cc, g2, rfl, hs, le0, le8, hi, rfl, ha'⟩
  have rs0 := rs0c.mono le8
  revert a'
  (with_reducible refine T_wp ?_); refine W_seq ?_; refine W_seq ?_; refine W_region ?_; (iterate 4 refine P1 T.ok rfl rfl rfl ?_); refine WL_nil ?_; (with_reducible refine T_then ?_)
  by_cases hlt : i < l.length
  · refine W_yes (b := decide ((i : Int) < (l.length : Int))) (decide_eq_true (by omega)) rfl ?_
    have htk : headM ((l.map Str.s).take (i + 1)) = chainM (headM ((l.map Str.s).take i)) l[i].s := by
      rw [List.take_add_one, List.getElem?_eq_getElem (by rw [List.length_map]; exact hlt), List.getElem_map]; exact headM_snoc _ _
    have hgi : geti l (i : Int) = some l[i] := geti_of rfl hlt
    have hxl := hl l[i] (List.getElem_mem hlt)
    have hhl := headM_len ((l.map Str.s).take i)
    have hts := headsTo_succ (l.map Str.s) i
    rw [show (l.map Str.s).getD i [] = l[i].s from by rw [List.getD_eq_getElem?_getD, List.getElem?_map, List.getElem?_eq_getElem hlt]; rfl] at hts
    generalize l[i] = x at *
    generalize headM ((l.map Str.s).take i) = hd at *
    generalize headsTo (l.map Str.s) i = outs at *
    refine W_skip ?_; (with_reducible refine T_then ?_); refine W_seq ?_; refine W_block ?_; refine W_seq ?_; refine W_region ?_; refine P1 T.ok rfl rfl rfl ?_; refine P1 T.ok rfl rfl rfl ?_
    refine WL_o rfl rfl (OpR_addS (p := [2]) (q := hd) rfl rfl rfl (by simp; omega) ?_)
    refine P1 T.ok rfl rfl rfl ?_; refine P1 T.ok rfl rfl rfl ?_
    refine WL_o rfl rfl (OpR_idx T.ok rfl rs0 (y := x) hgi rfl rfl rfl rfl rfl rfl ?_)
    rintro b p ys hep hrc
    obtain rfl : ys = [.string (bs x.s)] := hrc
    have ep0 := hep
    refine WL_o rfl rfl (OpR_loadE T.ok 0 rfl ep0 rfl rfl ?_)
    refine WL_o rfl rfl (OpR_addS (p := [2] ++ hd) (q := x.s) rfl rfl rfl (by simp; omega) ?_)
    rw [List.append_assoc]
    generalize [2] ++ (hd ++ x.s) = rr at *
    refine WL_o rfl rfl (OpR_lit T.ok rfl hs (vs := [(0, .string (bs rr))]) (cells := [.string (bs rr)]) rfl rfl rfl rfl rfl rfl (by decide) (by decide) (by kernel_rfl) rfl ?_)
    clear hs
    rintro bl gl hs hqe; replace le0 := G.le.trans le0 hqe; replace le8 := G.le.trans le8 hqe; replace ep0 := ep0.mono hqe; replace rs0 := rs0.mono hqe
    obtain ⟨gz, hwz, hsz, hqz, hrl⟩ := hs.fzRow (α := Str) (xs := [⟨rr⟩]) (i := 0) rfl (RcL.strs _ [rr])
    clear hqe; have hqe := hqz; rw [← hwz]; replace hs := hsz; clear hsz; replace le0 := G.le.trans le0 hqe; replace le8 := G.le.trans le8 hqe; replace ep0 := ep0.mono hqe; replace rs0 := rs0.mono hqe
    obtain ⟨_, news, hnw, hsrc⟩ := Src.of_rs hrl
    obtain rfl := RcL.strs_inv (l := [rr]) hnw
    refine WL_o rfl rfl (OpR_append T.ok 0 rfl hs rfl rfl rfl rfl rfl rfl rfl (by decide) rfl hsrc hnw.one (by show (i + 1) * 16 ≤ _; omega) (by unfold maxLen; show i + 1 ≤ _; omega) ?_)
    clear hs hrl hsrc hnw
    rintro a9 c9 g5 hs hqe; replace le0 := G.le.trans le0 hqe; replace le8 := G.le.trans le8 hqe; replace ep0 := ep0.mono hqe; replace rs0 := rs0.mono hqe
    replace hs : St g g5 [.row 9 1 (.slice a9 (i + 1) c9) (i + 1) (strL (headsTo (l.map Str.s) (i + 1)))] := by
      rw [hts, show strL (outs ++ [rr]) = strL outs ++ strL [rr] from by simp [strL]]; exact hs
    refine P1 T.ok rfl rfl rfl ?_; refine WL_nil ?_; (with_reducible refine T_then ?_); refine W_region ?_; (iterate 3 refine P1 T.ok rfl rfl rfl ?_)
    refine WL_o rfl rfl (OpR_idx T.ok rfl rs0 (y := x) hgi rfl rfl rfl rfl rfl rfl ?_)
    rintro b p ys hep hrc
    obtain rfl : ys = [.string (bs x.s)] := hrc
    have ep0 := hep
    refine WL_o rfl rfl (OpR_loadE T.ok 0 rfl ep0 rfl rfl ?_)
    refine WL_o rfl rfl (OpR_ret cl57 allF rfl rfl rfl rfl rfl (rchain_c hd x.s _ (by omega)) ?_); rintro g1 _ hf1 rfl; replace hs := hs.call hf1; have hqe := hf1.le; replace le0 := G.le.trans le0 hqe; replace le8 := G.le.trans le8 hqe; replace ep0 := ep0.mono hqe; replace rs0 := rs0.mono hqe
    refine P1 T.ok rfl rfl rfl ?_; refine WL_nil ?_; (with_reducible refine T_bn ?_); (with_reducible refine T_then ?_); refine W_region ?_; (iterate 3 refine P1 T.ok rfl rfl rfl ?_); refine WL_nil ?_
    exact fun a ha => ⟨l.length - (i + 1), by omega, i + 1, a9, c9, g1, rfl, hs, le0, le8, by omega, rfl, ha.keep ⟨rfl, rfl, kV rfl (by rw [htk]), kI rfl (by rw [wr (by omega) (by omega)]; omega), trivial⟩⟩
  · refine W_no (b := decide ((i : Int) < (l.length : Int))) (decide_eq_false (by omega)) rfl ?_
    obtain rfl : i = l.length := by omega
    obtain ⟨gz, hwz, hsz, hqz, rs5⟩ := hs.fzRow (α := Str) (xs := (headsTo (l.map Str.s) l.length).map Str.mk) (i := 0) rfl (RcL.strs _ _)
    have hqe := hqz; rw [← hwz]; replace hs := hsz; clear hsz; replace le0 := G.le.trans le0 hqe; replace le8 := G.le.trans le8 hqe; replace rs0 := rs0.mono hqe
    refine W_exit ?_; (with_reducible refine T_tx ?_; with_reducible refine T_tx ?_); (with_reducible refine T_bx ?_); (with_reducible refine T_then ?_); refine W_seq ?_; refine W_region ?_; refine P1 T.ok rfl rfl rfl ?_; refine P1 T.ok rfl rfl rfl ?_; refine WL_nil ?_; (with_reducible refine T_then ?_)
    exact W_ret (ret1 rfl rfl (hs.ret (by unfold headsM; rw [List.length_map]; exact rs5)))
end Go.Proofs.YteohjgndanlldaaGreatDoor

/- The law's helper sized. -/
namespace Go.Proofs.YteohjgndanlldaaGreatDoor
open Go Go.K
set_option maxRecDepth 10000
attribute [local irreducible] W WL OpR bitAnd bitOr bitXor bitClr bitNot shlI shrI
set_option maxHeartbeats 1000000

def sizedM : List (List UInt8) → Int → Bool
  | [], _ => false
  | r :: rs, p => if 1 ≤ p ∧ p ≤ (putIntM (r.length : Int)).length then true else sizedM rs (p - (1 + (putIntM (r.length : Int)).length + r.length + 32))
theorem sized_c (v : Value) (l : List Str) (p : Int) (g : G) (rs0 : Rs g v l) (hl : ∀ x ∈ l, x.s.length ≤ 65536) (hn : l.length ≤ 100000) (hp : -1000000 ≤ p ∧ p ≤ 1000000) :
    CallsIn Wd 0 Tryz.prog 26 #[v, .int .i64 p] g.w (Ret g fun _ r => r = .bool (sizedM (l.map Str.s) p)) := by
  have hs := St.start g
  have le0 := G.le.refl g
  obtain ⟨a, c, rfl⟩ := rs0.isSlice
  refine enter Tryz.func26 rfl Tryz.ntmps26 rfl ?_
  refine W_seq ?_; refine W_region ?_; refine P1 T.ok rfl rfl rfl ?_; refine WL_nil ?_; (with_reducible refine T_then ?_); refine W_seq ?_; refine W_seq ?_; refine W_region ?_; refine P1 T.ok rfl rfl rfl ?_; refine WL_nil ?_; (with_reducible refine T_then ?_); refine W_block ?_
  have rs0c := rs0
  refine W_loop (fun m a' w => ∃ (i : Nat) (q : Int) (g2 : G), w = g2.w ∧ St g g2 [] ∧ G.le g g2 ∧ i ≤ l.length ∧ -1000000 - 65700 * (i : Int) ≤ q ∧ q ≤ 1000000 ∧ sizedM ((l.map Str.s).drop i) q = sizedM (l.map Str.s) p ∧ m = l.length - i ∧
      Fr 43 [] [(0, .slice a l.length c), (1, .int .i64 q), (5, .int .i64 i)] a') l.length
    (fun a' ha => ⟨0, p, g, rfl, hs, le0, Nat.zero_le _, by omega, hp.2, rfl, rfl, ha.keep (by (repeat (first | exact trivial | refine ⟨rfl, ?_⟩)))⟩) ?_
  clear hs le0 rs0
  rintro m a' _ ⟨i, q, g2, rfl, hs, le0, hi, hq1, hq2, hsz, rfl, ha'⟩
  have rs0 := rs0c.mono le0
  revert a'
  (with_reducible refine T_wp ?_); refine W_seq ?_; refine W_seq ?_; refine W_region ?_; (iterate 4 refine P1 T.ok rfl rfl rfl ?_); refine WL_nil ?_; (with_reducible refine T_then ?_)
  by_cases hlt : i < l.length
  · refine W_yes (b := decide ((i : Int) < (l.length : Int))) (decide_eq_true (by omega)) rfl ?_
    have hgi : geti l (i : Int) = some l[i] := geti_of rfl hlt
    have hxl := hl l[i] (List.getElem_mem hlt)
    have hdr : (l.map Str.s).drop i = l[i].s :: (l.map Str.s).drop (i + 1) := by
      rw [List.drop_eq_getElem_cons (by rw [List.length_map]; exact hlt), List.getElem_map]
    rw [hdr, sizedM] at hsz
    generalize l[i] = x at *
    have hpl := putIntM_len (x.s.length : Int)
    refine W_skip ?_; (with_reducible refine T_then ?_); refine W_seq ?_; refine W_block ?_; refine W_seq ?_; refine W_region ?_; refine P1 T.ok rfl rfl rfl ?_; refine P1 T.ok rfl rfl rfl ?_
    refine WL_o rfl rfl (OpR_idx T.ok rfl rs0 (y := x) hgi rfl rfl rfl rfl rfl rfl ?_)
    rintro b pp ys hep hrc
    obtain rfl : ys = [.string (bs x.s)] := hrc
    have ep0 := hep
    refine WL_o rfl rfl (OpR_loadE T.ok 0 rfl ep0 rfl rfl ?_); refine P1 T.ok rfl rfl rfl ?_
    refine WL_re (.int .i64 (x.s.length : Int)) (t := 19) rfl (by rw [bs_size]) ?_
    refine WL_o rfl rfl (OpR_ret cl56 allF rfl rfl rfl rfl rfl (rputInt_c x.s.length (by omega) _) ?_); rintro g1 _ hf1 rfl; replace hs := hs.call hf1; have hqe := hf1.le; replace le0 := G.le.trans le0 hqe; replace ep0 := ep0.mono hqe; replace rs0 := rs0.mono hqe
    generalize hpi : putIntM (x.s.length : Int) = out at *
    (iterate 5 refine P1 T.ok rfl rfl rfl ?_); refine WL_nil ?_; (with_reducible refine T_then ?_); refine W_seq ?_; refine W_seq ?_; refine W_region ?_; (iterate 3 refine P1 T.ok rfl rfl rfl ?_)
    by_cases h1 : 1 ≤ q
    · refine WL_know 25 (b := decide ((1 : Int) ≤ q)) (b' := true) (decide_eq_true h1) rfl ?_
      (iterate 5 refine P1 T.ok rfl rfl rfl ?_); refine WL_nil ?_; (with_reducible refine T_then ?_)
      by_cases h2 : q ≤ (out.length : Int)
      · refine W_yes (b := decide (q ≤ ((bs out).size : Int))) (decide_eq_true (by rw [bs_size]; exact h2)) rfl ?_
        rw [if_pos ⟨h1, h2⟩] at hsz
        refine W_seq ?_; refine W_region ?_; refine P1 T.ok rfl rfl rfl ?_; refine WL_nil ?_; (with_reducible refine T_then ?_)
        exact W_ret (ret1 rfl rfl (hs.ret (by rw [← hsz])))
      · refine W_no (b := decide (q ≤ ((bs out).size : Int))) (decide_eq_false (by rw [bs_size]; exact h2)) rfl ?_
        rw [if_neg (by omega)] at hsz
        refine W_skip ?_; (with_reducible refine T_then ?_); refine W_region ?_; (iterate 6 refine P1 T.ok rfl rfl rfl ?_)
        refine WL_o rfl rfl (OpR_idx T.ok rfl rs0 (y := x) hgi rfl rfl rfl rfl rfl rfl ?_)
        rintro b pp ys hep hrc
        obtain rfl : ys = [.string (bs x.s)] := hrc
        have ep0 := hep
        refine WL_o rfl rfl (OpR_loadE T.ok 0 rfl ep0 rfl rfl ?_); (iterate 5 refine P1 T.ok rfl rfl rfl ?_); refine WL_nil ?_; (with_reducible refine T_bn ?_); (with_reducible refine T_then ?_); refine W_region ?_; (iterate 3 refine P1 T.ok rfl rfl rfl ?_); refine WL_nil ?_
        exact fun a ha => ⟨l.length - (i + 1), by omega, i + 1, q - (1 + out.length + x.s.length + 32), g1, rfl, hs, le0, by omega, by omega, by omega, hsz, rfl, ha.keep ⟨rfl, kI rfl (by rw [bs_size, bs_size, wr (n := 1 + (out.length : Int)) (by omega) (by omega), wr (n := 1 + (out.length : Int) + (x.s.length : Int)) (by omega) (by omega), wr (n := 1 + (out.length : Int) + (x.s.length : Int) + 32) (by omega) (by omega), wr (by omega) (by omega)]), kI rfl (by rw [wr (by omega) (by omega)]; omega), trivial⟩⟩
    · refine WL_know 25 (b := decide ((1 : Int) ≤ q)) (b' := false) (decide_eq_false h1) rfl ?_
      (iterate 4 refine S1 allF rfl rfl ?_); refine P1 T.ok rfl rfl rfl ?_; refine WL_nil ?_; (with_reducible refine T_then ?_)
      refine W_no rfl rfl ?_
      rw [if_neg (by omega)] at hsz
      refine W_skip ?_; (with_reducible refine T_then ?_); refine W_region ?_; (iterate 6 refine P1 T.ok rfl rfl rfl ?_)
      refine WL_o rfl rfl (OpR_idx T.ok rfl rs0 (y := x) hgi rfl rfl rfl rfl rfl rfl ?_)
      rintro b pp ys hep hrc
      obtain rfl : ys = [.string (bs x.s)] := hrc
      have ep0 := hep
      refine WL_o rfl rfl (OpR_loadE T.ok 0 rfl ep0 rfl rfl ?_); (iterate 5 refine P1 T.ok rfl rfl rfl ?_); refine WL_nil ?_; (with_reducible refine T_bn ?_); (with_reducible refine T_then ?_); refine W_region ?_; (iterate 3 refine P1 T.ok rfl rfl rfl ?_); refine WL_nil ?_
      exact fun a ha => ⟨l.length - (i + 1), by omega, i + 1, q - (1 + out.length + x.s.length + 32), g1, rfl, hs, le0, by omega, by omega, by omega, hsz, rfl, ha.keep ⟨rfl, kI rfl (by rw [bs_size, bs_size, wr (n := 1 + (out.length : Int)) (by omega) (by omega), wr (n := 1 + (out.length : Int) + (x.s.length : Int)) (by omega) (by omega), wr (n := 1 + (out.length : Int) + (x.s.length : Int) + 32) (by omega) (by omega), wr (by omega) (by omega)]), kI rfl (by rw [wr (by omega) (by omega)]; omega), trivial⟩⟩
  · refine W_no (b := decide ((i : Int) < (l.length : Int))) (decide_eq_false (by omega)) rfl ?_
    rw [List.drop_eq_nil_of_le (by rw [List.length_map]; omega)] at hsz
    refine W_exit ?_; (with_reducible refine T_tx ?_; with_reducible refine T_tx ?_); (with_reducible refine T_bx ?_); (with_reducible refine T_then ?_); refine W_seq ?_; refine W_region ?_; refine P1 T.ok rfl rfl rfl ?_; refine WL_nil ?_; (with_reducible refine T_then ?_)
    exact W_ret (ret1 rfl rfl (hs.ret (by rw [← hsz]; rfl)))

end Go.Proofs.YteohjgndanlldaaGreatDoor

/- A damaged byte, in plain Lean: the tape is refused, or ends there, or two strings have the same digest. -/
namespace Go.Proofs.YteohjgndanlldaaGreatDoor
open Go Go.K
set_option maxRecDepth 10000
attribute [local irreducible] W WL OpR bitAnd bitOr bitXor bitClr bitNot shlI shrI
set_option maxHeartbeats 1000000

theorem loadGo_stop (s : List UInt8) : ∀ (k : Nat) (Z Y : TapeM), s.length < k + Z.size → loadGo k Z s = some Y → s.length ≤ Y.size ∨ s.getD Y.size 0 = 0 := by
  intro k
  induction k with
  | zero =>
    intro Z Y hz h
    obtain rfl : Z = Y := by simpa [loadGo] using h
    exact .inl (by omega)
  | succ k ih =>
    intro Z Y hz h
    unfold loadGo at h
    split at h
    · split at h
      · cases h
      · split at h
        · cases h
        · split at h
          · cases h
          · refine ih _ Y ?_ h
            have h1 := tadd_size Z (stringM s (Z.size + 1)).1
            have h2 := outM_pos Z.head (stringM s (Z.size + 1)).1
            omega
    · rename_i h1
      obtain rfl : Z = Y := by simpa using h
      by_cases h2 : Z.size < s.length
      · right
        by_cases h3 : s.getD Z.size 0 = 0
        · exact h3
        · exact absurd ⟨h2, h3⟩ h1
      · exact .inl (by omega)

theorem dec_put {q X r X' : List UInt8} (hq : q.length ≤ 65536) (hr : r.length ≤ 65536) (h : putIntM (q.length : Int) ++ (q ++ X) = putIntM (r.length : Int) ++ (r ++ X')) : q = r ∧ X = X' := by
  have h1 := stringM_put (s := putIntM (q.length : Int) ++ (q ++ X)) (a := 0) hq (Nat.zero_le _) rfl
  have h2 := stringM_put (s := putIntM (q.length : Int) ++ (q ++ X)) (a := 0) hr (Nat.zero_le _) (by rw [List.drop_zero]; exact h)
  rw [h1] at h2
  obtain rfl : q = r := (Prod.mk.inj h2).1
  exact ⟨rfl, List.append_cancel_left (List.append_cancel_left h)⟩

def Clash (pre rs rs' : List (List UInt8)) : Prop :=
  ∃ i x y, rs[i]? = some x ∧ rs'[i]? = some y ∧ rs.take i = rs'.take i ∧ x ≠ y ∧ chainM (headM (pre ++ rs.take i)) x = chainM (headM (pre ++ rs.take i)) y
theorem damaged_law : ∀ (rs : List (List UInt8)) (Z : TapeM) (pre : List (List UInt8)) (tail rest : List UInt8) (c : UInt8) (j : Nat) (rs' : List (List UInt8)), Z.head = headM pre → (∀ r ∈ rs, r.length ≤ 65536) → (∀ r ∈ rs', r.length ≤ 65536) →
    j < (wireM Z rs).length → sizedM rs (j : Int) = false → (wireM Z rs ++ tail)[j]? ≠ some c → (wireM Z rs ++ tail).set j c = wireM Z rs' ++ rest → (∀ x t, rest = x :: t → x = 0) →
    Clash pre rs rs' ∨ (c = 0 ∧ ∃ m, m < rs.length ∧ rs' = rs.take m) := by
  intro rs
  induction rs with
  | nil => intro Z pre tail rest c j rs' _ _ _ hj; simp [wireM] at hj
  | cons r t ih =>
    intro Z pre tail rest c j rs' hZ hsh hsh' hj hsz hne hu hrest
    have hrl := hsh r (List.mem_cons_self ..)
    have hCl := chainM_len Z.head r
    have hwr : wireM Z (r :: t) ++ tail = 1 :: (putIntM (r.length : Int) ++ (r ++ (chainM Z.head r ++ (wireM (Z.add r) t ++ tail)))) := by
      rw [wireM]; unfold outM; simp [List.append_assoc]
    have hjl : j < 1 + ((putIntM (r.length : Int)).length + (r.length + (32 + (wireM (Z.add r) t).length))) := by
      have : (wireM Z (r :: t)).length = 1 + ((putIntM (r.length : Int)).length + (r.length + (32 + (wireM (Z.add r) t).length))) := by
        rw [wireM]; unfold outM; simp only [List.length_append, List.length_cons, List.length_nil, hCl]; omega
      omega
    rw [hwr] at hne hu
    generalize hW : wireM (Z.add r) t ++ tail = W at *
    generalize hC : chainM Z.head r = C at *
    generalize hP : putIntM (r.length : Int) = P at *
    cases j with
    | zero =>
      cases rs' with
      | nil =>
        right
        rw [List.set_cons_zero] at hu
        exact ⟨hrest c _ (by rw [← show (1 :: _ : List UInt8).set 0 c = rest from hu]; rfl), 0, Nat.succ_pos _, rfl⟩
      | cons r' t' =>
        rw [List.set_cons_zero, wireM] at hu
        unfold outM at hu
        simp only [List.append_assoc, List.cons_append, List.nil_append, List.cons.injEq] at hu
        exact absurd (by rw [← hu.1]; rfl) hne
    | succ j =>
      cases rs' with
      | nil =>
        rw [List.set_cons_succ] at hu
        have := hrest 1 _ hu.symm
        exact absurd this (by decide)
      | cons r' t' =>
        have hrl' := hsh' r' (List.mem_cons_self ..)
        rw [List.set_cons_succ, wireM] at hu
        unfold outM at hu
        simp only [List.append_assoc, List.cons_append, List.nil_append, List.cons.injEq, true_and] at hu
        rw [List.getElem?_cons_succ] at hne
        rw [sizedM, hP] at hsz
        have hjP : P.length ≤ j := by
          by_cases h : P.length ≤ j
          · exact h
          · rw [if_pos (by omega)] at hsz; cases hsz
        rw [if_neg (by omega)] at hsz
        rw [List.set_append_right _ _ hjP] at hu
        rw [List.getElem?_append_right hjP] at hne
        by_cases h1 : j - P.length < r.length
        · rw [List.set_append_left _ _ h1] at hu
          rw [List.getElem?_append_left h1] at hne
          have hql : (r.set (j - P.length) c).length = r.length := List.length_set
          have hd := dec_put (q := r.set (j - P.length) c) (r := r') (by rw [hql]; exact hrl) hrl' (by rw [hql, hP]; exact hu)
          left
          refine ⟨0, r, r', rfl, rfl, rfl, fun e => hne ?_, ?_⟩
          · rw [e, ← hd.1, List.getElem?_set_self (by omega)]
          · have h3 := congrArg (List.take 32) hd.2
            rw [List.take_left' hCl, List.take_left' (chainM_len _ _)] at h3
            rw [List.take_zero, List.append_nil, ← hZ, hC]
            exact h3
        · rw [List.set_append_right _ _ (by omega)] at hu
          rw [List.getElem?_append_right (by omega)] at hne
          have hd := dec_put (q := r) (r := r') hrl hrl' (by rw [hP]; exact hu)
          obtain ⟨rfl, hu2⟩ := hd
          rw [hC] at hu2
          by_cases h2 : j - P.length - r.length < C.length
          · rw [List.set_append_left _ _ h2] at hu2
            rw [List.getElem?_append_left h2] at hne
            have h3 := congrArg (List.take 32) hu2
            rw [List.take_left' (by rw [List.length_set]; exact hCl), List.take_left' hCl] at h3
            exact absurd (by rw [← h3, List.getElem?_set_self h2]) hne
          · rw [List.set_append_right _ _ (by omega)] at hu2
            rw [List.getElem?_append_right (by omega)] at hne
            have hu3 := List.append_cancel_left hu2
            rw [← hW] at hu3 hne
            have hcast : ((j + 1 : Nat) : Int) - (1 + (P.length : Int) + (r.length : Int) + 32) = ((j - P.length - r.length - C.length : Nat) : Int) := by omega
            rw [hcast] at hsz
            rcases ih (Z.add r) (pre ++ [r]) tail rest c (j - P.length - r.length - C.length) t' (by rw [headM_snoc, ← hZ]; unfold TapeM.add; dsimp only) (fun x hx => hsh x (List.mem_cons_of_mem _ hx)) (fun x hx => hsh' x (List.mem_cons_of_mem _ hx)) (by omega) hsz hne hu3 hrest with ⟨i, x, y, e1, e2, e3, e4, e5⟩ | ⟨e1, m, e2, e3⟩
            · left
              refine ⟨i + 1, x, y, e1, e2, by rw [List.take_succ_cons, List.take_succ_cons, e3], e4, ?_⟩
              rw [List.take_succ_cons, List.append_cons]
              exact e5
            · right
              exact ⟨e1, m + 1, by simp; omega, by rw [List.take_succ_cons, e3]⟩
end Go.Proofs.YteohjgndanlldaaGreatDoor

/- A damaged byte on a disk: what Open then finds. -/
namespace Go.Proofs.YteohjgndanlldaaGreatDoor
open Go Go.K
set_option maxRecDepth 10000
attribute [local irreducible] W WL OpR bitAnd bitOr bitXor bitClr bitNot shlI shrI
set_option maxHeartbeats 400000

theorem onto_set (v : List UInt8) (k : Nat) (c : UInt8) (h : k < v.length) : ontoM v k [c] = v.set k c := by
  unfold ontoM
  rw [List.set_eq_take_append_cons_drop, if_pos h]
  simp
theorem damaged_open {D : DiskM} {Y : TapeM} {rs : List (List UInt8)} (hJ : JInv D Y rs) (hd : DOn D D) {k : Nat} (hk : k < Y.size) {c : UInt8} (hne : D.vis[k]? ≠ some c) (hsz : sizedM rs (k : Int) = false) :
    (∃ D2, openM (D.put k [c]) = (none, D2, 252)) ∨ ∃ D2 rs', openM (D.put k [c]) = (some (tape0.adds rs'), D2, 0) ∧ (∀ r ∈ rs', r.length ≤ 65536) ∧ (tape0.adds rs').ok ∧ rs'.length ≤ 4194304 ∧
      (Clash [] rs rs' ∨ (c = 0 ∧ ∃ m, m < rs.length ∧ rs' = rs.take m)) := by
  have hle := hJ.le
  have hvl : D.vis.length ≤ 4194304 := by rw [hJ.ok.len]; exact hJ.ok.le
  have hoff : (D.put k [c]).off = false := by simp [DiskM.put, usedM, hd.off, hd.left]
  have hleft : (D.put k [c]).left = 0 := by simp [DiskM.put, usedM, hd.off, hd.left]
  have hvis : (D.put k [c]).vis = D.vis.set k c := onto_set D.vis k c (by omega)
  have hset : (D.vis.set k c).length = D.vis.length := List.length_set
  have hsize := hJ.size
  have hv : D.vis = wireM tape0 rs ++ D.vis.drop Y.size := by rw [← hJ.wire, List.take_append_drop]
  unfold openM
  rw [if_neg (by rw [hoff]; decide), hvis]
  cases hl : loadGo ((D.vis.set k c).length + 1) tape0 (D.vis.set k c) with
  | none => exact .inl ⟨_, rfl⟩
  | some Y' =>
    right
    obtain ⟨rs', hR⟩ := loadGo_reads (D.vis.set k c) _ tape0 Y' (Nat.zero_le _) hl
    have hstop := loadGo_stop (D.vis.set k c) _ tape0 Y' (by show _ < _ + 0; omega) hl
    have hok := hR.ok (by omega)
    have hrz := hR.size
    have hY := hR.eq
    have hwp := wireM_pos rs' tape0
    have hlen' := hR.le
    rw [show tape0.size = 0 from rfl, Nat.zero_add] at hrz
    have hu : D.vis.set k c = wireM tape0 rs' ++ (D.vis.set k c).drop Y'.size := by
      have h1 := hR.wire
      rw [show tape0.size = 0 from rfl, List.drop_zero, Nat.sub_zero] at h1
      rw [← h1, List.take_append_drop]
    have hrest : ∀ x t, (D.vis.set k c).drop Y'.size = x :: t → x = 0 := by
      intro x t e
      rcases hstop with h | h
      · rw [List.drop_of_length_le h] at e; cases e
      · have h2 : ((D.vis.set k c).drop Y'.size)[0]? = some x := by rw [e]; rfl
        rw [List.getElem?_drop, Nat.add_zero] at h2
        rw [List.getD_eq_getElem?_getD, h2] at h
        exact h
    have hlaw : Clash [] rs rs' ∨ (c = 0 ∧ ∃ m, m < rs.length ∧ rs' = rs.take m) := by
      refine damaged_law rs tape0 [] (D.vis.drop Y.size) ((D.vis.set k c).drop Y'.size) c k rs' (by unfold headM; rfl) hJ.short hR.short (by omega) hsz ?_ ?_ hrest
      · rw [← hv]; exact hne
      · rw [← hv]; exact hu
    subst hY
    simp only
    cases hz : isZero ((D.vis.set k c).drop (tape0.adds rs').size) with
    | true => exact ⟨_, rs', if_pos rfl, hR.short, hok, by omega, hlaw⟩
    | false =>
      rw [if_neg (by simp)]
      have hrun : (runM (clearFs (tape0.adds rs').size ((D.vis.set k c).length - (tape0.adds rs').size)) (D.put k [c])).2 = 0 := by
        simp [runM, clearFs, DiskM.wr, DiskM.sy, hoff]
        simp [DiskM.put, usedM, hd.off, hd.left]
      rw [hrun, if_pos rfl]
      exact ⟨_, rs', rfl, hR.short, hok, by omega, hlaw⟩
end Go.Proofs.YteohjgndanlldaaGreatDoor
