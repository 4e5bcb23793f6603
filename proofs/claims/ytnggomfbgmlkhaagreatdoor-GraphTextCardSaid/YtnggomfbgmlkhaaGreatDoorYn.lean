/- The library's functions; numbers, words, the line of moves. -/
import Derived.Test.YtnggomfbgmlkhaaGreatDoorYm
import Derived.Test.YtnggomfbgmlkhaaGreatDoorYh
import Derived.Test.YtnggomfbgmlkhaaGreatDoorYl
import Derived.Lib.AppendIntMem
import Derived.Test.YtnggomfbgmlkhaaGreatDoorShelfP

/- The library's functions, by the kit's contracts. -/
namespace Go.Proofs.YtnggomfbgmlkhaaGreatDoor
open Go Go.K Go.RowKit
set_option maxRecDepth 10000
attribute [local irreducible] W WL OpR bitAnd bitOr bitXor bitClr bitNot shlI shrI
set_option maxHeartbeats 1000000

theorem gTab : Tryz.prog.globalNamed "internal/strconv.uint64pow10" = some 0 := by kernel_rfl
/-- The library's package-level variables that the flow's text needs. -/
structure FlAt (g : G) : Prop where
 len : ∃ m, EP g 1 0 [.int .i64 m]
 tab : g.im 0 ∧ Lib.TabIs Tryz.prog g.w "internal/strconv.uint64pow10" .u64 Lib.pow10Tab
 syn : ∃ ev, EP g 6 0 [ev] ∧ (ev = .nilIface ∨ ∃ te pe, ev = .iface te pe)
 rng : ∃ ev, EP g 7 0 [ev] ∧ (ev = .nilIface ∨ ∃ te pe, ev = .iface te pe)
theorem FlAt.mono {g g' : G} (h : FlAt g) (hle : g.le g') : FlAt g' := by
 obtain ⟨⟨m, h1⟩, ⟨h2, h3⟩, ⟨e1, h4, h5⟩, ⟨e2, h6, h7⟩⟩ := h
 refine ⟨⟨m, h1.mono hle⟩, ⟨(hle _ h2).1, ?_⟩, ⟨e1, h4.mono hle, h5⟩, ⟨e2, h6.mono hle, h7⟩⟩
 unfold Lib.TabIs World.var? at h3 ⊢
 rw [gTab] at h3 ⊢
 simp only [Option.bind_some] at h3 ⊢
 rw [(hle _ h2).2]
 exact h3
theorem ep_cell {g : G} {b : Nat} {v : Value} (h : EP g b 0 [v]) : g.w.cell? ⟨b, 0, none⟩ = some v := h.2 0 v rfl

def I64 (n : Int) : Prop := -9223372036854775808 ≤ n ∧ n ≤ 9223372036854775807
theorem itoa_c (n : Int) (g : G) (hn : I64 n) (hF : FlAt g) : CallsIn Wd 0 Tryz.prog 23 #[.int .i64 n] g.w (Ret g fun _ r => r = .string (bs (Lib.itoa n))) := by
 unfold I64 at hn
 refine ret_of_calls ((Tryz.strconv_Itoa n hn.1 hn.2 g.w hF.tab.2).mono ?_) fun _ _ => rfl
 rintro e w' ⟨rfl, k, os, rfl⟩
 exact ⟨rfl, Lib.below_grow _ _ (Nat.le_refl _) k os⟩
theorem prefix_c (s p : List UInt8) (g : G) : CallsIn Wd 0 Tryz.prog 28 #[.string (bs s), .string (bs p)] g.w (Ret g fun _ r => r = .bool (p.isPrefixOf s)) := by
 refine ret_of_calls ((Tryz.strings_HasPrefix (bs s) (bs p) g.w).mono ?_) fun _ _ => rfl
 rintro e w' ⟨rfl, rfl⟩
 exact ⟨rfl, Below.refl _ _⟩
theorem cut_c (s p : List UInt8) (g : G) (hs : s.length ≤ 1000000) (hF : FlAt g) : CallsIn Wd 0 Tryz.prog 91 #[.string (bs s), .string (bs p)] g.w (Ret g fun _ r => r = .tuple #[.string (bs (Lib.cut s p).1), .string (bs (Lib.cut s p).2.1), .bool (Lib.cut s p).2.2]) := by
 obtain ⟨m, hm⟩ := hF.len
 refine ret_of_calls ((Tryz.strings_Cut (bs s) (bs p) m g.w (by rw [bs_size]; omega) (ep_cell hm)).mono ?_) fun _ _ => rfl
 rintro e w' ⟨rfl, n, rfl⟩
 exact ⟨rfl, below_drewN (Below.refl _ _) n⟩
/-- What Atoi yields. -/
def atoiRes (s : List UInt8) (r : Value) : Prop := ∃ v err, r = .tuple #[.int .i64 v, err] ∧ match Lib.atoiAll s with
 | .ok x => v = x ∧ err = .nilIface
 | _ => ∃ t p, err = .iface t p
theorem atoi_c (s : List UInt8) (g : G) (hs : s.length ≤ 1000000) (hF : FlAt g) : CallsIn Wd 0 Tryz.prog 92 #[.string (bs s)] g.w (Ret g fun _ r => atoiRes s r) := by
 have hsz : (bs s).size ≤ 281474976710656 := by rw [bs_size]; omega
 unfold atoiRes
 cases ha : Lib.atoiAll s with
 | ok x =>
  refine callsIn_wide.2 ((Tryz.strconv_Atoi_ok (bs s) (by omega) x ha g.w).mono ?_)
  rintro e w' ⟨rfl, hw⟩
  refine Ret.below ?_ fun _ _ _ => ⟨x, _, rfl, rfl, rfl⟩
  rcases hw with rfl | ⟨t, rfl⟩
  ·exact Below.refl _ _
  ·exact Lib.bytesWorld_below _ _ _
 | range =>
  obtain ⟨ev, h1, h2⟩ := hF.rng
  refine callsIn_wide.2 ((Tryz.strconv_Atoi_range (bs s) hsz ha ev g.w (ep_cell h1) h2).mono ?_)
  rintro e w' ⟨N, rfl, _, _, hb⟩
  exact Ret.below hb fun _ _ _ => ⟨_, _, rfl, _, _, rfl⟩
 | _ =>
  obtain ⟨ev, h1, h2⟩ := hF.syn
  refine callsIn_wide.2 ((Any.strconv_Atoi_syntax Tryz.laysC172 (bs s) hsz ha ev g.w (ep_cell h1) h2).mono ?_)
  rintro e w' ⟨N, rfl, _, _, hb⟩
  exact Ret.below hb fun _ _ _ => ⟨_, _, rfl, _, _, rfl⟩

theorem RcL.strs (g : G) : ∀ l : List (List UInt8), RcL g (l.map fun s => Value.string (bs s)) (l.map Str.mk)
 | [] => rfl
 | s :: l => ⟨[.string (bs s)], _, rfl, rfl, RcL.strs g l⟩
theorem split_c (s : List UInt8) (c : UInt8) (g : G) (hs : s.length ≤ 1000000) (hF : FlAt g) : CallsIn Wd 0 Tryz.prog 27 #[.string (bs s), .string (bs [c])] g.w (Ret g (OwnR 9 g ((splitC c s).map Str.mk))) := by
 obtain ⟨m, hm⟩ := hF.len
 refine callsIn_wide.2 ((Tryz.strings_Split (bs s) (bs [c]) m g.w (by rw [bs_size]; omega) (ep_cell hm) (by rw [bs_size]; exact Nat.le_refl 1)).mono ?_)
 have hdata : (Lib.splitB (bs [c]) 0 (Lib.countB (bs s) (bs [c])) (bs s)).map (fun b => b.data.toList) = splitC c s := by
  rw [Lib.splitB_data]
  exact split_count c s
 have hlen := Lib.splitB_all (bs [c]) (by rw [bs_size]; exact Nat.le_refl 1) 0 _ (bs s) rfl
 have hn : Lib.countB (bs s) (bs [c]) + 1 = (splitC c s).length := by rw [← hdata, List.length_map, hlen]
 have hcells : (Lib.splitB (bs [c]) 0 (Lib.countB (bs s) (bs [c])) (bs s)).map Value.string = (splitC c s).map fun x => Value.string (bs x) := by
  rw [← hdata, List.map_map]
  exact List.map_congr_left fun b _ => congrArg Value.string (bs_of b)
 rw [hn, hcells]
 rintro e w' ⟨rfl, rfl⟩
 let cells := (splitC c s).map fun x => Value.string (bs x)
 let W := g.w.alloc (.cells cells.toArray 9)
 have hbel : Below g.w.heap.size g.w W := (Below.refl _ _).alloc (Nat.le_refl _) _
 let g' : G := ⟨W, g.im, fun b h => Nat.lt_of_lt_of_le (g.lt b h) hbel.size⟩
 have hblk : W.heap[g.w.heap.size]? = some (.cells cells.toArray 9 (0, 0)) := by
  show (g.w.heap.push _)[g.w.heap.size]? = _
  rw [Array.getElem?_push_size]
 have hcl : cells.length = (splitC c s).length := List.length_map _
 refine ⟨g', _, rfl, ⟨hbel, fun _ _ => Iff.rfl⟩, rfl, cells, ⟨⟨?_, .inr ⟨g.w.heap.size, 0, _, cells.toArray, ?_, Nat.le_refl _, CellsAt.plain hblk, Nat.le_refl _, ?_, ?_, ?_⟩⟩, ?_⟩, RcL.strs _ _⟩
 ·rw [hcl, List.length_map]; exact (Nat.mul_one _).symm
 ·rw [List.length_map]
 ·unfold maxLen
  rw [List.length_map, ← hn]
  have := Lib.countB_le (bs [c]) (by rw [bs_size]; exact Nat.le_refl 1) (bs s).size (bs s) (Nat.le_refl _)
  rw [bs_size] at this
  omega
 ·rw [List.size_toArray, hcl, List.length_map, Nat.zero_add]; exact (Nat.mul_one _).symm
 ·rw [List.drop_zero, List.length_map]
  show cells.take _ = cells
  rw [List.take_of_length_le (by rw [hcl]; exact Nat.le_of_eq (Nat.mul_one _).symm)]
 ·intro b hb him
  have : b = g.w.heap.size := by
   obtain ⟨a, n, c', e1, _, e2⟩ := obk_some hb
   simp only [Value.slice.injEq, Option.some.injEq] at e1
   rw [← e2, ← e1.1]
  have := g.lt b him
  omega
end Go.Proofs.YtnggomfbgmlkhaaGreatDoor

/- What reading a line is made of: must, number. -/
namespace Go.Proofs.YtnggomfbgmlkhaaGreatDoor
open Go Go.K
set_option maxRecDepth 10000
attribute [local irreducible] W WL OpR bitAnd bitOr bitXor bitClr bitNot shlI shrI
set_option maxHeartbeats 1000000


theorem num_none {l : List UInt8} (h : ∀ v, Lib.atoiAll l = .ok v → 0 ≤ v → v ≤ 1000000 → Lib.itoa v ≠ l) : numM l = none := by
 cases hn : numM l with
 | none => rfl
 | some n =>
  obtain ⟨h1, h2, h3⟩ := num_ok hn
  exact absurd h2 (h _ h1 (by omega) (by omega))
def wrongs : List PanicEntry := [{ v := .iface 134 (.agg #[]), recovered := false }]
theorem must_c (b : Bool) (g : G) : CallsIn Wd 0 Tryz.prog 75 #[.bool b] g.w (Orp g (fun _ r => r = .tuple #[] ∧ b = true) wrongs (b = false)) := by
 have hs := St.start g
 refine enter Tryz.func75 rfl Tryz.ntmps75 rfl ?_
 cases b with
 | true =>
  refine W_seq ?_; refine W_region ?_; refine P1 T.ok rfl rfl rfl ?_; refine P1 T.ok rfl rfl rfl ?_; refine WL_nil ?_; (with_reducible refine T_then ?_)
  refine W_no rfl rfl ?_
  refine W_skip ?_
  exact end0 rfl (.inl (hs.ret ⟨rfl, rfl⟩))
 | false =>
  refine W_seq ?_; refine W_region ?_; refine P1 T.ok rfl rfl rfl ?_; refine P1 T.ok rfl rfl rfl ?_; refine WL_nil ?_; (with_reducible refine T_then ?_)
  refine W_yes rfl rfl ?_
  refine W_region ?_
  refine WL_o rfl rfl (OpR_build T.ok rfl (vs := []) (cells := []) rfl rfl rfl rfl [] rfl (by kernel_rfl) ?_)
  skip
  refine WL_o rfl rfl (OpR_mkI rfl rfl rfl rfl ?_)
  skip
  refine WL_n rfl (OpR_panic rfl rfl ?_)
  exact panic0 (Orp.boom rfl (Fr0.refl g))

theorem number_c (s : List UInt8) (g : G) (hs : s.length ≤ 1000000) (hF : FlAt g) : CallsIn Wd 0 Tryz.prog 77 #[.string (bs s)] g.w (Orp g (fun _ r => ∃ n : Nat, numM s = some n ∧ r = .int .i64 n) wrongs (numM s = none)) := by
 have hlen := hs
 clear hs
 have hs := St.start g
 refine enter Tryz.func77 rfl Tryz.ntmps77 rfl ?_
 refine W_seq ?_; refine W_region ?_; refine P1 T.ok rfl rfl rfl ?_; refine WL_nil ?_; (with_reducible refine T_then ?_); refine W_seq ?_; refine W_region ?_; refine P1 T.ok rfl rfl rfl ?_
 refine WL_o rfl rfl (OpR_ret cl92 allF rfl rfl rfl rfl rfl (atoi_c s _ hlen hF) ?_)
 rintro g1 _ hf1 ⟨x, err, rfl, hv⟩
 replace hs := hs.call hf1
 have hF1 := hF.mono hf1.le
 cases ha : Lib.atoiAll s with
 | ok x0 =>
  rw [ha] at hv
  obtain ⟨rfl, rfl⟩ := hv
  (iterate 5 refine P1 T.ok rfl rfl rfl ?_); refine WL_nil ?_; (with_reducible refine T_then ?_); refine W_seq ?_; refine W_region ?_; refine P1 T.ok rfl rfl rfl ?_
  refine WL_o rfl rfl (OpR_nilI (neg := false) rfl rfl rfl rfl rfl ?_)
  (iterate 5 refine P1 T.ok rfl rfl rfl ?_)
  by_cases h0 : 0 ≤ x
  ·refine WL_know 16 (b' := true) (by simp [h0]) rfl ?_
   (iterate 4 refine P1 T.ok rfl rfl rfl ?_)
   by_cases h1 : x ≤ 1000000
   ·refine WL_know 20 (b' := true) (by simp [h1]) rfl ?_
    refine P1 T.ok rfl rfl rfl ?_
    refine WL_o rfl rfl (OpR_ret cl23 allF rfl rfl rfl rfl rfl (itoa_c x _ (by unfold I64; omega) hF1) ?_)
    rintro g2 _ hf2 rfl
    replace hs := hs.call hf2
    (iterate 3 refine P1 T.ok rfl rfl rfl ?_)
    by_cases h2 : Lib.itoa x = s
    ·refine WL_know 25 (b' := true) (by rw [bs_toList, bs_toList]; simp [h2]) rfl ?_
     refine WL_o rfl rfl (OpR_orp cl75 allF rfl rfl rfl rfl rfl (must_c true _) ?_ fun h => (by cases h))
     rintro g3 _ hf3 ⟨rfl, _⟩
     replace hs := hs.call hf3
     refine WL_nil ?_; (with_reducible refine T_then ?_); refine W_seq ?_; refine W_region ?_; refine P1 T.ok rfl rfl rfl ?_; refine P1 T.ok rfl rfl rfl ?_; refine WL_nil ?_; (with_reducible refine T_then ?_)
     refine W_ret ?_
     skip
     refine ret1 rfl rfl (.inl (hs.ret ⟨x.toNat, num_some ha h0 h1 h2, ?_⟩))
     show Value.int .i64 x = _
     rw [Int.toNat_of_nonneg h0]
    ·refine WL_know 25 (b' := false) (by rw [bs_toList, bs_toList]; simp [h2]) rfl ?_
     refine WL_o rfl rfl (OpR_orp cl75 allF rfl rfl rfl rfl rfl (must_c false _) ?_ ?_)
     ·rintro g3 _ hf3 ⟨_, hc⟩
      cases hc
     ·intro _ g3 hf3
      replace hs := hs.call hf3
      (repeat (first | with_reducible refine T_tp ?_ | with_reducible refine T_bp ?_ | with_reducible refine T_gp ?_))
      exact panic0 (Orp.boom (num_none fun v hv => by rw [ha] at hv; cases hv; exact fun _ _ => h2) hs.fr0)
   ·refine WL_know 20 (b' := false) (by simp [h1]) rfl ?_
    (iterate 4 refine S1 allF rfl rfl ?_); refine P1 T.ok rfl rfl rfl ?_
    refine WL_o rfl rfl (OpR_orp cl75 allF rfl rfl rfl rfl rfl (must_c false _) ?_ ?_)
    ·rintro g3 _ hf3 ⟨_, hc⟩
     cases hc
    ·intro _ g3 hf3
     replace hs := hs.call hf3
     (repeat (first | with_reducible refine T_tp ?_ | with_reducible refine T_bp ?_ | with_reducible refine T_gp ?_))
     exact panic0 (Orp.boom (num_none fun v hv => by rw [ha] at hv; cases hv; exact fun _ h => absurd h h1) hs.fr0)
  ·refine WL_know 16 (b' := false) (by simp [h0]) rfl ?_
   refine S1 allF rfl rfl ?_; refine S1 allF rfl rfl ?_; refine P1 T.ok rfl rfl rfl ?_; refine P1 T.ok rfl rfl rfl ?_; (iterate 4 refine S1 allF rfl rfl ?_); refine P1 T.ok rfl rfl rfl ?_
   refine WL_o rfl rfl (OpR_orp cl75 allF rfl rfl rfl rfl rfl (must_c false _) ?_ ?_)
   ·rintro g3 _ hf3 ⟨_, hc⟩
    cases hc
   ·intro _ g3 hf3
    replace hs := hs.call hf3
    (repeat (first | with_reducible refine T_tp ?_ | with_reducible refine T_bp ?_ | with_reducible refine T_gp ?_))
    exact panic0 (Orp.boom (num_none fun v hv => by rw [ha] at hv; cases hv; exact fun h => absurd h h0) hs.fr0)
 | range =>
  rw [ha] at hv
  obtain ⟨t, p, rfl⟩ := hv
  (iterate 5 refine P1 T.ok rfl rfl rfl ?_); refine WL_nil ?_; (with_reducible refine T_then ?_); refine W_seq ?_; refine W_region ?_; refine P1 T.ok rfl rfl rfl ?_
  refine WL_o rfl rfl (OpR_nilI (neg := false) rfl rfl rfl rfl rfl ?_)
  refine P1 T.ok rfl rfl rfl ?_; refine S1 allF rfl rfl ?_; refine S1 allF rfl rfl ?_; refine P1 T.ok rfl rfl rfl ?_; refine P1 T.ok rfl rfl rfl ?_; refine S1 allF rfl rfl ?_; refine S1 allF rfl rfl ?_; refine P1 T.ok rfl rfl rfl ?_; refine P1 T.ok rfl rfl rfl ?_; (iterate 4 refine S1 allF rfl rfl ?_); refine P1 T.ok rfl rfl rfl ?_
  refine WL_o rfl rfl (OpR_orp cl75 allF rfl rfl rfl rfl rfl (must_c false _) ?_ ?_)
  ·rintro g3 _ hf3 ⟨_, hc⟩
   cases hc
  ·intro _ g3 hf3
   replace hs := hs.call hf3
   (repeat (first | with_reducible refine T_tp ?_ | with_reducible refine T_bp ?_ | with_reducible refine T_gp ?_))
   exact panic0 (Orp.boom (num_none fun v hv => by rw [ha] at hv; cases hv) hs.fr0)
 | _ =>
  rw [ha] at hv
  obtain ⟨t, p, rfl⟩ := hv
  (iterate 5 refine P1 T.ok rfl rfl rfl ?_); refine WL_nil ?_; (with_reducible refine T_then ?_); refine W_seq ?_; refine W_region ?_; refine P1 T.ok rfl rfl rfl ?_
  refine WL_o rfl rfl (OpR_nilI (neg := false) rfl rfl rfl rfl rfl ?_)
  refine P1 T.ok rfl rfl rfl ?_; refine S1 allF rfl rfl ?_; refine S1 allF rfl rfl ?_; refine P1 T.ok rfl rfl rfl ?_; refine P1 T.ok rfl rfl rfl ?_; refine S1 allF rfl rfl ?_; refine S1 allF rfl rfl ?_; refine P1 T.ok rfl rfl rfl ?_; refine P1 T.ok rfl rfl rfl ?_; (iterate 4 refine S1 allF rfl rfl ?_); refine P1 T.ok rfl rfl rfl ?_
  refine WL_o rfl rfl (OpR_orp cl75 allF rfl rfl rfl rfl rfl (must_c false _) ?_ ?_)
  ·rintro g3 _ hf3 ⟨_, hc⟩
   cases hc
  ·intro _ g3 hf3
   replace hs := hs.call hf3
   (repeat (first | with_reducible refine T_tp ?_ | with_reducible refine T_bp ?_ | with_reducible refine T_gp ?_))
   exact panic0 (Orp.boom (num_none fun v hv => by rw [ha] at hv; cases hv) hs.fr0)
end Go.Proofs.YtnggomfbgmlkhaaGreatDoor

/- Words, spans and lists. -/
namespace Go.Proofs.YtnggomfbgmlkhaaGreatDoor
open Go Go.K
set_option maxRecDepth 10000
attribute [local irreducible] W WL OpR bitAnd bitOr bitXor bitClr bitNot shlI shrI
set_option maxHeartbeats 2000000



theorem split_len (c : UInt8) (s : List UInt8) : (splitC c s).length ≤ s.length + 1 := by
 induction s with
 | nil => simp [splitC]
 | cons b t ih =>
  unfold splitC
  split
  ·simp only [List.length_cons]; omega
  ·split
   ·simp
   ·rename_i x r h; rw [h] at ih; simp only [List.length_cons] at ih ⊢; omega
theorem split_mem (c : UInt8) (s : List UInt8) : ∀ p ∈ splitC c s, p.length ≤ s.length := by
 induction s with
 | nil => simp [splitC]
 | cons b t ih =>
  unfold splitC
  split
  ·intro p hp
   rcases List.mem_cons.1 hp with rfl | hp
   ·simp
   ·have := ih p hp; simp only [List.length_cons]; omega
  ·split
   ·simp
   ·rename_i x r h
    rw [h] at ih
    intro p hp
    rcases List.mem_cons.1 hp with rfl | hp
    ·have := ih x (by simp); simp only [List.length_cons]; omega
    ·have := ih p (List.mem_cons_of_mem _ hp); simp only [List.length_cons]; omega
theorem allSome_none {α : Type} {l : List (Option α)} {k : Nat} (h : l[k]? = some none) : allSome l = none := by
 cases ha : allSome l with
 | none => rfl
 | some xs =>
  rw [allSome_iff.1 ha, List.getElem?_map] at h
  cases hx : xs[k]? <;> rw [hx] at h <;> cases h

theorem cut_len1 (s p : List UInt8) : (Lib.cut s p).1.length ≤ s.length := by
 unfold Lib.cut
 split
 ·show (s.take _).length ≤ _; rw [List.length_take]; omega
 ·exact Nat.le_refl _
theorem cut_len2 (s p : List UInt8) : (Lib.cut s p).2.1.length ≤ s.length := by
 unfold Lib.cut
 split
 ·show (s.drop _).length ≤ _; rw [List.length_drop]; omega
 ·exact Nat.zero_le _
theorem span_cut (s : List UInt8) : spanM s = match Lib.cut s [46, 46] with
  | (a, b, true) => (match numM a, numM b with
   | some x, some y => some (x, y)
   | _, _ => none)
  | (_, _, false) => none := by
 unfold spanM Lib.cut
 by_cases h : Lib.index s [46, 46] < 0
 ·rw [if_pos h, if_neg (by omega)]
 ·rw [if_neg h, if_pos (by omega)]
  rfl
theorem span_c (s : List UInt8) (g : G) (hlen : s.length ≤ 1000000) (hF : FlAt g) :
  CallsIn Wd 0 Tryz.prog 76 #[.string (bs s)] g.w (Orp g (fun _ r => ∃ a b : Nat, spanM s = some (a, b) ∧ r = .tuple #[.int .i64 a, .int .i64 b]) wrongs (spanM s = none)) := by
 have hs := St.start g
 refine enter Tryz.func76 rfl Tryz.ntmps76 rfl ?_
 refine W_seq ?_; refine W_region ?_; refine P1 T.ok rfl rfl rfl ?_; refine P1 T.ok rfl rfl rfl ?_; refine WL_nil ?_; (with_reducible refine T_then ?_); refine W_seq ?_; refine W_region ?_; refine P1 T.ok rfl rfl rfl ?_
 refine WL_o rfl rfl (OpR_ret cl91 allF rfl rfl rfl rfl rfl (cut_c s [46, 46] _ hlen hF) ?_)
 rintro g1 _ hf1 rfl
 replace hs := hs.call hf1
 have hF1 := hF.mono hf1.le
 have hcl1 : (Lib.cut s [46, 46]).1.length ≤ 1000000 := Nat.le_trans (cut_len1 s [46, 46]) hlen
 have hcl2 : (Lib.cut s [46, 46]).2.1.length ≤ 1000000 := Nat.le_trans (cut_len2 s [46, 46]) hlen
 have hsp := span_cut s
 generalize Lib.cut s [46, 46] = q at *
 obtain ⟨a, b, ok⟩ := q
 cases ok with
 | false =>
  (iterate 7 refine P1 T.ok rfl rfl rfl ?_); refine WL_nil ?_; (with_reducible refine T_then ?_); refine W_seq ?_; refine W_region ?_; refine P1 T.ok rfl rfl rfl ?_
  refine WL_o rfl rfl (OpR_orp cl75 allF rfl rfl rfl rfl rfl (must_c false _) ?_ ?_)
  ·rintro g3 _ hf3 ⟨_, hc⟩
   cases hc
  ·intro _ g3 hf3
   replace hs := hs.call hf3
   (repeat (first | with_reducible refine T_tp ?_ | with_reducible refine T_bp ?_ | with_reducible refine T_gp ?_))
   exact panic0 (Orp.boom (hsp) hs.fr0)
 | true =>
  (iterate 7 refine P1 T.ok rfl rfl rfl ?_); refine WL_nil ?_; (with_reducible refine T_then ?_); refine W_seq ?_; refine W_region ?_; refine P1 T.ok rfl rfl rfl ?_
  refine WL_o rfl rfl (OpR_orp cl75 allF rfl rfl rfl rfl rfl (must_c true _) ?_ fun h => (by cases h))
  rintro g3 _ hf3 ⟨rfl, _⟩
  replace hs := hs.call hf3
  have hqe := hf3.le; skip
  have hF1 := hF1.mono hf3.le
  refine WL_nil ?_; (with_reducible refine T_then ?_); refine W_seq ?_; refine W_region ?_; refine P1 T.ok rfl rfl rfl ?_
  refine WL_o rfl rfl (OpR_orp cl77 allF rfl rfl rfl rfl rfl (number_c a _ hcl1 hF1) ?_ ?_)
  ·rintro g4 _ hf4 ⟨n, hn, rfl⟩
   replace hs := hs.call hf4
   have hF1 := hF1.mono hf4.le
   refine P1 T.ok rfl rfl rfl ?_
   refine WL_o rfl rfl (OpR_orp cl77 allF rfl rfl rfl rfl rfl (number_c b _ hcl2 hF1) ?_ ?_)
   ·rintro g5 _ hf5 ⟨m, hm, rfl⟩
    replace hs := hs.call hf5
    refine P1 T.ok rfl rfl rfl ?_; refine P1 T.ok rfl rfl rfl ?_; refine WL_nil ?_; (with_reducible refine T_then ?_)
    refine W_ret ?_
    skip
    refine ret2 rfl rfl rfl (.inl (hs.ret ⟨n, m, ?_, rfl⟩))
    rw [hsp]; simp only [hn, hm]
   ·intro hn g5 hf5
    replace hs := hs.call hf5
    (repeat (first | with_reducible refine T_tp ?_ | with_reducible refine T_bp ?_ | with_reducible refine T_gp ?_))
    exact panic0 (Orp.boom (by rw [hsp]; simp only [hn]; split <;> first | rfl | (rename_i h1 h2; cases h2)) hs.fr0)
  ·intro hn g5 hf5
   replace hs := hs.call hf5
   (repeat (first | with_reducible refine T_tp ?_ | with_reducible refine T_bp ?_ | with_reducible refine T_gp ?_))
   exact panic0 (Orp.boom (by rw [hsp]; simp only [hn]) hs.fr0)

theorem list_c (s : List UInt8) (g : G) (hlen : s.length ≤ 1000000) (hF : FlAt g) :
  CallsIn Wd 0 Tryz.prog 78 #[.string (bs s)] g.w (Orp g (fun g' r => ∃ ns, listM s = some ns ∧ Rs g' r (ints ns)) wrongs (listM s = none)) := by
 have hs := St.start g
 have le0 := G.le.refl g
 refine enter Tryz.func78 rfl Tryz.ntmps78 rfl ?_
 refine W_seq ?_; refine W_region ?_; refine P1 T.ok rfl rfl rfl ?_; refine WL_nil ?_; (with_reducible refine T_then ?_); refine W_seq ?_; refine W_region ?_; refine P1 T.ok rfl rfl rfl ?_; refine WL_nil ?_; (with_reducible refine T_then ?_); refine W_seq ?_; refine W_seq ?_; refine W_region ?_; refine P1 T.ok rfl rfl rfl ?_
 refine WL_o rfl rfl (OpR_ret cl27 allF rfl rfl rfl rfl rfl (split_c s 44 _ hlen hF) ?_); rintro g1 vo hf1 hvo; obtain ⟨gz, hwz, hsz, hqz, rs0⟩ := hs.ownRs hf1 hvo; have hqe := hf1.le.trans hqz; rw [← hwz]; replace hs := hsz; clear hsz hvo; replace le0 := G.le.trans le0 hqe
 have hpl := split_len 44 s
 have hpm := split_mem 44 s
 have hlm : listM s = allSome ((splitC 44 s).map numM) := rfl
 generalize splitC 44 s = ps at *
 obtain ⟨pa, pc, rfl⟩ := rs0.isSlice
 replace hs := hs.nilrow 3 1 none
 have lef := le0
 have hlp : (ps.map Str.mk).length = ps.length := List.length_map _
 have rs0f : Rs gz (.slice pa ps.length pc) (ps.map Str.mk) := by have h := rs0; rw [hlp] at h; exact h
 clear rs0
 rw [hlp]
 refine P1 T.ok rfl rfl rfl ?_; refine P1 T.ok rfl rfl rfl ?_; refine WL_nil ?_; (with_reducible refine T_then ?_); refine W_block ?_
 refine W_loop (fun m a' w => ∃ (k : Nat) (ns : List Nat) (ra : Option Addr) (rc : Nat) (g' : G), w = g'.w ∧ St g g' [.row 3 1 (.slice ra ns.length rc) ns.length ((ints ns).map (Value.int .i64))] ∧ G.le gz g' ∧ k ≤ ps.length ∧ m = ps.length - k ∧ ns.length = k ∧ (ps.take k).map numM = ns.map some ∧
  Fr 20 [] [(3, .slice ra ns.length rc), (7, .slice pa ps.length pc), (8, .int .i64 ps.length), (9, .int .i64 k)] a') ps.length (fun a' ha => ⟨0, [], none, 0, gz, rfl, hs, G.le.refl _, Nat.zero_le _, rfl, rfl, rfl, ha.keep (by (repeat (first | exact trivial | refine ⟨rfl, ?_⟩)))⟩) ?_
 clear hs le0
 rintro m a' _ ⟨k, ns, ra, rc, g', rfl, hs, lez, hk, rfl, hnk, hpn, ha'⟩
 have rs0 := rs0f.mono lez
 have le0 := lef.trans lez
 revert a'
 (with_reducible refine T_wp ?_); refine W_seq ?_; refine W_region ?_; refine P1 T.ok rfl rfl rfl ?_; refine WL_nil ?_; (with_reducible refine T_then ?_); refine W_seq ?_
 by_cases hlt : k < ps.length
 ·refine W_yes (b := decide ((k : Int) < (ps.length : Int))) (by simp; omega) rfl ?_
  refine W_skip ?_; (with_reducible refine T_then ?_); refine W_seq ?_; refine W_block ?_; refine W_seq ?_; refine W_region ?_
  refine WL_o rfl rfl (OpR_idx T.ok rfl rs0 (y := ⟨ps[k]⟩) (by simp [geti, hlt]) rfl rfl rfl rfl rfl rfl ?_)
  rintro b p ys hep rfl
  refine WL_o rfl rfl (OpR_loadE T.ok 0 rfl hep rfl rfl ?_)
  refine P1 T.ok rfl rfl rfl ?_; refine WL_nil ?_; (with_reducible refine T_then ?_); refine W_region ?_; refine P1 T.ok rfl rfl rfl ?_; refine P1 T.ok rfl rfl rfl ?_
  refine WL_o rfl rfl (OpR_orp cl77 allF rfl rfl rfl rfl rfl (number_c ps[k] _ (Nat.le_trans (hpm _ (List.getElem_mem hlt)) hlen) (hF.mono le0)) ?_ ?_)
  ·rintro g4 _ hf4 ⟨n, hn, rfl⟩
   replace hs := hs.call hf4
   replace lez := lez.trans hf4.le
   skip
   refine WL_o rfl rfl (OpR_lit T.ok rfl hs (vs := [(0, .int .i64 n)]) (cells := [.int .i64 n]) rfl rfl rfl rfl rfl rfl (by decide) (by decide) (by kernel_rfl) rfl ?_); rintro bl2 gl2 hs hqe; replace lez := lez.trans hqe
   skip
   refine WL_o rfl rfl (OpR_append T.ok 1 rfl hs rfl rfl rfl rfl rfl rfl rfl (by decide) rfl (Src.of_row (hs.own 0 _ rfl).1).2 (by simp [Value.oneCell']) (by show (ns.length + 1) * 8 ≤ _; omega) (by unfold maxLen; show ns.length + 1 ≤ _; omega) ?_); rintro a9 c9 g9 hs hqe; replace lez := lez.trans hqe
   replace hs := hs.drop 0
   refine P1 T.ok rfl rfl rfl ?_; refine WL_nil ?_; (with_reducible refine T_bn ?_); (with_reducible refine T_then ?_); refine W_region ?_; refine P1 T.ok rfl rfl rfl ?_; refine P1 T.ok rfl rfl rfl ?_; refine WL_nil ?_
   refine fun a ha => ⟨ps.length - (k + 1), by omega, k + 1, ns ++ [n], a9, c9, g9, rfl, ?_, lez, by omega, rfl, by simp [hnk], ?_, ha.keep ⟨?_, rfl, rfl, kI rfl (by rw [wr (by omega) (by omega)]; omega), trivial⟩⟩
   ·have e1 : (ints (ns ++ [n])).map (Value.int .i64) = (ints ns).map (Value.int .i64) ++ [.int .i64 n] := by simp [ints]
    rw [e1, List.length_append]
    exact hs
   ·rw [List.take_add_one, List.map_append, hpn, List.getElem?_eq_getElem hlt]
    simp [hn]
   ·rw [List.length_append]; rfl
  ·intro hn g5 hf5
   replace hs := hs.call hf5
   (repeat (first | with_reducible refine T_tp ?_ | with_reducible refine T_bp ?_ | with_reducible refine T_gp ?_))
   exact panic0 (Orp.boom (by rw [hlm]; exact allSome_none (k := k) (by rw [List.getElem?_map, List.getElem?_eq_getElem hlt]; simp [hn])) hs.fr0)
 ·refine W_no (b := decide ((k : Int) < (ps.length : Int))) (by simp; omega) rfl ?_
  refine W_exit ?_; (with_reducible refine T_tx ?_; with_reducible refine T_tx ?_); (with_reducible refine T_bx ?_); (with_reducible refine T_then ?_); refine W_seq ?_; refine W_region ?_; refine P1 T.ok rfl rfl rfl ?_; refine P1 T.ok rfl rfl rfl ?_; refine WL_nil ?_; (with_reducible refine T_then ?_)
  obtain rfl : k = ps.length := by omega
  obtain ⟨gy, hwy, hsy, hqy, hrl⟩ := hs.fzRow (α := Int) (xs := ints ns) (i := 0) rfl (RcL.ints _ _)
  rw [← hwy]
  refine W_ret ?_
  skip
  refine ret1 rfl rfl (.inl (hsy.ret ⟨ns, ?_, ?_⟩))
  ·rw [hlm]
   rw [List.take_length] at hpn
   exact allSome_iff.2 hpn
  ·have e : (ints ns).length = ns.length := by simp [ints]
   rw [← e]
   rw [← e] at hrl
   exact hrl
end Go.Proofs.YtnggomfbgmlkhaaGreatDoor

/- Words of a line. -/
namespace Go.Proofs.YtnggomfbgmlkhaaGreatDoor
open Go Go.K
set_option maxRecDepth 10000
attribute [local irreducible] W WL OpR bitAnd bitOr bitXor bitClr bitNot shlI shrI
set_option maxHeartbeats 2000000



/-- The fixed words stand at their places. -/
def fixedOk (fixed l : List (List UInt8)) : Prop := fixed.length ≤ l.length ∧ ∀ (i : Nat) (w : List UInt8), fixed[i]? = some w → w = [] ∨ l[i]? = some w
theorem toList0 : (⟨#[]⟩ : ByteArray).toList = [] := bs_toList []

theorem words_c (line : List UInt8) (fx : List (List UInt8)) (v : Value) (g : G) (hlen : line.length ≤ 1000000) (hfl : fx.length ≤ 100) (hF : FlAt g) (hv : Rs g v (fx.map Str.mk)) :
  CallsIn Wd 0 Tryz.prog 74 #[.string (bs line), v] g.w (Orp g (fun g' r => fixedOk fx (splitC 32 line) ∧ Rs g' r ((splitC 32 line).map Str.mk)) wrongs (¬ fixedOk fx (splitC 32 line))) := by
 have hs := St.start g
 have le0 := G.le.refl g
 have rs1f := hv
 obtain ⟨fa, fc, rfl⟩ := hv.isSlice
 refine enter Tryz.func74 rfl Tryz.ntmps74 rfl ?_
 refine W_seq ?_; refine W_region ?_; refine P1 T.ok rfl rfl rfl ?_; refine WL_nil ?_; (with_reducible refine T_then ?_); refine W_seq ?_; refine W_region ?_; refine P1 T.ok rfl rfl rfl ?_
 refine WL_o rfl rfl (OpR_ret cl27 allF rfl rfl rfl rfl rfl (split_c line 32 _ hlen hF) ?_); rintro g1 vo hf1 hvo; obtain ⟨gz, hwz, hsz, hqz, rs0⟩ := hs.ownRs hf1 hvo; have hqe := hf1.le.trans hqz; rw [← hwz]; replace hs := hsz; clear hsz hvo; replace le0 := G.le.trans le0 hqe
 have hpl := split_len 32 line
 have hpm := split_mem 32 line
 generalize splitC 32 line = ps at *
 obtain ⟨pa, pc, rfl⟩ := rs0.isSlice
 have lef := le0
 have hlp : (ps.map Str.mk).length = ps.length := List.length_map _
 have hlf : (fx.map Str.mk).length = fx.length := List.length_map _
 have rs0f : Rs gz (.slice pa ps.length pc) (ps.map Str.mk) := by have h := rs0; rw [hlp] at h; exact h
 have rs1f : Rs g (.slice fa fx.length fc) (fx.map Str.mk) := by have h := rs1f; rw [hlf] at h; exact h
 clear rs0 hv
 rw [hlp, hlf]
 refine P1 T.ok rfl rfl rfl ?_; refine WL_nil ?_; (with_reducible refine T_then ?_); refine W_seq ?_; refine W_region ?_; (iterate 5 refine P1 T.ok rfl rfl rfl ?_)
 by_cases hge : fx.length ≤ ps.length
 ·refine WL_know 14 (b' := true) (by simp; omega) rfl ?_
  refine WL_o rfl rfl (OpR_orp cl75 allF rfl rfl rfl rfl rfl (must_c true _) ?_ fun h => (by cases h))
  rintro g3 _ hf3 ⟨rfl, _⟩
  replace hs := hs.call hf3
  have hqe := hf3.le; replace le0 := G.le.trans le0 hqe
  refine WL_nil ?_; (with_reducible refine T_then ?_); refine W_seq ?_; refine W_seq ?_; refine W_region ?_; (iterate 3 refine P1 T.ok rfl rfl rfl ?_); refine WL_nil ?_; (with_reducible refine T_then ?_); refine W_block ?_
  refine W_loop (fun m a' w => ∃ (k : Nat) (g' : G), w = g'.w ∧ St g g' [] ∧ G.le gz g' ∧ k ≤ fx.length ∧ m = fx.length - k ∧ (∀ i w, i < k → fx[i]? = some w → w = [] ∨ ps[i]? = some w) ∧
   Fr 36 [] [(5, .slice pa ps.length pc), (16, .slice fa fx.length fc), (17, .int .i64 fx.length), (18, .int .i64 k)] a') fx.length (fun a' ha => ⟨0, g3, rfl, hs, hf3.le, Nat.zero_le _, rfl, fun i w h => absurd h (by omega), ha.keep (by (repeat (first | exact trivial | refine ⟨rfl, ?_⟩)))⟩) ?_
  clear hs le0
  rintro m a' _ ⟨k, g', rfl, hs, le0, hk, rfl, hok, ha'⟩
  have rs0 := rs0f.mono le0
  have rs1 := rs1f.mono (lef.trans le0)
  revert a'
  (with_reducible refine T_wp ?_); refine W_seq ?_; refine W_region ?_; refine P1 T.ok rfl rfl rfl ?_; refine WL_nil ?_; (with_reducible refine T_then ?_); refine W_seq ?_
  by_cases hlt : k < fx.length
  ·refine W_yes (b := decide ((k : Int) < (fx.length : Int))) (by simp; omega) rfl ?_
   refine W_skip ?_; (with_reducible refine T_then ?_); refine W_seq ?_; refine W_block ?_; refine W_seq ?_; refine W_region ?_; refine P1 T.ok rfl rfl rfl ?_
   refine WL_o rfl rfl (OpR_idx T.ok rfl rs1 (y := ⟨fx[k]⟩) (by simp [geti, hlt]) rfl rfl rfl rfl rfl rfl ?_)
   rintro b p ys hep rfl
   refine WL_o rfl rfl (OpR_loadE T.ok 0 rfl hep rfl rfl ?_)
   refine P1 T.ok rfl rfl rfl ?_; refine P1 T.ok rfl rfl rfl ?_; refine WL_nil ?_; (with_reducible refine T_then ?_); refine W_region ?_; (iterate 3 refine P1 T.ok rfl rfl rfl ?_)
   have hltp : k < ps.length := by omega
   by_cases h0 : fx[k] = []
   ·refine WL_know 25 (b' := true) (by rw [bs_toList, toList0]; simp [h0]) rfl ?_
    (iterate 6 refine S1 allF rfl rfl ?_); refine P1 T.ok rfl rfl rfl ?_
    refine WL_o rfl rfl (OpR_orp cl75 allF rfl rfl rfl rfl rfl (must_c true _) ?_ fun h => (by cases h))
    rintro g3 _ hf3 ⟨rfl, _⟩
    replace hs := hs.call hf3
    have hqe := hf3.le; replace le0 := G.le.trans le0 hqe; replace rs0 := rs0.mono hqe; replace rs1 := rs1.mono hqe
    refine WL_nil ?_; (with_reducible refine T_bn ?_); (with_reducible refine T_then ?_); refine W_region ?_; refine P1 T.ok rfl rfl rfl ?_; refine P1 T.ok rfl rfl rfl ?_; refine WL_nil ?_
    refine fun a ha => ⟨fx.length - (k + 1), by omega, k + 1, _, rfl, hs, le0, by omega, rfl, ?_, ha.keep ⟨rfl, rfl, rfl, kI rfl (by rw [wr (by omega) (by omega)]; omega), trivial⟩⟩
    intro i w hi hw
    rcases Nat.lt_or_ge i k with hik | hik
    ·exact hok i w hik hw
    ·obtain rfl : i = k := by omega
     rw [List.getElem?_eq_getElem hlt] at hw
     obtain rfl := Option.some.inj hw
     exact .inl h0
   ·refine WL_know 25 (b' := false) (by rw [bs_toList, toList0]; simp [h0]) rfl ?_
    refine P1 T.ok rfl rfl rfl ?_; refine P1 T.ok rfl rfl rfl ?_
    refine WL_o rfl rfl (OpR_idx T.ok rfl rs0 (y := ⟨ps[k]⟩) (by simp [geti, hltp]) rfl rfl rfl rfl rfl rfl ?_)
    rintro b p ys hep rfl
    refine WL_o rfl rfl (OpR_loadE T.ok 0 rfl hep rfl rfl ?_)
    (iterate 3 refine P1 T.ok rfl rfl rfl ?_)
    by_cases h1 : ps[k] = fx[k]
    ·refine WL_know 32 (b' := true) (by rw [bs_toList, bs_toList]; simp [h1]) rfl ?_
     refine WL_o rfl rfl (OpR_orp cl75 allF rfl rfl rfl rfl rfl (must_c true _) ?_ fun h => (by cases h))
     rintro g3 _ hf3 ⟨rfl, _⟩
     replace hs := hs.call hf3
     have hqe := hf3.le; replace le0 := G.le.trans le0 hqe; replace rs0 := rs0.mono hqe; replace rs1 := rs1.mono hqe
     refine WL_nil ?_; (with_reducible refine T_bn ?_); (with_reducible refine T_then ?_); refine W_region ?_; refine P1 T.ok rfl rfl rfl ?_; refine P1 T.ok rfl rfl rfl ?_; refine WL_nil ?_
     refine fun a ha => ⟨fx.length - (k + 1), by omega, k + 1, _, rfl, hs, le0, by omega, rfl, ?_, ha.keep ⟨rfl, rfl, rfl, kI rfl (by rw [wr (by omega) (by omega)]; omega), trivial⟩⟩
     intro i w hi hw
     rcases Nat.lt_or_ge i k with hik | hik
     ·exact hok i w hik hw
     ·obtain rfl : i = k := by omega
      rw [List.getElem?_eq_getElem hlt] at hw
      obtain rfl := Option.some.inj hw
      exact .inr (by rw [List.getElem?_eq_getElem hltp, h1])
    ·refine WL_know 32 (b' := false) (by rw [bs_toList, bs_toList]; simp [h1]) rfl ?_
     refine WL_o rfl rfl (OpR_orp cl75 allF rfl rfl rfl rfl rfl (must_c false _) ?_ ?_)
     ·rintro g3 _ hf3 ⟨_, hc⟩
      cases hc
     ·intro _ g3 hf3
      replace hs := hs.call hf3
      (repeat (first | with_reducible refine T_tp ?_ | with_reducible refine T_bp ?_ | with_reducible refine T_gp ?_))
      exact panic0 (Orp.boom (fun h => by
           rcases h.2 k _ (List.getElem?_eq_getElem hlt) with e | e
           ·exact h0 e
           ·rw [List.getElem?_eq_getElem hltp] at e; exact h1 (Option.some.inj e)) hs.fr0)
  ·refine W_no (b := decide ((k : Int) < (fx.length : Int))) (by simp; omega) rfl ?_
   refine W_exit ?_; (with_reducible refine T_tx ?_; with_reducible refine T_tx ?_); (with_reducible refine T_bx ?_); (with_reducible refine T_then ?_); refine W_seq ?_; refine W_region ?_; refine P1 T.ok rfl rfl rfl ?_; refine P1 T.ok rfl rfl rfl ?_; refine WL_nil ?_; (with_reducible refine T_then ?_)
   refine W_ret ?_
   skip
   obtain rfl : k = fx.length := by omega
   refine ret1 rfl rfl (.inl (hs.ret ⟨⟨hge, fun i w h => hok i w (List.getElem?_eq_some_iff.1 h).1 h⟩, rs0⟩))
 ·refine WL_know 14 (b' := false) (by simp; omega) rfl ?_
  refine WL_o rfl rfl (OpR_orp cl75 allF rfl rfl rfl rfl rfl (must_c false _) ?_ ?_)
  ·rintro g3 _ hf3 ⟨_, hc⟩
   cases hc
  ·intro _ g3 hf3
   replace hs := hs.call hf3
   (repeat (first | with_reducible refine T_tp ?_ | with_reducible refine T_bp ?_ | with_reducible refine T_gp ?_))
   exact panic0 (Orp.boom (fun h => hge h.1) hs.fr0)
end Go.Proofs.YtnggomfbgmlkhaaGreatDoor

/- Reading the line of moves. -/
namespace Go.Proofs.YtnggomfbgmlkhaaGreatDoor
open Go Go.K
set_option maxRecDepth 10000
attribute [local irreducible] W WL OpR bitAnd bitOr bitXor bitClr bitNot shlI shrI
set_option maxHeartbeats 2000000



def flo (b : Nat) (cs : List Value) : Ent := .obj b (.cells cs.toArray 27 (0, 0))
theorem two_of {α : Type} {l : List α} (h : l.length = 2) : ∃ a b, l = [a, b] := by
 match l, h with
 | [a, b], _ => exact ⟨a, b, rfl⟩
theorem fixed_at {fx l : List (List UInt8)} (h : fixedOk fx l) (i : Nat) {w x : List UInt8} (hw : fx[i]? = some w) (hx : l[i]? = some x) (hne : w ≠ []) : x = w := by
 rcases h.2 i w hw with e | e
 ·exact absurd e hne
 ·rw [hx] at e; exact Option.some.inj e
theorem move_yes {line x a : List UInt8} (hps : splitC 32 line = [a, x]) (h : fixedOk [wMove, []] [a, x]) : moveM line = (spanM x).map fun p => ((p.1 : Int), (p.2 : Int)) := by
 obtain rfl := fixed_at h 0 (w := wMove) rfl rfl (by decide)
 unfold moveM
 rw [hps]
 simp
theorem move_not {line : List UInt8} (h : ¬ fixedOk [wMove, []] (splitC 32 line)) : moveM line = none := by
 unfold moveM
 split
 ·rename_i a0 a1 he
  rw [if_neg]
  rintro rfl
  refine h ?_
  rw [he]
  refine ⟨Nat.le_refl _, fun i w hw => ?_⟩
  match i, hw with
  | 0, hw => exact .inr hw
  | 1, hw => exact .inl (Option.some.inj hw).symm
  | _ + 2, hw => cases hw
 ·rfl
theorem move_len {line : List UInt8} (h : (splitC 32 line).length ≠ 2) : moveM line = none := by
 unfold moveM
 split
 ·rename_i a0 a1 he
  rw [he] at h; exact absurd rfl h
 ·rfl
def moveR (line : List UInt8) : Option (Int × Int) := (moveM line).bind fun p => if rightMoves ⟨p.1, p.2, [], []⟩ = true then some p else none
theorem move_c {b : Nat} (line : List UInt8) (hlen : line.length ≤ 1000000) {g0 g : G} {L : List Ent} (hF : FlAt g) (hs : St g0 g (flo b [.int .i64 0, .int .i64 0, .slice none 0 0, .slice none 0 0] :: L)) :
  CallsIn Wd 0 Tryz.prog 55 #[.pointer (some ⟨b, 0, none⟩), .string (bs line)] g.w fun e w' =>
   RetS g (fun g' r => r = .tuple #[] ∧ ∃ m n : Int, moveR line = some (m, n) ∧ St g0 g' (flo b [.int .i64 m, .int .i64 n, .slice none 0 0, .slice none 0 0] :: L)) e w' ∨
   (moveR line = none ∧ BoomS g wrongs (fun g' => ∃ cs, St g0 g' (flo b cs :: L)) e w') := by
 have le0 := G.le.refl g
 unfold flo at hs ⊢
 refine enter Tryz.func55 rfl Tryz.ntmps55 rfl ?_
 refine W_seq ?_; refine W_region ?_; refine P1 T.ok rfl rfl rfl ?_
 refine WL_o rfl rfl (OpR_lit T.ok rfl hs (vs := [(0, .string (bs wMove)), (1, .string (bs []))]) (cells := [.string (bs wMove), .string (bs [])]) rfl rfl rfl rfl rfl rfl (by decide) (by decide) (by kernel_rfl) rfl ?_)
 clear hs
 rintro bl gl hs hqe; replace le0 := G.le.trans le0 hqe
 obtain ⟨gz, hwz, hsz, hqz, rs1⟩ := hs.fzRow (α := Str) (xs := [⟨wMove⟩, ⟨[]⟩]) (i := 0) rfl (RcL.strs _ [wMove, []])
 have hqe := hqz; rw [← hwz]; replace hs := hsz; clear hsz; replace le0 := G.le.trans le0 hqe
 skip
 refine WL_o rfl rfl (OpR_orp cl74 allF rfl rfl rfl rfl rfl (words_c line [wMove, []] _ _ hlen (by decide) (hF.mono le0) rs1) ?_ ?_)
 rotate_left
 ·intro hn g5 hf5
  replace hs := hs.call hf5
  replace le0 := le0.trans hf5.le
  (repeat (first | with_reducible refine T_tp ?_ | with_reducible refine T_bp ?_ | with_reducible refine T_gp ?_))
  exact panic0 (.inr ⟨by unfold moveR; rw [move_not hn]; rfl, BoomS.intro le0 ⟨_, hs⟩⟩)
 rintro g4 v hf4 ⟨hfo, rs0⟩
 replace hs := hs.call hf4
 have hqe := hf4.le; replace le0 := G.le.trans le0 hqe; replace rs1 := rs1.mono hqe
 obtain ⟨pa, pc, rfl⟩ := rs0.isSlice
 rw [List.length_map] at rs0 ⊢
 have hpm := split_mem 32 line
 generalize hps : splitC 32 line = ps at *
 refine P1 T.ok rfl rfl rfl ?_; refine WL_nil ?_; (with_reducible refine T_then ?_); refine W_seq ?_; refine W_region ?_; (iterate 3 refine P1 T.ok rfl rfl rfl ?_)
 by_cases h2 : ps.length = 2
 ·obtain ⟨a, x, rfl⟩ := two_of h2
  refine WL_know 10 (b' := true) (by simp) rfl ?_
  refine WL_o rfl rfl (OpR_orp cl75 allF rfl rfl rfl rfl rfl (must_c true _) ?_ fun h => (by cases h))
  rintro g3 _ hf3 ⟨rfl, _⟩
  replace hs := hs.call hf3
  have hqe := hf3.le; replace le0 := G.le.trans le0 hqe; replace rs0 := rs0.mono hqe; replace rs1 := rs1.mono hqe
  refine WL_nil ?_; (with_reducible refine T_then ?_); refine W_seq ?_; refine W_region ?_; (iterate 3 refine P1 T.ok rfl rfl rfl ?_)
  refine WL_o rfl rfl (OpR_idx T.ok rfl rs0 (y := ⟨x⟩) rfl rfl rfl rfl rfl rfl rfl ?_)
  rintro b p ys hep rfl
  refine WL_o rfl rfl (OpR_loadE T.ok 0 rfl hep rfl rfl ?_)
  skip
  have hmv := move_yes hps hfo
  refine WL_o rfl rfl (OpR_orp cl76 allF rfl rfl rfl rfl rfl (span_c x _ (Nat.le_trans (hpm x (by simp)) hlen) (hF.mono le0)) ?_ ?_)
  ·rintro g6 _ hf6 ⟨m, n, hmn, rfl⟩
   replace hs := hs.call hf6
   have hqe := hf6.le; replace le0 := G.le.trans le0 hqe; replace rs0 := rs0.mono hqe; replace rs1 := rs1.mono hqe
   rw [hmn] at hmv
   (iterate 5 refine P1 T.ok rfl rfl rfl ?_)
   refine WL_n rfl (OpR_storeO T.ok 0 rfl hs rfl rfl rfl rfl rfl rfl rfl rfl rfl ?_); replace hs := hs; rintro g1 hs hqe; replace le0 := G.le.trans le0 hqe; replace rs0 := rs0.mono hqe; replace rs1 := rs1.mono hqe
   refine P1 T.ok rfl rfl rfl ?_; refine P1 T.ok rfl rfl rfl ?_
   refine WL_n rfl (OpR_storeO T.ok 0 rfl hs rfl rfl rfl rfl rfl rfl rfl rfl rfl ?_); replace hs := hs; rintro g1 hs hqe; replace le0 := G.le.trans le0 hqe; replace rs0 := rs0.mono hqe; replace rs1 := rs1.mono hqe
   refine WL_nil ?_; (with_reducible refine T_then ?_); refine W_region ?_; refine P1 T.ok rfl rfl rfl ?_; refine P1 T.ok rfl rfl rfl ?_; refine WL_o rfl rfl (OpR_loadO T.ok 0 rfl hs rfl rfl rfl ?_)
   refine WL_o rfl rfl (OpR_ret cl41 allF rfl rfl rfl rfl rfl (rightMoves_c _ ⟨m, n, [], []⟩ _ ⟨none, 0, 0, none, 0, 0, rfl, Rs.nil _, Rs.nil _⟩) ?_); rintro g1 _ hf1 rfl; replace hs := hs.call hf1; have hqe := hf1.le; replace le0 := G.le.trans le0 hqe; replace rs0 := rs0.mono hqe; replace rs1 := rs1.mono hqe
   skip
   cases hr : rightMoves ⟨m, n, [], []⟩ with
   | true =>
    refine WL_o rfl rfl (OpR_orp cl75 allF rfl rfl rfl rfl rfl (must_c true _) ?_ fun h => (by cases h))
    rintro g3 _ hf3 ⟨rfl, _⟩
    replace hs := hs.call hf3
    have hqe := hf3.le; replace le0 := G.le.trans le0 hqe; replace rs0 := rs0.mono hqe; replace rs1 := rs1.mono hqe
    refine WL_nil ?_
    exact end0 rfl (.inl (RetS.intro le0 ⟨rfl, m, n, by unfold moveR; rw [hmv]; simp [hr], hs⟩))
   | false =>
    refine WL_o rfl rfl (OpR_orp cl75 allF rfl rfl rfl rfl rfl (must_c false _) ?_ ?_)
    ·rintro g3 _ hf3 ⟨_, hc⟩
     cases hc
    ·intro _ g3 hf3
     replace hs := hs.call hf3
     replace le0 := le0.trans hf3.le
     (repeat (first | with_reducible refine T_tp ?_ | with_reducible refine T_bp ?_ | with_reducible refine T_gp ?_))
     exact panic0 (.inr ⟨by unfold moveR; rw [hmv]; simp [hr], BoomS.intro le0 ⟨_, hs⟩⟩)
  ·intro hn g5 hf5
   replace hs := hs.call hf5
   replace le0 := le0.trans hf5.le
   (repeat (first | with_reducible refine T_tp ?_ | with_reducible refine T_bp ?_ | with_reducible refine T_gp ?_))
   exact panic0 (.inr ⟨by unfold moveR; rw [hmv, hn]; rfl, BoomS.intro le0 ⟨_, hs⟩⟩)
 ·refine WL_know 10 (b' := false) (by simp; omega) rfl ?_
  refine WL_o rfl rfl (OpR_orp cl75 allF rfl rfl rfl rfl rfl (must_c false _) ?_ ?_)
  ·rintro g3 _ hf3 ⟨_, hc⟩
   cases hc
  ·intro _ g3 hf3
   replace hs := hs.call hf3
   replace le0 := le0.trans hf3.le
   (repeat (first | with_reducible refine T_tp ?_ | with_reducible refine T_bp ?_ | with_reducible refine T_gp ?_))
   exact panic0 (.inr ⟨by unfold moveR; rw [move_len (by rw [hps]; exact h2)]; rfl, BoomS.intro le0 ⟨_, hs⟩⟩)
end Go.Proofs.YtnggomfbgmlkhaaGreatDoor
