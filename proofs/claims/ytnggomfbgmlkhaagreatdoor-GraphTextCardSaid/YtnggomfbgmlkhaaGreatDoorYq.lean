/- The walk through Print. -/
import Derived.Test.YtnggomfbgmlkhaaGreatDoorYh
import Derived.Test.YtnggomfbgmlkhaaGreatDoorYi
import Derived.Test.YtnggomfbgmlkhaaGreatDoorYo
import Derived.Test.YtnggomfbgmlkhaaGreatDoorShelfP
import Derived.Test.YtnggomfbgmlkhaaGreatDoorYp

/- A strings.Builder: WriteString, WriteByte, String; Join. -/
namespace Go.Proofs.YtnggomfbgmlkhaaGreatDoor
open Go Go.K
set_option maxRecDepth 10000
attribute [local irreducible] W WL OpR bitAnd bitOr bitXor bitClr bitNot shlI shrI
set_option maxHeartbeats 2000000

theorem copyCheck_c {b : Nat} {p v : Value} (hp : p = .pointer none ∨ p = .pointer (some ⟨b, 0, none⟩)) {g0 g : G} {L : List Ent} (hs : St g0 g (.obj b (.cells [p, v].toArray 59 (0, 0)) :: L)) :
  CallsIn Wd 0 Tryz.prog 48 #[.pointer (some ⟨b, 0, none⟩)] g.w
   (RetS g fun g' r => r = .tuple #[] ∧ St g0 g' (.obj b (.cells [.pointer (some ⟨b, 0, none⟩), v].toArray 59 (0, 0)) :: L)) := by
 have le0 := G.le.refl g
 have hh : g.w.heap[b]? = some (.cells [p, v].toArray 59 (0, 0)) := (hs.own 0 _ rfl).2.1
 have hsh : g.w.shape? b = some (59, 2) := by simp [World.shape?, hh]
 obtain ⟨j, hj, hjs⟩ := Option.map_eq_some_iff.1 Tryz.Builder_Extra_169.sizeBuilder
 have hl := Tryz.Builder_Extra_169.liesBuilder
 refine enter Tryz.func48 rfl Tryz.ntmps48 rfl ?_
 refine W_seq ?_; refine W_region ?_; (iterate 3 refine P1 T.ok rfl rfl rfl ?_); refine WL_o rfl rfl (OpR_loadO T.ok 0 rfl hs rfl rfl rfl ?_)
 rcases hp with rfl | rfl
 ·refine WL_o rfl rfl (OpR_eqNilPtr T.ok (neg := false) rfl rfl rfl rfl rfl ?_)
  refine WL_nil ?_
  (with_reducible refine T_then ?_)
  refine W_yes rfl rfl ?_
  refine W_region ?_; refine P1 T.ok rfl rfl rfl ?_; refine P1 T.ok rfl rfl rfl ?_
  refine WL_o rfl rfl (OpR_conv rfl rfl (Lib.run_to_unsafe g.w ⟨b, 0, none⟩ Tryz.underlying56 Tryz.underlying110 hj (by rw [hjs]; decide) hsh (Nat.zero_lt_succ 1)) ?_)
  refine WL_o rfl rfl (OpR_extern Tryz.func68 (by kernel_rfl) (by kernel_rfl) (by kernel_rfl) (e := Extern.AbiNoEscape.same) (by kernel_rfl) allF rfl rfl rfl rfl ?_)
  refine WL_o rfl rfl (OpR_conv rfl rfl (Lib.run_from_unsafe g.w ⟨b, 0, none⟩ Tryz.underlying110 Tryz.underlying56 hj hsh hl) ?_)
  refine P1 T.ok rfl rfl rfl ?_; refine P1 T.ok rfl rfl rfl ?_
  refine WL_n rfl (OpR_storeO T.ok 0 rfl hs rfl rfl rfl rfl rfl rfl rfl rfl rfl ?_); replace hs := hs; rintro g1 hs hqe; replace le0 := G.le.trans le0 hqe
  refine WL_nil ?_
  exact end0 rfl (RetS.intro le0 ⟨rfl, hs⟩)
 ·refine WL_o rfl rfl (OpR_eqNilPtr T.ok (neg := false) rfl rfl rfl rfl rfl ?_)
  refine WL_nil ?_
  (with_reducible refine T_then ?_)
  refine W_no rfl rfl ?_
  refine W_seq ?_; refine W_region ?_; (iterate 3 refine P1 T.ok rfl rfl rfl ?_); refine WL_o rfl rfl (OpR_loadO T.ok 0 rfl hs rfl rfl rfl ?_); refine P1 T.ok rfl rfl rfl ?_
  refine WL_o rfl rfl (OpR_neqPtrSame rfl rfl rfl Tryz.underlying56 hj ?_)
  refine WL_nil ?_; (with_reducible refine T_then ?_)
  refine W_no rfl rfl ?_
  refine W_skip ?_
  exact end0 rfl (RetS.intro le0 ⟨rfl, hs⟩)

theorem wstr_c {b : Nat} {p v : Value} {xs : List UInt8} {Lr : List Ent} (hp : p = .pointer none ∨ p = .pointer (some ⟨b, 0, none⟩)) (hb : BdRow 5 v xs Lr) (ys : List UInt8) (hl : xs.length + ys.length ≤ 140737488355328)
  {g0 g : G} {L : List Ent} (hs : St g0 g (.obj b (.cells [p, v].toArray 59 (0, 0)) :: (Lr ++ L))) :
  CallsIn Wd 0 Tryz.prog 21 #[.pointer (some ⟨b, 0, none⟩), .string (bs ys)] g.w
   (RetS g fun g' r => ∃ v' Lr', BdRow 5 v' (xs ++ ys) Lr' ∧ St g0 g' (.obj b (.cells [.pointer (some ⟨b, 0, none⟩), v'].toArray 59 (0, 0)) :: (Lr' ++ L))) := by
 have le0 := G.le.refl g
 refine enter Tryz.func21 rfl Tryz.ntmps21 rfl ?_
 refine W_seq ?_; refine W_region ?_; refine P1 T.ok rfl rfl rfl ?_; refine P1 T.ok rfl rfl rfl ?_; refine WL_nil ?_; (with_reducible refine T_then ?_); refine W_seq ?_; refine W_region ?_; refine P1 T.ok rfl rfl rfl ?_
 refine WL_o rfl rfl (OpR_st cl48 allF rfl rfl rfl rfl rfl (copyCheck_c hp hs) ?_)
 clear hs
 rintro g1 _ hqe ⟨rfl, hs⟩; replace le0 := G.le.trans le0 hqe
 refine WL_nil ?_; (with_reducible refine T_then ?_); refine W_seq ?_; refine W_region ?_; (iterate 4 refine P1 T.ok rfl rfl rfl ?_); refine WL_o rfl rfl (OpR_loadO T.ok 0 rfl hs rfl rfl rfl ?_); refine P1 T.ok rfl rfl rfl ?_
 refine WL_o rfl rfl (OpR_appendB T.ok rfl hb hs.in1 rfl rfl rfl rfl rfl rfl rfl rfl rfl rfl hl ?_)
 rintro v' Lr' g2 hb2 hs2 hqe; replace le0 := G.le.trans le0 hqe
 obtain ⟨ao, no, co, rfl⟩ : ∃ ao no co, v' = .slice ao no co := by
  rcases hb2 with ⟨rfl, _⟩ | ⟨_, _, _, rfl, _⟩ <;> exact ⟨_, _, _, rfl⟩
 replace hs := hs2.out1
 refine P1 T.ok rfl rfl rfl ?_; refine P1 T.ok rfl rfl rfl ?_
 refine WL_n rfl (OpR_storeO T.ok 0 rfl hs rfl rfl rfl rfl rfl rfl rfl rfl rfl ?_); replace hs := hs; rintro g1 hs hqe; replace le0 := G.le.trans le0 hqe
 refine WL_nil ?_; (with_reducible refine T_then ?_); refine W_seq ?_; refine W_region ?_; (iterate 4 refine P1 T.ok rfl rfl rfl ?_); refine WL_nil ?_; (with_reducible refine T_then ?_)
 exact W_ret (ret2 rfl rfl rfl (RetS.intro le0 ⟨_, Lr', hb2, hs⟩))

theorem bstr_c {b : Nat} {p v : Value} {xs : List UInt8} {Lr : List Ent} (hp : p = .pointer none ∨ p = .pointer (some ⟨b, 0, none⟩)) (hb : BdRow 5 v xs Lr)
  {g0 g : G} {L : List Ent} (hL : ∀ x ∈ L, ∀ k, x.blk = some k → ∃ o, g.w.heap[k]? = some o ∧ ∀ c fz, o ≠ .cells c 5 fz) (hs : St g0 g (.obj b (.cells [p, v].toArray 59 (0, 0)) :: (Lr ++ L))) :
  CallsIn Wd 0 Tryz.prog 26 #[.pointer (some ⟨b, 0, none⟩)] g.w
   (fun e w' => e = .returned (.string (bs xs)) ∧ ∃ g' : G, g'.w = w' ∧ St g0 g' L ∧ g0.le g') := by
 have hF := hb.isF hs
 refine callsIn_wide.2 ((Any.Builder_String_any_k Tryz.lays169 Tryz.Builder_Extra_169 g0.w.heap.size b xs g.w (hp.elim (fun h => .inl (h ▸ hF)) (fun h => .inr (h ▸ hF))) hs.below.size).mono ?_)
 rintro e w' ⟨rfl, _, hbl, hok⟩
 refine ⟨rfl, ?_⟩
 have hs2 : St g0 g L := by
  have h1 := hs.drop 0
  have h2 : St g0 g (Lr ++ L) := h1
  rcases hb with ⟨_, _, rfl⟩ | ⟨br, _, _, _, rfl, _⟩
  ·exact h2
  ·exact h2.drop 0
 have hne : ∀ x ∈ L, x.blk ≠ some b := by
  intro x hx e
  obtain ⟨j, hj⟩ := List.mem_iff_getElem?.1 hx
  have hj2 : (Lr ++ L)[Lr.length + j]? = some x := by rw [List.getElem?_append_right (by omega), Nat.add_sub_cancel_left]; exact hj
  exact hs.sep 0 (Lr.length + j + 1) _ x (by omega) rfl hj2 b rfl e
 have := hs2.bld rfl hbl hok fun x hx k hk => ⟨fun h => hne x hx (by rw [hk, h]), hL x hx k hk⟩
 exact ⟨_, rfl, this.1, this.2⟩
theorem wbyte_c {b : Nat} {p v : Value} {xs : List UInt8} {Lr : List Ent} (hp : p = .pointer none ∨ p = .pointer (some ⟨b, 0, none⟩)) (hb : BdRow 5 v xs Lr) (c : UInt8) (hl : xs.length + 1 ≤ 140737488355328)
  {g0 g : G} {L : List Ent} (hs : St g0 g (.obj b (.cells [p, v].toArray 59 (0, 0)) :: (Lr ++ L))) :
  CallsIn Wd 0 Tryz.prog 25 #[.pointer (some ⟨b, 0, none⟩), .int .u8 (c.toNat : Int)] g.w
   (RetS g fun g' r => ∃ v' Lr', BdRow 5 v' (xs ++ [c]) Lr' ∧ St g0 g' (.obj b (.cells [.pointer (some ⟨b, 0, none⟩), v'].toArray 59 (0, 0)) :: (Lr' ++ L))) := by
 have le0 := G.le.refl g
 refine enter Tryz.func25 rfl Tryz.ntmps25 rfl ?_
 refine W_seq ?_; refine W_region ?_; refine P1 T.ok rfl rfl rfl ?_; refine WL_nil ?_; (with_reducible refine T_then ?_); refine W_seq ?_; refine W_region ?_; refine P1 T.ok rfl rfl rfl ?_
 refine WL_o rfl rfl (OpR_st cl48 allF rfl rfl rfl rfl rfl (copyCheck_c hp hs) ?_)
 clear hs
 rintro g1 _ hqe ⟨rfl, hs⟩; replace le0 := G.le.trans le0 hqe
 refine WL_nil ?_; (with_reducible refine T_then ?_); refine W_seq ?_; refine W_region ?_; (iterate 4 refine P1 T.ok rfl rfl rfl ?_); refine WL_o rfl rfl (OpR_loadO T.ok 0 rfl hs rfl rfl rfl ?_); refine P1 T.ok rfl rfl rfl ?_
 refine WL_o rfl rfl (OpR_lit T.ok rfl hs (vs := [(0, .int .u8 (c.toNat : Int))]) (cells := [.int .u8 (c.toNat : Int)]) rfl rfl rfl rfl rfl rfl (by decide) (by decide) (by kernel_rfl) rfl ?_)
 clear hs
 rintro bl gl hs hqe; replace le0 := G.le.trans le0 hqe
 obtain ⟨gz, hwz, hsz, hqz, rs0⟩ := hs.fzRow (α := UInt8) (xs := [c]) (i := 0) rfl (RcL.bytes _ [c])
 have hqe := hqz; rw [← hwz]; replace hs := hsz; clear hsz; replace le0 := G.le.trans le0 hqe
 have hs : St g0 gz (.obj b (.cells [.pointer (some ⟨b, 0, none⟩), v].toArray 59 (0, 0)) :: (Lr ++ L)) := hs
 obtain ⟨_, news, hnw, hsrc⟩ := Src.of_rs rs0
 obtain rfl := RcL.bytes_inv hnw
 obtain ⟨b', p', hbp, hcell⟩ := hsrc.2.resolve_left (by simp)
 have hcl : ∀ j u, (byteV [c])[j]? = some u → gz.w.cell? ((⟨bl, 0, none⟩ : Addr).add j) = some u := by
  intro j u hu
  have := hcell j u hu
  rw [Addr.add_lit]
  cases hbp
  exact this
 skip
 refine WL_o rfl rfl (OpR_appendBS T.ok rfl hb hs.in1 rfl rfl hcl (by simp) rfl rfl rfl rfl rfl rfl hl ?_)
 rintro v' Lr' g2 hb2 hs2 hqe; replace le0 := G.le.trans le0 hqe; replace rs0 := rs0.mono hqe
 obtain ⟨ao, no, co, rfl⟩ : ∃ ao no co, v' = .slice ao no co := by
  rcases hb2 with ⟨rfl, _⟩ | ⟨_, _, _, rfl, _⟩ <;> exact ⟨_, _, _, rfl⟩
 replace hs := hs2.out1
 refine P1 T.ok rfl rfl rfl ?_; refine P1 T.ok rfl rfl rfl ?_
 refine WL_n rfl (OpR_storeO T.ok 0 rfl hs rfl rfl rfl rfl rfl rfl rfl rfl rfl ?_); replace hs := hs; rintro g1 hs hqe; replace le0 := G.le.trans le0 hqe; replace rs0 := rs0.mono hqe
 refine WL_nil ?_; (with_reducible refine T_then ?_); refine W_seq ?_; refine W_region ?_; refine P1 T.ok rfl rfl rfl ?_; refine WL_nil ?_; (with_reducible refine T_then ?_)
 exact W_ret (ret1 rfl rfl (RetS.intro le0 ⟨_, Lr', hb2, hs⟩))

theorem join_lib (c : UInt8) : ∀ l : List (List UInt8), Lib.join l [c] = joinC c l
 | [] => rfl
 | [x] => by simp [Lib.join, joinC, List.intercalate]
 | x :: y :: r => by
  have ih := join_lib c (y :: r)
  unfold Lib.join at ih ⊢
  rw [show joinC c (x :: y :: r) = x ++ c :: joinC c (y :: r) from rfl, ← ih]
  simp [List.intercalate, List.intersperse]
theorem join_c (v : Value) (l : List (List UInt8)) (c : UInt8) (g : G) (hv : Rs g v (l.map Str.mk)) (hn : l.length ≤ 1000000) (hlen : (joinC c l).length ≤ 140737488355328) :
  CallsIn Wd 0 Tryz.prog 70 #[v, .string (bs [c])] g.w (Ret g fun _ r => r = .string (bs (joinC c l))) := by
 obtain ⟨a, cc, rfl⟩ := hv.isSlice
 have hcap := hv.cap_le
 rw [List.length_map] at hcap ⊢
 cases l with
 | nil =>
  refine ret_of_calls ((Tryz.strings_Join_none a cc (bs [c]) g.w).mono ?_) fun _ _ => rfl
  rintro e w' ⟨rfl, rfl⟩
  exact ⟨rfl, RowKit.Below.refl _ _⟩
 | cons x r =>
  obtain ⟨_, news, hnw, hsrc⟩ := Src.of_rs hv
  obtain ⟨b', p', rfl, hcell⟩ := hsrc.2.resolve_left (by simp)
  have hnw' : news = (x :: r).map fun s => Value.string (bs s) := by
   have h : ∀ (l : List (List UInt8)) (news : List Value), RcL g news (l.map Str.mk) → news = l.map fun s => Value.string (bs s) := by
    intro l
    induction l with
    | nil => intro news h; exact h
    | cons s l ih => rintro news ⟨c1, c2, e, h1, h2⟩; rw [e, show c1 = [Value.string (bs s)] from h1, ih c2 h2]; rfl
   exact h _ _ hnw
  have hj : Lib.join (((x :: r).map bs).map (·.data.toList)) (bs [c]).data.toList = joinC c (x :: r) := by
   rw [List.map_map, ← join_lib]
   congr 1
   conv => rhs; rw [← List.map_id (x :: r)]
   exact List.map_congr_left fun s _ => rfl
  have hopt : ∀ (o : Option (List UInt8)) {y : ByteArray}, o.map bs = some y → o.map (fun s => Value.string (bs s)) = some (.string y) := by
   intro o y h
   cases o with
   | none => cases h
   | some val => obtain rfl := Option.some.inj h; rfl
  have hcs := Tryz.strings_Join b' p' cc ((x :: r).map bs) (bs [c]) g.w (by
   intro j y hy
   have := hcell j (.string y) (by rw [hnw', List.getElem?_map]; rw [List.getElem?_map] at hy; exact hopt _ hy)
   exact this) (by
    have := hcell 0 (.string (bs x)) (by rw [hnw']; rfl)
    simp only [World.cell?] at this
    apply Classical.byContradiction
    intro hge
    rw [Array.getElem?_eq_none (by omega)] at this
    cases this) (by rw [List.length_map]; omega) (by rw [List.length_map]; exact hcap.2.1) (by rw [hj]; exact hlen)
  rw [List.length_map, hj] at hcs
  exact ret_of_calls hcs fun _ _ => rfl
end Go.Proofs.YtnggomfbgmlkhaaGreatDoor

/- Ranges and lists of numbers, as text. -/
namespace Go.Proofs.YtnggomfbgmlkhaaGreatDoor
open Go Go.K
set_option maxRecDepth 10000
attribute [local irreducible] W WL OpR bitAnd bitOr bitXor bitClr bitNot shlI shrI
set_option maxHeartbeats 2000000

theorem itoa_big {n : Int} (h : big n) : Lib.itoa n = decI n := by
 obtain ⟨m, rfl⟩ : ∃ m : Nat, n = m := ⟨n.toNat, by have := h.1; omega⟩
 rw [itoa_dec]; rfl
theorem itoaB_c (n : Int) (g : G) (hn : big n) (hF : FlAt g) : CallsIn Wd 0 Tryz.prog 23 #[.int .i64 n] g.w (Ret g fun _ r => r = .string (bs (decI n))) := by
 rw [← itoa_big hn]
 exact itoa_c n g ⟨by have := hn.1; omega, by have := hn.2; omega⟩ hF
theorem dots_c (a b : Int) (g : G) (ha : big a) (hb : big b) (hF : FlAt g) : CallsIn Wd 0 Tryz.prog 22 #[.int .i64 a, .int .i64 b] g.w (Ret g fun _ r => r = .string (bs (rangeM a b))) := by
 have hs := St.start g
 have le0 := G.le.refl g
 have l1 := decI_len ha
 have l2 := decI_len hb
 refine enter Tryz.func22 rfl Tryz.ntmps22 rfl ?_
 refine W_seq ?_; refine W_region ?_; refine P1 T.ok rfl rfl rfl ?_; refine WL_nil ?_; (with_reducible refine T_then ?_); refine W_seq ?_; refine W_region ?_; refine P1 T.ok rfl rfl rfl ?_
 refine WL_o rfl rfl (OpR_ret cl23 allF rfl rfl rfl rfl rfl (itoaB_c a _ ha hF) ?_); rintro g1 _ hf1 rfl; replace hs := hs.call hf1; have hqe := hf1.le; replace le0 := G.le.trans le0 hqe
 refine WL_o rfl rfl (OpR_addS (p := decI a) (q := [46, 46]) rfl rfl rfl (by simp only [List.length_cons, List.length_nil]; omega) ?_)
 refine P1 T.ok rfl rfl rfl ?_
 refine WL_o rfl rfl (OpR_ret cl23 allF rfl rfl rfl rfl rfl (itoaB_c b _ hb (hF.mono le0)) ?_); rintro g1 _ hf1 rfl; replace hs := hs.call hf1; have hqe := hf1.le; replace le0 := G.le.trans le0 hqe
 refine WL_o rfl rfl (OpR_addS (p := decI a ++ [46, 46]) (q := decI b) rfl rfl rfl (by simp only [List.length_append, List.length_cons, List.length_nil]; omega) ?_)
 refine P1 T.ok rfl rfl rfl ?_; refine WL_nil ?_; (with_reducible refine T_then ?_)
 refine W_ret ?_
 skip
 refine ret1 rfl rfl (hs.ret ?_)
 unfold rangeM
 simp
theorem numbers1_c (n : Int) (g : G) (hn : big n) (hF : FlAt g) : CallsIn Wd 0 Tryz.prog 51 #[.int .i64 n] g.w (Ret g fun _ r => r = .string (bs (decI n))) := by
 have hs := St.start g
 have le0 := G.le.refl g
 refine enter Tryz.func51 rfl Tryz.ntmps51 rfl ?_
 refine W_seq ?_; refine W_region ?_; refine P1 T.ok rfl rfl rfl ?_; refine WL_nil ?_; (with_reducible refine T_then ?_); refine W_seq ?_; refine W_region ?_; refine P1 T.ok rfl rfl rfl ?_
 refine WL_o rfl rfl (OpR_ret cl23 allF rfl rfl rfl rfl rfl (itoaB_c n _ hn hF) ?_); rintro g1 _ hf1 rfl; replace hs := hs.call hf1; have hqe := hf1.le; replace le0 := G.le.trans le0 hqe
 refine P1 T.ok rfl rfl rfl ?_; refine WL_nil ?_; (with_reducible refine T_then ?_)
 exact W_ret (ret1 rfl rfl (hs.ret rfl))
theorem joined_c (v : Value) (l : List Int) (g : G) (hl : Rs g v l) (hb : ∀ n ∈ l, big n) (hn : l.length ≤ 1000) (hF : FlAt g) :
  CallsIn Wd 0 Tryz.prog 50 #[v, .func (.func 51) #[] #[]] g.w (Ret g fun _ r => r = .string (bs (joinC 44 (l.map decI)))) := by
 obtain ⟨pa, pc, rfl⟩ := hl.isSlice
 have hs := St.start g
 refine enter Tryz.func50 rfl Tryz.ntmps50 rfl ?_
 replace hs := hs.nilrow 9 1 none
 refine W_seq ?_; refine W_region ?_; refine P1 T.ok rfl rfl rfl ?_; refine WL_nil ?_; (with_reducible refine T_then ?_); refine W_seq ?_; refine W_region ?_; refine P1 T.ok rfl rfl rfl ?_; refine WL_nil ?_; (with_reducible refine T_then ?_); refine W_seq ?_; refine W_seq ?_; refine W_region ?_; (iterate 3 refine P1 T.ok rfl rfl rfl ?_); refine WL_nil ?_; (with_reducible refine T_then ?_); refine W_block ?_
 refine W_loop (fun m a' w => ∃ (k : Nat) (ra : Option Addr) (rc : Nat) (g' : G), w = g'.w ∧ St g g' [.row 9 1 (.slice ra k rc) k ((l.take k).map fun n => Value.string (bs (decI n)))] ∧ G.le g g' ∧ k ≤ l.length ∧ m = l.length - k ∧
  Fr 23 [] [(1, .func (.func 51) #[] #[]), (5, .slice ra k rc), (8, .slice pa l.length pc), (9, .int .i64 l.length), (10, .int .i64 k)] a') l.length (fun a' ha => ⟨0, none, 0, g, rfl, hs, G.le.refl _, Nat.zero_le _, rfl, ha.keep (by (repeat (first | exact trivial | refine ⟨rfl, ?_⟩)))⟩) ?_
 clear hs
 rintro m a' _ ⟨k, ra, rc, g', rfl, hs, le0, hk, rfl, ha'⟩
 have rs0 := hl.mono le0
 revert a'
 (with_reducible refine T_wp ?_); refine W_seq ?_; refine W_region ?_; refine P1 T.ok rfl rfl rfl ?_; refine WL_nil ?_; (with_reducible refine T_then ?_); refine W_seq ?_
 by_cases hlt : k < l.length
 ·refine W_yes (b := decide ((k : Int) < (l.length : Int))) (by simp; omega) rfl ?_
  refine W_skip ?_; (with_reducible refine T_then ?_); refine W_seq ?_; refine W_block ?_; refine W_seq ?_; refine W_region ?_
  refine WL_o rfl rfl (OpR_idx T.ok rfl rs0 (y := l[k]) (by simp [geti, hlt]) rfl rfl rfl rfl rfl rfl ?_)
  rintro b p ys hep rfl
  refine WL_o rfl rfl (OpR_loadE T.ok 0 rfl hep rfl rfl ?_)
  refine P1 T.ok rfl rfl rfl ?_; refine WL_nil ?_; (with_reducible refine T_then ?_); refine W_region ?_; (iterate 3 refine P1 T.ok rfl rfl rfl ?_)
  refine WL_o rfl rfl (OpR_ret cl51 allF rfl rfl rfl rfl rfl (numbers1_c l[k] _ (hb _ (List.getElem_mem hlt)) (hF.mono le0)) ?_); rintro g1 _ hf1 rfl; replace hs := hs.call hf1; have hqe := hf1.le; replace le0 := G.le.trans le0 hqe; replace rs0 := rs0.mono hqe
  refine WL_o rfl rfl (OpR_lit T.ok rfl hs (vs := [(0, .string (bs (decI l[k])))]) (cells := [.string (bs (decI l[k]))]) rfl rfl rfl rfl rfl rfl (by decide) (by decide) (by kernel_rfl) rfl ?_); rintro bl2 gl2 hs hqe; replace le0 := le0.trans hqe
  skip
  refine WL_o rfl rfl (OpR_append T.ok 1 rfl hs rfl rfl rfl rfl rfl rfl rfl (by decide) rfl (Src.of_row (hs.own 0 _ rfl).1).2 (by simp [Value.oneCell']) (by show (k + 1) * 16 ≤ _; omega) (by unfold maxLen; show k + 1 ≤ _; omega) ?_); rintro a9 c9 g9 hs hqe; replace le0 := le0.trans hqe
  replace hs := hs.drop 0
  refine P1 T.ok rfl rfl rfl ?_; refine WL_nil ?_; (with_reducible refine T_bn ?_); (with_reducible refine T_then ?_); refine W_region ?_; refine P1 T.ok rfl rfl rfl ?_; refine P1 T.ok rfl rfl rfl ?_; refine WL_nil ?_
  refine fun a ha => ⟨l.length - (k + 1), by omega, k + 1, a9, c9, g9, rfl, ?_, le0, by omega, rfl, ha.keep ⟨rfl, rfl, rfl, rfl, kI rfl (by rw [wr (by omega) (by omega)]; omega), trivial⟩⟩
  rw [List.take_add_one, List.getElem?_eq_getElem hlt, List.map_append]
  exact hs
 ·refine W_no (b := decide ((k : Int) < (l.length : Int))) (by simp; omega) rfl ?_
  obtain rfl : k = l.length := by omega
  rw [List.take_length] at hs
  have e1 : (l.map fun n => Value.string (bs (decI n))) = (l.map decI).map fun s => Value.string (bs s) := by rw [List.map_map]; rfl
  rw [e1] at hs
  obtain ⟨gy, hwy, hsy, hqy, hrl⟩ := hs.fzRow (α := Str) (xs := (l.map decI).map Str.mk) (i := 0) rfl (RcL.strs _ _)
  replace hs := hsy
  replace le0 := le0.trans hqy
  rw [← hwy]
  have hbd := joinC_len' (c := 44) (l := l.map decI) (k := 7) fun x hx => by obtain ⟨n, hn, rfl⟩ := List.mem_map.1 hx; exact decI_len (hb n hn)
  rw [List.length_map] at hbd
  refine W_exit ?_; (with_reducible refine T_tx ?_; with_reducible refine T_tx ?_); (with_reducible refine T_bx ?_); (with_reducible refine T_then ?_); refine W_seq ?_; refine W_region ?_; refine P1 T.ok rfl rfl rfl ?_
  refine WL_o rfl rfl (OpR_ret cl70 allF rfl rfl rfl rfl rfl (join_c _ (l.map decI) 44 _ hrl (by rw [List.length_map]; omega) (by omega)) ?_); rintro g1 _ hf1 rfl; replace hs := hs.call hf1; have hqe := hf1.le; replace le0 := G.le.trans le0 hqe
  refine P1 T.ok rfl rfl rfl ?_; refine WL_nil ?_; (with_reducible refine T_then ?_)
  refine W_ret ?_
  skip
  exact ret1 rfl rfl (hs.ret rfl)
theorem numbers_c (v : Value) (l : List Int) (g : G) (hl : Rs g v l) (hb : ∀ n ∈ l, big n) (hn : l.length ≤ 1000) (hF : FlAt g) :
  CallsIn Wd 0 Tryz.prog 24 #[v] g.w (Ret g fun _ r => r = .string (bs (numsM l))) := by
 have hl' := hl
 obtain ⟨pa, pc, rfl⟩ := hl.isSlice
 have hs := St.start g
 have le0 := G.le.refl g
 refine enter Tryz.func24 rfl Tryz.ntmps24 rfl ?_
 refine W_seq ?_; refine W_region ?_; refine P1 T.ok rfl rfl rfl ?_; refine WL_nil ?_; (with_reducible refine T_then ?_); refine W_seq ?_; refine W_seq ?_; refine W_region ?_; (iterate 3 refine P1 T.ok rfl rfl rfl ?_); refine WL_nil ?_; (with_reducible refine T_then ?_)
 by_cases h0 : l = []
 ·refine W_yes (b := _) ?_ rfl ?_
  ·subst h0; rfl
  refine W_seq ?_; refine W_region ?_; refine P1 T.ok rfl rfl rfl ?_; refine WL_nil ?_; (with_reducible refine T_then ?_)
  refine W_ret ?_
  (with_reducible refine T_tr ?_)
  refine ret1 rfl rfl (hs.ret ?_)
  unfold numsM; rw [if_pos h0]; rfl
 ·refine W_no (b := _) ?_ rfl ?_
  ·simp [h0]
  refine W_skip ?_; (with_reducible refine T_then ?_); refine W_seq ?_; refine W_region ?_; refine P1 T.ok rfl rfl rfl ?_
  refine WL_o rfl rfl (OpR_ret cl50 allF rfl rfl rfl rfl rfl (joined_c _ l _ hl' hb hn hF) ?_); rintro g1 _ hf1 rfl; replace hs := hs.call hf1; have hqe := hf1.le; replace le0 := G.le.trans le0 hqe
  refine P1 T.ok rfl rfl rfl ?_; refine WL_nil ?_; (with_reducible refine T_then ?_)
  refine W_ret ?_
  skip
  refine ret1 rfl rfl (hs.ret ?_)
  unfold numsM; rw [if_neg h0]
end Go.Proofs.YtnggomfbgmlkhaaGreatDoor

/- Print. -/
namespace Go.Proofs.YtnggomfbgmlkhaaGreatDoor
open Go Go.K
set_option maxRecDepth 10000
attribute [local irreducible] W WL OpR bitAnd bitOr bitXor bitClr bitNot shlI shrI
set_option maxHeartbeats 4000000

theorem stepsT_snoc (s : Step) : ∀ (l : List Step) (j : Nat), stepsT j (l ++ [s]) = stepsT j l ++ (stepLine (j + l.length) s ++ [10])
 | [], j => by simp [stepsT]
 | x :: l, j => by
  rw [List.cons_append]
  simp only [stepsT]
  rw [stepsT_snoc s l (j + 1), List.length_cons, show j + 1 + l.length = j + (l.length + 1) from by omega]
  simp
theorem winsT_snoc (w : Window) : ∀ l : List Window, winsT (l ++ [w]) = winsT l ++ (windowLine w ++ [10])
 | [] => by simp [winsT]
 | x :: l => by
  rw [List.cons_append]
  simp only [winsT]
  rw [winsT_snoc w l]
  simp
def bdO (b : Nat) (v : Value) (Lr : List Ent) : List Ent := .obj b (.cells [.pointer (some ⟨b, 0, none⟩), v].toArray 59 (0, 0)) :: (Lr ++ [])


def printRes (f : Flow) : Value := if valid f = true then .tuple #[.string (bs (printM f)), .int .i64 0] else .tuple #[.string (bs []), .int .i64 40]
theorem print_c (v : Value) (f : Flow) (g : G) (fl0 : RFlow g v f) (hF : FlAt g) : CallsIn Wd 0 Tryz.prog 6 #[v] g.w (Ret g fun _ r => r = printRes f) := by
 obtain ⟨a1, n1, c1, a2, n2, c2, rfl, rs0, rs1⟩ := id fl0
 obtain ⟨_, _, e⟩ := rs0.isSlice; obtain ⟨rfl, rfl, rfl⟩ := Value.slice.inj e; clear e
 obtain ⟨_, _, e⟩ := rs1.isSlice; obtain ⟨rfl, rfl, rfl⟩ := Value.slice.inj e; clear e
 have hs := St.start g
 have le0 := G.le.refl g
 refine enter Tryz.func6 rfl Tryz.ntmps6 rfl ?_
 refine W_seq ?_; refine W_region ?_
 refine WL_o rfl rfl (OpR_box rfl hs rfl rfl ?_); clear hs; rintro bx g1 hs hqe; replace le0 := G.le.trans le0 hqe; replace rs0 := rs0.mono hqe; replace rs1 := rs1.mono hqe; replace fl0 := fl0.mono hqe
 obtain ⟨g2, hw2, hs2, hqe, hep⟩ := hs.fzObj (i := 0) rfl; replace hs := hs2; clear hs2; rw [← hw2]; replace le0 := G.le.trans le0 hqe; replace rs0 := rs0.mono hqe; replace rs1 := rs1.mono hqe; replace fl0 := fl0.mono hqe
 have ep0 := hep
 clear hep hw2 hqe
 refine P1 T.ok rfl rfl rfl ?_; refine P1 T.ok rfl rfl rfl ?_; refine WL_nil ?_; (with_reducible refine T_then ?_); refine W_seq ?_; refine W_seq ?_; refine W_region ?_; refine WL_o rfl rfl (OpR_loadE T.ok 0 rfl ep0 rfl rfl ?_)
 refine WL_o rfl rfl (OpR_ret cl20 allF rfl rfl rfl rfl rfl (valid_c _ f _ fl0) ?_); rintro g1 _ hf1 rfl; replace hs := hs.call hf1; have hqe := hf1.le; replace le0 := G.le.trans le0 hqe; replace ep0 := ep0.mono hqe; replace rs0 := rs0.mono hqe; replace rs1 := rs1.mono hqe; replace fl0 := fl0.mono hqe
 refine P1 T.ok rfl rfl rfl ?_; refine WL_nil ?_; (with_reducible refine T_then ?_)
 cases hv : valid f with
 | false =>
  refine W_yes rfl rfl ?_
  refine W_seq ?_; refine W_region ?_; refine P1 T.ok rfl rfl rfl ?_; refine P1 T.ok rfl rfl rfl ?_; refine WL_nil ?_; (with_reducible refine T_then ?_)
  refine W_ret ?_
  (with_reducible refine T_tr ?_)
  refine ret2 rfl rfl rfl (hs.ret ?_)
  unfold printRes; rw [if_neg (by rw [hv]; simp)]; rfl
 | true =>
 refine W_no rfl rfl ?_
 have hB := valid_N hv
 have lm := rangeM_len hB.min hB.max
 refine W_skip ?_; (with_reducible refine T_then ?_); refine W_seq ?_; refine W_region ?_
 refine WL_o rfl rfl (OpR_alloc T.ok rfl hs rfl rfl ?_); clear hs; rintro bb g1 hs hqe; replace le0 := G.le.trans le0 hqe; replace ep0 := ep0.mono hqe; replace rs0 := rs0.mono hqe; replace rs1 := rs1.mono hqe; replace fl0 := fl0.mono hqe
 refine WL_nil ?_; (with_reducible refine T_then ?_); refine W_seq ?_; refine W_region ?_; refine P1 T.ok rfl rfl rfl ?_; refine WL_o rfl rfl (OpR_loadE T.ok 0 rfl ep0 rfl rfl ?_); refine P1 T.ok rfl rfl rfl ?_; refine WL_o rfl rfl (OpR_loadE T.ok 1 rfl ep0 rfl rfl ?_)
 refine WL_o rfl rfl (OpR_ret cl22 allF rfl rfl rfl rfl rfl (dots_c f.moveMin f.moveMax _ hB.min hB.max (hF.mono le0)) ?_); rintro g1 _ hf1 rfl; replace hs := hs.call hf1; have hqe := hf1.le; replace le0 := G.le.trans le0 hqe; replace ep0 := ep0.mono hqe; replace rs0 := rs0.mono hqe; replace rs1 := rs1.mono hqe; replace fl0 := fl0.mono hqe
 refine WL_o rfl rfl (OpR_addS (p := tMove) (q := rangeM f.moveMin f.moveMax) rfl rfl rfl (by show 5 + _ ≤ _; omega) ?_)
 refine WL_o rfl rfl (OpR_addS (p := tMove ++ rangeM f.moveMin f.moveMax) (q := [10]) rfl rfl rfl (by rw [List.length_append]; show 5 + _ + 1 ≤ _; omega) ?_)
 refine WL_o rfl rfl (OpR_st cl21 allF rfl rfl rfl rfl rfl (wstr_c (xs := []) (Lr := []) (L := []) (.inl rfl) (BdRow.nil _) (tMove ++ rangeM f.moveMin f.moveMax ++ [10]) (by simp only [List.length_append, List.length_nil]; show 0 + (5 + _ + 1) ≤ _; omega) hs) ?_)
 clear hs
 rintro g3 _ hqe ⟨bv, Lr, hbd, hs⟩; replace le0 := G.le.trans le0 hqe; replace ep0 := ep0.mono hqe; replace rs0 := rs0.mono hqe; replace rs1 := rs1.mono hqe; replace fl0 := fl0.mono hqe
 have hM : [] ++ (tMove ++ rangeM f.moveMin f.moveMax ++ [10]) = moveLine f.moveMin f.moveMax ++ [10] := by rw [moveLine_eq]; rfl
 rw [hM] at hbd
 clear hM
 have hml := moveLine_len hB.min hB.max
 generalize hT0 : moveLine f.moveMin f.moveMax ++ [10] = tx0 at *
 have ht0 : tx0.length ≤ 101 := by rw [← hT0, List.length_append]; simp only [List.length_cons, List.length_nil]; omega
 have hF3 := hF.mono le0
 have ep0f := ep0; have rs0f := rs0; have rs1f := rs1; have lef := le0
 clear ep0 rs0 rs1 le0
 have hn40 := hB.n40
 have hw20 := hB.w20
 have ep0 := ep0f
 refine WL_nil ?_; (with_reducible refine T_then ?_); refine W_seq ?_; refine W_seq ?_; refine W_region ?_; refine P1 T.ok rfl rfl rfl ?_; refine WL_o rfl rfl (OpR_loadE T.ok 2 rfl ep0 rfl rfl ?_); refine P1 T.ok rfl rfl rfl ?_; refine P1 T.ok rfl rfl rfl ?_; refine WL_nil ?_; (with_reducible refine T_then ?_); refine W_block ?_
 refine W_loop (fun m a' w => ∃ (k : Nat) (bv : Value) (Lr : List Ent) (g' : G), w = g'.w ∧ St g g' (bdO bb bv Lr) ∧ BdRow 5 bv (tx0 ++ stepsT 0 (f.steps.take k)) Lr ∧ G.le g3 g' ∧ k ≤ f.steps.length ∧ m = f.steps.length - k ∧
  Fr 94 [] [(1, .pointer (some ⟨bx, 0, none⟩)), (4, .pointer (some ⟨bb, 0, none⟩)), (21, .slice a1 f.steps.length c1), (22, .int .i64 f.steps.length), (23, .int .i64 k)] a') f.steps.length (fun a' ha => ⟨0, bv, Lr, g3, rfl, hs, by rw [List.take_zero]; simp only [stepsT, List.append_nil]; exact hbd, G.le.refl _, Nat.zero_le _, rfl, ha.keep (by (repeat (first | exact trivial | refine ⟨rfl, ?_⟩)))⟩) ?_
 clear hs hbd
 rintro m a' _ ⟨k, bv, Lr, g', rfl, hs, hbd, lez, hk, rfl, ha'⟩
 have ep0 := ep0f.mono lez; have rs0 := rs0f.mono lez; have rs1 := rs1f.mono lez; have le0 := lef.trans lez
 have le9 := lez
 clear lez
 have hlt0 := stepsT_len (l := f.steps.take k) (k := 0) (by rw [List.length_take]; omega) fun s hs => hB.steps s (List.mem_of_mem_take hs)
 rw [List.length_take] at hlt0
 unfold bdO at hs
 revert a'
 (with_reducible refine T_wp ?_); refine W_seq ?_; refine W_region ?_; refine P1 T.ok rfl rfl rfl ?_; refine WL_nil ?_; (with_reducible refine T_then ?_); refine W_seq ?_
 by_cases hlt : k < f.steps.length
 ·refine W_yes (b := decide ((k : Int) < (f.steps.length : Int))) (by simp; omega) rfl ?_
  have hsB := hB.steps _ (List.getElem_mem hlt)
  have htk : stepsT 0 (f.steps.take (k + 1)) = stepsT 0 (f.steps.take k) ++ (stepLine k f.steps[k] ++ [10]) := by
   rw [List.take_add_one, List.getElem?_eq_getElem hlt]
   show stepsT 0 (f.steps.take k ++ [f.steps[k]]) = _
   rw [stepsT_snoc, List.length_take, show 0 + min k f.steps.length = k from by omega]
  have hgi : geti f.steps (k : Int) = some f.steps[k] := by simp [geti, hlt]
  generalize f.steps[k] = s at *
  refine W_skip ?_; (with_reducible refine T_then ?_); refine W_seq ?_; refine W_block ?_; refine W_seq ?_; refine W_region ?_; refine P1 T.ok rfl rfl rfl ?_
  refine WL_o rfl rfl (OpR_idx T.ok rfl rs0 (y := s) hgi rfl rfl rfl rfl rfl rfl ?_)
  rintro bq pq ys hep ⟨ta, tn, tc, na, nn, nc, rfl, rs2, rs3⟩
  obtain ⟨_, _, e⟩ := rs2.isSlice; obtain ⟨rfl, rfl, rfl⟩ := Value.slice.inj e; clear e
  obtain ⟨_, _, e⟩ := rs3.isSlice; obtain ⟨rfl, rfl, rfl⟩ := Value.slice.inj e; clear e
  refine WL_o rfl rfl (OpR_loadE T.ok 0 rfl hep rfl rfl ?_)
  skip
  refine WL_o rfl rfl (OpR_alloc T.ok rfl hs rfl rfl ?_); clear hs; rintro bs6 g1 hs hqe; replace le0 := G.le.trans le0 hqe; replace le9 := G.le.trans le9 hqe; replace ep0 := ep0.mono hqe; replace rs0 := rs0.mono hqe; replace rs1 := rs1.mono hqe; replace rs2 := rs2.mono hqe; replace rs3 := rs3.mono hqe
  refine P1 T.ok rfl rfl rfl ?_
  refine WL_n rfl (OpR_storeO T.ok 0 rfl hs rfl rfl rfl rfl rfl rfl rfl rfl rfl ?_); replace hs := hs; rintro g1 hs hqe; replace le0 := G.le.trans le0 hqe; replace le9 := G.le.trans le9 hqe; replace ep0 := ep0.mono hqe; replace rs0 := rs0.mono hqe; replace rs1 := rs1.mono hqe; replace rs2 := rs2.mono hqe; replace rs3 := rs3.mono hqe
  obtain ⟨g2, hw2, hs2, hqe, hep⟩ := hs.fzObj (i := 0) rfl; replace hs := hs2; clear hs2; rw [← hw2]; replace le0 := G.le.trans le0 hqe; replace le9 := G.le.trans le9 hqe; replace ep0 := ep0.mono hqe; replace rs0 := rs0.mono hqe; replace rs1 := rs1.mono hqe; replace rs2 := rs2.mono hqe; replace rs3 := rs3.mono hqe
  have ep1 : EP g2 bs6 0 [.int .i64 s.recipe, .slice ta s.tools.length tc, .int .i64 s.min, .int .i64 s.max, .slice na s.next.length nc, .int .i64 s.back, .int .i64 s.limit] := hep
  clear hep hw2 hqe
  replace hs : St g g2 (.obj bb (.cells [.pointer (some ⟨bb, 0, none⟩), bv].toArray 59 (0, 0)) :: (Lr ++ [])) := hs
  have hkb : big (k : Int) := ⟨by omega, by omega⟩
  have l1 := decI_len hkb
  have l2 := decI_len hsB.n.recipe
  have l3 := numsM_len hsB.n.toolsN
  have l4 := numsM_len hsB.n.next
  have l5 := rangeM_len hsB.n.min hsB.n.max
  have := hsB.tools; have := hsB.next
  have q1 : tStep.length = 5 := rfl
  have q2 : tRecipe.length = 8 := rfl
  have q3 : tTools.length = 7 := rfl
  have q4 : tTime.length = 6 := rfl
  have q5 : tNext.length = 6 := rfl
  have q6 : tBack.length = 6 := rfl
  have q7 : tLimit.length = 7 := rfl
  refine WL_nil ?_; (with_reducible refine T_then ?_); refine W_seq ?_
  apply W_draw allF rfl (Fact.eq _ :: Fact.eq _ :: Fact.eq _ :: Fact.eq _ :: Fact.eq _ :: Fact.eq _ :: Fact.eq _ :: Fact.eq _ :: Fact.eq _ :: Fact.eq _ :: Fact.eq _ :: Fact.eq _ :: Fact.eq _ :: Fact.eq _ :: Fact.eq _ :: Fact.eq _ :: Fact.eq _ :: Fact.eq _ :: Fact.eq _ :: Fact.eq _ :: Fact.eq _ :: Fact.eq _ :: Fact.eq _ :: Fact.eq _ :: Fact.eq _ :: []) 25 [(24, 52)] rfl rfl
  ·refine D_s (js := []) (by kernel_rfl) (fun _ _ => QA_nil (DPu T.ok rfl rfl rfl)) ?_
   refine D_cons (D_step2 (js := [(0, 28)]) (by kernel_rfl) fun gd hf => ?_) ?_
   ·have hsd := hs.dr.call hf; have hfe := (G.le_dr _).trans hf.le
    refine QA_eq rfl ?_
    refine QA_nil ?_
    refine D_yes rfl ?_
    refine OpR_ret cl23 allF rfl rfl rfl rfl rfl (itoaB_c k _ hkb (hF3.mono (le9.trans hfe))) fun g' v h1 h2 => ⟨g', rfl, h1, ?_⟩
    exact h2
   refine D_cons (D_step2 (js := [(1, 29)]) (by kernel_rfl) fun gd hf => ?_) ?_
   ·have hsd := hs.dr.call hf; have hfe := (G.le_dr _).trans hf.le
    refine QA_eq rfl ?_
    refine QA_nil ?_
    refine D_yes rfl ?_
    refine OpR_addS (p := tStep) (q := decI k) rfl rfl rfl (by (try simp only [List.length_append, List.length_cons, List.length_nil]); omega) ?_
    exact ⟨_, rfl, Fr0.refl _, rfl⟩
   refine D_cons (D_step2 (js := [(2, 30)]) (by kernel_rfl) fun gd hf => ?_) ?_
   ·have hsd := hs.dr.call hf; have hfe := (G.le_dr _).trans hf.le
    refine QA_eq rfl ?_
    refine QA_nil ?_
    refine D_yes rfl ?_
    refine OpR_addS (p := tStep ++ decI k) (q := tRecipe) rfl rfl rfl (by (try simp only [List.length_append, List.length_cons, List.length_nil]); omega) ?_
    exact ⟨_, rfl, Fr0.refl _, rfl⟩
   refine D_s (js := []) (by kernel_rfl) (fun _ _ => QA_nil (DPu T.ok rfl rfl rfl)) ?_
   refine D_s (js := [(4, 32)]) (by kernel_rfl) (fun _ hf => QA_eq rfl (QA_nil (DLe T.ok 0 rfl rfl (ep1.mono ((G.le_dr _).trans hf.le)) rfl rfl rfl))) ?_
   refine D_cons (D_step2 (js := [(5, 33)]) (by kernel_rfl) fun gd hf => ?_) ?_
   ·have hsd := hs.dr.call hf; have hfe := (G.le_dr _).trans hf.le
    refine QA_eq rfl ?_
    refine QA_nil ?_
    refine D_yes rfl ?_
    refine OpR_ret cl23 allF rfl rfl rfl rfl rfl (itoaB_c s.recipe _ hsB.n.recipe (hF3.mono (le9.trans hfe))) fun g' v h1 h2 => ⟨g', rfl, h1, ?_⟩
    exact h2
   refine D_cons (D_step2 (js := [(3, 31), (6, 34)]) (by kernel_rfl) fun gd hf => ?_) ?_
   ·have hsd := hs.dr.call hf; have hfe := (G.le_dr _).trans hf.le
    refine QA_eq rfl ?_; refine QA_eq rfl ?_
    refine QA_nil ?_
    refine D_yes rfl ?_
    refine OpR_addS (p := tStep ++ decI k ++ tRecipe) (q := decI s.recipe) rfl rfl rfl (by (try simp only [List.length_append, List.length_cons, List.length_nil]); omega) ?_
    exact ⟨_, rfl, Fr0.refl _, rfl⟩
   refine D_cons (D_step2 (js := [(7, 35)]) (by kernel_rfl) fun gd hf => ?_) ?_
   ·have hsd := hs.dr.call hf; have hfe := (G.le_dr _).trans hf.le
    refine QA_eq rfl ?_
    refine QA_nil ?_
    refine D_yes rfl ?_
    refine OpR_addS (p := tStep ++ decI k ++ tRecipe ++ decI s.recipe) (q := tTools) rfl rfl rfl (by (try simp only [List.length_append, List.length_cons, List.length_nil]); omega) ?_
    exact ⟨_, rfl, Fr0.refl _, rfl⟩
   refine D_s (js := []) (by kernel_rfl) (fun _ _ => QA_nil (DPu T.ok rfl rfl rfl)) ?_
   refine D_s (js := [(9, 37)]) (by kernel_rfl) (fun _ hf => QA_eq rfl (QA_nil (DLe T.ok 1 rfl rfl (ep1.mono ((G.le_dr _).trans hf.le)) rfl rfl rfl))) ?_
   refine D_cons (D_step2 (js := [(10, 38)]) (by kernel_rfl) fun gd hf => ?_) ?_
   ·have hsd := hs.dr.call hf; have hfe := (G.le_dr _).trans hf.le
    refine QA_eq rfl ?_
    refine QA_nil ?_
    refine D_yes rfl ?_
    refine OpR_ret cl24 allF rfl rfl rfl rfl rfl (numbers_c _ s.tools _ (rs2.mono hfe) hsB.n.toolsN (by omega) (hF3.mono (le9.trans hfe))) fun g' v h1 h2 => ⟨g', rfl, h1, ?_⟩
    exact h2
   refine D_cons (D_step2 (js := [(8, 36), (11, 39)]) (by kernel_rfl) fun gd hf => ?_) ?_
   ·have hsd := hs.dr.call hf; have hfe := (G.le_dr _).trans hf.le
    refine QA_eq rfl ?_; refine QA_eq rfl ?_
    refine QA_nil ?_
    refine D_yes rfl ?_
    refine OpR_addS (p := tStep ++ decI k ++ tRecipe ++ decI s.recipe ++ tTools) (q := numsM s.tools) rfl rfl rfl (by (try simp only [List.length_append, List.length_cons, List.length_nil]); omega) ?_
    exact ⟨_, rfl, Fr0.refl _, rfl⟩
   refine D_cons (D_step2 (js := [(12, 40)]) (by kernel_rfl) fun gd hf => ?_) ?_
   ·have hsd := hs.dr.call hf; have hfe := (G.le_dr _).trans hf.le
    refine QA_eq rfl ?_
    refine QA_nil ?_
    refine D_yes rfl ?_
    refine OpR_addS (p := tStep ++ decI k ++ tRecipe ++ decI s.recipe ++ tTools ++ numsM s.tools) (q := tTime) rfl rfl rfl (by (try simp only [List.length_append, List.length_cons, List.length_nil]); omega) ?_
    exact ⟨_, rfl, Fr0.refl _, rfl⟩
   refine D_s (js := []) (by kernel_rfl) (fun _ _ => QA_nil (DPu T.ok rfl rfl rfl)) ?_
   refine D_s (js := [(14, 42)]) (by kernel_rfl) (fun _ hf => QA_eq rfl (QA_nil (DLe T.ok 2 rfl rfl (ep1.mono ((G.le_dr _).trans hf.le)) rfl rfl rfl))) ?_
   refine D_s (js := []) (by kernel_rfl) (fun _ _ => QA_nil (DPu T.ok rfl rfl rfl)) ?_
   refine D_s (js := [(16, 44)]) (by kernel_rfl) (fun _ hf => QA_eq rfl (QA_nil (DLe T.ok 3 rfl rfl (ep1.mono ((G.le_dr _).trans hf.le)) rfl rfl rfl))) ?_
   refine D_cons (D_step2 (js := [(15, 43), (17, 45)]) (by kernel_rfl) fun gd hf => ?_) ?_
   ·have hsd := hs.dr.call hf; have hfe := (G.le_dr _).trans hf.le
    refine QA_eq rfl ?_; refine QA_eq rfl ?_
    refine QA_nil ?_
    refine D_yes rfl ?_
    refine OpR_ret cl22 allF rfl rfl rfl rfl rfl (dots_c s.min s.max _ hsB.n.min hsB.n.max (hF3.mono (le9.trans hfe))) fun g' v h1 h2 => ⟨g', rfl, h1, ?_⟩
    exact h2
   refine D_cons (D_step2 (js := [(13, 41), (18, 46)]) (by kernel_rfl) fun gd hf => ?_) ?_
   ·have hsd := hs.dr.call hf; have hfe := (G.le_dr _).trans hf.le
    refine QA_eq rfl ?_; refine QA_eq rfl ?_
    refine QA_nil ?_
    refine D_yes rfl ?_
    refine OpR_addS (p := tStep ++ decI k ++ tRecipe ++ decI s.recipe ++ tTools ++ numsM s.tools ++ tTime) (q := rangeM s.min s.max) rfl rfl rfl (by (try simp only [List.length_append, List.length_cons, List.length_nil]); omega) ?_
    exact ⟨_, rfl, Fr0.refl _, rfl⟩
   refine D_cons (D_step2 (js := [(19, 47)]) (by kernel_rfl) fun gd hf => ?_) ?_
   ·have hsd := hs.dr.call hf; have hfe := (G.le_dr _).trans hf.le
    refine QA_eq rfl ?_
    refine QA_nil ?_
    refine D_yes rfl ?_
    refine OpR_addS (p := tStep ++ decI k ++ tRecipe ++ decI s.recipe ++ tTools ++ numsM s.tools ++ tTime ++ rangeM s.min s.max) (q := tNext) rfl rfl rfl (by (try simp only [List.length_append, List.length_cons, List.length_nil]); omega) ?_
    exact ⟨_, rfl, Fr0.refl _, rfl⟩
   refine D_s (js := []) (by kernel_rfl) (fun _ _ => QA_nil (DPu T.ok rfl rfl rfl)) ?_
   refine D_s (js := [(21, 49)]) (by kernel_rfl) (fun _ hf => QA_eq rfl (QA_nil (DLe T.ok 4 rfl rfl (ep1.mono ((G.le_dr _).trans hf.le)) rfl rfl rfl))) ?_
   refine D_cons (D_step2 (js := [(22, 50)]) (by kernel_rfl) fun gd hf => ?_) ?_
   ·have hsd := hs.dr.call hf; have hfe := (G.le_dr _).trans hf.le
    refine QA_eq rfl ?_
    refine QA_nil ?_
    refine D_yes rfl ?_
    refine OpR_ret cl24 allF rfl rfl rfl rfl rfl (numbers_c _ s.next _ (rs3.mono hfe) hsB.n.next (by omega) (hF3.mono (le9.trans hfe))) fun g' v h1 h2 => ⟨g', rfl, h1, ?_⟩
    exact h2
   refine D_cons (D_step2 (js := [(20, 48), (23, 51)]) (by kernel_rfl) fun gd hf => ?_) ?_
   ·have hsd := hs.dr.call hf; have hfe := (G.le_dr _).trans hf.le
    refine QA_eq rfl ?_; refine QA_eq rfl ?_
    refine QA_nil ?_
    refine D_yes rfl ?_
    refine OpR_addS (p := tStep ++ decI k ++ tRecipe ++ decI s.recipe ++ tTools ++ numsM s.tools ++ tTime ++ rangeM s.min s.max ++ tNext) (q := numsM s.next) rfl rfl rfl (by (try simp only [List.length_append, List.length_cons, List.length_nil]); omega) ?_
    exact ⟨_, rfl, Fr0.refl _, rfl⟩
   exact D_nil
  intro g1 hf1; refine QA_eq rfl ?_; refine QA_nil ?_
  replace hs := hs.dr.call hf1; have hqe := (G.le_dr _).trans hf1.le; replace le0 := G.le.trans le0 hqe; replace le9 := G.le.trans le9 hqe; replace ep0 := ep0.mono hqe; replace ep1 := ep1.mono hqe; replace rs0 := rs0.mono hqe; replace rs1 := rs1.mono hqe; replace rs2 := rs2.mono hqe; replace rs3 := rs3.mono hqe
  have hhl := headT_len (i := k) (by omega) hsB
  have htl := tailT_len hsB
  refine WL_o rfl rfl (OpR_st cl21 allF rfl rfl rfl rfl rfl (wstr_c (L := []) (.inr rfl) hbd (headT k s) (by simp only [List.length_append]; omega) hs) ?_)
  clear hs hbd
  rintro g4 _ hqe ⟨bv, Lr, hbd, hs⟩; replace le0 := G.le.trans le0 hqe; replace le9 := G.le.trans le9 hqe; replace ep0 := ep0.mono hqe; replace ep1 := ep1.mono hqe; replace rs0 := rs0.mono hqe; replace rs1 := rs1.mono hqe; replace rs2 := rs2.mono hqe; replace rs3 := rs3.mono hqe
  refine WL_nil ?_; (with_reducible refine T_then ?_); refine W_seq ?_; refine W_seq ?_; refine W_region ?_; refine P1 T.ok rfl rfl rfl ?_; refine WL_o rfl rfl (OpR_loadE T.ok 5 rfl ep1 rfl rfl ?_); refine P1 T.ok rfl rfl rfl ?_; refine WL_nil ?_; (with_reducible refine T_then ?_)
  refine W_mid (fun a' w => ∃ (bv : Value) (Lr : List Ent) (g' : G), w = g'.w ∧ St g g' (bdO bb bv Lr) ∧ BdRow 5 bv (tx0 ++ stepsT 0 (f.steps.take k) ++ stepLine k s) Lr ∧ G.le g3 g' ∧
   Fr 94 [] [(1, .pointer (some ⟨bx, 0, none⟩)), (4, .pointer (some ⟨bb, 0, none⟩)), (21, .slice a1 f.steps.length c1), (22, .int .i64 f.steps.length), (23, .int .i64 k)] a') ?_ ?_
  ·by_cases hb0 : 0 ≤ s.back
   ·refine W_yes (b := _) ?_ rfl ?_
    ·simp; exact hb0
    have hbl : big s.back ∧ big s.limit := by
     rcases hsB.n.back with ⟨e, _⟩ | h
     ·omega
     ·exact h
    have l6 := decI_len hbl.1
    have l7 := decI_len hbl.2
    have htt : tailT s = tBack ++ decI s.back ++ tLimit ++ decI s.limit := by unfold tailT; rw [if_pos hb0]
    skip
    apply W_draw allF rfl (Fact.eq _ :: Fact.eq _ :: Fact.eq _ :: Fact.eq _ :: Fact.eq _ :: Fact.eq _ :: Fact.eq _ :: Fact.eq _ :: Fact.eq _ :: []) 9 [(8, 65)] rfl rfl
    ·refine D_s (js := []) (by kernel_rfl) (fun _ _ => QA_nil (DPu T.ok rfl rfl rfl)) ?_
     refine D_s (js := [(0, 57)]) (by kernel_rfl) (fun _ hf => QA_eq rfl (QA_nil (DLe T.ok 5 rfl rfl (ep1.mono ((G.le_dr _).trans hf.le)) rfl rfl rfl))) ?_
     refine D_cons (D_step2 (js := [(1, 58)]) (by kernel_rfl) fun gd hf => ?_) ?_
     ·have hsd := hs.dr.call hf; have hfe := (G.le_dr _).trans hf.le
      refine QA_eq rfl ?_
      refine QA_nil ?_
      refine D_yes rfl ?_
      refine OpR_ret cl23 allF rfl rfl rfl rfl rfl (itoaB_c s.back _ hbl.1 (hF3.mono (le9.trans hfe))) fun g' v h1 h2 => ⟨g', rfl, h1, ?_⟩
      exact h2
     refine D_cons (D_step2 (js := [(2, 59)]) (by kernel_rfl) fun gd hf => ?_) ?_
     ·have hsd := hs.dr.call hf; have hfe := (G.le_dr _).trans hf.le
      refine QA_eq rfl ?_
      refine QA_nil ?_
      refine D_yes rfl ?_
      refine OpR_addS (p := tBack) (q := decI s.back) rfl rfl rfl (by (try simp only [List.length_append, List.length_cons, List.length_nil]); omega) ?_
      exact ⟨_, rfl, Fr0.refl _, rfl⟩
     refine D_cons (D_step2 (js := [(3, 60)]) (by kernel_rfl) fun gd hf => ?_) ?_
     ·have hsd := hs.dr.call hf; have hfe := (G.le_dr _).trans hf.le
      refine QA_eq rfl ?_
      refine QA_nil ?_
      refine D_yes rfl ?_
      refine OpR_addS (p := tBack ++ decI s.back) (q := tLimit) rfl rfl rfl (by (try simp only [List.length_append, List.length_cons, List.length_nil]); omega) ?_
      exact ⟨_, rfl, Fr0.refl _, rfl⟩
     refine D_s (js := []) (by kernel_rfl) (fun _ _ => QA_nil (DPu T.ok rfl rfl rfl)) ?_
     refine D_s (js := [(5, 62)]) (by kernel_rfl) (fun _ hf => QA_eq rfl (QA_nil (DLe T.ok 6 rfl rfl (ep1.mono ((G.le_dr _).trans hf.le)) rfl rfl rfl))) ?_
     refine D_cons (D_step2 (js := [(6, 63)]) (by kernel_rfl) fun gd hf => ?_) ?_
     ·have hsd := hs.dr.call hf; have hfe := (G.le_dr _).trans hf.le
      refine QA_eq rfl ?_
      refine QA_nil ?_
      refine D_yes rfl ?_
      refine OpR_ret cl23 allF rfl rfl rfl rfl rfl (itoaB_c s.limit _ hbl.2 (hF3.mono (le9.trans hfe))) fun g' v h1 h2 => ⟨g', rfl, h1, ?_⟩
      exact h2
     refine D_cons (D_step2 (js := [(4, 61), (7, 64)]) (by kernel_rfl) fun gd hf => ?_) ?_
     ·have hsd := hs.dr.call hf; have hfe := (G.le_dr _).trans hf.le
      refine QA_eq rfl ?_; refine QA_eq rfl ?_
      refine QA_nil ?_
      refine D_yes rfl ?_
      refine OpR_addS (p := tBack ++ decI s.back ++ tLimit) (q := decI s.limit) rfl rfl rfl (by (try simp only [List.length_append, List.length_cons, List.length_nil]); omega) ?_
      exact ⟨_, rfl, Fr0.refl _, rfl⟩
     exact D_nil
    intro g1 hf1; refine QA_eq rfl ?_; refine QA_nil ?_
    replace hs := hs.dr.call hf1; have hqe := (G.le_dr _).trans hf1.le; replace le0 := G.le.trans le0 hqe; replace le9 := G.le.trans le9 hqe; replace ep0 := ep0.mono hqe; replace ep1 := ep1.mono hqe; replace rs0 := rs0.mono hqe; replace rs1 := rs1.mono hqe; replace rs2 := rs2.mono hqe; replace rs3 := rs3.mono hqe
    refine WL_o rfl rfl (OpR_st cl21 allF rfl rfl rfl rfl rfl (wstr_c (L := []) (.inr rfl) hbd (tBack ++ decI s.back ++ tLimit ++ decI s.limit) (by simp only [List.length_append]; omega) hs) ?_)
    clear hs hbd
    rintro g4 _ hqe ⟨bv, Lr, hbd, hs⟩; replace le0 := G.le.trans le0 hqe; replace le9 := G.le.trans le9 hqe; replace ep0 := ep0.mono hqe; replace ep1 := ep1.mono hqe; replace rs0 := rs0.mono hqe; replace rs1 := rs1.mono hqe; replace rs2 := rs2.mono hqe; replace rs3 := rs3.mono hqe
    refine WL_nil ?_
    exact fun a ha => ⟨bv, Lr, g4, rfl, hs, by rw [stepLine_eq, htt, ← List.append_assoc]; exact hbd, le9, ha.keep (by (repeat (first | exact trivial | refine ⟨rfl, ?_⟩)))⟩
   ·refine W_no (b := _) ?_ rfl ?_
    ·simp; omega
    have htt : tailT s = [] := by unfold tailT; rw [if_neg hb0]
    refine W_skip ?_
    exact fun a ha => ⟨bv, Lr, g4, rfl, hs, by rw [stepLine_eq, htt, List.append_nil]; exact hbd, le9, ha.keep (by (repeat (first | exact trivial | refine ⟨rfl, ?_⟩)))⟩
  clear hs hbd ep0 rs0 rs1 le0
  rintro a' _ ⟨bv, Lr, g5, rfl, hs, hbd, le9, ha'⟩
  revert a'
  unfold bdO at hs
  (with_reducible refine T_wp ?_); refine W_region ?_
  have hsl : (stepLine k s).length ≤ 400 := by rw [stepLine_eq, List.length_append]; omega
  refine WL_o rfl rfl (OpR_st cl25 allF rfl rfl rfl rfl rfl (wbyte_c (L := []) (.inr rfl) hbd 10 (by simp only [List.length_append]; omega) hs) ?_)
  clear hs hbd
  rintro g6 _ hqe ⟨bv, Lr, hbd, hs⟩
  replace le9 := le9.trans hqe
  refine WL_nil ?_; (with_reducible refine T_bn ?_); (with_reducible refine T_then ?_); refine W_region ?_; refine P1 T.ok rfl rfl rfl ?_; refine P1 T.ok rfl rfl rfl ?_; refine WL_nil ?_
  refine fun a ha => ⟨f.steps.length - (k + 1), by omega, k + 1, bv, Lr, g6, rfl, hs, ?_, le9, by omega, rfl, ha.keep ⟨rfl, rfl, rfl, rfl, kI rfl (by rw [wr (by omega) (by omega)]; omega), trivial⟩⟩
  rw [htk, ← List.append_assoc, ← List.append_assoc]
  exact hbd
 ·refine W_no (b := decide ((k : Int) < (f.steps.length : Int))) (by simp; omega) rfl ?_
  obtain rfl : k = f.steps.length := by omega
  rw [List.take_length] at hbd hlt0
  have ht1 : (tx0 ++ stepsT 0 f.steps).length ≤ 20000 := by rw [List.length_append]; omega
  have hpm : printM f = tx0 ++ stepsT 0 f.steps ++ winsT f.windows := by unfold printM; rw [← hT0]; simp
  generalize tx0 ++ stepsT 0 f.steps = tx1 at *
  refine W_exit ?_; (with_reducible refine T_tx ?_; with_reducible refine T_tx ?_); (with_reducible refine T_bx ?_); (with_reducible refine T_then ?_); refine W_seq ?_; refine W_seq ?_; refine W_region ?_; refine P1 T.ok rfl rfl rfl ?_; refine WL_o rfl rfl (OpR_loadE T.ok 3 rfl ep0 rfl rfl ?_); refine P1 T.ok rfl rfl rfl ?_; refine P1 T.ok rfl rfl rfl ?_; refine WL_nil ?_; (with_reducible refine T_then ?_); refine W_block ?_
  refine W_loop (fun m a' w => ∃ (k : Nat) (bv : Value) (Lr : List Ent) (g8 : G), w = g8.w ∧ St g g8 (bdO bb bv Lr) ∧ BdRow 5 bv (tx1 ++ winsT (f.windows.take k)) Lr ∧ G.le g' g8 ∧ k ≤ f.windows.length ∧ m = f.windows.length - k ∧
   Fr 94 [] [(1, .pointer (some ⟨bx, 0, none⟩)), (4, .pointer (some ⟨bb, 0, none⟩)), (70, .slice a2 f.windows.length c2), (71, .int .i64 f.windows.length), (72, .int .i64 k)] a') f.windows.length (fun a' ha => ⟨0, bv, Lr, g', rfl, hs, by rw [List.take_zero]; simp only [winsT, List.append_nil]; exact hbd, G.le.refl _, Nat.zero_le _, rfl, ha.keep (by (repeat (first | exact trivial | refine ⟨rfl, ?_⟩)))⟩) ?_
  clear hs hbd
  rintro m a' _ ⟨k, bv, Lr, g8, rfl, hs, hbd, le8, hk, rfl, ha'⟩
  replace ep0 := ep0.mono le8; replace rs1 := rs1.mono le8; replace le9 := le9.trans le8
  have hlw0 := winsT_len (l := f.windows.take k) fun s hs => hB.wins s (List.mem_of_mem_take hs)
  rw [List.length_take] at hlw0
  unfold bdO at hs
  clear le0
  revert a'
  (with_reducible refine T_wp ?_); refine W_seq ?_; refine W_region ?_; refine P1 T.ok rfl rfl rfl ?_; refine WL_nil ?_; (with_reducible refine T_then ?_); refine W_seq ?_
  by_cases hlt : k < f.windows.length
  ·refine W_yes (b := decide ((k : Int) < (f.windows.length : Int))) (by simp; omega) rfl ?_
   have hsB := hB.wins _ (List.getElem_mem hlt)
   have htk : winsT (f.windows.take (k + 1)) = winsT (f.windows.take k) ++ (windowLine f.windows[k] ++ [10]) := by
    rw [List.take_add_one, List.getElem?_eq_getElem hlt]
    exact winsT_snoc _ _
   have hgi : geti f.windows (k : Int) = some f.windows[k] := by simp [geti, hlt]
   generalize f.windows[k] = s at *
   refine W_skip ?_; (with_reducible refine T_then ?_); refine W_seq ?_; refine W_block ?_; refine W_seq ?_; refine W_region ?_
   refine WL_o rfl rfl (OpR_idx T.ok rfl rs1 (y := s) hgi rfl rfl rfl rfl rfl rfl ?_)
   rintro bq pq ys hep hys
   obtain rfl : ys = [.int .i64 s.src, .int .i64 s.dst, .int .i64 s.limit] := hys
   refine WL_o rfl rfl (OpR_loadE T.ok 0 rfl hep rfl rfl ?_)
   skip
   refine WL_o rfl rfl (OpR_alloc T.ok rfl hs rfl rfl ?_); clear hs; rintro bs6 g1 hs hqe; replace le8 := G.le.trans le8 hqe; replace le9 := G.le.trans le9 hqe; replace ep0 := ep0.mono hqe; replace rs1 := rs1.mono hqe
   skip
   refine WL_n rfl (OpR_storeO T.ok 0 rfl hs rfl rfl rfl rfl rfl rfl rfl rfl rfl ?_); replace hs := hs; rintro g1 hs hqe; replace le8 := G.le.trans le8 hqe; replace le9 := G.le.trans le9 hqe; replace ep0 := ep0.mono hqe; replace rs1 := rs1.mono hqe
   obtain ⟨g2, hw2, hs2, hqe, hep⟩ := hs.fzObj (i := 0) rfl; replace hs := hs2; clear hs2; rw [← hw2]; replace le8 := G.le.trans le8 hqe; replace le9 := G.le.trans le9 hqe; replace ep0 := ep0.mono hqe; replace rs1 := rs1.mono hqe
   have ep1 : EP g2 bs6 0 [.int .i64 s.src, .int .i64 s.dst, .int .i64 s.limit] := hep
   clear hep hw2 hqe
   replace hs : St g g2 (.obj bb (.cells [.pointer (some ⟨bb, 0, none⟩), bv].toArray 59 (0, 0)) :: (Lr ++ [])) := hs
   have l1 := decI_len hsB.1
   have l2 := decI_len hsB.2.1
   have l3 := decI_len hsB.2.2
   have q1 : tWindow.length = 7 := rfl
   refine WL_nil ?_; (with_reducible refine T_then ?_)
   apply W_draw allF rfl (Fact.eq _ :: Fact.eq _ :: Fact.eq _ :: Fact.eq _ :: Fact.eq _ :: Fact.eq _ :: Fact.eq _ :: Fact.eq _ :: Fact.eq _ :: Fact.eq _ :: Fact.eq _ :: Fact.eq _ :: Fact.eq _ :: Fact.eq _ :: Fact.eq _ :: []) 15 [(14, 90)] rfl rfl
   ·refine D_s (js := []) (by kernel_rfl) (fun _ _ => QA_nil (DPu T.ok rfl rfl rfl)) ?_
    refine D_s (js := [(0, 76)]) (by kernel_rfl) (fun _ hf => QA_eq rfl (QA_nil (DLe T.ok 0 rfl rfl (ep1.mono ((G.le_dr _).trans hf.le)) rfl rfl rfl))) ?_
    refine D_cons (D_step2 (js := [(1, 77)]) (by kernel_rfl) fun gd hf => ?_) ?_
    ·have hsd := hs.dr.call hf; have hfe := (G.le_dr _).trans hf.le
     refine QA_eq rfl ?_
     refine QA_nil ?_
     refine D_yes rfl ?_
     refine OpR_ret cl23 allF rfl rfl rfl rfl rfl (itoaB_c s.src _ hsB.1 (hF3.mono (le9.trans hfe))) fun g' v h1 h2 => ⟨g', rfl, h1, ?_⟩
     exact h2
    refine D_cons (D_step2 (js := [(2, 78)]) (by kernel_rfl) fun gd hf => ?_) ?_
    ·have hsd := hs.dr.call hf; have hfe := (G.le_dr _).trans hf.le
     refine QA_eq rfl ?_
     refine QA_nil ?_
     refine D_yes rfl ?_
     refine OpR_addS (p := tWindow) (q := decI s.src) rfl rfl rfl (by (try simp only [List.length_append, List.length_cons, List.length_nil]); omega) ?_
     exact ⟨_, rfl, Fr0.refl _, rfl⟩
    refine D_cons (D_step2 (js := [(3, 79)]) (by kernel_rfl) fun gd hf => ?_) ?_
    ·have hsd := hs.dr.call hf; have hfe := (G.le_dr _).trans hf.le
     refine QA_eq rfl ?_
     refine QA_nil ?_
     refine D_yes rfl ?_
     refine OpR_addS (p := tWindow ++ decI s.src) (q := [32]) rfl rfl rfl (by (try simp only [List.length_append, List.length_cons, List.length_nil]); omega) ?_
     exact ⟨_, rfl, Fr0.refl _, rfl⟩
    refine D_s (js := []) (by kernel_rfl) (fun _ _ => QA_nil (DPu T.ok rfl rfl rfl)) ?_
    refine D_s (js := [(5, 81)]) (by kernel_rfl) (fun _ hf => QA_eq rfl (QA_nil (DLe T.ok 1 rfl rfl (ep1.mono ((G.le_dr _).trans hf.le)) rfl rfl rfl))) ?_
    refine D_cons (D_step2 (js := [(6, 82)]) (by kernel_rfl) fun gd hf => ?_) ?_
    ·have hsd := hs.dr.call hf; have hfe := (G.le_dr _).trans hf.le
     refine QA_eq rfl ?_
     refine QA_nil ?_
     refine D_yes rfl ?_
     refine OpR_ret cl23 allF rfl rfl rfl rfl rfl (itoaB_c s.dst _ hsB.2.1 (hF3.mono (le9.trans hfe))) fun g' v h1 h2 => ⟨g', rfl, h1, ?_⟩
     exact h2
    refine D_cons (D_step2 (js := [(4, 80), (7, 83)]) (by kernel_rfl) fun gd hf => ?_) ?_
    ·have hsd := hs.dr.call hf; have hfe := (G.le_dr _).trans hf.le
     refine QA_eq rfl ?_; refine QA_eq rfl ?_
     refine QA_nil ?_
     refine D_yes rfl ?_
     refine OpR_addS (p := tWindow ++ decI s.src ++ [32]) (q := decI s.dst) rfl rfl rfl (by (try simp only [List.length_append, List.length_cons, List.length_nil]); omega) ?_
     exact ⟨_, rfl, Fr0.refl _, rfl⟩
    refine D_cons (D_step2 (js := [(8, 84)]) (by kernel_rfl) fun gd hf => ?_) ?_
    ·have hsd := hs.dr.call hf; have hfe := (G.le_dr _).trans hf.le
     refine QA_eq rfl ?_
     refine QA_nil ?_
     refine D_yes rfl ?_
     refine OpR_addS (p := tWindow ++ decI s.src ++ [32] ++ decI s.dst) (q := [32]) rfl rfl rfl (by (try simp only [List.length_append, List.length_cons, List.length_nil]); omega) ?_
     exact ⟨_, rfl, Fr0.refl _, rfl⟩
    refine D_s (js := []) (by kernel_rfl) (fun _ _ => QA_nil (DPu T.ok rfl rfl rfl)) ?_
    refine D_s (js := [(10, 86)]) (by kernel_rfl) (fun _ hf => QA_eq rfl (QA_nil (DLe T.ok 2 rfl rfl (ep1.mono ((G.le_dr _).trans hf.le)) rfl rfl rfl))) ?_
    refine D_cons (D_step2 (js := [(11, 87)]) (by kernel_rfl) fun gd hf => ?_) ?_
    ·have hsd := hs.dr.call hf; have hfe := (G.le_dr _).trans hf.le
     refine QA_eq rfl ?_
     refine QA_nil ?_
     refine D_yes rfl ?_
     refine OpR_ret cl23 allF rfl rfl rfl rfl rfl (itoaB_c s.limit _ hsB.2.2 (hF3.mono (le9.trans hfe))) fun g' v h1 h2 => ⟨g', rfl, h1, ?_⟩
     exact h2
    refine D_cons (D_step2 (js := [(9, 85), (12, 88)]) (by kernel_rfl) fun gd hf => ?_) ?_
    ·have hsd := hs.dr.call hf; have hfe := (G.le_dr _).trans hf.le
     refine QA_eq rfl ?_; refine QA_eq rfl ?_
     refine QA_nil ?_
     refine D_yes rfl ?_
     refine OpR_addS (p := tWindow ++ decI s.src ++ [32] ++ decI s.dst ++ [32]) (q := decI s.limit) rfl rfl rfl (by (try simp only [List.length_append, List.length_cons, List.length_nil]); omega) ?_
     exact ⟨_, rfl, Fr0.refl _, rfl⟩
    refine D_cons (D_step2 (js := [(13, 89)]) (by kernel_rfl) fun gd hf => ?_) ?_
    ·have hsd := hs.dr.call hf; have hfe := (G.le_dr _).trans hf.le
     refine QA_eq rfl ?_
     refine QA_nil ?_
     refine D_yes rfl ?_
     refine OpR_addS (p := tWindow ++ decI s.src ++ [32] ++ decI s.dst ++ [32] ++ decI s.limit) (q := [10]) rfl rfl rfl (by (try simp only [List.length_append, List.length_cons, List.length_nil]); omega) ?_
     exact ⟨_, rfl, Fr0.refl _, rfl⟩
    exact D_nil
   intro g1 hf1; refine QA_eq rfl ?_; refine QA_nil ?_
   replace hs := hs.dr.call hf1; have hqe := (G.le_dr _).trans hf1.le; replace le8 := G.le.trans le8 hqe; replace le9 := G.le.trans le9 hqe; replace ep0 := ep0.mono hqe; replace ep1 := ep1.mono hqe; replace rs1 := rs1.mono hqe
   refine WL_o rfl rfl (OpR_st cl21 allF rfl rfl rfl rfl rfl (wstr_c (L := []) (.inr rfl) hbd (tWindow ++ decI s.src ++ [32] ++ decI s.dst ++ [32] ++ decI s.limit ++ [10]) (by simp only [List.length_append, List.length_cons, List.length_nil]; omega) hs) ?_)
   clear hs hbd
   rintro g4 _ hqe ⟨bv, Lr, hbd, hs⟩; replace le8 := G.le.trans le8 hqe; replace le9 := G.le.trans le9 hqe; replace ep0 := ep0.mono hqe; replace ep1 := ep1.mono hqe; replace rs1 := rs1.mono hqe
   refine WL_nil ?_; (with_reducible refine T_bn ?_); (with_reducible refine T_then ?_); refine W_region ?_; refine P1 T.ok rfl rfl rfl ?_; refine P1 T.ok rfl rfl rfl ?_; refine WL_nil ?_
   refine fun a ha => ⟨f.windows.length - (k + 1), by omega, k + 1, bv, Lr, g4, rfl, hs, ?_, le8, by omega, rfl, ha.keep ⟨rfl, rfl, rfl, rfl, kI rfl (by rw [wr (by omega) (by omega)]; omega), trivial⟩⟩
   rw [htk, ← List.append_assoc, windowLine_eq]
   exact hbd
  ·refine W_no (b := decide ((k : Int) < (f.windows.length : Int))) (by simp; omega) rfl ?_
   obtain rfl : k = f.windows.length := by omega
   rw [List.take_length, ← hpm] at hbd
   refine W_exit ?_; (with_reducible refine T_tx ?_; with_reducible refine T_tx ?_); (with_reducible refine T_bx ?_); (with_reducible refine T_then ?_); refine W_seq ?_; refine W_region ?_
   refine WL_o rfl rfl (OpR_callE cl26 allF rfl rfl rfl rfl rfl ((bstr_c (L := []) (.inr rfl) hbd (fun x hx => (by cases hx)) hs).mono fun e w' h => ?_))
   obtain ⟨rfl, g9, rfl, hs, hle⟩ := h
   refine .inl ⟨_, rfl, ?_⟩
   refine P1 T.ok rfl rfl rfl ?_; refine P1 T.ok rfl rfl rfl ?_; refine WL_nil ?_; (with_reducible refine T_then ?_)
   refine W_ret ?_
   skip
   refine ret2 rfl rfl rfl (hs.ret ?_)
   unfold printRes; rw [if_pos hv]
end Go.Proofs.YtnggomfbgmlkhaaGreatDoor
