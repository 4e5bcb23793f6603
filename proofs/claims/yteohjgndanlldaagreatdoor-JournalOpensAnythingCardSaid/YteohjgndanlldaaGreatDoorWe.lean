/- The walk through Append. -/
import Derived.Test.YteohjgndanlldaaGreatDoorWb
import Derived.Test.YteohjgndanlldaaGreatDoorWd
import Derived.Test.YteohjgndanlldaaGreatDoorKh
import Derived.Test.YteohjgndanlldaaGreatDoorShelf

/- What the journal writes, it reads back: in plain Lean. -/
namespace Go.Proofs.YteohjgndanlldaaGreatDoor
open Go Go.K
set_option maxRecDepth 10000
attribute [local irreducible] W WL OpR bitAnd bitOr bitXor bitClr bitNot shlI shrI

theorem stringM_put {s : List UInt8} {a : Nat} {r rest : List UInt8} (hr : r.length ≤ 65536) (ha : a ≤ s.length) (h : s.drop a = putIntM (r.length : Int) ++ (r ++ rest)) :
  stringM s a = (r, ((a + (putIntM (r.length : Int)).length + r.length : Nat) : Int), 0) := by
 have hi := intM_put (n := r.length) (by omega) ha h
 have hlen : s.length - a = (putIntM (r.length : Int)).length + (r.length + rest.length) := by
  rw [← List.length_drop, h, List.length_append, List.length_append]
 unfold stringM
 rw [hi]
 simp only [ne_eq, not_true_eq_false, if_false, Int.toNat_natCast]
 rw [if_neg (by omega)]
 have e1 : (s.drop (a + (putIntM (r.length : Int)).length)).take r.length = r := by
  rw [← List.drop_drop, h, List.drop_left, List.take_left]
 rw [e1]
 simp

/-- Reading a tape: 'none' where the reader says damaged. -/
def loadGo : Nat → TapeM → List UInt8 → Option TapeM
 | 0, Y, _ => some Y
 | k + 1, Y, s =>
  if Y.size < s.length ∧ s.getD Y.size 0 ≠ 0 then
   if s.getD Y.size 0 ≠ 1 then none
   else if (stringM s (Y.size + 1)).2.2 ≠ 0 ∨ (s.length : Int) < (stringM s (Y.size + 1)).2.1 + 32 then none
   else if outM Y.head (stringM s (Y.size + 1)).1 ≠ (s.drop Y.size).take (((stringM s (Y.size + 1)).2.1 + 32).toNat - Y.size) then none
   else loadGo k (Y.add (stringM s (Y.size + 1)).1) s
  else some Y

/-- What a list of records comes to on the disk, behind a tape. -/
def wireM : TapeM → List (List UInt8) → List UInt8
 | _, [] => []
 | Y, r :: rs => outM Y.head r ++ wireM (Y.add r) rs
def TapeM.adds (Y : TapeM) (rs : List (List UInt8)) : TapeM := rs.foldl TapeM.add Y
theorem adds_size (rs : List (List UInt8)) : ∀ Y : TapeM, (Y.adds rs).size = Y.size + (wireM Y rs).length := by
 induction rs with
 | nil => intro Y; rfl
 | cons r rs ih =>
  intro Y
  rw [show Y.adds (r :: rs) = (Y.add r).adds rs from rfl, ih, wireM, List.length_append]
  show Y.size + _ + _ = _
  omega
theorem adds_recs (rs : List (List UInt8)) : ∀ Y : TapeM, (Y.adds rs).recs = Y.recs ++ rs := by
 induction rs with
 | nil => intro Y; simp [TapeM.adds]
 | cons r rs ih =>
  intro Y
  rw [show Y.adds (r :: rs) = (Y.add r).adds rs from rfl, ih]
  simp [TapeM.add]

theorem loadGo_wire (s tail : List UInt8) (htail : ∀ x t, tail = x :: t → x = 0) : ∀ (rs : List (List UInt8)) (k : Nat) (Y : TapeM), (∀ r ∈ rs, r.length ≤ 65536) → Y.size ≤ s.length → s.drop Y.size = wireM Y rs ++ tail → rs.length < k →
  loadGo k Y s = some (Y.adds rs) := by
 intro rs
 induction rs with
 | nil =>
  intro k Y _ hsz hd hk
  obtain ⟨k, rfl⟩ : ∃ k', k = k' + 1 := ⟨k - 1, by simp at hk; omega⟩
  unfold loadGo
  rw [if_neg]
  ·rfl
  ·rintro ⟨h1, h2⟩
   have hd' : s.drop Y.size = tail := hd
   have h3 : (s.drop Y.size)[0]? = some (s.getD Y.size 0) := by
    rw [List.getElem?_drop, Nat.add_zero, List.getD_eq_getElem?_getD, List.getElem?_eq_getElem h1]; rfl
   rw [hd'] at h3
   cases ht : tail with
   | nil => rw [ht] at h3; simp at h3
   | cons x t =>
    rw [ht] at h3
    simp only [List.getElem?_cons_zero, Option.some.injEq] at h3
    exact h2 (h3 ▸ htail x t ht)
 | cons r rs ih =>
  intro k Y hrs hsz hd hk
  obtain ⟨k, rfl⟩ : ∃ k', k = k' + 1 := ⟨k - 1, by simp at hk; omega⟩
  have hr := hrs r (by simp)
  have hd2 : s.drop Y.size = 1 :: (putIntM (r.length : Int) ++ (r ++ (chainM Y.head r ++ (wireM (Y.add r) rs ++ tail)))) := by
   rw [hd, wireM, outM]
   simp only [List.append_assoc, List.cons_append, List.nil_append]
  have hlen := congrArg List.length hd2
  simp only [List.length_drop, List.length_cons, List.length_append, chainM_len] at hlen
  have h1 : s.getD Y.size 0 = 1 := by
   have h3 : (s.drop Y.size)[0]? = some 1 := by rw [hd2]; rfl
   rw [List.getElem?_drop, Nat.add_zero] at h3
   rw [List.getD_eq_getElem?_getD, h3]; rfl
  have hs1 : s.drop (Y.size + 1) = putIntM (r.length : Int) ++ (r ++ (chainM Y.head r ++ (wireM (Y.add r) rs ++ tail))) := by
   rw [← List.drop_drop, hd2]; rfl
  have hst := stringM_put hr (by omega) hs1
  have hol : (outM Y.head r).length = 1 + ((putIntM (r.length : Int)).length + r.length) + 32 := by
   unfold outM; simp only [List.length_append, List.length_cons, List.length_nil, chainM_len]
  unfold loadGo
  rw [if_pos ⟨by omega, by rw [h1]; decide⟩, if_neg (by rw [h1]; simp), hst]
  simp only
  rw [if_neg (by simp; omega), if_neg]
  ·refine ih k (Y.add r) (fun x hx => hrs x (by simp [hx])) ?_ ?_ (by simp at hk; omega)
   ·show Y.size + (outM Y.head r).length ≤ _; omega
   ·show s.drop (Y.size + (outM Y.head r).length) = _
    rw [← List.drop_drop, hd, wireM, List.append_assoc, List.drop_left]
  ·rw [Classical.not_not]
   rw [hd, wireM, List.append_assoc]
   rw [show (((Y.size + 1 + (putIntM (r.length : Int)).length + r.length : Nat) : Int) + 32).toNat - Y.size = (outM Y.head r).length from by omega, List.take_left]
end Go.Proofs.YteohjgndanlldaaGreatDoor

/- Package journal: check. -/
namespace Go.Proofs.YteohjgndanlldaaGreatDoor
open Go Go.K
set_option maxRecDepth 10000
attribute [local irreducible] W WL OpR bitAnd bitOr bitXor bitClr bitNot shlI shrI
set_option maxHeartbeats 2000000

/-- Where the package's own error lies. -/
def ErrAt (e : Addr) (g : G) : Prop := EP g 0 0 [.iface 222 (.pointer (some e))]
theorem ErrAt.mono {e : Addr} {g g' : G} (h : ErrAt e g) (hle : g.le g') : ErrAt e g' := EP.mono h hle
def damaged (e : Addr) : List PanicEntry := [{ v := .iface 222 (.pointer (some e)), recovered := false }]

theorem check_yes (g : G) : CallsIn Wd 0 Tryz.prog 100 #[.bool true] g.w (Ret g fun _ r => r = .tuple #[]) := by
 have hs := St.start g
 have le0 := G.le.refl g
 refine enter Tryz.func100 rfl Tryz.ntmps100 rfl ?_
 refine W_seq ?_; refine W_region ?_; refine P1 T.ok rfl rfl rfl ?_; refine P1 T.ok rfl rfl rfl ?_; refine WL_nil ?_; (with_reducible refine T_then ?_)
 refine W_no rfl rfl ?_
 refine W_skip ?_
 exact end0 rfl (hs.ret rfl)
theorem check_no {e : Addr} {g : G} (hE : ErrAt e g) : CallsIn Wd 0 Tryz.prog 100 #[.bool false] g.w (BoomS g (damaged e) fun g' => g' = g) := by
 have le0 := G.le.refl g
 refine enter Tryz.func100 rfl Tryz.ntmps100 rfl ?_
 refine W_seq ?_; refine W_region ?_; refine P1 T.ok rfl rfl rfl ?_; refine P1 T.ok rfl rfl rfl ?_; refine WL_nil ?_; (with_reducible refine T_then ?_)
 refine W_yes rfl rfl ?_
 have ep0 := hE
 unfold ErrAt at ep0
 refine W_region ?_; refine WL_o rfl rfl (OpR_loadE T.ok 0 rfl ep0 rfl rfl ?_)
 refine WL_n rfl (OpR_panic rfl rfl ?_)
 exact panic0 (BoomS.intro le0 rfl)
end Go.Proofs.YteohjgndanlldaaGreatDoor

/- A strings.Builder: WriteString, String. -/
namespace Go.Proofs.YteohjgndanlldaaGreatDoor
open Go Go.K
set_option maxRecDepth 10000
attribute [local irreducible] W WL OpR bitAnd bitOr bitXor bitClr bitNot shlI shrI
set_option maxHeartbeats 2000000

theorem copyCheck_c {b : Nat} {p v : Value} (hp : p = .pointer none ∨ p = .pointer (some ⟨b, 0, none⟩)) {g0 g : G} {L : List Ent} (hs : St g0 g (.obj b (.cells [p, v].toArray 78 (0, 0)) :: L)) :
  CallsIn Wd 0 Tryz.prog 69 #[.pointer (some ⟨b, 0, none⟩)] g.w
   (RetS g fun g' r => r = .tuple #[] ∧ St g0 g' (.obj b (.cells [.pointer (some ⟨b, 0, none⟩), v].toArray 78 (0, 0)) :: L)) := by
 have le0 := G.le.refl g
 have hh : g.w.heap[b]? = some (.cells [p, v].toArray 78 (0, 0)) := (hs.own 0 _ rfl).2.1
 have hsh : g.w.shape? b = some (78, 2) := by simp [World.shape?, hh]
 obtain ⟨j, hj, hjs⟩ := Option.map_eq_some_iff.1 Tryz.Builder_Extra_169.sizeBuilder
 have hl := Tryz.Builder_Extra_169.liesBuilder
 refine enter Tryz.func69 rfl Tryz.ntmps69 rfl ?_
 refine W_seq ?_; refine W_region ?_; (iterate 3 refine P1 T.ok rfl rfl rfl ?_); refine WL_o rfl rfl (OpR_loadO T.ok 0 rfl hs rfl rfl rfl ?_)
 rcases hp with rfl | rfl
 ·refine WL_o rfl rfl (OpR_eqNilPtr T.ok (neg := false) rfl rfl rfl rfl rfl ?_)
  refine WL_nil ?_
  (with_reducible refine T_then ?_)
  refine W_yes rfl rfl ?_
  refine W_region ?_; refine P1 T.ok rfl rfl rfl ?_; refine P1 T.ok rfl rfl rfl ?_
  refine WL_o rfl rfl (OpR_conv rfl rfl (Lib.run_to_unsafe g.w ⟨b, 0, none⟩ Tryz.underlying76 Tryz.underlying148 hj (by rw [hjs]; decide) hsh (Nat.zero_lt_succ 1)) ?_)
  refine WL_o rfl rfl (OpR_extern Tryz.func94 (by kernel_rfl) (by kernel_rfl) (by kernel_rfl) (e := Extern.AbiNoEscape.same) (by kernel_rfl) allF rfl rfl rfl rfl ?_)
  refine WL_o rfl rfl (OpR_conv rfl rfl (Lib.run_from_unsafe g.w ⟨b, 0, none⟩ Tryz.underlying148 Tryz.underlying76 hj hsh hl) ?_)
  refine P1 T.ok rfl rfl rfl ?_; refine P1 T.ok rfl rfl rfl ?_
  refine WL_n rfl (OpR_storeO T.ok 0 rfl hs rfl rfl rfl rfl rfl rfl rfl rfl rfl ?_); replace hs := hs; rintro g1 hs hqe; replace le0 := G.le.trans le0 hqe
  refine WL_nil ?_
  exact end0 rfl (RetS.intro le0 ⟨rfl, hs⟩)
 ·refine WL_o rfl rfl (OpR_eqNilPtr T.ok (neg := false) rfl rfl rfl rfl rfl ?_)
  refine WL_nil ?_
  (with_reducible refine T_then ?_)
  refine W_no rfl rfl ?_
  refine W_seq ?_; refine W_region ?_; (iterate 3 refine P1 T.ok rfl rfl rfl ?_); refine WL_o rfl rfl (OpR_loadO T.ok 0 rfl hs rfl rfl rfl ?_); refine P1 T.ok rfl rfl rfl ?_
  refine WL_o rfl rfl (OpR_neqPtrSame rfl rfl rfl Tryz.underlying76 hj ?_)
  refine WL_nil ?_; (with_reducible refine T_then ?_)
  refine W_no rfl rfl ?_
  refine W_skip ?_
  exact end0 rfl (RetS.intro le0 ⟨rfl, hs⟩)

theorem wstr_c {b : Nat} {p v : Value} {xs : List UInt8} {Lr : List Ent} (hp : p = .pointer none ∨ p = .pointer (some ⟨b, 0, none⟩)) (hb : BdRow 5 v xs Lr) (ys : List UInt8) (hl : xs.length + ys.length ≤ 140737488355328)
  {g0 g : G} {L : List Ent} (hs : St g0 g (.obj b (.cells [p, v].toArray 78 (0, 0)) :: (Lr ++ L))) :
  CallsIn Wd 0 Tryz.prog 37 #[.pointer (some ⟨b, 0, none⟩), .string (bs ys)] g.w
   (RetS g fun g' r => ∃ v' Lr', BdRow 5 v' (xs ++ ys) Lr' ∧ St g0 g' (.obj b (.cells [.pointer (some ⟨b, 0, none⟩), v'].toArray 78 (0, 0)) :: (Lr' ++ L))) := by
 have le0 := G.le.refl g
 refine enter Tryz.func37 rfl Tryz.ntmps37 rfl ?_
 refine W_seq ?_; refine W_region ?_; refine P1 T.ok rfl rfl rfl ?_; refine P1 T.ok rfl rfl rfl ?_; refine WL_nil ?_; (with_reducible refine T_then ?_); refine W_seq ?_; refine W_region ?_; refine P1 T.ok rfl rfl rfl ?_
 refine WL_o rfl rfl (OpR_st cl69 allF rfl rfl rfl rfl rfl (copyCheck_c hp hs) ?_)
 clear hs
 rintro g1 _ hqe ⟨rfl, hs⟩; replace le0 := G.le.trans le0 hqe
 refine WL_nil ?_; (with_reducible refine T_then ?_); refine W_seq ?_; refine W_region ?_; (iterate 4 refine P1 T.ok rfl rfl rfl ?_); refine WL_o rfl rfl (OpR_loadO T.ok 0 rfl hs rfl rfl rfl ?_); refine P1 T.ok rfl rfl rfl ?_
 refine WL_o rfl rfl (OpR_appendB T.ok rfl hb hs.in1 rfl rfl rfl rfl rfl rfl rfl rfl rfl rfl hl ?_)
 rintro v' Lr' g2 hb2 hs2 hqe; replace le0 := G.le.trans le0 hqe
 obtain ⟨ao, no, co, rfl⟩ : ∃ ao no co, v' = .slice ao no co := by
  rcases hb2 with ⟨rfl, _⟩ | ⟨_, _, _, rfl, _⟩ <;> exact ⟨_, _, _, rfl⟩
 replace hs := hs2.out1
 refine P1 T.ok rfl rfl rfl ?_; refine P1 T.ok rfl rfl rfl ?_
 refine WL_n rfl (OpR_storeO T.ok 0 rfl hs rfl rfl rfl rfl rfl rfl rfl rfl rfl ?_); replace hs := hs; rintro g1 hs hqe; replace le0 := G.le.trans le0 hqe
 refine WL_nil ?_; (with_reducible refine T_then ?_); refine W_seq ?_; refine W_region ?_; (iterate 4 refine P1 T.ok rfl rfl rfl ?_); refine WL_nil ?_; (with_reducible refine T_then ?_)
 exact W_ret (ret2 rfl rfl rfl (RetS.intro le0 ⟨_, Lr', hb2, hs⟩))

theorem bstr_c {b : Nat} {p v : Value} {xs : List UInt8} {Lr : List Ent} (hp : p = .pointer none ∨ p = .pointer (some ⟨b, 0, none⟩)) (hb : BdRow 5 v xs Lr)
  {g0 g : G} {L : List Ent} (hL : ∀ x ∈ L, ∀ k, x.blk = some k → ∃ o, g.w.heap[k]? = some o ∧ ∀ c fz, o ≠ .cells c 5 fz) (hs : St g0 g (.obj b (.cells [p, v].toArray 78 (0, 0)) :: (Lr ++ L))) :
  CallsIn Wd 0 Tryz.prog 39 #[.pointer (some ⟨b, 0, none⟩)] g.w
   (fun e w' => e = .returned (.string (bs xs)) ∧ ∃ g' : G, g'.w = w' ∧ St g0 g' L ∧ g0.le g') := by
 have hF := hb.isF hs
 refine callsIn_wide.2 ((Any.Builder_String_any_k Tryz.lays169 Tryz.Builder_Extra_169 g0.w.heap.size b xs g.w (hp.elim (fun h => .inl (h ▸ hF)) (fun h => .inr (h ▸ hF))) hs.below.size).mono ?_)
 rintro e w' ⟨rfl, _, hbl, hok⟩
 refine ⟨rfl, ?_⟩
 have hs2 : St g0 g L := by
  have h1 := hs.drop 0
  have h2 : St g0 g (Lr ++ L) := h1
  rcases hb with ⟨_, _, rfl⟩ | ⟨br, _, _, _, rfl, _⟩
  ·exact h2
  ·exact h2.drop 0
 have hne : ∀ x ∈ L, x.blk ≠ some b := by
  intro x hx e
  obtain ⟨j, hj⟩ := List.mem_iff_getElem?.1 hx
  have hj2 : (Lr ++ L)[Lr.length + j]? = some x := by rw [List.getElem?_append_right (by omega), Nat.add_sub_cancel_left]; exact hj
  exact hs.sep 0 (Lr.length + j + 1) _ x (by omega) rfl hj2 b rfl e
 have := hs2.bld rfl hbl hok fun x hx k hk => ⟨fun h => hne x hx (by rw [hk, h]), hL x hx k hk⟩
 exact ⟨_, rfl, this.1, this.2⟩
end Go.Proofs.YteohjgndanlldaaGreatDoor

/- Package journal: the four calls of the disk that a group takes. -/
namespace Go.Proofs.YteohjgndanlldaaGreatDoor
open Go Go.K
set_option maxRecDepth 10000
attribute [local irreducible] W WL OpR bitAnd bitOr bitXor bitClr bitNot shlI shrI
set_option maxHeartbeats 2000000

def DiskM.wr (D : DiskM) (k : Nat) (s : List UInt8) : DiskM × Int := if D.off = true then (D, 241) else (D.put k s, 0)
def DiskM.sy (D : DiskM) : DiskM × Int := if D.off = true then (D, 241) else (D.sync, 0)
theorem put_dur (D : DiskM) (k : Nat) (s : List UInt8) : (D.put k s).dur = D.dur := rfl
theorem DiskM.ok.put {D : DiskM} (h : D.ok) {k : Nat} {s : List UInt8} (hk : k + s.length ≤ D.dur.length) (hp : D.pend.length < 1000000) : (D.put k s).ok :=
 ⟨by show (ontoM D.vis k s).length = D.dur.length; rw [ontoM_len (by rw [h.len]; exact hk), h.len], h.pos, h.le, by show (D.pend ++ [_]).length ≤ _; simp; omega⟩
theorem DiskM.ok.sync {D : DiskM} (h : D.ok) : D.sync.ok := ⟨rfl, by show 1 ≤ D.vis.length; rw [h.len]; exact h.pos, by show D.vis.length ≤ _; rw [h.len]; exact h.le, by simp [DiskM.sync]⟩
theorem DiskM.ok.wr {D : DiskM} (h : D.ok) {k : Nat} {s : List UInt8} (hk : k + s.length ≤ D.dur.length) (hp : D.pend.length < 1000000) : (D.wr k s).1.ok := by
 unfold DiskM.wr; split; exact h; exact h.put hk hp
theorem DiskM.ok.sy {D : DiskM} (h : D.ok) : D.sy.1.ok := by unfold DiskM.sy; split; exact h; exact h.sync
theorem wr_len (D : DiskM) (k : Nat) (s : List UInt8) : (D.wr k s).1.dur.length = D.dur.length := by unfold DiskM.wr; split <;> rfl
theorem sy_len {D : DiskM} (h : D.ok) : D.sy.1.dur.length = D.dur.length := by unfold DiskM.sy; split; rfl; exact h.len
theorem wr_pend (D : DiskM) (k : Nat) (s : List UInt8) : (D.wr k s).1.pend.length ≤ D.pend.length + 1 := by
 unfold DiskM.wr; split
 ·exact Nat.le_succ _
 ·show (D.pend ++ [_]).length ≤ _; simp
theorem sy_pend (D : DiskM) : D.sy.1.pend.length ≤ D.pend.length := by
 unfold DiskM.sy; split
 ·exact Nat.le_refl _
 ·exact Nat.zero_le _

/-- Calls one after the other, until one fails. -/
def runM : List (DiskM → DiskM × Int) → DiskM → DiskM × Int
 | [], D => (D, 0)
 | f :: fs, D => if (f D).2 = 0 then runM fs (f D).1 else f D
theorem runM_snoc (f : DiskM → DiskM × Int) : ∀ (fs : List (DiskM → DiskM × Int)) (D D1 : DiskM), runM fs D = (D1, 0) → runM (fs ++ [f]) D = f D1 := by
 intro fs
 induction fs with
 | nil =>
  intro D D1 h
  simp only [runM, Prod.mk.injEq, and_true] at h
  subst h
  show (if (f D).2 = 0 then runM [] (f D).1 else f D) = f D
  split
  ·rename_i h; show ((f D).1, (0 : Int)) = f D; rw [← h]
  ·rfl
 | cons x fs ih =>
  intro D D1 h
  unfold runM at h
  show (if (x D).2 = 0 then runM (fs ++ [f]) (x D).1 else x D) = f D1
  split at h
  ·rename_i h0
   rw [if_pos h0]
   exact ih _ _ h
  ·rename_i h0
   rw [h] at h0
   exact absurd rfl h0
theorem runM_stop (f : DiskM → DiskM × Int) : ∀ (fs gs : List (DiskM → DiskM × Int)) (D D1 : DiskM), runM fs D = (D1, 0) → (f D1).2 ≠ 0 → runM (fs ++ f :: gs) D = f D1 := by
 intro fs
 induction fs with
 | nil =>
  intro gs D D1 h hf
  simp only [runM, Prod.mk.injEq, and_true] at h
  subst h
  show (if (f D).2 = 0 then runM gs (f D).1 else f D) = f D
  rw [if_neg hf]
 | cons x fs ih =>
  intro gs D D1 h hf
  unfold runM at h
  show (if (x D).2 = 0 then runM (fs ++ f :: gs) (x D).1 else x D) = f D1
  split at h
  ·rename_i h0
   rw [if_pos h0]
   exact ih _ _ _ h hf
  ·rename_i h0
   rw [h] at h0
   exact absurd rfl h0
theorem runM_step {fs : List (DiskM → DiskM × Int)} {i : Nat} {f : DiskM → DiskM × Int} (hi : fs[i]? = some f) {D D1 : DiskM} (h : runM (fs.take i) D = (D1, 0)) :
  runM (fs.take (i + 1)) D = f D1 ∧ ((f D1).2 ≠ 0 → runM fs D = f D1) := by
 refine ⟨?_, fun hf => ?_⟩
 ·rw [List.take_add_one, hi]
  exact runM_snoc f _ _ _ h
 ·have hlt := (List.getElem?_eq_some_iff.1 hi).1
  have e : fs = fs.take i ++ f :: fs.drop (i + 1) := by
   rw [← (List.getElem?_eq_some_iff.1 hi).2, ← List.drop_eq_getElem_cons hlt, List.take_append_drop]
  rw [e]
  exact runM_stop f _ _ _ _ h hf

/-- Storing a group behind the k-th byte. -/
def storeFs (k : Nat) (out : List UInt8) : List (DiskM → DiskM × Int) := [fun D => D.wr (k + 1) (out.drop 1), DiskM.sy, fun D => D.wr k (out.take 1), DiskM.sy]
def storeM (D : DiskM) (k : Nat) (out : List UInt8) : DiskM × Int := runM (storeFs k out) D
theorem wr_err (D : DiskM) (k : Nat) (s : List UInt8) : (D.wr k s).2 = 0 ∨ (D.wr k s).2 = 241 := by unfold DiskM.wr; split; exact .inr rfl; exact .inl rfl
theorem sy_err (D : DiskM) : D.sy.2 = 0 ∨ D.sy.2 = 241 := by unfold DiskM.sy; split; exact .inr rfl; exact .inl rfl

/-- The journal's block ahead of the disk. -/
def jnO (bj E : Nat) (j0 j1 j2 : Value) (A : DkA) (br : Bool) : Ent := .obj bj (.cells (j0 :: j1 :: j2 :: jnC A br).toArray E (0, 0))
theorem wr1_c {A : DkA} {D : DiskM} (hD : D.ok) (k : Nat) (s : List UInt8) (hi : k + s.length ≤ D.dur.length) {b1 b2 b3 bj E : Nat} {j0 j1 j2 : Value} {br : Bool} {g0 g : G} {L : List Ent}
  (ep0 : EP g b1 0 [.pointer (some ⟨bj, 0, none⟩)]) (ep1 : EP g b2 0 [.int .i64 (k : Int)]) (ep2 : EP g b3 0 [.string (bs s)])
  (hs : St g0 g (jnO bj E j0 j1 j2 A br :: (dkL A D ++ L))) :
  CallsIn Wd 0 Tryz.prog 72 #[.pointer (some ⟨b1, 0, none⟩), .pointer (some ⟨b2, 0, none⟩), .pointer (some ⟨b3, 0, none⟩)] g.w
   (RetS g fun g' r => r = .int .i64 (D.wr k s).2 ∧ ∃ pa pc, St g0 g' (jnO bj E j0 j1 j2 A br :: (dkL ⟨A.b, A.bd, A.bv, pa, pc⟩ (D.wr k s).1 ++ L))) := by
 unfold DiskM.wr
 cases ho : D.off with
 | true =>
  rw [if_pos rfl]
  refine (write1_off ho k s ep0 ep1 ep2 hs).mono ?_
  rintro e w' ⟨g', v, hw, he, hle, rfl, h⟩
  exact ⟨g', _, hw, he, hle, rfl, A.pa, A.pc, h⟩
 | false =>
  rw [if_neg (by simp)]
  exact write1_c hD ho k s hi ep0 ep1 ep2 hs
theorem sy1_c {A : DkA} {D : DiskM} (hD : D.ok) {e : Ent} {g0 g : G} {L : List Ent} (hs : St g0 g (e :: (dkL A D ++ L))) :
  CallsIn Wd 0 Tryz.prog 42 #[.pointer (some ⟨A.b, 0, none⟩)] g.w
   (RetS g fun g' r => r = .int .i64 D.sy.2 ∧ ∃ pa pc, St g0 g' (e :: (dkL ⟨A.b, A.bd, A.bv, pa, pc⟩ D.sy.1 ++ L))) := by
 unfold DiskM.sy
 cases ho : D.off with
 | true =>
  rw [if_pos rfl]
  refine (dsync_off ho hs.in1).mono ?_
  rintro e w' ⟨g', v, hw, hf, he, rfl⟩
  exact ⟨g', _, hw, he, hf.le, rfl, A.pa, A.pc, hs.call hf⟩
 | false =>
  rw [if_neg (by simp)]
  refine (dsync_c hD ho hs.in1).mono ?_
  rintro e w' ⟨g', v, hw, he, hle, rfl, pa, pc, h⟩
  exact ⟨g', _, hw, he, hle, rfl, pa, pc, h.out1⟩

/-- The four calls as values. -/
def cloW (b1 b2 b3 : Nat) : Clo := ⟨72, [], [.pointer (some ⟨b1, 0, none⟩), .pointer (some ⟨b2, 0, none⟩), .pointer (some ⟨b3, 0, none⟩)]⟩
def cloS (b : Nat) : Clo := ⟨42, [.pointer (some ⟨b, 0, none⟩)], []⟩
theorem runs_c (cs : List Clo) (fs : List (DiskM → DiskM × Int)) (I : Nat → DiskM → G → Prop) (hlen : cs.length = fs.length) (D : DiskM) (v : Value) (g : G) (rs0 : Rs g v cs) (h0 : I 0 D g)
  (hstep : ∀ i c f, cs[i]? = some c → fs[i]? = some f → Callable Tryz.prog c.f ∧ ∀ (D1 : DiskM) (gq : G), g.le gq → I i D1 gq → CallsIn Wd 0 Tryz.prog c.f (c.fst ++ c.cap).toArray gq.w (RetS gq fun g' r => r = .int .i64 (f D1).2 ∧ I (i + 1) (f D1).1 g')) :
  CallsIn Wd 0 Tryz.prog 40 #[v] g.w (RetS g fun g' r => r = .int .i64 (runM fs D).2 ∧ ∃ i, i ≤ fs.length ∧ I i (runM fs D).1 g') := by
 have := first_c cs (fun i gq => ∃ D1, runM (fs.take i) D = (D1, 0) ∧ I i D1 gq) (fun e gq => e = (runM fs D).2 ∧ ∃ i, i ≤ fs.length ∧ I i (runM fs D).1 gq) v g rs0 ⟨D, rfl, h0⟩ (fun i c hc => by
  have hlt := (List.getElem?_eq_some_iff.1 hc).1
  have hf : fs[i]? = some fs[i] := List.getElem?_eq_getElem (by omega)
  obtain ⟨h1, h2⟩ := hstep i c _ hc hf
  refine ⟨h1, ?_⟩
  rintro gq hle ⟨D1, hr, hI⟩
  have hst := runM_step hf hr
  refine (h2 D1 gq hle hI).mono ?_
  rintro e w' ⟨g', v, hw, he, hle', rfl, hI'⟩
  refine ⟨g', _, hw, he, hle', _, rfl, fun h0 => ⟨_, hst.1.trans ?_, hI'⟩, fun hne => ?_⟩
  ·rw [← h0]
  ·rw [hst.2 hne]
   exact ⟨rfl, i + 1, by omega, hI'⟩)
 refine this.mono ?_
 rintro e w' ⟨g', v, hw, he, hle, e0, rfl, h1, h2⟩
 refine ⟨g', _, hw, he, hle, ?_⟩
 by_cases hz : e0 = 0
 ·obtain ⟨D1, hr, hI⟩ := h1 hz
  rw [hlen, List.take_length] at hr
  rw [hr]
  exact ⟨by rw [hz], cs.length, by omega, hI⟩
 ·obtain ⟨rfl, h⟩ := h2 hz
  exact ⟨rfl, h⟩
end Go.Proofs.YteohjgndanlldaaGreatDoor

/- Package journal: Append. -/
namespace Go.Proofs.YteohjgndanlldaaGreatDoor
open Go Go.K
set_option maxRecDepth 10000
attribute [local irreducible] W WL OpR bitAnd bitOr bitXor bitClr bitNot shlI shrI
set_option maxHeartbeats 2000000

theorem adds_cons (Y : TapeM) (r : List UInt8) (rs : List (List UInt8)) : Y.adds (r :: rs) = (Y.add r).adds rs := rfl
theorem adds_snoc (Y : TapeM) (rs : List (List UInt8)) (r : List UInt8) : Y.adds (rs ++ [r]) = (Y.adds rs).add r := by unfold TapeM.adds; rw [List.foldl_append]; rfl
theorem wireM_snoc (rs : List (List UInt8)) (r : List UInt8) : ∀ Y : TapeM, wireM Y (rs ++ [r]) = wireM Y rs ++ outM (Y.adds rs).head r := by
 induction rs with
 | nil => intro Y; simp [wireM, TapeM.adds]
 | cons x rs ih => intro Y; rw [List.cons_append, wireM, ih, wireM, adds_cons, List.append_assoc]
theorem wireM_len {rs : List (List UInt8)} (h : ∀ r ∈ rs, r.length ≤ 65536) : ∀ Y : TapeM, (wireM Y rs).length ≤ 65600 * rs.length := by
 induction rs with
 | nil => intro Y; simp [wireM]
 | cons r rs ih =>
  intro Y
  rw [wireM, List.length_append, List.length_cons]
  have h1 := outM_len (head := Y.head) (h r (by simp))
  have h2 := ih (fun x hx => h x (by simp [hx])) (Y.add r)
  omega
theorem adds_head (rs : List (List UInt8)) : ∀ {Y : TapeM}, Y.head.length = 32 → (Y.adds rs).head.length = 32 := by
 induction rs with
 | nil => intro Y hY; exact hY
 | cons r rs ih =>
  intro Y hY
  rw [adds_cons]
  refine ih ?_
  unfold TapeM.add
  dsimp only
  exact chainM_len _ _
theorem adds_ok {Y : TapeM} (hY : Y.ok) {rs : List (List UInt8)} (h : ∀ r ∈ rs, r.length ≤ 65536) (h1 : Y.recs.length + rs.length ≤ 1099511627776) (h2 : Y.size + 65600 * rs.length ≤ 1099511627776) : (Y.adds rs).ok := by
 have h0 := adds_head rs (Y := Y) hY.head
 refine ⟨?_, h0, ?_⟩
 ·rw [adds_recs, List.length_append]; exact h1
 ·rw [adds_size]; have := wireM_len h Y; omega

/-- What Append does to a journal and its disk. -/
def appM (br : Bool) (Y : TapeM) (D : DiskM) (l : List (List UInt8)) : Bool × TapeM × DiskM × Int :=
 if br = true ∨ (l.any fun s => decide (65536 < s.length)) = true then (br, Y, D, 250)
 else if (D.dur.length : Int) - Y.size < (wireM Y l).length then (br, Y, D, 251)
 else if wireM Y l = [] then (br, Y, D, 0)
 else if (storeM D Y.size (wireM Y l)).2 = 0 then (br, Y.adds l, (storeM D Y.size (wireM Y l)).1, 0)
 else (true, Y, (storeM D Y.size (wireM Y l)).1, (storeM D Y.size (wireM Y l)).2)

/-- A call that stores, as a value. -/
def cloIs (bj k : Nat) (s : List UInt8) (c : Clo) (g : G) : Prop := ∃ b1 b2 b3, c = cloW b1 b2 b3 ∧ EP g b1 0 [.pointer (some ⟨bj, 0, none⟩)] ∧ EP g b2 0 [.int .i64 (k : Int)] ∧ EP g b3 0 [.string (bs s)]
theorem cloIs.mono {bj k : Nat} {s : List UInt8} {c : Clo} {g g' : G} (hle : g.le g') (h : cloIs bj k s c g) : cloIs bj k s c g' := by
 obtain ⟨b1, b2, b3, e, h1, h2, h3⟩ := h
 exact ⟨b1, b2, b3, e, h1.mono hle, h2.mono hle, h3.mono hle⟩
def cloFact (bj k : Nat) (s : List UInt8) : Fact := ⟨fun v g => ∃ c, v = c.v ∧ cloIs bj k s c g, fun _ _ _ hf h => by obtain ⟨c, e, h⟩ := h; exact ⟨c, e, h.mono hf.le⟩⟩
def foursFact (bj k : Nat) (s1 s2 : List UInt8) (ab : Nat) : Fact :=
 ⟨fun v g => ∃ c d, Rs g v [c, cloS ab, d, cloS ab] ∧ cloIs bj (k + 1) s1 c g ∧ cloIs bj k s2 d g, fun _ _ _ hf ⟨c, d, h, h1, h2⟩ => ⟨c, d, h.mono hf.le, h1.mono hf.le, h2.mono hf.le⟩⟩
theorem RcL.clos (g : G) : ∀ cs : List Clo, RcL g (cs.map Clo.v) cs
 | [] => rfl
 | c :: cs => ⟨[c.v], cs.map Clo.v, rfl, rfl, RcL.clos g cs⟩

theorem stores_c {A : DkA} {D : DiskM} (hD : D.ok) (hp : D.pend.length ≤ 999990) {bj E k : Nat} {j0 j1 j2 : Value} {br : Bool} {out : List UInt8} (hk : k + out.length ≤ D.dur.length) (h1 : 1 ≤ out.length) {g0 g : G} {L : List Ent}
  {c d : Clo} {v : Value} (rs : Rs g v [c, cloS A.b, d, cloS A.b]) (hc : cloIs bj (k + 1) (out.drop 1) c g) (hd : cloIs bj k (out.take 1) d g) (hs : St g0 g (jnO bj E j0 j1 j2 A br :: (dkL A D ++ L))) :
  CallsIn Wd 0 Tryz.prog 40 #[v] g.w (RetS g fun g' r => r = .int .i64 (storeM D k out).2 ∧ (storeM D k out).1.ok ∧ (storeM D k out).1.dur.length = D.dur.length ∧ (storeM D k out).1.pend.length ≤ D.pend.length + 4 ∧
   ∃ pa pc, St g0 g' (jnO bj E j0 j1 j2 A br :: (dkL ⟨A.b, A.bd, A.bv, pa, pc⟩ (storeM D k out).1 ++ L))) := by
 have hlen1 : (out.drop 1).length = out.length - 1 := List.length_drop ..
 have hlen2 : (out.take 1).length = 1 := by rw [List.length_take]; omega
 have := runs_c [c, cloS A.b, d, cloS A.b] (storeFs k out) (fun i D1 gq => g.le gq ∧ D1.ok ∧ D1.dur.length = D.dur.length ∧ D1.pend.length ≤ D.pend.length + i ∧ ∃ pa pc, St g0 gq (jnO bj E j0 j1 j2 A br :: (dkL ⟨A.b, A.bd, A.bv, pa, pc⟩ D1 ++ L))) rfl D v g rs
  ⟨G.le.refl g, hD, rfl, Nat.le_refl _, A.pa, A.pc, hs⟩ ?_
 ·refine this.mono ?_
  rintro e w' ⟨g', v, hw, he, hle, rfl, i, hi, _, h1, h2, h3, h4⟩
  exact ⟨g', _, hw, he, hle, rfl, h1, h2, Nat.le_trans h3 (Nat.add_le_add_left hi _), h4⟩
 ·intro i cc f hci hfi
  have wcase : ∀ (q : Nat) (s : List UInt8), q + s.length ≤ D.dur.length → cloIs bj q s cc g → i < 10 → (∀ D1 : DiskM, f D1 = D1.wr q s) → Callable Tryz.prog cc.f ∧ ∀ (D1 : DiskM) (gq : G), g.le gq →
    (g.le gq ∧ D1.ok ∧ D1.dur.length = D.dur.length ∧ D1.pend.length ≤ D.pend.length + i ∧ ∃ pa pc, St g0 gq (jnO bj E j0 j1 j2 A br :: (dkL ⟨A.b, A.bd, A.bv, pa, pc⟩ D1 ++ L))) →
    CallsIn Wd 0 Tryz.prog cc.f (cc.fst ++ cc.cap).toArray gq.w (RetS gq fun g' r => r = .int .i64 (f D1).2 ∧ (g.le g' ∧ (f D1).1.ok ∧ (f D1).1.dur.length = D.dur.length ∧ (f D1).1.pend.length ≤ D.pend.length + (i + 1) ∧ ∃ pa pc, St g0 g' (jnO bj E j0 j1 j2 A br :: (dkL ⟨A.b, A.bd, A.bv, pa, pc⟩ (f D1).1 ++ L)))) := by
   rintro q s hq ⟨b1, b2, b3, rfl, e1, e2, e3⟩ hi hf
   refine ⟨cl72, ?_⟩
   rintro D1 gq hle ⟨_, hok, hl, hpn, pa, pc, hst⟩
   rw [hf]
   have := wr_pend D1 q s
   refine (wr1_c (A := ⟨A.b, A.bd, A.bv, pa, pc⟩) hok q s (by omega) (e1.mono hle) (e2.mono hle) (e3.mono hle) hst).mono ?_
   rintro e w' ⟨g', v, hw, he, hle', rfl, pa', pc', h⟩
   exact ⟨g', _, hw, he, hle', rfl, hle.trans hle', hok.wr (by omega) (by omega), by rw [wr_len]; exact hl, by omega, pa', pc', h⟩
  have scase : cc = cloS A.b → (∀ D1 : DiskM, f D1 = D1.sy) → Callable Tryz.prog cc.f ∧ ∀ (D1 : DiskM) (gq : G), g.le gq →
    (g.le gq ∧ D1.ok ∧ D1.dur.length = D.dur.length ∧ D1.pend.length ≤ D.pend.length + i ∧ ∃ pa pc, St g0 gq (jnO bj E j0 j1 j2 A br :: (dkL ⟨A.b, A.bd, A.bv, pa, pc⟩ D1 ++ L))) →
    CallsIn Wd 0 Tryz.prog cc.f (cc.fst ++ cc.cap).toArray gq.w (RetS gq fun g' r => r = .int .i64 (f D1).2 ∧ (g.le g' ∧ (f D1).1.ok ∧ (f D1).1.dur.length = D.dur.length ∧ (f D1).1.pend.length ≤ D.pend.length + (i + 1) ∧ ∃ pa pc, St g0 g' (jnO bj E j0 j1 j2 A br :: (dkL ⟨A.b, A.bd, A.bv, pa, pc⟩ (f D1).1 ++ L)))) := by
   rintro rfl hf
   refine ⟨cl42, ?_⟩
   rintro D1 gq hle ⟨_, hok, hl, hpn, pa, pc, hst⟩
   rw [hf]
   have := sy_pend D1
   refine (sy1_c (A := ⟨A.b, A.bd, A.bv, pa, pc⟩) hok hst).mono ?_
   rintro e w' ⟨g', v, hw, he, hle', rfl, pa', pc', h⟩
   exact ⟨g', _, hw, he, hle', rfl, hle.trans hle', hok.sy, by rw [sy_len hok]; exact hl, by omega, pa', pc', h⟩
  match i, hci, hfi with
  | 0, hci, hfi => obtain rfl := Option.some.inj hci; obtain rfl := Option.some.inj hfi; exact wcase (k + 1) (out.drop 1) (by omega) hc (by omega) fun _ => rfl
  | 1, hci, hfi => obtain rfl := Option.some.inj hfi; exact scase (Option.some.inj hci).symm fun _ => rfl
  | 2, hci, hfi => obtain rfl := Option.some.inj hci; obtain rfl := Option.some.inj hfi; exact wcase k (out.take 1) (by omega) hd (by omega) fun _ => rfl
  | 3, hci, hfi => obtain rfl := Option.some.inj hfi; exact scase (Option.some.inj hci).symm fun _ => rfl
  | i + 4, hci, hfi => simp at hci
end Go.Proofs.YteohjgndanlldaaGreatDoor

/- Package journal: Append. -/
namespace Go.Proofs.YteohjgndanlldaaGreatDoor
open Go Go.K
set_option maxRecDepth 10000
attribute [local irreducible] W WL OpR bitAnd bitOr bitXor bitClr bitNot shlI shrI
set_option maxHeartbeats 2000000

def appPost (B : JnA) (A : DkA) (br : Bool) (Y : TapeM) (D : DiskM) (l : List (List UInt8)) (L : List Ent) (g0 : G) (g' : G) (r : Value) : Prop :=
 r = .int .i64 (appM br Y D l).2.2.2 ∧ (appM br Y D l).2.2.1.ok ∧ (appM br Y D l).2.2.1.dur.length = D.dur.length ∧ (appM br Y D l).2.2.1.pend.length ≤ D.pend.length + 4 ∧
  ∃ ra rc pa pc, St g0 g' (jnL ⟨B.b, ra, rc⟩ ⟨A.b, A.bd, A.bv, pa, pc⟩ (appM br Y D l).1 (appM br Y D l).2.1 ++ (dkL ⟨A.b, A.bd, A.bv, pa, pc⟩ (appM br Y D l).2.2.1 ++ L))
theorem appPost.same {B : JnA} {A : DkA} {br : Bool} {Y : TapeM} {D : DiskM} {l : List (List UInt8)} {L : List Ent} {g0 g' : G} {e : Int} (hD : D.ok) (h : appM br Y D l = (br, Y, D, e)) (hs : St g0 g' (jnL B A br Y ++ (dkL A D ++ L))) : appPost B A br Y D l L g0 g' (.int .i64 e) := by
 unfold appPost
 rw [h]
 exact ⟨rfl, hD, rfl, Nat.le_add_right _ _, B.ra, B.rc, A.pa, A.pc, hs⟩

theorem append_c {B : JnA} {A : DkA} {br : Bool} {Y : TapeM} {D : DiskM} (hD : D.ok) (hp : D.pend.length ≤ 999990) (hY : Y.ok) (v : Value) (xs : List Str) (hm1 : Y.recs.length + xs.length ≤ 1099511627776) (hm2 : Y.size + 65600 * xs.length ≤ 1099511627776)
  {g0 g : G} {L : List Ent} (hrk0 : RoundAt g) (rs00 : Rs g v xs) (hs0 : St g0 g (jnL B A br Y ++ (dkL A D ++ L))) :
  CallsIn Wd 0 Tryz.prog 10 #[.pointer (some ⟨B.b, 0, none⟩), v] g.w (RetS g (appPost B A br Y D (xs.map Str.s) L g0)) := by
 obtain ⟨a, c, rfl⟩ := rs00.isSlice
 have hlen := rs00.len_le
 have rs0 := rs00
 unfold maxLen at hlen
 have hs := St.start g
 have le0 := G.le.refl g
 have hsC := hs0.call hs.fr0
 have hany : (xs.map Str.s).any (fun s => decide (65536 < s.length)) = xs.any longS := by rw [List.any_map]; rfl
 refine enter Tryz.func10 rfl Tryz.ntmps10 rfl ?_
 refine W_seq ?_; refine W_region ?_; refine P1 T.ok rfl rfl rfl ?_; refine WL_nil ?_; (with_reducible refine T_then ?_); refine W_seq ?_; refine W_seq ?_; refine W_region ?_; refine P1 T.ok rfl rfl rfl ?_
 refine WL_o rfl rfl (OpR_eqNilPtr T.ok (neg := false) rfl rfl rfl rfl rfl ?_)
 refine WL_nil ?_
 (with_reducible refine T_then ?_)
 refine W_no rfl rfl ?_
 refine W_skip ?_; (with_reducible refine T_then ?_); refine W_seq ?_; refine W_region ?_; refine P1 T.ok rfl rfl rfl ?_; refine WL_nil ?_; (with_reducible refine T_then ?_); refine W_seq ?_; refine W_seq ?_; refine W_region ?_; (iterate 3 refine P1 T.ok rfl rfl rfl ?_)
 refine WL_o rfl rfl (OpR_loadO T.ok 0 rfl hsC rfl rfl rfl ?_)
 refine P1 T.ok rfl rfl rfl ?_
 cases br with
 | true =>
  (iterate 3 refine S1 allF rfl rfl ?_); refine P1 T.ok rfl rfl rfl ?_; refine WL_nil ?_; (with_reducible refine T_then ?_)
  refine W_yes rfl rfl ?_
  refine W_seq ?_; refine W_region ?_; refine P1 T.ok rfl rfl rfl ?_; refine WL_nil ?_; (with_reducible refine T_then ?_)
  exact W_ret (ret1 rfl rfl (RetS.intro le0 (appPost.same hD (if_pos (.inl rfl)) hsC)))
 | false =>
  refine P1 T.ok rfl rfl rfl ?_; refine P1 T.ok rfl rfl rfl ?_
  refine WL_o rfl rfl (OpR_ret cl35 allF rfl rfl rfl rfl rfl (anyLong_c _ _ _ rs0) ?_); rintro g1 _ hf1 rfl; replace hs := hs.call hf1; replace hsC := hs0.call hs.fr0; have hqe := hf1.le; replace le0 := G.le.trans le0 hqe; replace rs0 := rs0.mono hqe
  refine P1 T.ok rfl rfl rfl ?_; refine WL_nil ?_; (with_reducible refine T_then ?_)
  cases hlong : xs.any longS with
  | true =>
   refine W_yes rfl rfl ?_
   refine W_seq ?_; refine W_region ?_; refine P1 T.ok rfl rfl rfl ?_; refine WL_nil ?_; (with_reducible refine T_then ?_)
   exact W_ret (ret1 rfl rfl (RetS.intro le0 (appPost.same hD (if_pos (.inr (hany.trans hlong))) hsC)))
  | false =>
   refine W_no rfl rfl ?_
   rw [hlong] at hany
   have hall : ∀ r ∈ xs.map Str.s, r.length ≤ 65536 := fun r hr => by
    have := List.any_eq_false.1 hany r hr
    simpa using this
   refine W_skip ?_; (with_reducible refine T_then ?_); refine W_seq ?_; refine W_region ?_; (iterate 3 refine P1 T.ok rfl rfl rfl ?_)
   refine WL_o rfl rfl (OpR_loadO T.ok 0 rfl hsC rfl rfl rfl ?_)
   skip
   refine WL_o rfl rfl (OpR_alloc T.ok rfl hs rfl rfl ?_); clear hs; rintro bt g1 hs hqe; replace le0 := G.le.trans le0 hqe; replace rs0 := rs0.mono hqe
   replace hsC := hs0.call hs.fr0
   skip
   refine WL_n rfl (OpR_storeO T.ok 0 rfl hs rfl rfl rfl rfl rfl rfl rfl rfl rfl ?_); replace hs := hs; rintro g1 hs hqe; replace le0 := G.le.trans le0 hqe; replace rs0 := rs0.mono hqe
   refine WL_nil ?_; (with_reducible refine T_then ?_); refine W_seq ?_; refine W_region ?_; refine P1 T.ok rfl rfl rfl ?_; refine WL_o rfl rfl (OpR_loadO T.ok 0 rfl hs rfl rfl rfl ?_)
   replace hsC := hs0.call hs.fr0
   have hcl := clone_c (i := 1) (xs := Y.recs) (ad := B.ra) (n := Y.recs.length) (c := B.rc) hsC rfl rfl hY.recs
   refine WL_o rfl rfl (OpR_ret cl36 allF rfl rfl rfl rfl rfl hcl ?_)
   clear hcl
   rintro g2 r hf2 ⟨cells, hown, hrc⟩
   obtain rfl := RcL.strs_inv hrc
   obtain ⟨ra, rc, rfl⟩ := hown.1.form
   replace hs := (hs.getOwn hf2 hown).perm (List.Perm.swap _ _ [])
   rw [List.length_map] at hs ⊢
   clear hrc hown
   have hqe := hf2.le; replace le0 := G.le.trans le0 hqe; replace rs0 := rs0.mono hqe
   refine P1 T.ok rfl rfl rfl ?_
   refine WL_n rfl (OpR_storeO T.ok 0 rfl hs rfl rfl rfl rfl rfl rfl rfl rfl rfl ?_); replace hs := hs; rintro g1 hs hqe; replace le0 := G.le.trans le0 hqe; replace rs0 := rs0.mono hqe
   replace hs : St g _ (tpL bt 72 ra rc [] Y) := hs
   refine WL_nil ?_; (with_reducible refine T_then ?_); refine W_seq ?_; refine W_region ?_
   refine WL_o rfl rfl (OpR_alloc T.ok rfl hs rfl rfl ?_); clear hs; rintro bb g1 hs hqe; replace le0 := G.le.trans le0 hqe; replace rs0 := rs0.mono hqe
   refine WL_nil ?_; (with_reducible refine T_then ?_); refine W_seq ?_; refine W_seq ?_; refine W_region ?_; (iterate 3 refine P1 T.ok rfl rfl rfl ?_); refine WL_nil ?_; (with_reducible refine T_then ?_); refine W_block ?_
   have hb0 := BdRow.nil 5
   refine W_loop (fun m a' w => ∃ (k : Nat) (g2 : G) (ra : Option Addr) (rc : Nat) (p v' : Value) (Lr : List Ent), w = g2.w ∧ St g g2 (.obj bb (.cells [p, v'].toArray 78 (0, 0)) :: (Lr ++ tpL bt 72 ra rc [] (Y.adds ((xs.take k).map Str.s)))) ∧
     (p = .pointer none ∨ p = .pointer (some ⟨bb, 0, none⟩)) ∧ BdRow 5 v' (wireM Y ((xs.take k).map Str.s)) Lr ∧ k ≤ xs.length ∧ m = xs.length - k ∧
     Fr 92 [] [(0, .pointer (some ⟨B.b, 0, none⟩)), (6, .pointer (some ⟨bt, 0, none⟩)), (7, .pointer (some ⟨bb, 0, none⟩)), (31, .slice a xs.length c), (32, .int .i64 (xs.length : Int)), (33, .int .i64 k)] a') xs.length
    (fun a' ha => ⟨0, _, ra, rc, _, _, [], rfl, hs, .inl rfl, hb0, Nat.zero_le _, rfl, ha.keep (by (repeat (first | exact trivial | refine ⟨rfl, ?_⟩)))⟩) ?_
   clear hs le0 rs0
   rintro m a' _ ⟨k, g2, ra, rc, p, v', Lr, rfl, hs, hpp, hbd, hk, rfl, ha'⟩
   have le0 := hs.le
   have rs1 := rs00.mono le0
   have hrk := hrk0.mono le0
   revert a'
   (with_reducible refine T_wp ?_); refine W_seq ?_; refine W_region ?_; refine P1 T.ok rfl rfl rfl ?_; refine WL_nil ?_; (with_reducible refine T_then ?_); refine W_seq ?_
   by_cases hlt : k < xs.length
   ·refine W_yes (b := decide ((k : Int) < (xs.length : Int))) (by simp; omega) rfl ?_
    refine W_skip ?_; (with_reducible refine T_then ?_); refine W_seq ?_; refine W_block ?_; refine W_seq ?_; refine W_region ?_
    refine WL_o rfl rfl (OpR_idx T.ok rfl rs1 (y := xs[k]) (geti_of rfl hlt) rfl rfl rfl rfl rfl rfl ?_)
    intro b p2 ys hep hrc
    obtain rfl : ys = [.string (bs (xs[k]).s)] := hrc
    have hshort : (xs[k]).s.length ≤ 65536 := by
     have := List.any_eq_false.1 hlong xs[k] (List.getElem_mem hlt)
     simpa [longS] using this
    have htk : (xs.take (k + 1)).map Str.s = (xs.take k).map Str.s ++ [xs[k].s] := by
     rw [List.take_add_one, List.getElem?_eq_getElem hlt, List.map_append]; rfl
    have hsh : ∀ r ∈ (xs.take k).map Str.s, r.length ≤ 65536 := fun r hr => hall r (List.mem_of_mem_take (by rw [← List.map_take]; exact hr))
    have hTk : (Y.adds ((xs.take k).map Str.s)).ok := adds_ok hY hsh (by simp; omega) (by simp; omega)
    have hwl := wireM_len hsh Y
    rw [List.length_map, List.length_take] at hwl
    generalize xs[k] = x at *
    have ep0 := hep
    refine WL_o rfl rfl (OpR_loadE T.ok 0 rfl ep0 rfl rfl ?_); refine P1 T.ok rfl rfl rfl ?_; refine WL_nil ?_; (with_reducible refine T_then ?_); refine W_region ?_; refine P1 T.ok rfl rfl rfl ?_
    have hs1 := St.flip (A := .obj bb (.cells [p, v'].toArray 78 (0, 0)) :: Lr) hs
    refine WL_o rfl rfl (OpR_st cl38 allF rfl rfl rfl rfl rfl (tadd_c hTk x.s hshort hrk hs1) ?_)
    clear hs hs1
    rintro g3 _ hqe ⟨rfl, ra3, rc3, hs3⟩; replace le0 := G.le.trans le0 hqe; replace ep0 := ep0.mono hqe; replace rs1 := rs1.mono hqe
    have hs := hs3.flip
    clear hs3
    have hol := outM_len (head := (Y.adds ((xs.take k).map Str.s)).head) hshort
    skip
    refine WL_o rfl rfl (OpR_st cl37 allF rfl rfl rfl rfl rfl (wstr_c hpp hbd (outM (Y.adds ((xs.take k).map Str.s)).head x.s) (by omega) hs) ?_)
    clear hs
    rintro g4 _ hqe ⟨v4, Lr4, hbd4, hs⟩; replace le0 := G.le.trans le0 hqe; replace ep0 := ep0.mono hqe; replace rs1 := rs1.mono hqe
    refine WL_nil ?_; (with_reducible refine T_bn ?_); (with_reducible refine T_then ?_); refine W_region ?_; refine P1 T.ok rfl rfl rfl ?_; refine P1 T.ok rfl rfl rfl ?_; refine WL_nil ?_
    exact fun a ha => ⟨xs.length - (k + 1), by omega, k + 1, g4, ra3, rc3, _, v4, Lr4, rfl, by rw [htk, adds_snoc]; exact hs, .inr rfl, by rw [htk, wireM_snoc]; exact hbd4, by omega, rfl, ha.keep ⟨rfl, rfl, rfl, rfl, rfl, kI rfl (by rw [wr (by omega) (by omega)]; omega), trivial⟩⟩
   ·refine W_no (b := decide ((k : Int) < (xs.length : Int))) (by simp; omega) rfl ?_
    obtain rfl : k = xs.length := by omega
    rw [List.take_length] at hs hbd
    refine W_exit ?_; (with_reducible refine T_tx ?_; with_reducible refine T_tx ?_); (with_reducible refine T_bx ?_); (with_reducible refine T_then ?_); refine W_seq ?_; refine W_region ?_
    have hsT : St g g2 (tpL bt 72 ra rc [] (Y.adds (xs.map Str.s))) := St.tail (M := .obj bb (.cells [p, v'].toArray 78 (0, 0)) :: Lr) hs
    have hL : ∀ x ∈ tpL bt 72 ra rc [] (Y.adds (xs.map Str.s)), ∀ k, x.blk = some k → ∃ o, g2.w.heap[k]? = some o ∧ ∀ c fz, o ≠ .cells c 5 fz := by
     intro x hx k hk
     have h0 := hsT.own 0 _ rfl
     have h1 := hsT.own 1 _ rfl
     rcases List.mem_cons.1 hx with rfl | hx
     ·simp only [Ent.blk, Option.some.injEq] at hk
      subst hk
      exact ⟨_, h0.2.1, fun c fz h => by simp at h⟩
     ·obtain rfl := List.mem_singleton.1 hx
      obtain ⟨cur, fz, hh⟩ := h1.1.at hk
      exact ⟨_, hh, fun c fz h => by simp at h⟩
    refine WL_o rfl rfl (OpR_call cl39 allF rfl rfl rfl rfl rfl (CallsIn.mono (bstr_c hpp hbd hL hs) ?_))
    clear hs hsT hL le0 rs1 hrk
    rintro e w' ⟨rfl, g3, rfl, hs, le0⟩
    refine ⟨_, rfl, ?_⟩
    have hsC := hs0.call hs.fr0
    generalize hout : wireM Y (xs.map Str.s) = out at *
    have hol := wireM_len hall Y
    rw [hout, List.length_map] at hol
    refine P1 T.ok rfl rfl rfl ?_; refine WL_nil ?_; (with_reducible refine T_then ?_); refine W_seq ?_; refine W_block ?_; refine W_seq ?_; refine W_region ?_; (iterate 3 refine P1 T.ok rfl rfl rfl ?_)
    refine WL_o rfl rfl (OpR_ret cl20 allF rfl rfl rfl rfl rfl (room_c hD hY hsC) ?_); rintro g4 _ hf4 rfl; replace hs := hs.call hf4; replace hsC := hsC.call hf4; have hqe := hf4.le; replace le0 := G.le.trans le0 hqe
    refine P1 T.ok rfl rfl rfl ?_; refine P1 T.ok rfl rfl rfl ?_; refine WL_nil ?_; (with_reducible refine T_then ?_)
    have hD1 := hD.pos
    have hD2 := hD.le
    have hY1 := hY.size
    have hw1 : ((bs out).size : Int) = out.length := by rw [bs_size]
    by_cases hfull : (D.dur.length : Int) - Y.size < out.length
    ·refine W_yes (b := decide ((D.dur.length : Int) - Y.size < ((bs out).size : Int))) (decide_eq_true (by rw [hw1]; exact hfull)) rfl ?_
     refine W_seq ?_; refine W_region ?_; refine P1 T.ok rfl rfl rfl ?_; refine WL_nil ?_; (with_reducible refine T_then ?_)
     refine W_ret (ret1 rfl rfl (RetS.intro le0 (appPost.same hD ?_ hsC)))
     unfold appM
     rw [if_neg (by simp [hany]), hout, if_pos hfull]
    ·refine W_no (b := decide ((D.dur.length : Int) - Y.size < ((bs out).size : Int))) (decide_eq_false (by rw [hw1]; exact hfull)) rfl ?_
     refine W_seq ?_; refine W_region ?_; (iterate 3 refine P1 T.ok rfl rfl rfl ?_); refine WL_nil ?_; (with_reducible refine T_then ?_)
     have hbe : ((bs out).toList == (bs []).toList) = (out == []) := by rw [bs_toList, bs_toList]
     by_cases hemp : out = []
     ·refine W_yes (b := ((bs out).toList == (bs []).toList)) (by rw [hbe]; simp [hemp]) rfl ?_
      refine W_seq ?_; refine W_region ?_; refine P1 T.ok rfl rfl rfl ?_; refine WL_nil ?_; (with_reducible refine T_then ?_)
      refine W_ret (ret1 rfl rfl (RetS.intro le0 (appPost.same hD ?_ hsC)))
      unfold appM
      rw [if_neg (by simp [hany]), hout, if_neg hfull, if_pos hemp]
     ·refine W_no (b := ((bs out).toList == (bs []).toList)) (by rw [hbe]; simp [hemp]) rfl ?_
      have hlen1 : 1 ≤ out.length := by cases out with | nil => exact absurd rfl hemp | cons x t => simp
      have hj := (hs0.join hs).swap
      clear hs hsC
      have hs : St g0 g4 (jnO B.b 74 (.slice B.ra Y.recs.length B.rc) (.string (bs Y.head)) (.int .i64 (Y.size : Int)) A false :: (dkL A D ++
        ((.row 9 1 (.slice B.ra Y.recs.length B.rc) Y.recs.length (strL Y.recs) :: tpL bt 72 ra rc [] (Y.adds (xs.map Str.s))) ++ L))) := by
       have hj2 : St g0 g4 (jnO B.b 74 (.slice B.ra Y.recs.length B.rc) (.string (bs Y.head)) (.int .i64 (Y.size : Int)) A false :: ((.row 9 1 (.slice B.ra Y.recs.length B.rc) Y.recs.length (strL Y.recs) :: tpL bt 72 ra rc [] (Y.adds (xs.map Str.s))) ++ (dkL A D ++ L))) := hj
       exact hj2.perm ((List.perm_append_comm_assoc _ (dkL A D) L).cons _)
      clear hj
      refine W_skip ?_; (with_reducible refine T_bn ?_); (with_reducible refine T_then ?_); refine W_seq ?_; refine W_seq ?_
      apply W_draw allF rfl (Fact.eq _ :: Fact.eq _ :: Fact.eq _ :: Fact.eq _ :: Fact.eq _ :: Fact.eq _ :: (Fact.eq (.int .i64 ((Y.size + 1 : Nat) : Int))) :: Fact.eq _ :: (Fact.eq (.string (bs (out.drop 1)))) :: (cloFact B.b (Y.size + 1) (out.drop 1)) :: Fact.eq _ :: Fact.eq _ :: Fact.eq _ :: Fact.eq _ :: Fact.eq _ :: Fact.eq _ :: Fact.eq _ :: Fact.eq _ :: Fact.eq _ :: Fact.eq _ :: Fact.eq _ :: Fact.eq _ :: (Fact.eq (.string (bs (out.take 1)))) :: (cloFact B.b Y.size (out.take 1)) :: Fact.eq _ :: Fact.eq _ :: Fact.eq _ :: Fact.eq _ :: Fact.eq _ :: (foursFact B.b Y.size (out.drop 1) (out.take 1) A.b) :: []) 30 [(29, 80)] rfl rfl
      ·refine D_s (js := []) (by kernel_rfl) (fun _ _ => QA_nil (DPu T.ok rfl rfl rfl)) ?_
       refine D_s (js := []) (by kernel_rfl) (fun _ _ => QA_nil (DPu T.ok rfl rfl rfl)) ?_
       refine D_s (js := [(1, 52)]) (by kernel_rfl) (fun _ _ => QA_eq rfl (QA_nil (DPu T.ok rfl rfl rfl))) ?_
       refine D_s (js := [(2, 53)]) (by kernel_rfl) (fun _ _ => QA_eq rfl (QA_nil (DPu T.ok rfl rfl rfl))) ?_
       refine D_s (js := [(3, 54)]) (by kernel_rfl) (fun _ _ => QA_eq rfl (QA_nil (DPu T.ok rfl rfl rfl))) ?_
       refine D_s (js := [(4, 55)]) (by kernel_rfl) (fun _ hf => QA_eq rfl (QA_nil (DLo T.ok 0 rfl rfl (hs.dr.call hf) rfl rfl rfl rfl))) ?_
       refine D_cons (D_step2 (js := [(5, 56)]) (by kernel_rfl) fun gd hf => ?_) ?_
       ·have hsd := hs.dr.call hf; have hfe := (G.le_dr _).trans hf.le
        refine QA_eq rfl ?_
        refine QA_nil ?_
        refine D_yes rfl ?_
        refine OpR_pure _ T.ok rfl ?_
        refine ⟨_, rfl, Fr0.refl _, ?_⟩
        exact congrArg (Value.int .i64) (by rw [wr (by omega) (by omega)]; omega)
       refine D_s (js := []) (by kernel_rfl) (fun _ _ => QA_nil (DPu T.ok rfl rfl rfl)) ?_
       refine D_cons (D_step2 (js := [(7, 58)]) (by kernel_rfl) fun gd hf => ?_) ?_
       ·have hsd := hs.dr.call hf; have hfe := (G.le_dr _).trans hf.le
        refine QA_eq rfl ?_
        refine QA_nil ?_
        refine D_yes rfl ?_
        refine OpR_cutS T.ok (s := out) (a := 1) (b := out.length) rfl rfl rfl rfl ⟨_, rfl⟩ rfl hlen1 (Nat.le_refl _) ?_
        refine ⟨_, rfl, Fr0.refl _, ?_⟩
        show Value.string _ = _
        rw [List.take_length]
       refine D_cons (D_step2 (js := [(0, 51), (6, 57), (8, 59)]) (by kernel_rfl) fun gd hf => ?_) ?_
       ·have hsd := hs.dr.call hf; have hfe := (G.le_dr _).trans hf.le
        refine QA_eq rfl ?_; refine QA_any fun v6 h6 => ?_; refine QA_any fun v8 h8 => ?_
        refine QA_nil ?_
        obtain rfl := h6
        obtain rfl := h8
        refine D_yes rfl ?_
        refine OpR_ret cl41 allF rfl rfl rfl rfl rfl (writing_c B.b (Y.size + 1) (out.drop 1) gd) fun g' v h1 h2 => ⟨g', rfl, h1, ?_⟩
        obtain ⟨b1, b2, b3, rfl, e1, e2, e3⟩ := h2
        exact ⟨cloW b1 b2 b3, rfl, b1, b2, b3, rfl, e1, e2, e3⟩
       refine D_s (js := []) (by kernel_rfl) (fun _ _ => QA_nil (DPu T.ok rfl rfl rfl)) ?_
       refine D_s (js := [(10, 61)]) (by kernel_rfl) (fun _ _ => QA_eq rfl (QA_nil (DPu T.ok rfl rfl rfl))) ?_
       refine D_s (js := [(11, 62)]) (by kernel_rfl) (fun _ _ => QA_eq rfl (QA_nil (DPu T.ok rfl rfl rfl))) ?_
       refine D_s (js := [(12, 63)]) (by kernel_rfl) (fun _ hf => QA_eq rfl (QA_nil (DLo T.ok 0 rfl rfl (hs.dr.call hf) rfl rfl rfl rfl))) ?_
       refine D_s (js := [(13, 64)]) (by kernel_rfl) (fun _ _ => QA_eq rfl (QA_nil (DPu T.ok rfl rfl rfl))) ?_
       refine D_s (js := []) (by kernel_rfl) (fun _ _ => QA_nil (DPu T.ok rfl rfl rfl)) ?_
       refine D_s (js := []) (by kernel_rfl) (fun _ _ => QA_nil (DPu T.ok rfl rfl rfl)) ?_
       refine D_s (js := [(16, 67)]) (by kernel_rfl) (fun _ _ => QA_eq rfl (QA_nil (DPu T.ok rfl rfl rfl))) ?_
       refine D_s (js := [(17, 68)]) (by kernel_rfl) (fun _ _ => QA_eq rfl (QA_nil (DPu T.ok rfl rfl rfl))) ?_
       refine D_s (js := [(18, 69)]) (by kernel_rfl) (fun _ _ => QA_eq rfl (QA_nil (DPu T.ok rfl rfl rfl))) ?_
       refine D_s (js := [(19, 70)]) (by kernel_rfl) (fun _ hf => QA_eq rfl (QA_nil (DLo T.ok 0 rfl rfl (hs.dr.call hf) rfl rfl rfl rfl))) ?_
       refine D_s (js := []) (by kernel_rfl) (fun _ _ => QA_nil (DPu T.ok rfl rfl rfl)) ?_
       refine D_cons (D_step2 (js := [(21, 72)]) (by kernel_rfl) fun gd hf => ?_) ?_
       ·have hsd := hs.dr.call hf; have hfe := (G.le_dr _).trans hf.le
        refine QA_eq rfl ?_
        refine QA_nil ?_
        refine D_yes rfl ?_
        refine OpR_cutS T.ok (s := out) (a := 0) (b := 1) rfl rfl rfl rfl rfl ⟨_, rfl⟩ (Nat.zero_le _) hlen1 ?_
        exact ⟨_, rfl, Fr0.refl _, rfl⟩
       refine D_cons (D_step2 (js := [(15, 66), (20, 71), (22, 73)]) (by kernel_rfl) fun gd hf => ?_) ?_
       ·have hsd := hs.dr.call hf; have hfe := (G.le_dr _).trans hf.le
        refine QA_eq rfl ?_; refine QA_eq rfl ?_; refine QA_any fun v22 h22 => ?_
        refine QA_nil ?_
        obtain rfl := h22
        refine D_yes rfl ?_
        refine OpR_ret cl41 allF rfl rfl rfl rfl rfl (writing_c B.b Y.size (out.take 1) gd) fun g' v h1 h2 => ⟨g', rfl, h1, ?_⟩
        obtain ⟨b1, b2, b3, rfl, e1, e2, e3⟩ := h2
        exact ⟨cloW b1 b2 b3, rfl, b1, b2, b3, rfl, e1, e2, e3⟩
       refine D_s (js := []) (by kernel_rfl) (fun _ _ => QA_nil (DPu T.ok rfl rfl rfl)) ?_
       refine D_s (js := [(24, 75)]) (by kernel_rfl) (fun _ _ => QA_eq rfl (QA_nil (DPu T.ok rfl rfl rfl))) ?_
       refine D_s (js := [(25, 76)]) (by kernel_rfl) (fun _ _ => QA_eq rfl (QA_nil (DPu T.ok rfl rfl rfl))) ?_
       refine D_s (js := [(26, 77)]) (by kernel_rfl) (fun _ hf => QA_eq rfl (QA_nil (DLo T.ok 0 rfl rfl (hs.dr.call hf) rfl rfl rfl rfl))) ?_
       refine D_s (js := [(27, 78)]) (by kernel_rfl) (fun _ _ => QA_eq rfl (QA_nil (DPu T.ok rfl rfl rfl))) ?_
       refine D_cons (D_step2 (js := [(9, 60), (14, 65), (23, 74), (28, 79)]) (by kernel_rfl) fun gd hf => ?_) ?_
       ·have hsd := hs.dr.call hf; have hfe := (G.le_dr _).trans hf.le
        refine QA_any fun v9 h9 => ?_; refine QA_eq rfl ?_; refine QA_any fun v23 h23 => ?_; refine QA_eq rfl ?_
        refine QA_nil ?_
        obtain ⟨c, rfl, hc⟩ := h9
        obtain ⟨d, rfl, hd⟩ := h23
        refine D_yes rfl ?_
        refine OpR_lit T.ok rfl (St.start gd) (vs := [(0, c.v), (1, (cloS A.b).v), (2, d.v), (3, (cloS A.b).v)]) (cells := [c.v, (cloS A.b).v, d.v, (cloS A.b).v]) rfl rfl rfl rfl rfl rfl (by decide) (by decide) (by kernel_rfl) rfl ?_
        intro b2 g2 hs1 hqe1
        obtain ⟨g3, hw3, hs3, hqe3, hrl⟩ := hs1.fzRow (α := Clo) (xs := [c, cloS A.b, d, cloS A.b]) (i := 0) rfl (RcL.clos _ [c, cloS A.b, d, cloS A.b])
        exact ⟨g3, hw3, hs3.fr0, c, d, hrl, hc.mono (hqe1.trans hqe3), hd.mono (hqe1.trans hqe3)⟩
       exact D_nil
      intro g1 hf1; refine QA_any fun v29 h29 => ?_; refine QA_nil ?_
      replace hs := hs.dr.call hf1; have hqe := (G.le_dr _).trans hf1.le; replace le0 := G.le.trans le0 hqe
      obtain ⟨cc, cd, rs9, hcc, hcd⟩ := h29
      refine WL_o rfl rfl (OpR_st cl40 allF rfl rfl rfl rfl rfl (stores_c hD hp (k := Y.size) (by omega) hlen1 rs9 hcc hcd hs) ?_)
      clear hs
      rintro g6 _ hqe ⟨rfl, hok, hdl, hpl, pa, pc, hs⟩; replace le0 := G.le.trans le0 hqe; replace rs9 := rs9.mono hqe
      have hA1 : (storeM D Y.size out).2 = 0 → appM false Y D (xs.map Str.s) = (false, Y.adds (xs.map Str.s), (storeM D Y.size out).1, 0) := fun h => by
       unfold appM
       rw [if_neg (by simp [hany]), hout, if_neg hfull, if_neg hemp, if_pos h]
      have hA2 : (storeM D Y.size out).2 ≠ 0 → appM false Y D (xs.map Str.s) = (true, Y, (storeM D Y.size out).1, (storeM D Y.size out).2) := fun h => by
       unfold appM
       rw [if_neg (by simp [hany]), hout, if_neg hfull, if_neg hemp, if_neg h]
      generalize storeM D Y.size out = res at *
      obtain ⟨D', e⟩ := res
      refine P1 T.ok rfl rfl rfl ?_; refine WL_nil ?_; (with_reducible refine T_then ?_); refine W_seq ?_; refine W_region ?_; refine P1 T.ok rfl rfl rfl ?_; refine P1 T.ok rfl rfl rfl ?_; refine WL_nil ?_; (with_reducible refine T_then ?_)
      by_cases hz : e = 0
      ·refine W_no (b := e != 0) (by simpa using hz) rfl ?_
       subst hz
       refine W_skip ?_; (with_reducible refine T_then ?_); refine W_seq ?_; refine W_region ?_; refine P1 T.ok rfl rfl rfl ?_
       refine WL_o rfl rfl (OpR_loadO T.ok 6 rfl hs rfl rfl rfl ?_)
       refine P1 T.ok rfl rfl rfl ?_; refine P1 T.ok rfl rfl rfl ?_
       refine WL_n rfl (OpR_storeO T.ok 0 rfl hs rfl rfl rfl rfl rfl rfl rfl rfl rfl ?_); replace hs := hs; rintro g1 hs hqe; replace le0 := G.le.trans le0 hqe; replace rs9 := rs9.mono hqe
       refine WL_nil ?_; (with_reducible refine T_then ?_); refine W_seq ?_; refine W_region ?_; refine P1 T.ok rfl rfl rfl ?_; refine WL_nil ?_; (with_reducible refine T_then ?_)
       refine W_ret (ret1 rfl rfl (RetS.intro le0 ?_))
       unfold appPost
       rw [hA1 rfl]
       refine ⟨rfl, hok, hdl, hpl, ra, rc, pa, pc, ?_⟩
       have hj : St g0 g1 (jnO B.b 74 (.slice ra (Y.adds (xs.map Str.s)).recs.length rc) (.string (bs (Y.adds (xs.map Str.s)).head)) (.int .i64 ((Y.adds (xs.map Str.s)).size : Int)) A false :: (dkL ⟨A.b, A.bd, A.bv, pa, pc⟩ D' ++
         ((.row 9 1 (.slice B.ra Y.recs.length B.rc) Y.recs.length (strL Y.recs) :: tpL bt 72 ra rc [] (Y.adds (xs.map Str.s))) ++ L))) := hs
       have hj2 := ((hj.perm ((List.perm_append_comm_assoc (dkL ⟨A.b, A.bd, A.bv, pa, pc⟩ D') _ L).cons _)).drop 1).drop 1
       exact hj2
      ·refine W_yes (b := e != 0) (by simpa using hz) rfl ?_
       refine W_seq ?_; refine W_region ?_; (iterate 3 refine P1 T.ok rfl rfl rfl ?_)
       refine WL_n rfl (OpR_storeO T.ok 0 rfl hs rfl rfl rfl rfl rfl rfl rfl rfl rfl ?_); replace hs := hs; rintro g1 hs hqe; replace le0 := G.le.trans le0 hqe; replace rs9 := rs9.mono hqe
       refine WL_nil ?_; (with_reducible refine T_then ?_); refine W_seq ?_; refine W_region ?_; refine P1 T.ok rfl rfl rfl ?_; refine P1 T.ok rfl rfl rfl ?_; refine WL_nil ?_; (with_reducible refine T_then ?_)
       refine W_ret (ret1 rfl rfl (RetS.intro le0 ?_))
       unfold appPost
       rw [hA2 hz]
       refine ⟨rfl, hok, hdl, hpl, B.ra, B.rc, pa, pc, ?_⟩
       have hj : St g0 g1 (jnO B.b 74 (.slice B.ra Y.recs.length B.rc) (.string (bs Y.head)) (.int .i64 (Y.size : Int)) A true :: (dkL ⟨A.b, A.bd, A.bv, pa, pc⟩ D' ++
         ((.row 9 1 (.slice B.ra Y.recs.length B.rc) Y.recs.length (strL Y.recs) :: tpL bt 72 ra rc [] (Y.adds (xs.map Str.s))) ++ L))) := hs
       have hj2 := ((hj.perm ((List.perm_append_comm_assoc (dkL ⟨A.b, A.bd, A.bv, pa, pc⟩ D') _ L).cons _)).drop 2).drop 2
       exact hj2
end Go.Proofs.YteohjgndanlldaaGreatDoor
