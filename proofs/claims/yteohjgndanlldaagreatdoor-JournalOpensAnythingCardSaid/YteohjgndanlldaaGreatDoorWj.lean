/- What a power failure leaves, and a journal while the power may fail. -/
import Derived.Test.YteohjgndanlldaaGreatDoorWi

/- What power failures leave: in plain Lean. -/
namespace Go.Proofs.YteohjgndanlldaaGreatDoor
open Go Go.K
set_option maxRecDepth 10000
attribute [local irreducible] W WL OpR bitAnd bitOr bitXor bitClr bitNot shlI shrI

theorem ontoM_get {d s : List UInt8} {k : Nat} (h : k + s.length ≤ d.length) (i : Nat) : (ontoM d k s)[i]? = if i < k then d[i]? else if i < k + s.length then s[i - k]? else d[i]? := by
 unfold ontoM
 have h1 : (d.take k).length = k := by rw [List.length_take]; omega
 have h2 : (d.take k ++ s).length = k + s.length := by rw [List.length_append, h1]
 by_cases c1 : i < k
 ·rw [if_pos c1, List.getElem?_append_left (by rw [h2]; omega), List.getElem?_append_left (by rw [h1]; exact c1), List.getElem?_take_of_lt c1]
 ·rw [if_neg c1]
  by_cases c2 : i < k + s.length
  ·rw [if_pos c2, List.getElem?_append_left (by rw [h2]; exact c2), List.getElem?_append_right (by rw [h1]; omega), h1]
  ·rw [if_neg c2, List.getElem?_append_right (by rw [h2]; omega), h2, List.getElem?_drop]
   congr 1; omega
theorem ontoM_nil (d : List UInt8) (k : Nat) : ontoM d k [] = d := by unfold ontoM; simp
theorem ontoM_again {d s : List UInt8} {k j : Nat} (h : k + s.length ≤ d.length) : ontoM (ontoM d k s) k (s.take j) = ontoM d k s := by
 have hl := ontoM_len h
 have ht : (s.take j).length ≤ s.length := by rw [List.length_take]; omega
 apply List.ext_getElem?
 intro i
 rw [ontoM_get (by rw [hl]; omega), ontoM_get h]
 by_cases c1 : i < k
 ·rw [if_pos c1, if_pos c1]
 ·rw [if_neg c1, if_neg c1]
  by_cases c2 : i < k + (s.take j).length
  ·rw [if_pos c2, if_pos (by omega)]
   rw [List.length_take] at c2
   rw [List.getElem?_take_of_lt (by omega)]
  ·rw [if_neg c2]

theorem crash_none {D : DiskM} {keep : List Int} {torn : Int} (h : D.pend = []) : crashD D keep torn = D.dur := by
 unfold crashD
 have : crashOrd D keep = [] := by
  cases ho : crashOrd D keep with
  | nil => rfl
  | cons i r =>
   have := crashOrd_good (D := D) (keep := keep) (i := i) (by rw [ho]; simp)
   rw [h] at this
   simp at this
 rw [this]
 rfl
theorem crash_one {D : DiskM} {keep : List Int} {torn : Int} {k : Nat} {s : List UInt8} (h : D.pend = [⟨k, s⟩]) (hk : k + s.length ≤ D.dur.length) : ∃ j, crashD D keep torn = ontoM D.dur k (s.take j) := by
 have all0 : ∀ i ∈ crashOrd D keep, i = 0 := by
  intro i hi
  have := crashOrd_good hi
  rw [h] at this
  simp at this
  omega
 unfold crashD
 rw [h]
 generalize crashOrd D keep = ord at *
 have key : ∀ (o : List Int), (∀ i ∈ o, i = 0) → ∀ d, (d = D.dur ∨ d = ontoM D.dur k s) → ∃ j, crashGo [⟨k, s⟩] torn o d = ontoM D.dur k (s.take j) := by
  intro o
  induction o with
  | nil =>
   intro _ d hd
   rcases hd with rfl | rfl
   ·exact ⟨0, by rw [List.take_zero, ontoM_nil]; rfl⟩
   ·exact ⟨s.length, by rw [List.take_length]; rfl⟩
  | cons i o ih =>
   intro ho d hd
   obtain rfl := ho i (by simp)
   have hw : ([⟨k, s⟩] : List Wr).getD (0 : Int).toNat ⟨0, []⟩ = ⟨k, s⟩ := rfl
   unfold crashGo
   rw [hw]
   simp only [Int.toNat_natCast]
   by_cases hc : o = [] ∧ 0 ≤ torn
   ·rw [if_pos hc, hc.1]
    rcases hd with rfl | rfl
    ·exact ⟨torn.toNat, rfl⟩
    ·exact ⟨s.length, by rw [List.take_length]; show ontoM (ontoM D.dur k s) k (s.take torn.toNat) = _; exact ontoM_again hk⟩
   ·rw [if_neg hc]
    refine ih (fun i hi => ho i (by simp [hi])) _ (.inr ?_)
    rcases hd with rfl | rfl
    ·rfl
    ·have := ontoM_again (j := s.length) hk
     rwa [List.take_length] at this
 exact key ord all0 D.dur (.inl rfl)

/-- A content that reads as a list of records, whatever lies behind them. -/
def Lies (v : List UInt8) (rs : List (List UInt8)) : Prop := ∃ tail, v = wireM tape0 rs ++ tail ∧ ∀ x t, tail = x :: t → x = 0
structure Live (D : DiskM) (Y : TapeM) (rs : List (List UInt8)) : Prop where
 inv : JInv D Y rs
 off : D.off = false
 left : 0 ≤ D.left ∧ D.left ≤ 1000
 pend : D.pend = []
 dv : D.dur = D.vis
structure Dead (D : DiskM) (Y : TapeM) (rs rs' : List (List UInt8)) : Prop where
 ok : D.ok
 off : D.off = true
 eq : Y = tape0.adds rs
 tok : Y.ok
 pendOk : PendOk D
 pl : D.pend.length ≤ 1
 sz : Y.size ≤ D.dur.length
 safe : ∀ keep torn, (crashD D keep torn).length = D.dur.length ∧ (Lies (crashD D keep torn) rs ∨ Lies (crashD D keep torn) rs')
 short : (∀ r ∈ rs, r.length ≤ 65536) ∧ ∀ r ∈ rs', r.length ≤ 65536

theorem Live.lies {D : DiskM} {Y : TapeM} {rs : List (List UInt8)} (h : Live D Y rs) : Lies D.vis rs := by
 refine ⟨D.vis.drop Y.size, ?_, isZero_at h.inv.zero⟩
 rw [← h.inv.wire, List.take_append_drop]

/-- Behind a power failure: the disk opens, and what lies on it is there. -/
theorem open_lies {v : List UInt8} {rs : List (List UInt8)} (h : Lies v rs) (hsh : ∀ r ∈ rs, r.length ≤ 65536) (h1 : 1 ≤ v.length) (h2 : v.length ≤ 4194304) :
  ∃ D2, openM ⟨false, 0, v, v, []⟩ = (some (tape0.adds rs), D2, 0) ∧ Live D2 (tape0.adds rs) rs ∧ D2.dur.length = v.length := by
 obtain ⟨tail, hv, ht⟩ := h
 have hsz : (tape0.adds rs).size = (wireM tape0 rs).length := by rw [adds_size, show tape0.size = 0 from rfl, Nat.zero_add]
 have hwp := wireM_pos rs tape0
 have hvl : v.length = (wireM tape0 rs).length + tail.length := by rw [hv, List.length_append]
 have hload : loadGo (v.length + 1) tape0 v = some (tape0.adds rs) := loadGo_wire v tail ht rs (v.length + 1) tape0 hsh (Nat.zero_le _) (by rw [show tape0.size = 0 from rfl, List.drop_zero]; exact hv) (by omega)
 have hdrop : v.drop (tape0.adds rs).size = tail := by rw [hsz, hv, List.drop_left]
 have htake : v.take (tape0.adds rs).size = wireM tape0 rs := by rw [hsz, hv, List.take_left]
 have hok : ∀ u : List UInt8, u.length = v.length → (⟨false, 0, u, u, []⟩ : DiskM).ok := fun u hu => ⟨rfl, by show 1 ≤ u.length; omega, by show u.length ≤ _; omega, by simp⟩
 unfold openM
 rw [if_neg (by simp)]
 simp only
 rw [hload]
 simp only [hdrop]
 cases hz : isZero tail with
 | true =>
  refine ⟨_, if_pos rfl, ⟨⟨hok v rfl, rfl, hsh, htake, ?_, ?_⟩, rfl, ⟨Int.le_refl _, by show (0 : Int) ≤ 1000; decide⟩, rfl, rfl⟩, rfl⟩
  ·show isZero (v.drop _) = true; rw [hdrop]; exact hz
  ·show (tape0.adds rs).size ≤ v.length; omega
 | false =>
  rw [if_neg (by simp)]
  have hrun : runM (clearFs (tape0.adds rs).size (v.length - (tape0.adds rs).size)) ⟨false, 0, v, v, []⟩ = (⟨false, 0, ontoM v (tape0.adds rs).size (List.replicate (v.length - (tape0.adds rs).size) 0), ontoM v (tape0.adds rs).size (List.replicate (v.length - (tape0.adds rs).size) 0), []⟩, 0) := by
   simp [runM, clearFs, DiskM.wr, DiskM.sy, DiskM.put, DiskM.sync, usedM]
  rw [hrun, if_pos rfl]
  have hn : v.length - (tape0.adds rs).size = tail.length := by omega
  have hon : ontoM v (tape0.adds rs).size (List.replicate (v.length - (tape0.adds rs).size) 0) = wireM tape0 rs ++ List.replicate tail.length 0 := by
   unfold ontoM
   rw [htake, hn, List.length_replicate, List.drop_of_length_le (by omega), List.append_nil]
  have hl : (wireM tape0 rs ++ List.replicate tail.length (0 : UInt8)).length = v.length := by rw [List.length_append, List.length_replicate]; omega
  rw [hon]
  refine ⟨_, rfl, ⟨⟨hok _ hl, rfl, hsh, ?_, ?_, ?_⟩, rfl, ⟨Int.le_refl _, by show (0 : Int) ≤ 1000; decide⟩, rfl, rfl⟩, hl⟩
  ·show (wireM tape0 rs ++ _).take _ = _; rw [hsz, List.take_left]
  ·show isZero ((wireM tape0 rs ++ _).drop _) = true; rw [hsz, List.drop_left]; exact isZero_rep _
  ·show _ ≤ (wireM tape0 rs ++ _).length; rw [hl]; omega
end Go.Proofs.YteohjgndanlldaaGreatDoor

/- Appending while the power may fail: in plain Lean. -/
namespace Go.Proofs.YteohjgndanlldaaGreatDoor
open Go Go.K
set_option maxRecDepth 10000
attribute [local irreducible] W WL OpR bitAnd bitOr bitXor bitClr bitNot shlI shrI

theorem Live.on {D : DiskM} {Y : TapeM} {rs : List (List UInt8)} (h : Live D Y rs) : D = ⟨false, D.left, D.vis, D.vis, []⟩ := by
 obtain ⟨off, left, dur, vis, pend⟩ := D
 have h1 := h.off; have h2 := h.pend; have h3 := h.dv
 simp only at h1 h2 h3
 subst h1; subst h2; subst h3; rfl
theorem wrapd {n : Int} (h1 : 0 ≤ n) (h2 : n ≤ 1000) : IntKind.i64.wrap (n - 1) = n - 1 := wr (by omega) (by omega)

theorem storeM_left {left : Int} {v : List UInt8} (h0 : 0 ≤ left) (h1 : left ≤ 1000) (k : Nat) (out : List UInt8) : storeM ⟨false, left, v, v, []⟩ k out =
  (if left = 1 then (⟨true, 0, v, ontoM v (k + 1) (out.drop 1), [⟨((k + 1 : Nat) : Int), out.drop 1⟩]⟩, 241)
   else if left = 2 then (⟨true, 0, ontoM v (k + 1) (out.drop 1), ontoM (ontoM v (k + 1) (out.drop 1)) k (out.take 1), [⟨(k : Int), out.take 1⟩]⟩, 241)
   else (⟨false, if left = 0 then 0 else left - 2, ontoM (ontoM v (k + 1) (out.drop 1)) k (out.take 1), ontoM (ontoM v (k + 1) (out.drop 1)) k (out.take 1), []⟩, 0)) := by
 have hw := wrapd h0 h1
 by_cases c0 : left = 0
 ·subst c0
  simp [storeM, storeFs, runM, DiskM.wr, DiskM.sy, DiskM.put, DiskM.sync, usedM]
 ·by_cases c1 : left = 1
  ·subst c1
   rw [if_pos rfl]
   simp [storeM, storeFs, runM, DiskM.wr, DiskM.sy, DiskM.put, usedM, show IntKind.i64.wrap 0 = 0 from by decide]
  ·rw [if_neg c1]
   have hn1 : ¬ (left - 1 = 0) := by omega
   have hw2 : IntKind.i64.wrap (left - 1 - 1) = left - 2 := by rw [wr (by omega) (by omega)]; omega
   by_cases c2 : left = 2
   ·subst c2
    rw [if_pos rfl]
    simp [storeM, storeFs, runM, DiskM.wr, DiskM.sy, DiskM.put, DiskM.sync, usedM, show IntKind.i64.wrap 1 = 1 from by decide, show IntKind.i64.wrap 0 = 0 from by decide]
   ·rw [if_neg c2, if_neg c0]
    have hn2 : ¬ (left - 2 = 0) := by omega
    simp [storeM, storeFs, runM, DiskM.wr, DiskM.sy, DiskM.put, DiskM.sync, usedM, c0, hw, hn1, hw2, hn2]

/-- What a write of all but the first byte leaves, however much of it survives. -/
theorem lies_tail {v out : List UInt8} {rs : List (List UInt8)} {k : Nat} (hk : k = (wireM tape0 rs).length) (ht : v.take k = wireM tape0 rs) (hz : isZero (v.drop k) = true) (hfit : k + out.length ≤ v.length) (h1 : 1 ≤ out.length) (j : Nat) :
  Lies (ontoM v (k + 1) ((out.drop 1).take j)) rs := by
 have hlt : k < v.length := by omega
 have hs : ((out.drop 1).take j).length ≤ out.length - 1 := by rw [List.length_take, List.length_drop]; omega
 have hl : (ontoM v (k + 1) ((out.drop 1).take j)).length = v.length := ontoM_len (by omega)
 have hvk : v[k]? = some 0 := by
  have h2 : v.drop k = v[k] :: v.drop (k + 1) := List.drop_eq_getElem_cons hlt
  have := isZero_at hz _ _ h2
  rw [List.getElem?_eq_getElem hlt, this]
 refine ⟨(ontoM v (k + 1) ((out.drop 1).take j)).drop k, ?_, ?_⟩
 ·have : (ontoM v (k + 1) ((out.drop 1).take j)).take k = wireM tape0 rs := by
   rw [← ht]
   apply List.ext_getElem?
   intro i
   by_cases hi : i < k
   ·rw [List.getElem?_take_of_lt hi, List.getElem?_take_of_lt hi, ontoM_get (by omega), if_pos (by omega)]
   ·rw [List.getElem?_eq_none (by rw [List.length_take]; omega), List.getElem?_eq_none (by rw [List.length_take]; omega)]
  rw [← this, List.take_append_drop]
 ·intro x t e
  have h3 : ((ontoM v (k + 1) ((out.drop 1).take j)).drop k)[0]? = some x := by rw [e]; rfl
  simp only [List.getElem?_drop, Nat.add_zero] at h3
  rw [ontoM_get (by omega), if_pos (by omega), hvk] at h3
  exact (Option.some.inj h3).symm

theorem app_live {D : DiskM} {Y : TapeM} {rs l : List (List UInt8)} (h : Live D Y rs) (hl : ∀ r ∈ l, r.length ≤ 65536) :
  ((D.dur.length : Int) - Y.size < (wireM Y l).length ∧ appM false Y D l = (false, Y, D, 251)) ∨
  (∃ D', appM false Y D l = (false, Y.adds l, D', 0) ∧ Live D' (Y.adds l) (rs ++ l) ∧ D'.dur.length = D.dur.length ∧ (D.left = 0 → D'.left = 0)) ∨
  (∃ D', D.left ≠ 0 ∧ appM false Y D l = (true, Y, D', 241) ∧ Dead D' Y rs (rs ++ l) ∧ D'.dur.length = D.dur.length) := by
 have hno : ¬ (false = true ∨ (l.any fun s => decide (65536 < s.length)) = true) := by
  simp only [Bool.false_eq_true, false_or, List.any_eq_true, decide_eq_true_eq, not_exists, not_and]
  intro r hr
  have := hl r hr
  omega
 by_cases hfull : (D.dur.length : Int) - Y.size < (wireM Y l).length
 ·exact .inl ⟨hfull, JInv.app_full hl hfull⟩
 right
 by_cases hw : wireM Y l = []
 ·left
  obtain rfl := wireM_nil hw
  refine ⟨D, ?_, by rw [List.append_nil]; exact h, rfl, fun h => h⟩
  unfold appM
  rw [if_neg hno, if_neg hfull, if_pos hw]
  rfl
 have happ : appM false Y D l = if (storeM D Y.size (wireM Y l)).2 = 0 then (false, Y.adds l, (storeM D Y.size (wireM Y l)).1, 0) else (true, Y, (storeM D Y.size (wireM Y l)).1, (storeM D Y.size (wireM Y l)).2) := by
  unfold appM
  rw [if_neg hno, if_neg hfull, if_neg hw]
 have h1 : 1 ≤ (wireM Y l).length := by
  cases hw' : wireM Y l with
  | nil => exact absurd hw' hw
  | cons x t => simp
 have hlen := h.inv.ok.len
 have hle := h.inv.le
 have hk : Y.size + (wireM Y l).length ≤ D.vis.length := by omega
 have hpos := h.inv.ok.pos
 have hmax := h.inv.ok.le
 have hon := h.on
 have hst := storeM_left (v := D.vis) h.left.1 h.left.2 Y.size (wireM Y l)
 rw [← hon] at hst
 have hl1 : (ontoM D.vis (Y.size + 1) ((wireM Y l).drop 1)).length = D.vis.length := ontoM_len (by rw [List.length_drop]; omega)
 have htk1 : ((wireM Y l).take 1).length = 1 := by rw [List.length_take]; omega
 have hl2 : (ontoM (ontoM D.vis (Y.size + 1) ((wireM Y l).drop 1)) Y.size ((wireM Y l).take 1)).length = D.vis.length := by rw [ontoM_len (by rw [hl1, htk1]; omega), hl1]
 have htwo := ontoM_two hk h1
 have hszk : Y.size = (wireM tape0 rs).length := h.inv.size
 have hsz : (Y.adds l).size = Y.size + (wireM Y l).length := adds_size l Y
 have hwapp : wireM tape0 (rs ++ l) = D.vis.take Y.size ++ wireM Y l := by rw [wireM_adds, ← h.inv.eq, h.inv.wire]
 have hshort : ∀ r ∈ rs ++ l, r.length ≤ 65536 := fun r hr => (List.mem_append.1 hr).elim (h.inv.short r) (hl r)
 have htl : (D.vis.take Y.size ++ wireM Y l).length = Y.size + (wireM Y l).length := by rw [List.length_append, List.length_take, Nat.min_eq_left hle]
 have hz2 : isZero (D.vis.drop (Y.size + (wireM Y l).length)) = true := by
  have h0 := h.inv.zero
  unfold isZero at h0 ⊢
  rw [List.all_eq_true] at h0 ⊢
  intro x hx
  rw [← List.drop_drop] at hx
  exact h0 x (List.mem_of_mem_drop hx)
 by_cases c1 : D.left = 1
 ·right
  rw [if_pos c1] at hst
  refine ⟨⟨true, 0, D.vis, ontoM D.vis (Y.size + 1) ((wireM Y l).drop 1), [⟨((Y.size + 1 : Nat) : Int), (wireM Y l).drop 1⟩]⟩, by omega, by rw [happ, hst]; exact if_neg (by show ¬ (241 : Int) = 0; decide), ?_, hlen⟩
  refine ⟨⟨by show (ontoM _ _ _).length = D.vis.length; rw [hl1], by show 1 ≤ D.vis.length; omega, by show D.vis.length ≤ _; omega, by simp⟩, rfl, h.inv.eq, h.inv.tok, ?_, by simp, hle, ?_, h.inv.short, hshort⟩
  ·intro w hw2
   obtain rfl := List.mem_singleton.1 hw2
   exact ⟨Y.size + 1, rfl, by show _ + ((wireM Y l).drop 1).length ≤ D.vis.length; rw [List.length_drop]; omega⟩
  ·intro keep torn
   obtain ⟨j, hj⟩ := crash_one (D := ⟨true, 0, D.vis, ontoM D.vis (Y.size + 1) ((wireM Y l).drop 1), [⟨((Y.size + 1 : Nat) : Int), (wireM Y l).drop 1⟩]⟩) (keep := keep) (torn := torn) rfl (by show _ ≤ D.vis.length; rw [List.length_drop]; omega)
   rw [hj]
   refine ⟨ontoM_len (by rw [List.length_take, List.length_drop]; show _ ≤ D.vis.length; omega), .inl (lies_tail hszk h.inv.wire h.inv.zero hk h1 j)⟩
 ·by_cases c2 : D.left = 2
  ·right
   rw [if_neg c1, if_pos c2] at hst
   refine ⟨⟨true, 0, ontoM D.vis (Y.size + 1) ((wireM Y l).drop 1), ontoM (ontoM D.vis (Y.size + 1) ((wireM Y l).drop 1)) Y.size ((wireM Y l).take 1), [⟨(Y.size : Int), (wireM Y l).take 1⟩]⟩, by omega, by rw [happ, hst]; exact if_neg (by show ¬ (241 : Int) = 0; decide), ?_, by show (ontoM _ _ _).length = _; rw [hl1, hlen]⟩
   refine ⟨⟨by show (ontoM _ _ _).length = (ontoM _ _ _).length; rw [hl1, hl2], by show 1 ≤ (ontoM _ _ _).length; rw [hl1]; omega, by show (ontoM _ _ _).length ≤ _; rw [hl1]; omega, by simp⟩, rfl, h.inv.eq, h.inv.tok, ?_, by simp, by show _ ≤ (ontoM _ _ _).length; rw [hl1]; exact hle, ?_, h.inv.short, hshort⟩
   ·intro w hw2
    obtain rfl := List.mem_singleton.1 hw2
    exact ⟨Y.size, rfl, by show _ + ((wireM Y l).take 1).length ≤ (ontoM _ _ _).length; rw [hl1, htk1]; omega⟩
   ·intro keep torn
    obtain ⟨j, hj⟩ := crash_one (D := ⟨true, 0, ontoM D.vis (Y.size + 1) ((wireM Y l).drop 1), ontoM (ontoM D.vis (Y.size + 1) ((wireM Y l).drop 1)) Y.size ((wireM Y l).take 1), [⟨(Y.size : Int), (wireM Y l).take 1⟩]⟩) (keep := keep) (torn := torn) rfl (by show _ ≤ (ontoM _ _ _).length; rw [hl1, htk1]; omega)
    rw [hj]
    refine ⟨ontoM_len (by rw [List.length_take, htk1]; show _ ≤ (ontoM _ _ _).length; rw [hl1]; omega), ?_⟩
    cases j with
    | zero =>
     left
     rw [List.take_zero, ontoM_nil]
     have := lies_tail hszk h.inv.wire h.inv.zero hk h1 (wireM Y l).length
     rwa [List.take_of_length_le (by rw [List.length_drop]; omega)] at this
    | succ j =>
     right
     rw [List.take_of_length_le (l := (wireM Y l).take 1) (by rw [htk1]; omega)]
     refine ⟨D.vis.drop (Y.size + (wireM Y l).length), by rw [hwapp]; exact htwo, isZero_at hz2⟩
  ·left
   rw [if_neg c1, if_neg c2] at hst
   refine ⟨_, by rw [happ, hst]; exact if_pos rfl, ?_, by show (ontoM _ _ _).length = _; rw [hl2, hlen], fun h0 => by show (if D.left = 0 then (0 : Int) else D.left - 2) = 0; rw [if_pos h0]⟩
   have hlf := h.left
   refine ⟨⟨⟨rfl, by show 1 ≤ (ontoM _ _ _).length; rw [hl2]; omega, by show (ontoM _ _ _).length ≤ _; rw [hl2]; omega, by simp⟩, by rw [adds_app, ← h.inv.eq], hshort, ?_, ?_, ?_⟩, rfl, ?_, rfl, rfl⟩
   ·show (ontoM _ _ _).take _ = _
    rw [htwo, hwapp, hsz, ← htl, List.take_left]
   ·show isZero ((ontoM _ _ _).drop _) = true
    rw [htwo, hsz, ← htl, List.drop_left, htl]; exact hz2
   ·show _ ≤ (ontoM _ _ _).length
    rw [hl2, hsz]; exact hk
   ·show 0 ≤ (if D.left = 0 then (0 : Int) else D.left - 2) ∧ (if D.left = 0 then (0 : Int) else D.left - 2) ≤ 1000
    split <;> omega
end Go.Proofs.YteohjgndanlldaaGreatDoor

/- A journal while the power may fail: what its calls do. -/
namespace Go.Proofs.YteohjgndanlldaaGreatDoor
open Go Go.K
set_option maxRecDepth 10000
attribute [local irreducible] W WL OpR bitAnd bitOr bitXor bitClr bitNot shlI shrI
set_option maxHeartbeats 2000000

theorem OwnR.base {α : Type} [El α] {e : TypeId} {g0 g g' : G} {xs : List α} {v : Value} (h : OwnR e g xs g' v) (hle : g0.w.heap.size ≤ g.w.heap.size) : OwnR e g0 xs g' v := by
 obtain ⟨cells, ⟨⟨h1, h2⟩, h3⟩, h4⟩ := h
 refine ⟨cells, ⟨⟨h1, ?_⟩, h3⟩, h4⟩
 rcases h2 with h' | ⟨b, off, cap, cur, e1, hB, h'⟩
 ·exact .inl h'
 ·exact .inr ⟨b, off, cap, cur, e1, Nat.le_trans hle hB, h'⟩
theorem OwnR.keep {α : Type} [El α] {e : TypeId} {g0 g g' : G} {xs : List α} {v : Value} (h : OwnR e g0 xs g v) (hf : Fr0 g g') : OwnR e g0 xs g' v := by
 obtain ⟨cells, h1, h2⟩ := h
 refine ⟨cells, h1.kept fun b hb => ?_, h2.mono hf.le⟩
 have := h1.lt b hb
 exact ⟨hf.below.block b this.2.1, hf.im b this.2.1⟩
/-- A slice of the call's own, in a drawn region. -/
def ownF (e : TypeId) (g0 : G) (xs : List Str) : Fact := ⟨fun v g => OwnR e g0 xs g v, fun _ _ _ hf h => OwnR.keep h hf⟩
def nilF : Fact := ⟨fun v _ => ∃ ad, v = .slice ad 0 0, fun _ _ _ _ h => h⟩

def liveP (D : DiskM) (Y : TapeM) (rs l : List (List UInt8)) (D' : DiskM) (Y' : TapeM) (br : Bool) (e : Int) : Prop :=
 (e = 251 ∧ br = false ∧ Y' = Y ∧ D' = D) ∨ (e = 0 ∧ br = false ∧ Y' = Y.adds l ∧ Live D' Y' (rs ++ l) ∧ (D.left = 0 → D'.left = 0)) ∨ (e = 241 ∧ D.left ≠ 0 ∧ br = true ∧ Y' = Y ∧ Dead D' Y rs (rs ++ l))
def appL (B : JnA) (A : DkA) (D : DiskM) (Y : TapeM) (rs l : List (List UInt8)) (L : List Ent) (g0 g' : G) (r : Value) : Prop :=
 ∃ ra rc pa pc D' Y' br e, r = .int .i64 e ∧ D'.dur.length = D.dur.length ∧ liveP D Y rs l D' Y' br e ∧ St g0 g' (jnL ⟨B.b, ra, rc⟩ ⟨A.b, A.bd, A.bv, pa, pc⟩ br Y' ++ (dkL ⟨A.b, A.bd, A.bv, pa, pc⟩ D' ++ L))
theorem appendL_c {B : JnA} {A : DkA} {Y : TapeM} {D : DiskM} {rs : List (List UInt8)} (hv : Live D Y rs) (v : Value) (xs : List Str) (hsh : ∀ r ∈ xs.map Str.s, r.length ≤ 65536) (hn : xs.length ≤ 1000)
  {g0 g : G} {L : List Ent} (hrk0 : RoundAt g) (rs00 : Rs g v xs) (hs0 : St g0 g (jnL B A false Y ++ (dkL A D ++ L))) :
  CallsIn Wd 0 Tryz.prog 10 #[.pointer (some ⟨B.b, 0, none⟩), v] g.w (RetS g (appL B A D Y rs (xs.map Str.s) L g0)) := by
 have hJ := hv.inv
 have h1 := hJ.tok
 have h2 := hJ.ok.le
 have h3 := hJ.ok.len
 have h4 := hJ.le
 have h5 := hJ.nrec
 refine (append_c hJ.ok (by rw [hv.pend]; simp) h1 v xs (by rw [hJ.recs]; omega) (by omega) hrk0 rs00 hs0).mono ?_
 rintro e w' ⟨g', r, hw, he, hle, rfl, hok, hdl, hpl, ra, rc, pa, pc, hs⟩
 refine ⟨g', _, hw, he, hle, ?_⟩
 rcases app_live hv hsh with ⟨_, hA⟩ | ⟨D', hA, hL, hl, h0⟩ | ⟨D', hl0, hA, hDd, hl⟩
 ·rw [hA] at hs ⊢
  exact ⟨ra, rc, pa, pc, D, Y, false, 251, rfl, rfl, .inl ⟨rfl, rfl, rfl, rfl⟩, hs⟩
 ·rw [hA] at hs ⊢
  exact ⟨ra, rc, pa, pc, D', _, false, 0, rfl, hl, .inr (.inl ⟨rfl, rfl, rfl, hL, h0⟩), hs⟩
 ·rw [hA] at hs ⊢
  exact ⟨ra, rc, pa, pc, D', _, true, 241, rfl, hl, .inr (.inr ⟨rfl, hl0, rfl, rfl, hDd⟩), hs⟩
theorem Dead.nrec {D : DiskM} {Y : TapeM} {rs rs' : List (List UInt8)} (h : Dead D Y rs rs') : Y.recs = rs ∧ rs.length ≤ D.dur.length := by
 have h1 : Y.recs = rs := by rw [h.eq, adds_recs]; rfl
 have h2 : Y.size = (wireM tape0 rs).length := by rw [h.eq, adds_size, show tape0.size = 0 from rfl, Nat.zero_add]
 have h3 := wireM_pos rs tape0
 have h4 := h.sz
 exact ⟨h1, by omega⟩
theorem app_broken (Y : TapeM) (D : DiskM) (l : List (List UInt8)) : appM true Y D l = (true, Y, D, 250) := by
 unfold appM
 rw [if_pos (.inl rfl)]
theorem fewM_short (xs : List Str) : ∀ r ∈ (fewM xs).map Str.s, r.length ≤ 65536 := by
 intro r hr
 obtain ⟨x, hx, rfl⟩ := List.mem_map.1 hr
 unfold fewM at hx
 obtain ⟨y, _, rfl⟩ := List.mem_map.1 hx
 show (y.s.take 100).length ≤ _
 rw [List.length_take]; omega
theorem fewM_len (xs : List Str) : (fewM xs).length ≤ 6 := by unfold fewM; rw [List.length_map, List.length_take]; omega
theorem appendDead_c {B : JnA} {A : DkA} {Y : TapeM} {D : DiskM} {rs rs' : List (List UInt8)} (hv : Dead D Y rs rs') (v : Value) (xs : List Str) (hn : xs.length ≤ 1000)
  {g0 g : G} {L : List Ent} (hrk0 : RoundAt g) (rs00 : Rs g v xs) (hs0 : St g0 g (jnL B A true Y ++ (dkL A D ++ L))) :
  CallsIn Wd 0 Tryz.prog 10 #[.pointer (some ⟨B.b, 0, none⟩), v] g.w
   (RetS g fun g' r => r = .int .i64 250 ∧ ∃ ra rc pa pc, St g0 g' (jnL ⟨B.b, ra, rc⟩ ⟨A.b, A.bd, A.bv, pa, pc⟩ true Y ++ (dkL ⟨A.b, A.bd, A.bv, pa, pc⟩ D ++ L))) := by
 have h1 := hv.nrec
 have h2 := hv.ok.le
 have h3 := hv.sz
 refine (append_c hv.ok (Nat.le_trans hv.pl (by decide)) hv.tok v xs (by rw [h1.1]; omega) (by omega) hrk0 rs00 hs0).mono ?_
 rintro e w' ⟨g', r, hw, he, hle, rfl, _, _, _, ra, rc, pa, pc, hs⟩
 rw [app_broken] at hs he
 exact ⟨g', _, hw, he, hle, rfl, ra, rc, pa, pc, hs⟩

/-- Live or not. -/
def Any (D : DiskM) (Y : TapeM) (br : Bool) (rs rs' : List (List UInt8)) : Prop := (br = false ∧ rs' = rs ∧ Live D Y rs) ∨ (br = true ∧ Dead D Y rs rs')
theorem Any.ok {D : DiskM} {Y : TapeM} {br : Bool} {rs rs' : List (List UInt8)} (h : Any D Y br rs rs') : D.ok ∧ PendOk D ∧ D.pend.length ≤ 1 ∧ Y.ok ∧ Y.recs = rs := by
 rcases h with ⟨rfl, rfl, h⟩ | ⟨rfl, h⟩
 ·exact ⟨h.inv.ok, fun w hw => by rw [h.pend] at hw; simp at hw, by rw [h.pend]; simp, h.inv.tok, h.inv.recs⟩
 ·exact ⟨h.ok, h.pendOk, h.pl, h.tok, h.nrec.1⟩
theorem Any.crash {D : DiskM} {Y : TapeM} {br : Bool} {rs rs' : List (List UInt8)} (h : Any D Y br rs rs') (keep : List Int) (torn : Int) :
  (D.crash keep torn).ok ∧ (D.crash keep torn).pend = [] ∧ ∃ D2 r, (r = rs ∨ r = rs') ∧ openM (D.crash keep torn) = (some (tape0.adds r), D2, 0) ∧ Live D2 (tape0.adds r) r ∧ D2.dur.length = D.dur.length := by
 have hok := h.ok.1
 have key : (crashD D keep torn).length = D.dur.length ∧ ∃ r, (r = rs ∨ r = rs') ∧ Lies (crashD D keep torn) r ∧ ∀ x ∈ r, x.length ≤ 65536 := by
  rcases h with ⟨rfl, rfl, h⟩ | ⟨rfl, h⟩
  ·rw [crash_none h.pend]
   exact ⟨rfl, _, .inl rfl, by rw [h.dv]; exact h.lies, h.inv.short⟩
  ·obtain ⟨h1, h2⟩ := h.safe keep torn
   rcases h2 with h2 | h2
   ·exact ⟨h1, rs, .inl rfl, h2, h.short.1⟩
   ·exact ⟨h1, rs', .inr rfl, h2, h.short.2⟩
 obtain ⟨hl, r, hr, hlies, hshort⟩ := key
 have hp := hok.pos
 have hm := hok.le
 refine ⟨⟨rfl, by show 1 ≤ (crashD D keep torn).length; omega, by show (crashD D keep torn).length ≤ _; omega, by simp [DiskM.crash]⟩, rfl, ?_⟩
 obtain ⟨D2, h1, h2, h3⟩ := open_lies hlies hshort (by omega) (by omega)
 exact ⟨D2, r, hr, h1, h2, h3.trans hl⟩
theorem jopenR_c {A : DkA} {D D2 : DiskM} {Y : TapeM} (hD : D.ok) (hp : D.pend = []) (ho : openM D = (some Y, D2, 0)) {e : Addr} {g0 g : G} {L : List Ent} (hrk : RoundAt g) (hE : ErrAt e g) (hs : St g0 g (dkL A D ++ L)) :
  CallsIn Wd 0 Tryz.prog 25 #[.pointer (some ⟨A.b, 0, none⟩)] g.w (RetS g fun g' r => ∃ pa pc, ∃ B : JnA, r = .tuple #[.pointer (some ⟨B.b, 0, none⟩), .int .i64 0] ∧ St g0 g' (jnL B ⟨A.b, A.bd, A.bv, pa, pc⟩ false Y ++ (dkL ⟨A.b, A.bd, A.bv, pa, pc⟩ D2 ++ L))) := by
 refine (jopen_c hD (by rw [hp]; simp) hrk hE hs).mono ?_
 rintro e w' ⟨g', r, hw, he, hle, h⟩
 unfold openRes at h
 rw [ho] at h
 obtain ⟨_, _, _, pa, pc, B, hr, hs⟩ := h
 exact ⟨g', _, hw, he, hle, pa, pc, B, hr, hs⟩
theorem Live.new {n : Nat} (h1 : 1 ≤ n) (h2 : n ≤ 4194304) : Live (DiskM.new n) tape0 [] := ⟨JInv.new h1 h2, rfl, ⟨Int.le_refl _, by show (0 : Int) ≤ 1000; decide⟩, rfl, rfl⟩
theorem Live.cut {D : DiskM} {Y : TapeM} {rs : List (List UInt8)} (h : Live D Y rs) {n : Int} (h1 : 1 ≤ n) (h2 : n ≤ 1000) : Live (D.cut n) Y rs :=
 ⟨⟨⟨h.inv.ok.len, h.inv.ok.pos, h.inv.ok.le, h.inv.ok.pend⟩, h.inv.eq, h.inv.short, h.inv.wire, h.inv.zero, h.inv.le⟩, by show (n == 0) = false; simp; omega, ⟨by show 0 ≤ n; omega, by show n ≤ 1000; omega⟩, h.pend, h.dv⟩
end Go.Proofs.YteohjgndanlldaaGreatDoor

/- Operations as arguments; cutting the power and appending whether the journal lives or not. -/
namespace Go.Proofs.YteohjgndanlldaaGreatDoor
open Go Go.K
set_option maxRecDepth 10000
attribute [local irreducible] W WL OpR bitAnd bitOr bitXor bitClr bitNot shlI shrI
set_option maxHeartbeats 2000000

structure OpE where
 kind : Int
 l : List Str
 n : Int
 keep : List Int
def ROp (g : G) (cs : List Value) (x : OpE) : Prop :=
 ∃ a1 n1 c1 a3 n3 c3, cs = [.int .i64 x.kind, .slice a1 n1 c1, .int .i64 x.n, .slice a3 n3 c3] ∧ Rs g (.slice a1 n1 c1) x.l ∧ Rs g (.slice a3 n3 c3) x.keep ∧ I64 x.kind ∧ I64 x.n
instance : El OpE where
 k := 4
 pos := by omega
 rc := ROp
 len h := by obtain ⟨_, _, _, _, _, _, rfl, _⟩ := h; rfl
 mono hle h := by obtain ⟨a1, n1, c1, a3, n3, c3, e, h1, h2, h3⟩ := h; exact ⟨a1, n1, c1, a3, n3, c3, e, h1.mono hle, h2.mono hle, h3⟩
 one h := by obtain ⟨_, _, _, _, _, _, rfl, _⟩ := h; simp [Value.oneCell']
def opPtr (off : Nat) (s : OpE) : Fact :=
 ⟨fun v g => ∃ b p ys, v = .pointer (some ⟨b, p + off, none⟩) ∧ EP g b p ys ∧ ROp g ys s, fun _ _ _ hf ⟨b, p, ys, e, h1, h2⟩ => ⟨b, p, ys, e, h1.mono hf.le, El.mono (α := OpE) hf.le h2⟩⟩

theorem dcutD_c {A : DkA} {D : DiskM} (ho : D.off = true) (n : Int) {g0 g : G} {L : List Ent} (hs : St g0 g (dkL A D ++ L)) :
  CallsIn Wd 0 Tryz.prog 29 #[.pointer (some ⟨A.b, 0, none⟩), .int .i64 n] g.w (RetS g fun g' r => r = .int .i64 241 ∧ St g0 g' (dkL A D ++ L)) := by
 have le0 := G.le.refl g
 refine enter Tryz.func29 rfl Tryz.ntmps29 rfl ?_
 refine W_seq ?_; refine W_region ?_; refine P1 T.ok rfl rfl rfl ?_; refine WL_nil ?_; (with_reducible refine T_then ?_); refine W_seq ?_; refine W_seq ?_; refine W_region ?_; refine P1 T.ok rfl rfl rfl ?_
 refine WL_o rfl rfl (OpR_ret cl46 allF rfl rfl rfl rfl rfl (dcheck_c hs) ?_); rintro g1 _ hf1 rfl; replace hs := hs.call hf1; have hqe := hf1.le; replace le0 := G.le.trans le0 hqe
 rw [show D.check = 241 from if_pos ho]
 refine P1 T.ok rfl rfl rfl ?_; refine WL_nil ?_; (with_reducible refine T_then ?_); refine W_seq ?_; refine W_region ?_; refine P1 T.ok rfl rfl rfl ?_; refine P1 T.ok rfl rfl rfl ?_; refine WL_nil ?_; (with_reducible refine T_then ?_)
 refine W_yes rfl rfl ?_
 refine W_seq ?_; refine W_region ?_; refine P1 T.ok rfl rfl rfl ?_; refine P1 T.ok rfl rfl rfl ?_; refine WL_nil ?_; (with_reducible refine T_then ?_)
 exact W_ret (ret1 rfl rfl (RetS.intro le0 ⟨rfl, hs⟩))
theorem anycut_c {A : DkA} {D : DiskM} {Y : TapeM} {br : Bool} {rs rs' : List (List UInt8)} (h : Any D Y br rs rs') (n : Int) (h1 : 1 ≤ n) (h2 : n ≤ 1000) {g0 g : G} {L : List Ent} (hs : St g0 g (dkL A D ++ L)) :
  CallsIn Wd 0 Tryz.prog 29 #[.pointer (some ⟨A.b, 0, none⟩), .int .i64 n] g.w (RetS g fun g' r => ∃ e D', r = .int .i64 e ∧ Any D' Y br rs rs' ∧ St g0 g' (dkL A D' ++ L)) := by
 rcases h with ⟨rfl, rfl, h⟩ | ⟨rfl, h⟩
 ·refine (dcut_c h.off n (by omega) hs).mono ?_
  rintro e w' ⟨g', r, hw, he, hle, rfl, hs⟩
  exact ⟨g', _, hw, he, hle, _, _, rfl, .inl ⟨rfl, rfl, h.cut h1 h2⟩, hs⟩
 ·refine (dcutD_c h.off n hs).mono ?_
  rintro e w' ⟨g', r, hw, he, hle, rfl, hs⟩
  exact ⟨g', _, hw, he, hle, _, _, rfl, .inr ⟨rfl, h⟩, hs⟩
theorem anyapp_c {B : JnA} {A : DkA} {Y : TapeM} {D : DiskM} {br : Bool} {rs rs' : List (List UInt8)} (h : Any D Y br rs rs') (hll : rs.length ≤ rs'.length) (v : Value) (xs : List Str) (hsh : ∀ r ∈ xs.map Str.s, r.length ≤ 65536) (hn : xs.length ≤ 1000)
  {g0 g : G} {L : List Ent} (hrk0 : RoundAt g) (rs00 : Rs g v xs) (hs0 : St g0 g (jnL B A br Y ++ (dkL A D ++ L))) :
  CallsIn Wd 0 Tryz.prog 10 #[.pointer (some ⟨B.b, 0, none⟩), v] g.w
   (RetS g fun g' r => ∃ e ra rc pa pc D' Y' br', r = .int .i64 e ∧ ((e = 0 ∧ Any D' Y' br' (rs ++ xs.map Str.s) (rs ++ xs.map Str.s)) ∨ (e ≠ 0 ∧ ∃ rs2, rs.length ≤ rs2.length ∧ Any D' Y' br' rs rs2)) ∧
    St g0 g' (jnL ⟨B.b, ra, rc⟩ ⟨A.b, A.bd, A.bv, pa, pc⟩ br' Y' ++ (dkL ⟨A.b, A.bd, A.bv, pa, pc⟩ D' ++ L))) := by
 rcases h with ⟨rfl, rfl, h⟩ | ⟨rfl, h⟩
 ·refine (appendL_c h v xs hsh hn hrk0 rs00 hs0).mono ?_
  rintro e w' ⟨g', r, hw, he, hle, ra, rc, pa, pc, D', Y', br, ee, rfl, _, hc, hs⟩
  refine ⟨g', _, hw, he, hle, ee, ra, rc, pa, pc, D', Y', br, rfl, ?_, hs⟩
  rcases hc with ⟨rfl, rfl, rfl, rfl⟩ | ⟨rfl, rfl, _, h1, _⟩ | ⟨rfl, _, rfl, rfl, h1⟩
  ·exact .inr ⟨by decide, _, Nat.le_refl _, .inl ⟨rfl, rfl, h⟩⟩
  ·exact .inl ⟨rfl, .inl ⟨rfl, rfl, h1⟩⟩
  ·exact .inr ⟨by decide, _, by rw [List.length_append]; omega, .inr ⟨rfl, h1⟩⟩
 ·refine (appendDead_c h v xs hn hrk0 rs00 hs0).mono ?_
  rintro e w' ⟨g', r, hw, he, hle, rfl, ra, rc, pa, pc, hs⟩
  exact ⟨g', _, hw, he, hle, 250, ra, rc, pa, pc, D, Y, true, rfl, .inr ⟨by decide, _, hll, .inr ⟨rfl, h⟩⟩, hs⟩
theorem Any.nrec {D : DiskM} {Y : TapeM} {br : Bool} {rs rs' : List (List UInt8)} (h : Any D Y br rs rs') : rs.length ≤ 4194304 := by
 rcases h with ⟨_, _, h⟩ | ⟨_, h⟩
 ·have h1 := h.inv.nrec
  have h2 := h.inv.ok.le
  omega
 ·have h1 := h.nrec.2
  have h2 := h.ok.le
  omega
end Go.Proofs.YteohjgndanlldaaGreatDoor
