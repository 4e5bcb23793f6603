/- The walks through package graph: ends, clone and cycle. -/
import Derived.Test.YtijmlfmapfhabaaGa
import Derived.Test.YtijmlfmapfhabaaKc
import Derived.Test.YtijmlfmapfhabaaMa

/- The walks through package graph: Ends. -/
namespace Go.Proofs.Ytijmlfmapfhabaa
open Go Go.K
set_option maxRecDepth 10000
attribute [local irreducible] W WL OpR
set_option maxHeartbeats 1000000

def ints (xs : List Int) : List Value := xs.map (Value.int .i64)

theorem ints_take (xs : List Int) (n : Nat) : (ints xs).take n = ints (xs.take n) := by simp [ints]
theorem ints_drop (xs : List Int) (n : Nat) : (ints xs).drop n = ints (xs.drop n) := by simp [ints]
theorem fidx_cases {α : Type} (p : α → Bool) (l : List α) : (fidx p l = -1 ∧ ∀ x ∈ l, p x = false) ∨ ∃ k, ∃ h : k < l.length, fidx p l = k ∧ p l[k] = true ∧ ∀ j (h : j < l.length), j < k → p l[j] = false := by
  unfold fidx
  cases h : l.any p with
  | false => exact .inl ⟨rfl, fun x hx => by simpa using (List.any_eq_false.1 h) x hx⟩
  | true =>
    refine .inr ⟨l.findIdx p, ?_, rfl, ?_, ?_⟩
    · obtain ⟨x, hx, hp⟩ := List.any_eq_true.1 h
      exact List.findIdx_lt_length_of_exists ⟨x, hx, hp⟩
    · exact List.findIdx_getElem
    · intro j hj hlt
      simpa using List.not_of_lt_findIdx hlt

theorem set_same {α : Type} {L : List α} {i : Nat} {e : α} (h : L[i]? = some e) : L.set i e = L := by
  apply List.ext_getElem?
  intro j
  rw [List.getElem?_set]
  split
  · rename_i h'; subst h'
    rw [h]; simp [(List.getElem?_eq_some_iff.1 h).1]
  · rfl
theorem take_set_succ {α : Type} {cs : List α} {i : Nat} {x : α} (h : i < cs.length) : (cs.set i x).take (i + 1) = cs.take i ++ [x] := by
  rw [List.set_eq_take_append_cons_drop, if_pos h, show cs.take i ++ x :: cs.drop (i + 1) = (cs.take i ++ [x]) ++ cs.drop (i + 1) from by simp]
  exact List.take_left' (by simp; omega)
theorem filter_first {p : Int → Bool} (xs : List Int) (k : Nat) (h : k < xs.length) (hp : p xs[k] = true) (hno : ∀ j (h : j < xs.length), j < k → p xs[j] = false) :
    xs.take k = (xs.take (k + 1)).filter (fun x => !p x) := by
  rw [List.take_succ_eq_append_getElem h, List.filter_append]
  have : (xs.take k).filter (fun x => !p x) = xs.take k := by
    rw [List.filter_eq_self]
    intro x hx
    obtain ⟨j, hj, rfl⟩ := List.mem_iff_getElem.1 hx
    simp only [List.length_take] at hj
    rw [List.getElem_take, hno j (by omega) (by omega)]; rfl
  rw [this]; simp [hp]

theorem deleteFunc_c (p : Int → Bool) (g0 g : G) (L : List Ent) (i : Nat) (v fv : Value) (xs : List Int) (hs : St g0 g L) (hi : L[i]? = some (.row 3 1 v xs.length (ints xs))) (hlen : xs.length ≤ 1000000)
    (hp : ∀ (g' : G) (x : Int), x ∈ xs → g.le g' → CallV Try.prog fv [.int .i64 x] g'.w (Ret g' fun _ r => r = .bool (p x))) :
    CallsIn Wd 0 Try.prog 38 #[v, fv] g.w fun e w' => ∃ g' v', g'.w = w' ∧ e = .returned v' ∧ g.le g' ∧ St g0 g' (L.set i (.row 3 1 v' (xs.filter fun x => !p x).length (ints (xs.filter fun x => !p x)))) := by
  have le0 := G.le.refl g
  have hiL : i < L.length := (List.getElem?_eq_some_iff.1 hi).1
  obtain ⟨ad, cap, rfl⟩ := (hs.own i _ hi).1.form
  refine enter Try.func38 rfl Try.ntmps38 rfl ?_
  refine W_seq ?_; refine W_region ?_; refine P1 T.ok rfl rfl rfl ?_; refine WL_nil ?_; (with_reducible refine T_then ?_); refine W_seq ?_; refine W_region ?_; refine P1 T.ok rfl rfl rfl ?_; refine P1 T.ok rfl rfl rfl ?_
  obtain ⟨gf, hwf, hlf, hrs, hback⟩ := hs.lend (α := Int) hi (RcL.ints _ _)
  rw [← hwf]
  refine WL_o rfl rfl (OpR_ret cl50 allF rfl rfl rfl rfl rfl (indexInt_c _ _ xs p gf hrs (fun g' x hx hle => hp g' x hx (hlf.trans hle))) ?_)
  rintro g2 _ hf2 rfl
  obtain ⟨g3, hw3, hf3⟩ := hback g2 hf2
  rw [← hw3]
  replace hs := hs.call hf3
  have hqe := hf3.le; replace le0 := G.le.trans le0 hqe
  refine P1 T.ok rfl rfl rfl ?_; refine WL_nil ?_; (with_reducible refine T_then ?_); refine W_seq ?_; refine W_seq ?_; refine W_region ?_; refine P1 T.ok rfl rfl rfl ?_; refine P1 T.ok rfl rfl rfl ?_; refine WL_nil ?_; (with_reducible refine T_then ?_)
  rcases fidx_cases p xs with ⟨hfi, hno⟩ | ⟨k0, hk0, hfi, hpk, hno⟩
  · refine W_yes (b := fidx p xs == -1) (by simp [hfi]) rfl ?_
    refine W_seq ?_; refine W_region ?_; refine P1 T.ok rfl rfl rfl ?_; refine P1 T.ok rfl rfl rfl ?_; refine WL_nil ?_; (with_reducible refine T_then ?_)
    refine W_ret ?_; (with_reducible refine T_tr ?_)
    refine ret1 rfl rfl ?_
    have hfil : (xs.filter fun x => !p x) = xs := List.filter_eq_self.2 fun x hx => by simp [hno x hx]
    refine ⟨g3, _, rfl, rfl, le0, ?_⟩
    rw [hfil, set_same hi]
    exact hs
  · refine W_no (b := fidx p xs == -1) (by simp only [hfi, beq_eq_false_iff_ne]; omega) rfl ?_
    rw [hfi]
    obtain ⟨⟨b0, p0, rfl⟩, hcap⟩ : (∃ b p, ad = some ⟨b, p, none⟩) ∧ xs.length ≤ cap ∧ cap ≤ maxLen := by
      rcases (hs.own i _ hi).1.2 with ⟨h, _⟩ | ⟨b, q, c, cur, e1, _, _, h1, h2, _⟩
      · omega
      · simp only [Value.slice.injEq] at e1
        obtain ⟨rfl, _, rfl⟩ := e1
        exact ⟨⟨b, q, rfl⟩, h1, h2⟩
    unfold maxLen at hcap
    refine W_skip ?_; (with_reducible refine T_then ?_); refine W_seq ?_; refine W_seq ?_; refine W_region ?_; (iterate 3 refine P1 T.ok rfl rfl rfl ?_); refine WL_nil ?_; (with_reducible refine T_then ?_); refine W_block ?_
    refine W_loop (fun m a' w => ∃ (j i' : Nat) (cs : List Int) (g' : G), w = g'.w ∧ St g0 g' (L.set i (.row 3 1 (.slice (some ⟨b0, p0, none⟩) xs.length cap) xs.length (ints cs))) ∧ G.le g g' ∧ j ≤ xs.length ∧ m = xs.length - j ∧
      cs.length = xs.length ∧ i' < j ∧ cs.take i' = (xs.take j).filter (fun x => !p x) ∧ cs.drop j = xs.drop j ∧
      Fr 42 [] [(0, .slice (some ⟨b0, p0, none⟩) xs.length cap), (1, fv), (5, .int .i64 i'), (6, .int .i64 j)] a') (xs.length - (k0 + 1))
      (fun a' ha => ⟨k0 + 1, k0, xs, g3, rfl, by rw [set_same hi]; exact hs, le0, hk0, rfl, rfl, Nat.lt_succ_self _, filter_first xs k0 hk0 hpk hno, rfl, ha.keep ⟨rfl, rfl, rfl, kI rfl (by rw [wr (by omega) (by omega)]; omega), trivial⟩⟩) ?_
    clear hs le0
    rintro m a' _ ⟨j, i', cs, g', rfl, hs, le0, hj, rfl, hcl, hij, htk, hdr, ha'⟩
    have hri : (L.set i (.row 3 1 (.slice (some ⟨b0, p0, none⟩) xs.length cap) xs.length (ints cs)))[i]? = some (.row 3 1 (.slice (some ⟨b0, p0, none⟩) xs.length cap) xs.length (ints cs)) := by simp [hiL]
    revert a'
    (with_reducible refine T_wp ?_); refine W_seq ?_; refine W_seq ?_; refine W_region ?_; (iterate 4 refine P1 T.ok rfl rfl rfl ?_); refine WL_nil ?_; (with_reducible refine T_then ?_)
    by_cases hlt : j < xs.length
    · refine W_yes (b := decide ((j : Int) < (xs.length : Int))) (by simp; omega) rfl ?_
      have hxj : cs[j]? = some xs[j] := by
        have := congrArg (fun l => l[0]?) hdr
        simpa [List.getElem?_eq_getElem hlt] using this
      refine W_skip ?_; (with_reducible refine T_then ?_); refine W_seq ?_; refine W_block ?_; refine W_seq ?_; refine W_region ?_; refine P1 T.ok rfl rfl rfl ?_; refine P1 T.ok rfl rfl rfl ?_
      refine WL_o rfl rfl (OpR_idxR T.ok rfl (hs.own i _ hri).1 (by omega) (by omega) rfl rfl rfl rfl rfl rfl ?_)
      rintro b q hh; obtain ⟨rfl, rfl⟩ : b0 = b ∧ p0 = q := by simpa using hh
      refine WL_o rfl rfl (OpR_loadR T.ok (j * 1) rfl (hs.own i _ hri).1 rfl (v := .int .i64 xs[j]) (by show (ints cs)[j * 1]? = _; rw [Nat.mul_one]; simp [ints, hxj]) ?_)
      refine P1 T.ok rfl rfl rfl ?_; refine WL_nil ?_; (with_reducible refine T_then ?_); refine W_seq ?_; refine W_region ?_; refine P1 T.ok rfl rfl rfl ?_; refine P1 T.ok rfl rfl rfl ?_
      refine WL_o rfl rfl (OpR_retV rfl rfl rfl rfl rfl rfl (hp _ _ (List.getElem_mem hlt) le0) ?_); rintro g4 _ hf4 rfl; replace hs := hs.call hf4; have hqe := hf4.le; replace le0 := G.le.trans le0 hqe
      refine P1 T.ok rfl rfl rfl ?_; refine WL_nil ?_; (with_reducible refine T_then ?_)
      have hft : (xs.take (j + 1)).filter (fun x => !p x) = (xs.take j).filter (fun x => !p x) ++ (if p xs[j] then [] else [xs[j]]) := by
        rw [List.take_succ_eq_append_getElem hlt, List.filter_append]
        cases hpp : p xs[j] <;> simp [hpp]
      have hdr2 : cs.drop (j + 1) = xs.drop (j + 1) := by
        have := congrArg (List.drop 1) hdr
        simpa [List.drop_drop] using this
      cases hb : p xs[j] with
      | true =>
        refine W_no rfl rfl ?_
        rw [hb, if_pos rfl, List.append_nil] at hft
        refine W_skip ?_; (with_reducible refine T_bn ?_); (with_reducible refine T_then ?_); refine W_region ?_; (iterate 3 refine P1 T.ok rfl rfl rfl ?_); refine WL_nil ?_
        exact fun a ha => ⟨xs.length - (j + 1), by omega, j + 1, i', cs, _, rfl, hs, le0, by omega, rfl, hcl, by omega, by rw [htk, hft], hdr2, ha.keep ⟨rfl, rfl, rfl, kI rfl (by rw [wr (by omega) (by omega)]; omega), trivial⟩⟩
      | false =>
        refine W_yes rfl rfl ?_
        rw [hb, if_neg (by simp)] at hft
        refine W_seq ?_; refine W_region ?_; (iterate 3 refine P1 T.ok rfl rfl rfl ?_)
        refine WL_o rfl rfl (OpR_idxR T.ok rfl (hs.own i _ hri).1 (by omega) (by omega) rfl rfl rfl rfl rfl rfl ?_)
        rintro b q hh; obtain ⟨rfl, rfl⟩ : b0 = b ∧ p0 = q := by simpa using hh
        refine WL_n rfl (OpR_storeR T.ok i (i' * 1) (us := [.int .i64 xs[j]]) rfl hs hri rfl rfl rfl rfl rfl rfl (by simp) (by simp [ints]; omega) (xs' := ints (cs.set i' xs[j])) ?_ ?_)
        · rw [Nat.mul_one]
          unfold spl ints
          rw [List.map_set, List.set_eq_take_append_cons_drop]
          simp [hcl, show i' < xs.length from by omega]
        rintro g5 hs hqe; replace le0 := G.le.trans le0 hqe
        refine WL_nil ?_; (with_reducible refine T_then ?_); refine W_region ?_; (iterate 3 refine P1 T.ok rfl rfl rfl ?_); refine WL_nil ?_; (with_reducible refine T_bn ?_); (with_reducible refine T_then ?_); refine W_region ?_; (iterate 3 refine P1 T.ok rfl rfl rfl ?_); refine WL_nil ?_
        exact fun a ha => ⟨xs.length - (j + 1), by omega, j + 1, i' + 1, cs.set i' xs[j], _, rfl, by rw [List.set_set] at hs; exact hs, le0, by omega, rfl, by simp [hcl], by omega,
          by rw [hft, ← htk, take_set_succ (by omega)],
          by rw [List.drop_set_of_lt (by omega)]; exact hdr2, ha.keep ⟨rfl, rfl, kI rfl (by rw [wr (by omega) (by omega)]; omega), kI rfl (by rw [wr (by omega) (by omega)]; omega), trivial⟩⟩
    · refine W_no (b := decide ((j : Int) < (xs.length : Int))) (by simp; omega) rfl ?_
      obtain rfl : j = xs.length := by omega
      rw [List.take_length] at htk
      refine W_exit ?_; (with_reducible refine T_tx ?_; with_reducible refine T_tx ?_); (with_reducible refine T_bx ?_); (with_reducible refine T_then ?_); refine W_seq ?_; refine W_region ?_; refine P1 T.ok rfl rfl rfl ?_; refine P1 T.ok rfl rfl rfl ?_
      refine WL_o rfl rfl (OpR_cut T.ok rfl rfl rfl rfl rfl (a := i') (b := xs.length) ⟨_, rfl⟩ rfl (by omega) (by omega) ?_)
      refine WL_n rfl (OpR_clear T.ok i (a := i') (xs' := ints (cs.take i') ++ (List.replicate (xs.length - i') [Value.int .i64 0]).flatten) rfl hs hri rfl rfl rfl rfl rfl (by decide) rfl (by decide) ?_ (by omega) (by rw [Nat.mul_one, ints_take]; rfl) ?_)
      · by_cases hci : cap = i'
        · exact .inl (by omega)
        · right; rw [if_neg hci]; simp [Addr.add_lit]
      rintro g5 hs hqe; replace le0 := G.le.trans le0 hqe
      rw [List.set_set] at hs
      refine WL_nil ?_; (with_reducible refine T_then ?_); refine W_seq ?_; refine W_region ?_; refine P1 T.ok rfl rfl rfl ?_; refine P1 T.ok rfl rfl rfl ?_
      refine WL_o rfl rfl (OpR_cut T.ok rfl rfl rfl rfl rfl (a := 0) (b := i') rfl ⟨_, rfl⟩ (by omega) (by omega) ?_)
      refine P1 T.ok rfl rfl rfl ?_; refine WL_nil ?_; (with_reducible refine T_then ?_)
      refine W_ret ?_; skip
      refine ret1 rfl rfl ?_
      have hri2 : ∀ e, (L.set i e)[i]? = some e := fun e => by simp [hiL]
      have hcut := hs.cutTo (i := i) (a := i') (hri2 _) (by omega)
      refine ⟨_, _, rfl, rfl, le0, ?_⟩
      have hl : (xs.filter fun x => !p x).length = i' := by rw [← htk, List.length_take]; omega
      rw [List.set_set] at hcut
      rw [hl, ← htk]
      have he : List.take (i' * 1) (ints (cs.take i') ++ (List.replicate (xs.length - i') [Value.int .i64 0]).flatten) = ints (cs.take i') := by
        rw [List.take_left' (by simp [ints]; omega)]
      rw [he] at hcut
      exact hcut

theorem ends1_c (n : Int) (f : Flow) (b : Nat) (cs : List Value) (g : G) (ep0 : EP g b 0 cs) (hc : RFlowC g cs f) (h0 : 0 ≤ n) (h1 : n < f.steps.length) :
    CallsIn Wd 0 Try.prog 39 #[.int .i64 n, .pointer (some ⟨b, 0, none⟩)] g.w (Ret g fun _ r => r = .bool (!isEnd (stepD f n))) := by
  obtain ⟨a1, n1, c1, a2, n2, c2, rfl, rs0, rs1⟩ := hc
  obtain ⟨_, _, e⟩ := rs0.isSlice; obtain ⟨rfl, rfl, rfl⟩ := Value.slice.inj e; clear e
  have hs := St.start g
  refine enter Try.func39 rfl Try.ntmps39 rfl ?_
  refine W_seq ?_; refine W_region ?_; refine P1 T.ok rfl rfl rfl ?_; refine WL_nil ?_; (with_reducible refine T_then ?_); refine W_seq ?_; refine W_region ?_; refine P1 T.ok rfl rfl rfl ?_; refine WL_o rfl rfl (OpR_loadE T.ok 2 rfl ep0 rfl rfl ?_); refine P1 T.ok rfl rfl rfl ?_
  refine WL_o rfl rfl (OpR_idx T.ok rfl rs0 (y := stepD f n) (by unfold stepD; rw [geti_of (j := n.toNat) (by omega) (by omega)]; simp [List.getD_eq_getElem?_getD, show n.toNat < f.steps.length from by omega]) rfl rfl rfl rfl rfl rfl ?_)
  rintro b q ys hep hrc
  have hrv : RStepV _ (.agg ys.toArray) (stepD f n) := ⟨ys, rfl, hrc⟩
  obtain ⟨b1, b2, b3, b4, b5, b6, rfl, _, _⟩ := hrc
  refine WL_o rfl rfl (OpR_loadE T.ok 0 rfl hep rfl rfl ?_)
  skip
  refine WL_o rfl rfl (OpR_ret cl40 allF rfl rfl rfl rfl rfl (isEnd_c _ _ _ hrv) ?_); rintro g1 _ hf1 rfl; replace hs := hs.call hf1; have hqe := hf1.le; replace ep0 := ep0.mono hqe; replace rs0 := rs0.mono hqe; replace rs1 := rs1.mono hqe
  refine P1 T.ok rfl rfl rfl ?_; refine P1 T.ok rfl rfl rfl ?_; refine WL_nil ?_; (with_reducible refine T_then ?_)
  exact W_ret (ret1 rfl rfl (hs.ret rfl))

theorem trues_range {l : List Bool} {j : Nat} {x : Int} (h : x ∈ trues j l) : (j : Int) ≤ x ∧ x < j + l.length := by
  induction l generalizing j with
  | nil => simp [trues] at h
  | cons b r ih =>
    simp only [trues, List.mem_append] at h
    rcases h with h | h
    · split at h
      · simp at h; subst h; simp; omega
      · simp at h
    · have := ih h; simp at this ⊢; omega
theorem reach_range {f : Flow} {n x : Int} (h : x ∈ reach f n) : 0 ≤ x ∧ x < f.steps.length := by
  unfold reach at h
  split at h
  · have := trues_range h
    rw [reached_len] at this
    omega
  · simp at h
theorem reach_len (f : Flow) (n : Int) : (reach f n).length ≤ 40 := by
  unfold reach
  split
  · rename_i h
    have h1 := trues_len (reached f n) 0
    rw [reached_len] at h1
    have : valid f = true := by unfold given at h; simp only [Bool.and_eq_true] at h; exact h.1
    have := valid_len this
    omega
  · simp

theorem ends_c (v : Value) (f : Flow) (g : G) (fl0 : RFlow g v f) :
    CallsIn Wd 0 Try.prog 18 #[v] g.w (Ret g (OwnR 3 g (ends f))) := by
  obtain ⟨a1, n1, c1, a2, n2, c2, rfl, rs0, rs1⟩ := id fl0
  have hs := St.start g
  refine enter Try.func18 rfl Try.ntmps18 rfl ?_
  refine W_seq ?_; refine W_region ?_
  refine WL_o rfl rfl (OpR_box rfl hs rfl rfl ?_); clear hs; rintro b1 g1 hs hqe; replace rs0 := rs0.mono hqe; replace rs1 := rs1.mono hqe; replace fl0 := fl0.mono hqe
  refine P1 T.ok rfl rfl rfl ?_; refine WL_nil ?_; (with_reducible refine T_then ?_); refine W_seq ?_; refine W_region ?_; refine WL_o rfl rfl (OpR_loadO T.ok 0 rfl hs rfl rfl rfl ?_)
  obtain ⟨g2, hw2, hs2, hqe, hep⟩ := hs.fzObj (i := 0) rfl; replace hs := hs2; clear hs2; rw [← hw2]; replace rs0 := rs0.mono hqe; replace rs1 := rs1.mono hqe; replace fl0 := fl0.mono hqe
  have ep0 := hep; clear hep
  skip
  refine WL_o rfl rfl (OpR_ret cl29 allF rfl rfl rfl rfl rfl (reach_c _ f 0 _ fl0) ?_); rintro g4 v hf4 ⟨cells, h1, h2⟩
  replace hs := hs.getOwn hf4 h1
  have hqe := hf4.le; replace ep0 := ep0.mono hqe; replace rs0 := rs0.mono hqe; replace rs1 := rs1.mono hqe; replace fl0 := fl0.mono hqe
  have hce : cells = ints (reach f 0) := by
    have key : ∀ (xs : List Int) (cells : List Value), RcL g4 cells xs → cells = ints xs := by
      intro xs
      induction xs with
      | nil => intro cells h; exact h
      | cons x xs ih => rintro cells ⟨c1, c2, rfl, h1, h2⟩; rw [ih _ h2, show c1 = [Value.int .i64 x] from h1]; rfl
    exact key _ _ h2
  subst hce
  refine P1 T.ok rfl rfl rfl ?_
  have hl := reach_len f 0
  have hdel := deleteFunc_c (fun x => !isEnd (stepD f x)) g g4 _ 0 v (.func (.func 39) #[] #[.pointer (some ⟨b1, 0, none⟩)]) (reach f 0) hs rfl (by omega)
    (fun g' x hx hle => CallV_of cl39 rfl (ends1_c x f _ _ g' (ep0.mono hle) ⟨_, _, _, _, _, _, rfl, rs0.mono hle, rs1.mono hle⟩ (reach_range hx).1 (reach_range hx).2))
  refine WL_o rfl rfl (OpR_call cl38 allF rfl rfl rfl rfl rfl (hdel.mono ?_))
  rintro _ _ ⟨g5, v', rfl, rfl, hqe, hs5⟩
  refine ⟨_, rfl, ?_⟩
  refine P1 T.ok rfl rfl rfl ?_; refine WL_nil ?_; (with_reducible refine T_then ?_)
  refine W_ret (ret1 rfl rfl (hs5.ret ?_))
  have he : (reach f 0).filter (fun x => !(!isEnd (stepD f x))) = ends f := by unfold ends; simp
  rw [he] at hs5
  exact hs5.toOwn (i := 0) rfl (RcL.ints _ _)
end Go.Proofs.Ytijmlfmapfhabaa

/- The walks through package graph: Clone, cycle. -/
namespace Go.Proofs.Ytijmlfmapfhabaa
open Go Go.K
set_option maxRecDepth 10000
attribute [local irreducible] W WL OpR
set_option maxHeartbeats 1000000

theorem RcL.ints_inv {g : G} : ∀ {xs : List Int} {cells : List Value}, RcL g cells xs → cells = ints xs
  | [], _, h => h
  | x :: xs, _, ⟨c1, c2, e, h1, h2⟩ => by rw [e, RcL.ints_inv h2, show c1 = [Value.int .i64 x] from h1]; rfl

theorem clone_c (v : Value) (xs : List Int) (g : G) (rs0 : Rs g v xs) (hlen : xs.length ≤ 1000000) :
    CallsIn Wd 0 Try.prog 43 #[v] g.w (Ret g (OwnR 3 g xs)) := by
  obtain ⟨ad, n, c, rfl, hn, hc, hr⟩ := id rs0
  have hs := St.start g
  have le0 := G.le.refl g
  refine enter Try.func43 rfl Try.ntmps43 rfl ?_
  refine W_seq ?_; refine W_region ?_; refine P1 T.ok rfl rfl rfl ?_; refine WL_nil ?_; (with_reducible refine T_then ?_); refine W_seq ?_; refine W_seq ?_; refine W_region ?_; refine P1 T.ok rfl rfl rfl ?_
  refine WL_o rfl rfl (OpR_eqNilSlice T.ok (neg := false) rfl rfl rfl rfl rfl ?_)
  refine WL_nil ?_; (with_reducible refine T_then ?_)
  cases ad with
  | none =>
    refine W_yes rfl rfl ?_
    refine W_seq ?_; refine W_region ?_; refine P1 T.ok rfl rfl rfl ?_; refine WL_nil ?_; (with_reducible refine T_then ?_)
    refine W_ret (ret1 rfl rfl (hs.ret ?_))
    have : xs = [] := by
      rcases hr with h | ⟨b, o, cells, h, _⟩
      · exact List.eq_nil_of_length_eq_zero (by omega)
      · cases h
    subst this
    exact OwnR.nil _ _ _ _
  | some ad =>
    refine W_no rfl rfl ?_
    refine W_skip ?_; (with_reducible refine T_then ?_); refine W_seq ?_; refine W_region ?_
    refine WL_o rfl rfl (OpR_lit T.ok rfl hs (vs := []) (cells := []) rfl rfl rfl rfl rfl rfl (by decide) (by decide) (by kernel_rfl) rfl ?_); rintro b2 g2 hs hqe; replace le0 := G.le.trans le0 hqe; replace rs0 := rs0.mono hqe
    refine P1 T.ok rfl rfl rfl ?_
    obtain ⟨hm, news, hrc, hsrc⟩ := Src.of_rs rs0
    subst hm
    obtain rfl := RcL.ints_inv hrc
    refine WL_o rfl rfl (OpR_append T.ok 0 rfl hs rfl rfl rfl rfl rfl rfl rfl (by decide) rfl hsrc (by simp [ints, Value.oneCell']) (by show (0 + xs.length) * 8 ≤ _; omega) (by unfold maxLen; omega) ?_); rintro a' c' g3 hs hqe; replace le0 := G.le.trans le0 hqe; replace rs0 := rs0.mono hqe
    refine P1 T.ok rfl rfl rfl ?_; refine WL_nil ?_; (with_reducible refine T_then ?_)
    exact W_ret (ret1 rfl rfl (hs.ret (hs.toOwn (i := 0) rfl (RcL.ints _ _))))
end Go.Proofs.Ytijmlfmapfhabaa

/- The walks through package graph: cycle. -/
namespace Go.Proofs.Ytijmlfmapfhabaa
open Go Go.K
set_option maxRecDepth 10000
attribute [local irreducible] W WL OpR
set_option maxHeartbeats 2000000

/-- An own list of lists. -/
def rowL (v : Value) (n : Nat) (cells : List Value) : Ent := .row 31 1 v n cells
/-- A pointer into a step of the flow, at a field. -/
def stepPtr (off : Nat) (s : Step) : Fact :=
  ⟨fun v g => ∃ b p ys, v = .pointer (some ⟨b, p + off, none⟩) ∧ EP g b p ys ∧ RStep g ys s, fun _ _ _ hf ⟨b, p, ys, e, h1, h2⟩ => ⟨b, p, ys, e, h1.mono hf.le, El.mono (α := Step) hf.le h2⟩⟩
def intPtr (n : Int) : Fact :=
  ⟨fun v g => ∃ b p, v = .pointer (some ⟨b, p, none⟩) ∧ EP g b p [.int .i64 n], fun _ _ _ hf ⟨b, p, e, h1⟩ => ⟨b, p, e, h1.mono hf.le⟩⟩

theorem cycle_c (v lv : Value) (f : Flow) (live : List Bool) (first : Int) (g : G) (fl0 : RFlow g v f) (rs2 : Rs g lv live) (hval : valid f = true) (hll : live.length = f.steps.length) (h0 : 0 ≤ first) (h1 : first < f.steps.length) :
    CallsIn Wd 0 Try.prog 35 #[v, lv, .int .i64 first] g.w (Ret g fun g' r => Rs g' r (cycle f live first)) := by
  obtain ⟨a1, n1, c1, a2, n2, c2, rfl, rs0, rs1⟩ := id fl0
  obtain ⟨_, _, e⟩ := rs0.isSlice; obtain ⟨rfl, rfl, rfl⟩ := Value.slice.inj e; clear e
  obtain ⟨a3, c3, rfl⟩ := rs2.isSlice
  have hl40 := valid_len hval
  have hs := St.start g
  have le0 := G.le.refl g
  refine enter Try.func35 rfl Try.ntmps35 rfl ?_
  refine W_seq ?_; refine W_region ?_
  refine WL_o rfl rfl (OpR_box rfl hs rfl rfl ?_); clear hs; rintro bf g1 hs hqe; replace le0 := G.le.trans le0 hqe; replace rs0 := rs0.mono hqe; replace rs1 := rs1.mono hqe; replace rs2 := rs2.mono hqe; replace fl0 := fl0.mono hqe
  obtain ⟨g2, hw2, hs2, hqe, hep⟩ := hs.fzObj (i := 0) rfl; replace hs := hs2; clear hs2; rw [← hw2]; replace le0 := G.le.trans le0 hqe; replace rs0 := rs0.mono hqe; replace rs1 := rs1.mono hqe; replace rs2 := rs2.mono hqe; replace fl0 := fl0.mono hqe
  have ep0 := hep; clear hep
  refine P1 T.ok rfl rfl rfl ?_; refine WL_nil ?_; (with_reducible refine T_then ?_); refine W_seq ?_; refine W_region ?_; refine P1 T.ok rfl rfl rfl ?_
  refine WL_o rfl rfl (OpR_lit T.ok rfl hs (vs := [(0, .int .i64 first)]) (cells := [.int .i64 first]) rfl rfl rfl rfl rfl rfl (by decide) (by decide) (by kernel_rfl) rfl ?_); rintro b2 g2 hs hqe; replace le0 := G.le.trans le0 hqe; replace ep0 := ep0.mono hqe; replace rs0 := rs0.mono hqe; replace rs1 := rs1.mono hqe; replace rs2 := rs2.mono hqe; replace fl0 := fl0.mono hqe
  obtain ⟨g3, hw3, hs3, hqe3, hrl⟩ := hs.fzRow (α := Int) (xs := [first]) (i := 0) rfl (RcL.ints _ [first])
  clear hqe; have hqe := hqe3; rw [← hw3]; replace hs := hs3; replace le0 := G.le.trans le0 hqe; replace ep0 := ep0.mono hqe; replace rs0 := rs0.mono hqe; replace rs1 := rs1.mono hqe; replace rs2 := rs2.mono hqe; replace fl0 := fl0.mono hqe
  skip
  refine WL_o rfl rfl (OpR_lit T.ok rfl hs (vs := [(0, .slice (some ⟨b2, 0, none⟩) 1 1)]) (cells := [.slice (some ⟨b2, 0, none⟩) 1 1]) rfl rfl rfl rfl rfl rfl (by decide) (by decide) (by kernel_rfl) rfl ?_); rintro b3 g4 hs hqe; replace le0 := G.le.trans le0 hqe; replace ep0 := ep0.mono hqe; replace rs0 := rs0.mono hqe; replace rs1 := rs1.mono hqe; replace rs2 := rs2.mono hqe; replace fl0 := fl0.mono hqe
  replace hrl := hrl.mono hqe
  refine P1 T.ok rfl rfl rfl ?_; refine WL_nil ?_; (with_reducible refine T_then ?_); refine W_seq ?_; refine W_region ?_; refine P1 T.ok rfl rfl rfl ?_; refine WL_o rfl rfl (OpR_loadE T.ok 2 rfl ep0 rfl rfl ?_); refine P1 T.ok rfl rfl rfl ?_
  refine WL_o rfl rfl (OpR_make T.ok rfl hs rfl rfl rfl rfl rfl rfl (by decide) rfl (by show 1 * f.steps.length ≤ _; omega) (by unfold maxLen; omega) ?_); rintro ob g1 hs hqe; replace le0 := G.le.trans le0 hqe; replace ep0 := ep0.mono hqe; replace rs0 := rs0.mono hqe; replace rs1 := rs1.mono hqe; replace rs2 := rs2.mono hqe; replace fl0 := fl0.mono hqe
  replace hrl := hrl.mono hqe
  refine P1 T.ok rfl rfl rfl ?_; refine WL_nil ?_; (with_reducible refine T_then ?_); refine W_seq ?_; refine W_block ?_
  have hfl : (List.replicate f.steps.length [Value.bool false]).flatten = (List.replicate f.steps.length false).map Value.bool := by simp
  have hst : St g g1 [rowB ob f.steps.length (List.replicate f.steps.length false), rowL (.slice (some ⟨b3, 0, none⟩) 1 1) 1 [.slice (some ⟨b2, 0, none⟩) 1 1]] := by
    unfold rowB rowL; rw [← hfl]; exact hs
  clear hs
  have ep0c := ep0; have rs0c := rs0; have rs2c := rs2; have le4 := G.le.refl g1
  refine W_loop (fun m a' w => ∃ (q : List (List Int)) (cells : List Value) (seen : List Bool) (qv : Value) (g' : G), w = g'.w ∧ St g g' [rowB ob f.steps.length seen, rowL qv q.length cells] ∧ G.le g1 g' ∧ RcL g' cells q ∧
      m = q.length + seen.count false ∧ seen.length = f.steps.length ∧ (∀ l ∈ q, l ≠ [] ∧ 0 ≤ lastD l ∧ lastD l < f.steps.length ∧ l.length + m ≤ f.steps.length + 2) ∧
      cycGo f live first m q seen = cycle f live first ∧
      Fr 75 [] [(1, .slice a3 live.length c3), (2, .int .i64 first), (3, .pointer (some ⟨bf, 0, none⟩)), (7, qv), (8, .slice (some ⟨ob, 0, none⟩) f.steps.length f.steps.length)] a') (1 + f.steps.length)
    (fun a' ha => ⟨[[first]], _, _, _, g1, rfl, hst, le4, ⟨[_], [], rfl, ⟨_, rfl, hrl⟩, rfl⟩, by simp, by simp, by intro l hl; simp at hl; subst hl; refine ⟨by simp, h0, h1, by simp; omega⟩, rfl, ha.keep (by (repeat (first | exact trivial | refine ⟨rfl, ?_⟩)))⟩) ?_
  clear hst le0 le4
  rintro m a' _ ⟨q, cells, seen, qv, g', rfl, hs, le4, hrc, rfl, hsl, hq, hno, ha'⟩
  have ep0 := ep0c.mono le4; have rs0 := rs0c.mono le4; have rs2 := rs2c.mono le4
  obtain ⟨qa, qc, rfl⟩ := (hs.own 1 _ rfl).1.form
  revert a'
  (with_reducible refine T_wp ?_); refine W_seq ?_; refine W_seq ?_; refine W_region ?_; (iterate 3 refine P1 T.ok rfl rfl rfl ?_); refine WL_nil ?_; (with_reducible refine T_then ?_)
  cases q with
  | nil =>
    refine W_no (b := decide ((0 : Int) < ([] : List (List Int)).length)) (by simp) rfl ?_
    refine W_exit ?_; (with_reducible refine T_tx ?_; with_reducible refine T_tx ?_); (with_reducible refine T_bx ?_); (with_reducible refine T_then ?_); refine W_seq ?_; refine W_region ?_; refine P1 T.ok rfl rfl rfl ?_; refine WL_nil ?_; (with_reducible refine T_then ?_)
    refine W_ret (ret1 rfl rfl (hs.ret ?_))
    rw [← hno, cycGo]
    exact Rs.nil _
  | cons l rest =>
    refine W_yes (b := decide ((0 : Int) < (l :: rest).length)) (by simp) rfl ?_
    obtain ⟨_, cells2, rfl, ⟨vl, rfl, hrl⟩, hrest⟩ := hrc
    obtain ⟨hl0, hl1, hl2, hl3⟩ := hq l List.mem_cons_self
    have hlpos : 0 < l.length := List.length_pos_iff.2 hl0
    have hm1 : (l :: rest).length + seen.count false = (rest.length + seen.count false) + 1 := by simp; omega
    rw [hm1] at hno hl3
    rw [cycGo] at hno
    have hqc := (hs.own 1 _ rfl).1
    have hcap : (l :: rest).length ≤ qc := by
      rcases hqc.2 with ⟨h, _⟩ | ⟨b, p, cap, cur, e1, _, _, h2, _⟩
      · simp at h
      · simp only [Value.slice.injEq] at e1; omega
    refine W_skip ?_; (with_reducible refine T_then ?_); refine W_block ?_; refine W_seq ?_; refine W_region ?_; refine P1 T.ok rfl rfl rfl ?_
    refine WL_o rfl rfl (OpR_idxR T.ok rfl (hs.own 1 _ rfl).1 (by decide) (by simp) rfl rfl rfl rfl rfl rfl ?_)
    rintro bq pq rfl
    refine WL_o rfl rfl (OpR_loadR T.ok (Int.toNat 0 * 1) rfl (hs.own 1 _ rfl).1 rfl (v := vl) rfl ?_)
    refine P1 T.ok rfl rfl rfl ?_; refine WL_nil ?_; (with_reducible refine T_then ?_); refine W_seq ?_; refine W_region ?_; refine P1 T.ok rfl rfl rfl ?_
    refine WL_o rfl rfl (OpR_cut T.ok rfl rfl rfl rfl rfl (a := 1) (b := (l :: rest).length) ⟨_, rfl⟩ rfl (by simp) hcap ?_)
    replace hs := hs.cutFrom (i := 1) (a := 1) rfl (by simp)
    refine P1 T.ok rfl rfl rfl ?_; refine WL_nil ?_; (with_reducible refine T_then ?_); refine W_seq ?_
    obtain ⟨al, cl, rfl⟩ := hrl.isSlice
    have hll2 := hrl.len_le
    unfold maxLen at hll2
    have hlast : geti l (IntKind.i64.wrap ((l.length : Int) - 1)) = some (lastD l) := by
      rw [geti_of (j := l.length - 1) (by rw [wr (by omega) (by omega)]; omega) (by omega)]
      unfold lastD
      rw [List.getLastD_eq_getLast?, List.getLast?_eq_getElem?, List.getElem?_eq_getElem (by omega)]; rfl
    apply W_draw allF rfl (Fact.eq _ :: Fact.eq _ :: Fact.eq _ :: Fact.eq _ :: Fact.eq _ :: Fact.eq _ :: (intPtr (lastD l)) :: Fact.eq _ :: (stepPtr 0 (stepD f (lastD l))) :: (stepPtr 4 (stepD f (lastD l))) :: (Fact.rs (stepD f (lastD l)).next) :: Fact.eq _ :: Fact.eq _ :: []) 13 [(10, 37), (11, 38), (12, 39), (2, 29)] rfl rfl
    · refine D_cons (D_step2 (js := []) (by kernel_rfl) fun gd hf => ?_) ?_
      · have hsd := hs.dr.call hf; have hfe := (G.le_dr _).trans hf.le
        refine QA_nil ?_
        (refine D_yes rfl ?_; refine OpR_pure _ T.ok rfl ?_; refine ⟨_, rfl, Fr0.refl _, ?_⟩; exact rfl)
      refine D_cons (D_step2 (js := [(0, 27)]) (by kernel_rfl) fun gd hf => ?_) ?_
      · have hsd := hs.dr.call hf; have hfe := (G.le_dr _).trans hf.le
        refine QA_eq rfl ?_
        refine QA_nil ?_
        (refine D_yes rfl ?_; refine OpR_loadE T.ok 2 rfl (ep0.mono hfe) rfl rfl ?_; refine ⟨_, rfl, Fr0.refl _, ?_⟩; exact rfl)
      refine D_cons (D_step2 (js := []) (by kernel_rfl) fun gd hf => ?_) ?_
      · have hsd := hs.dr.call hf; have hfe := (G.le_dr _).trans hf.le
        refine QA_nil ?_
        (refine D_yes rfl ?_; refine OpR_pure _ T.ok rfl ?_; refine ⟨_, rfl, Fr0.refl _, ?_⟩; exact rfl)
      refine D_cons (D_step2 (js := []) (by kernel_rfl) fun gd hf => ?_) ?_
      · have hsd := hs.dr.call hf; have hfe := (G.le_dr _).trans hf.le
        refine QA_nil ?_
        (refine D_yes rfl ?_; refine OpR_pure _ T.ok rfl ?_; refine ⟨_, rfl, Fr0.refl _, ?_⟩; exact rfl)
      refine D_cons (D_step2 (js := [(3, 30)]) (by kernel_rfl) fun gd hf => ?_) ?_
      · have hsd := hs.dr.call hf; have hfe := (G.le_dr _).trans hf.le
        refine QA_eq rfl ?_
        refine QA_nil ?_
        (refine D_yes rfl ?_; refine OpR_pure _ T.ok rfl ?_; refine ⟨_, rfl, Fr0.refl _, ?_⟩; exact rfl)
      refine D_cons (D_step2 (js := [(4, 31)]) (by kernel_rfl) fun gd hf => ?_) ?_
      · have hsd := hs.dr.call hf; have hfe := (G.le_dr _).trans hf.le
        refine QA_eq rfl ?_
        refine QA_nil ?_
        (refine D_yes rfl ?_; refine OpR_pure _ T.ok rfl ?_; refine ⟨_, rfl, Fr0.refl _, ?_⟩; exact rfl)
      refine D_cons (D_step2 (js := [(2, 29), (5, 32)]) (by kernel_rfl) fun gd hf => ?_) ?_
      · have hsd := hs.dr.call hf; have hfe := (G.le_dr _).trans hf.le
        refine QA_eq rfl ?_; refine QA_eq rfl ?_
        refine QA_nil ?_
        refine D_yes rfl ?_
        refine OpR_idx T.ok rfl (hrl.mono hfe) (y := lastD l) hlast rfl rfl rfl rfl rfl rfl ?_
        intro b p ys hep hrc
        exact ⟨_, rfl, Fr0.refl _, b, p, rfl, by rw [← show ys = [Value.int .i64 (lastD l)] from hrc]; exact hep⟩
      refine D_cons (D_step2 (js := [(6, 33)]) (by kernel_rfl) fun gd hf => ?_) ?_
      · have hsd := hs.dr.call hf; have hfe := (G.le_dr _).trans hf.le
        refine QA_any fun v6 h6 => ?_
        refine QA_nil ?_
        obtain ⟨b, p, rfl, hep⟩ := h6
        refine D_yes rfl ?_
        refine OpR_loadE T.ok 0 rfl hep rfl rfl ?_
        refine ⟨_, rfl, Fr0.refl _, ?_⟩
        exact rfl
      refine D_cons (D_step2 (js := [(1, 28), (7, 34)]) (by kernel_rfl) fun gd hf => ?_) ?_
      · have hsd := hs.dr.call hf; have hfe := (G.le_dr _).trans hf.le
        refine QA_eq rfl ?_; refine QA_eq rfl ?_
        refine QA_nil ?_
        refine D_yes rfl ?_
        refine OpR_idx T.ok rfl (rs0.mono hfe) (y := stepD f (lastD l)) (by unfold stepD; rw [geti_of (j := (lastD l).toNat) (by omega) (by omega)]; simp [List.getD_eq_getElem?_getD, show (lastD l).toNat < f.steps.length from by omega]) rfl rfl rfl rfl rfl rfl ?_
        intro b p ys hep hrc
        exact ⟨_, rfl, Fr0.refl _, b, p, ys, rfl, hep, hrc⟩
      refine D_cons (D_step2 (js := [(8, 35)]) (by kernel_rfl) fun gd hf => ?_) ?_
      · have hsd := hs.dr.call hf; have hfe := (G.le_dr _).trans hf.le
        refine QA_any fun v8 h8 => ?_
        refine QA_nil ?_
        obtain ⟨b, p, ys, rfl, hep, hrc⟩ := h8
        refine D_yes rfl ?_
        refine OpR_pure _ T.ok rfl ?_
        exact ⟨_, rfl, Fr0.refl _, b, p, ys, rfl, hep, hrc⟩
      refine D_cons (D_step2 (js := [(9, 36)]) (by kernel_rfl) fun gd hf => ?_) ?_
      · have hsd := hs.dr.call hf; have hfe := (G.le_dr _).trans hf.le
        refine QA_any fun v9 h9 => ?_
        refine QA_nil ?_
        obtain ⟨b, p, ys, rfl, hep, hrc⟩ := h9
        obtain ⟨b1, b2, b3, b4, b5, b6, rfl, hx1, hx2⟩ := hrc
        refine D_yes rfl ?_
        refine OpR_loadE T.ok 4 rfl hep rfl rfl ?_
        exact ⟨_, rfl, Fr0.refl _, hx2⟩
      refine D_cons (D_step2 (js := [(10, 37)]) (by kernel_rfl) fun gd hf => ?_) ?_
      · have hsd := hs.dr.call hf; have hfe := (G.le_dr _).trans hf.le
        refine QA_any fun v10 h10 => ?_
        refine QA_nil ?_
        obtain ⟨a5, c5, rfl⟩ := Rs.isSlice h10
        refine D_yes rfl ?_
        refine OpR_pure _ T.ok rfl ?_
        refine ⟨_, rfl, Fr0.refl _, ?_⟩
        exact rfl
      refine D_cons (D_step2 (js := []) (by kernel_rfl) fun gd hf => ?_) ?_
      · have hsd := hs.dr.call hf; have hfe := (G.le_dr _).trans hf.le
        refine QA_nil ?_
        (refine D_yes rfl ?_; refine OpR_pure _ T.ok rfl ?_; refine ⟨_, rfl, Fr0.refl _, ?_⟩; exact rfl)
      exact D_nil
    intro g1 hf1; refine QA_any fun v10 h10 => ?_; refine QA_eq rfl ?_; refine QA_eq rfl ?_; refine QA_eq rfl ?_; refine QA_nil ?_
    replace hs := hs.dr.call hf1; have hqe := (G.le_dr _).trans hf1.le; replace le4 := G.le.trans le4 hqe; replace ep0 := ep0.mono hqe; replace rs0 := rs0.mono hqe; replace rs2 := rs2.mono hqe
    replace hrl := hrl.mono hqe
    replace hrest := hrest.mono hqe
    have rs3 : Rs g1 v10 (stepD f (lastD l)).next := h10
    obtain ⟨a5, c5, rfl⟩ := rs3.isSlice
    have hnx := right_next (valid_step hval hl1 hl2)
    have hnx4 := rightStep_next (valid_step hval hl1 hl2)
    generalize hnxe : (stepD f (lastD l)).next = nx at *
    have hrlc := hrl; have rs0d := rs0; have rs2d := rs2; have rs3c := rs3; have ep0d := ep0
    have le5 := G.le.refl g1
    refine WL_nil ?_; (with_reducible refine T_then ?_); refine W_block ?_
    refine W_loop (fun m a' w => ∃ (k : Nat) (q' : List (List Int)) (cells' : List Value) (seen' : List Bool) (qv' : Value) (g' : G), w = g'.w ∧ St g g' [rowB ob f.steps.length seen', rowL qv' q'.length cells'] ∧ G.le g1 g' ∧ RcL g' cells' q' ∧
        k ≤ nx.length ∧ m = nx.length - k ∧ seen'.length = f.steps.length ∧ q'.length + seen'.count false = rest.length + seen.count false ∧
        (∀ l' ∈ q', l' ≠ [] ∧ 0 ≤ lastD l' ∧ lastD l' < f.steps.length ∧ l'.length + (rest.length + seen.count false) ≤ f.steps.length + 2) ∧
        cycScan live first l (nx.drop k) q' seen' = cycScan live first l nx rest seen ∧
        Fr 75 [] [(1, .slice a3 live.length c3), (2, .int .i64 first), (3, .pointer (some ⟨bf, 0, none⟩)), (7, qv'), (8, .slice (some ⟨ob, 0, none⟩) f.steps.length f.steps.length), (9, .slice al l.length cl), (37, .slice a5 nx.length c5), (38, .int .i64 nx.length), (39, .int .i64 k)] a') nx.length
      (fun a' ha => ⟨0, rest, cells2, seen, _, g1, rfl, hs, le5, hrest, Nat.zero_le _, rfl, hsl, rfl, fun l' hl' => ?_, by rw [List.drop_zero], ha.keep (by (repeat (first | exact trivial | refine ⟨rfl, ?_⟩)))⟩) ?_
    · obtain ⟨x1, x2, x3, x4⟩ := hq l' (List.mem_cons_of_mem _ hl')
      exact ⟨x1, x2, x3, by rw [hm1] at x4; omega⟩
    clear hs le5 hrest hrl rs0 rs2 rs3 ep0
    rintro m a' _ ⟨k, q', cells', seen', qv', g', rfl, hs, le5, hrc', hk, rfl, hsl', hcnt, hq', hsc, ha'⟩
    have ep0 := ep0d.mono le5; have rs0 := rs0d.mono le5; have rs2 := rs2d.mono le5; have rs3 := rs3c.mono le5; have rs1 := hrlc.mono le5
    obtain ⟨qa', qc', rfl⟩ := (hs.own 1 _ rfl).1.form
    revert a'
    (with_reducible refine T_wp ?_); refine W_seq ?_; refine W_region ?_; refine P1 T.ok rfl rfl rfl ?_; refine WL_nil ?_; (with_reducible refine T_then ?_); refine W_seq ?_
    by_cases hlt : k < nx.length
    · refine W_yes (b := decide ((k : Int) < (nx.length : Int))) (by simp; omega) rfl ?_
      rw [List.drop_eq_getElem_cons hlt, cycScan] at hsc
      obtain ⟨hn0, hn1⟩ := hnx nx[k] (List.getElem_mem hlt)
      refine W_skip ?_; (with_reducible refine T_then ?_); refine W_seq ?_; refine W_block ?_; refine W_seq ?_; refine W_region ?_
      refine WL_o rfl rfl (OpR_idx T.ok rfl rs3 (y := nx[k]) (by simp [geti, hlt]) rfl rfl rfl rfl rfl rfl ?_)
      rintro b p ys hep rfl
      refine WL_o rfl rfl (OpR_loadE T.ok 0 rfl hep rfl rfl ?_)
      refine P1 T.ok rfl rfl rfl ?_; refine WL_nil ?_; (with_reducible refine T_then ?_); refine W_seq ?_; refine W_seq ?_; refine W_region ?_; (iterate 3 refine P1 T.ok rfl rfl rfl ?_); refine WL_nil ?_; (with_reducible refine T_then ?_)
      by_cases hnf : nx[k] = first
      · refine W_yes (b := nx[k] == first) (by simp [hnf]) rfl ?_
        rw [if_pos hnf] at hsc
        refine W_seq ?_; refine W_region ?_; refine P1 T.ok rfl rfl rfl ?_; refine P1 T.ok rfl rfl rfl ?_; refine WL_nil ?_; (with_reducible refine T_then ?_)
        refine W_ret (ret1 rfl rfl (hs.ret ?_))
        rw [← hsc] at hno
        rw [← hno]
        exact rs1
      · refine W_no (b := nx[k] == first) (by simp [hnf]) rfl ?_
        rw [if_neg hnf] at hsc
        have hnl : nx[k].toNat < live.length := by omega
        have hns : nx[k].toNat < seen'.length := by omega
        have hlg : live.getD nx[k].toNat false = live[nx[k].toNat] := by rw [List.getD_eq_getElem?_getD, List.getElem?_eq_getElem hnl]; rfl
        have hsg : seen'.getD nx[k].toNat true = seen'[nx[k].toNat] := by rw [List.getD_eq_getElem?_getD, List.getElem?_eq_getElem hns]; rfl
        rw [hlg, hsg] at hsc
        refine W_skip ?_; (with_reducible refine T_then ?_); refine W_seq ?_; refine W_region ?_; (iterate 4 refine P1 T.ok rfl rfl rfl ?_)
        refine WL_seg (want := true) (x := live[nx[k].toNat]) 4 allF rfl rfl rfl rfl (.inl ⟨rfl, rfl, rfl⟩) rfl rfl rfl rfl (fun hb Q' hQ' => ?_) (fun g' hf => ?_)
        · refine P1 T.ok rfl rfl rfl ?_; refine P1 T.ok rfl rfl rfl ?_
          refine WL_o rfl rfl (OpR_idx T.ok rfl rs2 (y := live[nx[k].toNat]) (geti_of (by omega) hnl) rfl rfl rfl rfl rfl rfl ?_)
          rintro b p ys hep rfl
          refine WL_o rfl rfl (OpR_loadE T.ok 0 rfl hep rfl rfl ?_)
          refine WL_nil ?_
          exact fun a ha => hQ' _ a (Fr0.refl _) (ha.keep (by (repeat (first | exact trivial | refine ⟨rfl, ?_⟩))))
        replace hs := hs.call hf; have hqe := hf.le; replace ep0 := ep0.mono hqe; replace rs0 := rs0.mono hqe; replace rs1 := rs1.mono hqe; replace rs2 := rs2.mono hqe; replace rs3 := rs3.mono hqe
        replace hrc' := hrc'.mono hqe; replace le5 := le5.trans hqe
        refine P1 T.ok rfl rfl rfl ?_
        refine WL_seg (want := true) (x := !seen'[nx[k].toNat]) 5 allF rfl rfl rfl rfl (.inl ⟨rfl, rfl, rfl⟩) rfl rfl rfl rfl (fun hb Q' hQ' => ?_) (fun g' hf => ?_)
        · refine P1 T.ok rfl rfl rfl ?_; refine P1 T.ok rfl rfl rfl ?_
          refine WL_o rfl rfl (OpR_idxR T.ok rfl (hs.own 0 _ rfl).1 hn0 (by omega) rfl rfl rfl rfl rfl rfl ?_)
          rintro b p hh; obtain ⟨rfl, rfl⟩ : ob = b ∧ 0 = p := by simpa using hh
          refine WL_o rfl rfl (OpR_loadR T.ok (nx[k].toNat * 1) rfl (hs.own 0 _ rfl).1 rfl (v := .bool (seen'[nx[k].toNat])) (by show (List.map Value.bool _)[nx[k].toNat * 1]? = _; rw [Nat.mul_one, List.getElem?_map, List.getElem?_eq_getElem hns]; rfl) ?_)
          refine P1 T.ok rfl rfl rfl ?_; refine WL_nil ?_
          exact fun a ha => hQ' _ a (Fr0.refl _) (ha.keep (by (repeat (first | exact trivial | refine ⟨rfl, ?_⟩))))
        replace hs := hs.call hf; have hqe := hf.le; replace ep0 := ep0.mono hqe; replace rs0 := rs0.mono hqe; replace rs1 := rs1.mono hqe; replace rs2 := rs2.mono hqe; replace rs3 := rs3.mono hqe
        replace hrc' := hrc'.mono hqe; replace le5 := le5.trans hqe
        refine WL_nil ?_; (with_reducible refine T_then ?_)
        by_cases hgo : first < nx[k] ∧ live[nx[k].toNat] = true ∧ seen'[nx[k].toNat] = false
        · refine W_yes (b := (decide (first < nx[k]) && live[nx[k].toNat]) && !seen'[nx[k].toNat]) (by simp [hgo]) rfl ?_
          rw [if_pos hgo] at hsc
          have hll9 := hl3
          refine W_seq ?_; refine W_region ?_; refine P1 T.ok rfl rfl rfl ?_; refine P1 T.ok rfl rfl rfl ?_
          refine WL_o rfl rfl (OpR_idxR T.ok rfl (hs.own 0 _ rfl).1 hn0 (by omega) rfl rfl rfl rfl rfl rfl ?_)
          rintro b p hh; obtain ⟨rfl, rfl⟩ : ob = b ∧ 0 = p := by simpa using hh
          refine WL_n rfl (OpR_storeR T.ok 0 (nx[k].toNat * 1) (us := [.bool true]) rfl hs rfl rfl rfl rfl rfl rfl rfl (by decide) (by simp; omega) (xs' := (seen'.set nx[k].toNat true).map Value.bool) ?_ ?_)
          · rw [Nat.mul_one, List.map_set]
            unfold spl
            rw [List.set_eq_take_append_cons_drop]
            simp [hns]
          rintro g5 hs hqe; replace ep0 := ep0.mono hqe; replace rs0 := rs0.mono hqe; replace rs1 := rs1.mono hqe; replace rs2 := rs2.mono hqe; replace rs3 := rs3.mono hqe
          replace hrc' := hrc'.mono hqe; replace le5 := le5.trans hqe
          refine WL_nil ?_; (with_reducible refine T_then ?_); refine W_region ?_; refine P1 T.ok rfl rfl rfl ?_; refine P1 T.ok rfl rfl rfl ?_
          refine WL_o rfl rfl (OpR_ret cl43 allF rfl rfl rfl rfl rfl (clone_c _ l _ rs1 (by omega)) ?_); rintro g6 v hf6 ⟨cellsC, ho1, ho2⟩
          replace hs := hs.getOwn hf6 ho1
          have hqe := hf6.le; replace ep0 := ep0.mono hqe; replace rs0 := rs0.mono hqe; replace rs1 := rs1.mono hqe; replace rs2 := rs2.mono hqe; replace rs3 := rs3.mono hqe
          replace hrc' := hrc'.mono hqe; replace le5 := le5.trans hqe
          obtain ⟨ca, cc, rfl⟩ := (hs.own 0 _ rfl).1.form
          refine P1 T.ok rfl rfl rfl ?_
          refine WL_o rfl rfl (OpR_lit T.ok rfl hs (vs := [(0, .int .i64 nx[k])]) (cells := [.int .i64 nx[k]]) rfl rfl rfl rfl rfl rfl (by decide) (by decide) (by kernel_rfl) rfl ?_); rintro b2 g7 hs hqe; replace ep0 := ep0.mono hqe; replace rs0 := rs0.mono hqe; replace rs1 := rs1.mono hqe; replace rs2 := rs2.mono hqe; replace rs3 := rs3.mono hqe
          replace hrc' := hrc'.mono hqe; replace le5 := le5.trans hqe; replace ho2 := ho2.mono hqe
          skip
          refine WL_o rfl rfl (OpR_append T.ok 1 rfl hs rfl rfl rfl rfl rfl rfl rfl (by decide) rfl (Src.of_row (hs.own 0 _ rfl).1).2 (by simp [Value.oneCell']) (by show (l.length + 1) * 8 ≤ _; omega) (by unfold maxLen; omega) ?_); rintro a' c' g8 hs hqe; replace ep0 := ep0.mono hqe; replace rs0 := rs0.mono hqe; replace rs1 := rs1.mono hqe; replace rs2 := rs2.mono hqe; replace rs3 := rs3.mono hqe
          replace hrc' := hrc'.mono hqe; replace le5 := le5.trans hqe; replace ho2 := ho2.mono hqe
          obtain ⟨g9, hw9, hs9, hqe9, hrn⟩ := hs.fzRow (α := Int) (xs := l ++ [nx[k]]) (i := 1) rfl (RcL.app (RcL.ints _ [nx[k]]) ho2)
          clear hqe; have hqe := hqe9; rw [← hw9]; replace hs := hs9; replace ep0 := ep0.mono hqe; replace rs0 := rs0.mono hqe; replace rs1 := rs1.mono hqe; replace rs2 := rs2.mono hqe; replace rs3 := rs3.mono hqe
          replace hrc' := hrc'.mono hqe; replace le5 := le5.trans hqe
          skip
          refine WL_o rfl rfl (OpR_lit T.ok rfl hs (vs := [(0, .slice a' (l.length + 1) c')]) (cells := [.slice a' (l.length + 1) c']) rfl rfl rfl rfl rfl rfl (by decide) (by decide) (by kernel_rfl) rfl ?_); rintro b3 g10 hs hqe; replace ep0 := ep0.mono hqe; replace rs0 := rs0.mono hqe; replace rs1 := rs1.mono hqe; replace rs2 := rs2.mono hqe; replace rs3 := rs3.mono hqe
          replace hrc' := hrc'.mono hqe; replace le5 := le5.trans hqe; replace hrn := hrn.mono hqe
          skip
          have hcs : seen'.count false ≤ seen'.length := List.count_le_length
          refine WL_o rfl rfl (OpR_append T.ok 3 rfl hs rfl rfl rfl rfl rfl rfl rfl (by decide) rfl (Src.of_row (hs.own 0 _ rfl).1).2 (by simp [Value.oneCell']) (by show (q'.length + 1) * 24 ≤ _; omega) (by unfold maxLen; omega) ?_); rintro a9 c9 g11 hs hqe; replace ep0 := ep0.mono hqe; replace rs0 := rs0.mono hqe; replace rs1 := rs1.mono hqe; replace rs2 := rs2.mono hqe; replace rs3 := rs3.mono hqe
          replace hrc' := hrc'.mono hqe; replace le5 := le5.trans hqe; replace hrn := hrn.mono hqe
          refine P1 T.ok rfl rfl rfl ?_; refine WL_nil ?_; (with_reducible refine T_bn ?_); (with_reducible refine T_then ?_); refine W_region ?_; refine P1 T.ok rfl rfl rfl ?_; refine P1 T.ok rfl rfl rfl ?_; refine WL_nil ?_
          have hap : RcL g11 (cells' ++ [Value.slice a' (l.length + 1) c']) (q' ++ [l ++ [nx[k]]]) := RcL.app (α := List Int) (ys := [l ++ [nx[k]]]) (ds := [Value.slice a' (l.length + 1) c']) ⟨[Value.slice a' (l.length + 1) c'], [], rfl, (show ∃ v, [Value.slice a' (l.length + 1) c'] = [v] ∧ Rs g11 v (l ++ [nx[k]]) from ⟨_, rfl, hrn⟩), rfl⟩ hrc'
          refine fun a ha => ⟨nx.length - (k + 1), by omega, k + 1, q' ++ [l ++ [nx[k]]], cells' ++ [.slice a' (l.length + 1) c'], seen'.set nx[k].toNat true, .slice a9 (q'.length + 1) c9, _, rfl, ?_, le5,
            hap, by omega, rfl, by simp [hsl'], ?_, ?_, hsc, ha.keep ⟨rfl, rfl, rfl, rfl, rfl, rfl, rfl, rfl, kI rfl (by rw [wr (by omega) (by omega)]; omega), trivial⟩⟩
          · have hd := (hs.drop 0).drop 0
            have : (q' ++ [l ++ [nx[k]]]).length = q'.length + 1 := by simp
            rw [this]
            exact hd
          · have := count_set_lt (o := seen') (i := nx[k].toNat) (by rw [List.getElem?_eq_getElem hns, hgo.2.2])
            simp; omega
          · intro l' hl'
            rcases List.mem_append.1 hl' with h | h
            · exact hq' l' h
            · simp at h; subst h
              refine ⟨by simp, ?_, ?_, by simp; omega⟩
              · simpa [lastD] using hn0
              · simpa [lastD] using hn1
        · refine W_no (b := (decide (first < nx[k]) && live[nx[k].toNat]) && !seen'[nx[k].toNat]) ?_ rfl ?_
          · rw [Bool.eq_false_iff]; intro h; simp only [Bool.and_eq_true, decide_eq_true_eq, Bool.not_eq_true'] at h; exact hgo ⟨h.1.1, h.1.2, h.2⟩
          rw [if_neg hgo] at hsc
          refine W_skip ?_; (with_reducible refine T_bn ?_); (with_reducible refine T_then ?_); refine W_region ?_; refine P1 T.ok rfl rfl rfl ?_; refine P1 T.ok rfl rfl rfl ?_; refine WL_nil ?_
          exact fun a ha => ⟨nx.length - (k + 1), by omega, k + 1, q', cells', seen', _, _, rfl, hs, le5, hrc', by omega, rfl, hsl', hcnt, hq', hsc, ha.keep ⟨rfl, rfl, rfl, rfl, rfl, rfl, rfl, rfl, kI rfl (by rw [wr (by omega) (by omega)]; omega), trivial⟩⟩
    · refine W_no (b := decide ((k : Int) < (nx.length : Int))) (by simp; omega) rfl ?_
      obtain rfl : k = nx.length := by omega
      rw [List.drop_length, cycScan] at hsc
      refine W_exit ?_; (with_reducible refine T_tx ?_; with_reducible refine T_tx ?_); (with_reducible refine T_bx ?_); (with_reducible refine T_bn ?_)
      rw [← hsc] at hno
      exact fun a ha => ⟨_, by rw [hm1]; exact Nat.lt_succ_self _, q', cells', seen', _, _, rfl, hs, le4.trans le5, hrc', hcnt.symm, hsl', hq', hno, ha.keep (by (repeat (first | exact trivial | refine ⟨rfl, ?_⟩)))⟩
end Go.Proofs.Ytijmlfmapfhabaa
