/- The walks through the reference: what can be reached, ends, the order of ways. -/
import Derived.Test.YtijmlfmapfhabaaRa

/- The walk through the reference's reached. -/
namespace Go.Proofs.Ytijmlfmapfhabaa
open Go Go.K
set_option maxRecDepth 10000
attribute [local irreducible] W WL OpR
set_option maxHeartbeats 1000000

/-- What holds while steps are found, those of the queue being still to be followed. -/
structure BInv (f : Flow) (a : Int) (out : List Bool) (q : List Int) (E : Int → Prop) : Prop where
  len : out.length = f.steps.length
  st : isIn out a
  snd : ∀ m, InR f m → isIn out m → Rch f a m
  qr : ∀ m ∈ q, InR f m ∧ isIn out m
  cl : ∀ m, InR f m → isIn out m → m ∈ q ∨ E m ∨ ∀ c ∈ afterL (stepD f m), isIn out c

theorem BInv.start {f : Flow} {a : Int} (ha : InR f a) : BInv f a ((List.replicate f.steps.length false).set a.toNat true) [a] fun _ => False := by
  have h : ∀ m, InR f m → (isIn ((List.replicate f.steps.length false).set a.toNat true) m ↔ m = a) := fun m hm => by
    rw [isIn_set (by simp) ha hm]
    exact ⟨fun h => h.resolve_right fun h => isIn_replicate _ _ h, .inl⟩
  refine ⟨by simp, (h a ha).2 rfl, fun m hm hi => ?_, fun m hm => ?_, fun m hm hi => ?_⟩
  · rw [(h m hm).1 hi]; exact .refl _
  · rw [List.mem_singleton] at hm; subst hm; exact ⟨ha, (h m ha).2 rfl⟩
  · rw [(h m hm).1 hi]; simp
theorem BInv.pop {f : Flow} {a u : Int} {out : List Bool} {q : List Int} (h : BInv f a out (u :: q) fun _ => False) : BInv f a out q (· = u) := by
  refine ⟨h.len, h.st, h.snd, fun m hm => h.qr m (by simp [hm]), fun m hm hi => ?_⟩
  rcases h.cl m hm hi with h | h | h
  · rcases List.mem_cons.1 h with h | h
    · exact .inr (.inl h)
    · exact .inl h
  · exact h.elim
  · exact .inr (.inr h)
theorem BInv.add {f : Flow} {a u c : Int} {out : List Bool} {q : List Int} (h : BInv f a out q (· = u)) (hu : InR f u) (hui : isIn out u) (hc : InR f c) (hcu : c ∈ afterL (stepD f u)) :
    BInv f a (out.set c.toNat true) (q ++ [c]) (· = u) := by
  have hs : ∀ m, InR f m → (isIn (out.set c.toNat true) m ↔ m = c ∨ isIn out m) := fun m hm => isIn_set h.len hc hm
  have hmono : ∀ m : Int, isIn out m → isIn (out.set c.toNat true) m := fun m hm => by
    unfold isIn at hm ⊢
    rw [List.getD_eq_getElem?_getD] at hm ⊢
    rw [List.getElem?_set]
    split
    · split <;> simp_all
    · exact hm
  refine ⟨by rw [List.length_set]; exact h.len, hmono _ h.st, fun m hm hi => ?_, fun m hm => ?_, fun m hm hi => ?_⟩
  · rcases (hs m hm).1 hi with rfl | hi
    · exact .step (h.snd u hu hui) hcu
    · exact h.snd m hm hi
  · rcases List.mem_append.1 hm with hm | hm
    · exact ⟨(h.qr m hm).1, hmono _ (h.qr m hm).2⟩
    · rw [List.mem_singleton] at hm; subst hm; exact ⟨hc, (hs m hc).2 (.inl rfl)⟩
  · rcases (hs m hm).1 hi with rfl | hi
    · exact .inl (by simp)
    · rcases h.cl m hm hi with h | h | h
      · exact .inl (by simp [h])
      · exact .inr (.inl h)
      · exact .inr (.inr fun d hd => hmono _ (h d hd))
theorem BInv.done {f : Flow} {a u : Int} {out : List Bool} {q : List Int} (h : BInv f a out q (· = u)) (hd : ∀ c ∈ afterL (stepD f u), isIn out c) : BInv f a out q fun _ => False := by
  refine ⟨h.len, h.st, h.snd, h.qr, fun m hm hi => ?_⟩
  rcases h.cl m hm hi with h | h | h
  · exact .inl h
  · subst h; exact .inr (.inr hd)
  · exact .inr (.inr h)
theorem bools_ext {f : Flow} {l r : List Bool} (hl : l.length = f.steps.length) (hr : r.length = f.steps.length) (h : ∀ m, InR f m → (isIn l m ↔ isIn r m)) : l = r := by
  apply List.ext_getElem (by omega)
  intro i h1 h2
  have hh := h (i : Int) ⟨by omega, by omega⟩
  unfold isIn at hh
  rw [List.getD_eq_getElem?_getD, List.getD_eq_getElem?_getD, Int.toNat_natCast, List.getElem?_eq_getElem h1, List.getElem?_eq_getElem h2] at hh
  simp only [Option.getD_some] at hh
  exact Bool.eq_iff_iff.2 hh
theorem BInv.fin {f : Flow} (hval : valid f = true) {a : Int} (ha : InR f a) {out : List Bool} (h : BInv f a out [] fun _ => False) : out = reached f a := by
  refine bools_ext h.len (reached_length f a) fun m hm => ?_
  rw [reached_iff hval ha hm]
  refine ⟨h.snd m hm, fun hr => ?_⟩
  clear hm
  induction hr with
  | refl => exact h.st
  | step hb hc ih =>
    rcases h.cl _ (hb.inR hval ha) ih with h | h | h
    · simp at h
    · exact h.elim
    · exact h _ hc

def rowQ (v : Value) (q : List Int) : Ent := .row 3 1 v q.length (q.map (Value.int .i64))
def headPtr (qa : Option Addr) : Fact := ⟨fun v _ => ∃ b p, qa = some ⟨b, p, none⟩ ∧ v = .pointer (some ⟨b, p + Int.toNat 0 * 1, none⟩), fun _ _ _ _ h => h⟩

theorem rReached_c (v : Value) (f : Flow) (n : Int) (g : G) (fl0 : RFlow g v f) (hval : valid f = true) (h1 : InR f n) :
    CallsIn Wd 0 Try.prog 36 #[v, .int .i64 n] g.w (Ret g (OwnR 4 g (reached f n))) := by
  obtain ⟨a1, n1, c1, a2, n2, c2, rfl, rs0, rs1⟩ := id fl0
  obtain ⟨_, _, e⟩ := rs0.isSlice; obtain ⟨rfl, rfl, rfl⟩ := Value.slice.inj e; clear e
  have hs := St.start g
  have le0 := G.le.refl g
  have hn40 := valid_n hval
  have hp0 := h1.1; have hp1 := h1.2
  refine enter Try.func36 rfl Try.ntmps36 rfl ?_
  refine W_seq ?_; refine W_region ?_
  refine WL_o rfl rfl (OpR_box rfl hs rfl rfl ?_); clear hs; rintro bf g1 hs hqe; replace le0 := G.le.trans le0 hqe; replace rs0 := rs0.mono hqe; replace rs1 := rs1.mono hqe; replace fl0 := fl0.mono hqe
  refine P1 T.ok rfl rfl rfl ?_; refine WL_nil ?_; (with_reducible refine T_then ?_); refine W_seq ?_; refine W_region ?_; refine P1 T.ok rfl rfl rfl ?_; refine WL_o rfl rfl (OpR_loadO T.ok 0 rfl hs rfl rfl rfl ?_); refine P1 T.ok rfl rfl rfl ?_
  obtain ⟨g2, hw2, hs2, hqe, hep⟩ := hs.fzObj (i := 0) rfl; replace hs := hs2; clear hs2; rw [← hw2]; replace le0 := G.le.trans le0 hqe; replace rs0 := rs0.mono hqe; replace rs1 := rs1.mono hqe; replace fl0 := fl0.mono hqe
  have ep0 := hep
  clear hep
  skip
  refine WL_o rfl rfl (OpR_make T.ok rfl hs rfl rfl rfl rfl rfl rfl (by decide) rfl (by show 1 * f.steps.length ≤ _; omega) (by unfold maxLen; omega) ?_); rintro ob gm hs hqe; replace le0 := G.le.trans le0 hqe; replace ep0 := ep0.mono hqe; replace rs0 := rs0.mono hqe; replace rs1 := rs1.mono hqe; replace fl0 := fl0.mono hqe
  refine P1 T.ok rfl rfl rfl ?_; refine WL_nil ?_; (with_reducible refine T_then ?_); refine W_seq ?_; refine W_region ?_; refine P1 T.ok rfl rfl rfl ?_; refine P1 T.ok rfl rfl rfl ?_
  have hfl : (List.replicate f.steps.length [Value.bool false]).flatten = (List.replicate f.steps.length false).map Value.bool := by simp
  have hst : St g gm [rowB ob f.steps.length (List.replicate f.steps.length false)] := by
    unfold rowB; rw [← hfl]; exact hs
  replace hs := hst; clear hst
  refine WL_o rfl rfl (OpR_idxR T.ok rfl (hs.own 0 _ rfl).1 hp0 (by omega) rfl rfl rfl rfl rfl rfl ?_)
  rintro b q hh; obtain ⟨rfl, rfl⟩ : ob = b ∧ 0 = q := by simpa using hh
  refine WL_n rfl (OpR_storeR T.ok 0 (n.toNat * 1) (us := [.bool true]) rfl hs rfl rfl rfl rfl rfl rfl rfl (by decide) (by simp; omega) (set_spl _ _ Value.bool true (by simp; omega)) ?_)
  rintro gm2 hs hqe; replace le0 := G.le.trans le0 hqe; replace ep0 := ep0.mono hqe; replace rs0 := rs0.mono hqe; replace rs1 := rs1.mono hqe; replace fl0 := fl0.mono hqe
  refine WL_nil ?_; (with_reducible refine T_then ?_); refine W_seq ?_; refine W_region ?_; refine P1 T.ok rfl rfl rfl ?_
  refine WL_o rfl rfl (OpR_lit T.ok rfl hs (vs := [(0, .int .i64 n)]) (cells := [.int .i64 n]) rfl rfl rfl rfl rfl rfl (by decide) (by decide) (by kernel_rfl) rfl ?_); rintro bl gl hs hqe; replace le0 := G.le.trans le0 hqe; replace ep0 := ep0.mono hqe; replace rs0 := rs0.mono hqe; replace rs1 := rs1.mono hqe; replace fl0 := fl0.mono hqe
  refine P1 T.ok rfl rfl rfl ?_; refine WL_nil ?_; (with_reducible refine T_then ?_); refine W_seq ?_; refine W_block ?_
  have hst : St g gl [rowQ (.slice (some ⟨bl, 0, none⟩) 1 1) [n], rowB ob f.steps.length ((List.replicate f.steps.length false).set n.toNat true)] := hs
  replace hs := hst; clear hst
  have hb0 := BInv.start h1
  have hc0 : ([n] : List Int).length + ((List.replicate f.steps.length false).set n.toNat true).count false = f.steps.length := by
    have h := count_set_lt (o := List.replicate f.steps.length false) (i := n.toNat) (by rw [List.getElem?_replicate, if_pos (by omega)])
    simp at h ⊢; omega
  generalize (List.replicate f.steps.length false).set n.toNat true = o0 at *
  have ep0c := ep0; have fl0c := fl0; have le8 := G.le.refl gl
  refine W_loop (fun m a' w => ∃ (q : List Int) (out : List Bool) (qv : Value) (g2 : G), w = g2.w ∧ St g g2 [rowQ qv q, rowB ob f.steps.length out] ∧ G.le gl g2 ∧ BInv f n out q (fun _ => False) ∧ q.length + out.count false ≤ f.steps.length ∧ m = q.length + out.count false ∧
      Fr 56 [] [(1, .int .i64 n), (2, .pointer (some ⟨bf, 0, none⟩)), (5, .slice (some ⟨ob, 0, none⟩) f.steps.length f.steps.length), (6, qv)] a') f.steps.length
    (fun a' ha => ⟨[n], o0, _, gl, rfl, hs, le8, hb0, by omega, by omega, ha.keep (by (repeat (first | exact trivial | refine ⟨rfl, ?_⟩)))⟩) ?_
  clear hs le8 ep0 rs0 rs1 fl0 hb0 hc0
  rintro m a' _ ⟨q, out, qv, g2, rfl, hs, le8, hb, hle, rfl, ha'⟩
  have ep0 := ep0c.mono le8; have fl0 := fl0c.mono le8
  obtain ⟨qa, qc, rfl⟩ := (hs.own 0 _ rfl).1.form
  revert a'
  (with_reducible refine T_wp ?_); refine W_seq ?_; refine W_seq ?_; refine W_region ?_; (iterate 3 refine P1 T.ok rfl rfl rfl ?_); refine WL_nil ?_; (with_reducible refine T_then ?_)
  cases q with
  | nil =>
    refine W_no (b := decide ((0 : Int) < (([] : List Int).length : Int))) (by simp) rfl ?_
    refine W_exit ?_; (with_reducible refine T_tx ?_; with_reducible refine T_tx ?_); (with_reducible refine T_bx ?_); (with_reducible refine T_then ?_); refine W_seq ?_; refine W_region ?_; refine P1 T.ok rfl rfl rfl ?_; refine P1 T.ok rfl rfl rfl ?_; refine WL_nil ?_; (with_reducible refine T_then ?_)
    refine W_ret (ret1 rfl rfl (hs.ret ?_))
    rw [← hb.fin hval h1]
    exact hs.toOwn (i := 1) rfl (RcL.bools _ _)
  | cons u rest =>
    refine W_yes (b := decide ((0 : Int) < ((u :: rest).length : Int))) (by simp) rfl ?_
    obtain ⟨hur, hui⟩ := hb.qr u (by simp)
    replace hb := hb.pop
    have hu0 := hur.1; have hu1 := hur.2
    have hcap : (u :: rest).length ≤ qc := by
      rcases (hs.own 0 _ rfl).1.2 with ⟨h, _⟩ | ⟨b, p, cap, cur, e1, _, _, h2, _⟩
      · simp at h
      · simp only [Value.slice.injEq] at e1; omega
    refine W_skip ?_; (with_reducible refine T_then ?_); refine W_block ?_; refine W_seq ?_
    apply W_draw allF rfl (Fact.eq _ :: Fact.eq _ :: (headPtr qa) :: Fact.eq _ :: (Fact.rs (afterL (stepD f u))) :: (Fact.rs (afterL (stepD f u))) :: []) 6 [(5, 7)] rfl rfl
    · refine D_cons (D_step2 (js := []) (by kernel_rfl) fun gd hf => ?_) ?_
      · have hsd := hs.dr.call hf; have hfe := (G.le_dr _).trans hf.le
        refine QA_nil ?_
        (refine D_yes rfl ?_; refine OpR_loadE T.ok 0 rfl (ep0.mono hfe) rfl rfl ?_; refine ⟨_, rfl, Fr0.refl _, ?_⟩; exact rfl)
      refine D_cons (D_step2 (js := []) (by kernel_rfl) fun gd hf => ?_) ?_
      · have hsd := hs.dr.call hf; have hfe := (G.le_dr _).trans hf.le
        refine QA_nil ?_
        (refine D_yes rfl ?_; refine OpR_pure _ T.ok rfl ?_; refine ⟨_, rfl, Fr0.refl _, ?_⟩; exact rfl)
      refine D_cons (D_step2 (js := [(1, 22)]) (by kernel_rfl) fun gd hf => ?_) ?_
      · have hsd := hs.dr.call hf; have hfe := (G.le_dr _).trans hf.le
        refine QA_eq rfl ?_
        refine QA_nil ?_
        refine D_yes rfl ?_
        refine OpR_idxR T.ok rfl (hsd.own 0 _ rfl).1 (by decide) (by simp) rfl rfl rfl rfl rfl rfl ?_
        rintro b p hh
        exact ⟨_, rfl, Fr0.refl _, b, p, hh, rfl⟩
      refine D_cons (D_step2 (js := [(2, 23)]) (by kernel_rfl) fun gd hf => ?_) ?_
      · have hsd := hs.dr.call hf; have hfe := (G.le_dr _).trans hf.le
        refine QA_any fun v2 h2 => ?_
        refine QA_nil ?_
        obtain ⟨b, p, e, rfl⟩ := h2
        subst e
        refine D_yes rfl ?_
        refine OpR_loadR T.ok (Int.toNat 0 * 1) rfl (hsd.own 0 _ rfl).1 rfl (v := .int .i64 u) rfl ?_
        exact ⟨_, rfl, Fr0.refl _, rfl⟩
      refine D_cons (D_step2 (js := [(0, 21), (3, 24)]) (by kernel_rfl) fun gd hf => ?_) ?_
      · have hsd := hs.dr.call hf; have hfe := (G.le_dr _).trans hf.le
        refine QA_eq rfl ?_; refine QA_eq rfl ?_
        refine QA_nil ?_
        refine D_yes rfl ?_
        refine OpR_ret cl48 allF rfl rfl rfl rfl rfl (rAfterS_c _ f u _ (fl0.mono hfe) hval hur) fun g' v h1 h2 => ?_
        obtain ⟨g2, e1, e2, e3, e4⟩ := (St.start gd).ownRs h1 h2
        exact ⟨g2, e1, e2.fr0, e4⟩
      refine D_cons (D_step2 (js := [(4, 25), (4, 25), (4, 25)]) (by kernel_rfl) fun gd hf => ?_) ?_
      · have hsd := hs.dr.call hf; have hfe := (G.le_dr _).trans hf.le
        refine QA_any fun v4 h4 => ?_; refine QA_any fun v4 h4 => ?_; refine QA_any fun v4 h4 => ?_
        refine QA_nil ?_
        refine D_yes rfl ?_
        refine OpR_pure _ T.ok rfl ?_
        exact ⟨_, rfl, Fr0.refl _, h4⟩
      exact D_nil
    intro g1 hf1; refine QA_any fun v5 h5 => ?_; refine QA_nil ?_
    replace hs := hs.dr.call hf1; have hqe := (G.le_dr _).trans hf1.le; replace le8 := G.le.trans le8 hqe; replace ep0 := ep0.mono hqe; replace fl0 := fl0.mono hqe
    have rs3 : Rs g1 v5 (afterL (stepD f u)) := h5
    clear h5
    obtain ⟨al, cl, rfl⟩ := rs3.isSlice
    have hll := rs3.len_le
    unfold maxLen at hll
    have hlr := after_range hval hu0 hu1
    generalize hle2 : afterL (stepD f u) = l at *
    refine WL_nil ?_; (with_reducible refine T_then ?_); refine W_seq ?_; refine W_region ?_; refine P1 T.ok rfl rfl rfl ?_
    refine WL_o rfl rfl (OpR_cut T.ok rfl rfl rfl rfl rfl (a := 1) (b := (u :: rest).length) ⟨_, rfl⟩ rfl (by simp) hcap ?_)
    replace hs := hs.cutFrom (i := 0) (a := 1) rfl (by simp)
    refine P1 T.ok rfl rfl rfl ?_; refine WL_nil ?_; (with_reducible refine T_then ?_); refine W_seq ?_; refine W_region ?_; refine P1 T.ok rfl rfl rfl ?_; refine WL_nil ?_; (with_reducible refine T_then ?_); refine W_block ?_
    have hst : St g g1 [rowQ (.slice (if qc = 1 then qa else qa.map (·.add (1 * 1))) ((u :: rest).length - 1) (qc - 1)) rest, rowB ob f.steps.length out] := hs
    clear hs
    have hle3 : rest.length + out.count false + 1 = (u :: rest).length + out.count false := by simp; omega
    have ep0d := ep0; have rs3d := rs3; have le9 := G.le.refl g1
    refine W_loop (fun m a' w => ∃ (i : Nat) (q : List Int) (o2 : List Bool) (qv : Value) (g3 : G), w = g3.w ∧ St g g3 [rowQ qv q, rowB ob f.steps.length o2] ∧ G.le g1 g3 ∧ BInv f n o2 q (· = u) ∧ isIn o2 u ∧ (∀ c ∈ l.take i, isIn o2 c) ∧ q.length + o2.count false = rest.length + out.count false ∧ i ≤ l.length ∧ m = l.length - i ∧
        Fr 56 [] [(1, .int .i64 n), (2, .pointer (some ⟨bf, 0, none⟩)), (5, .slice (some ⟨ob, 0, none⟩) f.steps.length f.steps.length), (6, qv), (7, .slice al l.length cl), (8, .int .i64 i)] a') l.length
      (fun a' ha => ⟨0, rest, out, _, g1, rfl, hst, le9, hb, hui, by simp, rfl, Nat.zero_le _, rfl, ha.keep (by (repeat (first | exact trivial | refine ⟨rfl, ?_⟩)))⟩) ?_
    clear hst le9 ep0 fl0 rs3 hb hui
    rintro m a' _ ⟨i, q, o2, qv, g3, rfl, hs, le9, hb, hui, hin, hcnt, hi, rfl, ha'⟩
    have ep0 := ep0d.mono le9; have rs3 := rs3d.mono le9
    obtain ⟨qb, qd, rfl⟩ := (hs.own 0 _ rfl).1.form
    have hol := hb.len
    revert a'
    (with_reducible refine T_wp ?_); refine W_seq ?_; refine W_seq ?_; refine W_region ?_; (iterate 4 refine P1 T.ok rfl rfl rfl ?_); refine WL_nil ?_; (with_reducible refine T_then ?_)
    by_cases hlt : i < l.length
    · refine W_yes (b := decide ((i : Int) < (l.length : Int))) (decide_eq_true (by omega)) rfl ?_
      have hgi := geti_of (xs := l) (n := (i : Int)) rfl hlt
      have hts : l.take (i + 1) = l.take i ++ [l[i]] := List.take_succ_eq_append_getElem hlt
      have hcl := List.getElem_mem hlt
      have hcr : InR f l[i] := hlr _ hcl
      generalize l[i] = c at *
      have hc0 := hcr.1; have hc1 := hcr.2
      have hcn : c.toNat < o2.length := by omega
      have hci : isIn o2 c ↔ o2[c.toNat] = true := by
        unfold isIn; rw [List.getD_eq_getElem?_getD, List.getElem?_eq_getElem hcn]; rfl
      refine W_skip ?_; (with_reducible refine T_then ?_); refine W_seq ?_; refine W_block ?_; refine W_seq ?_; refine W_region ?_; (iterate 3 refine P1 T.ok rfl rfl rfl ?_)
      refine WL_o rfl rfl (OpR_idx T.ok rfl rs3 (y := c) hgi rfl rfl rfl rfl rfl rfl ?_)
      rintro b p ys hep rfl
      refine WL_o rfl rfl (OpR_loadE T.ok 0 rfl hep rfl rfl ?_)
      clear hep
      refine WL_o rfl rfl (OpR_idxR T.ok rfl (hs.own 1 _ rfl).1 hc0 (by omega) rfl rfl rfl rfl rfl rfl ?_)
      rintro b p hh; obtain ⟨rfl, rfl⟩ : ob = b ∧ 0 = p := by simpa using hh
      refine WL_o rfl rfl (OpR_loadR T.ok (c.toNat * 1) rfl (hs.own 1 _ rfl).1 rfl (v := .bool o2[c.toNat]) (by show (List.map Value.bool _)[c.toNat * 1]? = _; rw [Nat.mul_one, List.getElem?_map, List.getElem?_eq_getElem hcn]; rfl) ?_)
      refine P1 T.ok rfl rfl rfl ?_; refine WL_nil ?_; (with_reducible refine T_then ?_)
      cases hcb : o2[c.toNat] with
      | true =>
        refine W_no rfl rfl ?_
        have hin2 : ∀ d ∈ l.take (i + 1), isIn o2 d := fun d hd => by
          rw [hts] at hd
          rcases List.mem_append.1 hd with hd | hd
          · exact hin d hd
          · rw [List.mem_singleton] at hd; subst hd; exact hci.2 hcb
        refine W_skip ?_; (with_reducible refine T_bn ?_); (with_reducible refine T_then ?_); refine W_region ?_; (iterate 3 refine P1 T.ok rfl rfl rfl ?_); refine WL_nil ?_
        exact fun a ha => ⟨l.length - (i + 1), by omega, i + 1, q, o2, _, _, rfl, hs, le9, hb, hui, hin2, hcnt, by omega, rfl, ha.keep ⟨rfl, rfl, rfl, rfl, rfl, kI rfl (by rw [wr (by omega) (by omega)]; omega), trivial⟩⟩
      | false =>
        refine W_yes rfl rfl ?_
        have hb2 := hb.add hur hui hcr (by rw [hle2]; exact hcl)
        have hui2 : isIn (o2.set c.toNat true) u := (isIn_set hol hcr hur).2 (.inr hui)
        have hin2 : ∀ d ∈ l.take (i + 1), isIn (o2.set c.toNat true) d := fun d hd => by
          rw [hts] at hd
          rcases List.mem_append.1 hd with hd | hd
          · exact (isIn_set hol hcr (hlr d (List.mem_of_mem_take hd))).2 (.inr (hin d hd))
          · rw [List.mem_singleton] at hd; subst hd; exact (isIn_set hol hcr hcr).2 (.inl rfl)
        have hcs := count_set_lt (o := o2) (i := c.toNat) (by rw [List.getElem?_eq_getElem hcn, hcb])
        refine W_seq ?_; refine W_region ?_; (iterate 3 refine P1 T.ok rfl rfl rfl ?_)
        refine WL_o rfl rfl (OpR_idx T.ok rfl rs3 (y := c) hgi rfl rfl rfl rfl rfl rfl ?_)
        rintro b p ys hep rfl
        refine WL_o rfl rfl (OpR_loadE T.ok 0 rfl hep rfl rfl ?_)
        clear hep
        refine WL_o rfl rfl (OpR_idxR T.ok rfl (hs.own 1 _ rfl).1 hc0 (by omega) rfl rfl rfl rfl rfl rfl ?_)
        rintro b p hh; obtain ⟨rfl, rfl⟩ : ob = b ∧ 0 = p := by simpa using hh
        refine WL_n rfl (OpR_storeR T.ok 1 (c.toNat * 1) (us := [.bool true]) rfl hs rfl rfl rfl rfl rfl rfl rfl (by decide) (by simp; omega) (set_spl _ _ Value.bool true (by omega)) ?_)
        rintro g9 hs hqe; replace le9 := G.le.trans le9 hqe; replace ep0 := ep0.mono hqe; replace rs3 := rs3.mono hqe
        refine WL_nil ?_; (with_reducible refine T_then ?_); refine W_region ?_; (iterate 3 refine P1 T.ok rfl rfl rfl ?_)
        refine WL_o rfl rfl (OpR_idx T.ok rfl rs3 (y := c) hgi rfl rfl rfl rfl rfl rfl ?_)
        rintro b p ys hep rfl
        refine WL_o rfl rfl (OpR_loadE T.ok 0 rfl hep rfl rfl ?_)
        clear hep
        skip
        refine WL_o rfl rfl (OpR_lit T.ok rfl hs (vs := [(0, .int .i64 c)]) (cells := [.int .i64 c]) rfl rfl rfl rfl rfl rfl (by decide) (by decide) (by kernel_rfl) rfl ?_); rintro bl gl hs hqe; replace le9 := G.le.trans le9 hqe; replace ep0 := ep0.mono hqe; replace rs3 := rs3.mono hqe
        skip
        refine WL_o rfl rfl (OpR_append T.ok 1 rfl hs rfl rfl rfl rfl rfl rfl rfl (by decide) rfl (Src.of_row (hs.own 0 _ rfl).1).2 (by simp [Value.oneCell']) (by show (q.length + 1) * 8 ≤ _; simp at hle; omega) (by unfold maxLen; simp at hle; omega) ?_); rintro a9 c9 g8 hs hqe; replace le9 := G.le.trans le9 hqe; replace ep0 := ep0.mono hqe; replace rs3 := rs3.mono hqe
        refine P1 T.ok rfl rfl rfl ?_; refine WL_nil ?_; (with_reducible refine T_bn ?_); (with_reducible refine T_then ?_); refine W_region ?_; (iterate 3 refine P1 T.ok rfl rfl rfl ?_); refine WL_nil ?_
        exact fun a ha => ⟨l.length - (i + 1), by omega, i + 1, q ++ [c], o2.set c.toNat true, .slice a9 (q.length + 1) c9, _, rfl, by simpa [rowQ, rowB, List.map_set] using hs.drop 0, le9, hb2, hui2, hin2, by rw [List.length_append]; simp; omega, by omega, rfl, ha.keep ⟨rfl, rfl, rfl, rfl, rfl, kI rfl (by rw [wr (by omega) (by omega)]; omega), trivial⟩⟩
    · refine W_no (b := decide ((i : Int) < (l.length : Int))) (decide_eq_false (by omega)) rfl ?_
      rw [List.take_of_length_le (by omega), ← hle2] at hin
      refine W_exit ?_; (with_reducible refine T_tx ?_; with_reducible refine T_tx ?_); (with_reducible refine T_bx ?_); (with_reducible refine T_bn ?_)
      exact fun a ha => ⟨q.length + o2.count false, by omega, q, o2, _, _, rfl, hs, le8.trans le9, hb.done hin, by omega, rfl, ha.keep ⟨rfl, rfl, rfl, rfl, trivial⟩⟩
end Go.Proofs.Ytijmlfmapfhabaa

/- The walks through the reference: Reach and Ends. -/
namespace Go.Proofs.Ytijmlfmapfhabaa
open Go Go.K
set_option maxRecDepth 10000
attribute [local irreducible] W WL OpR
set_option maxHeartbeats 1000000

theorem rReach_c (v : Value) (f : Flow) (n : Int) (g : G) (fl0 : RFlow g v f) :
    CallsIn Wd 0 Try.prog 30 #[v, .int .i64 n] g.w (Ret g (OwnR 3 g (reach f n))) := by
  obtain ⟨a1, n1, c1, a2, n2, c2, rfl, rs0, rs1⟩ := id fl0
  have hs := St.start g
  have le0 := G.le.refl g
  refine enter Try.func30 rfl Try.ntmps30 rfl ?_
  refine W_seq ?_; refine W_region ?_
  refine WL_o rfl rfl (OpR_box rfl hs rfl rfl ?_); clear hs; rintro b1 g1 hs hqe; replace le0 := G.le.trans le0 hqe; replace rs0 := rs0.mono hqe; replace rs1 := rs1.mono hqe; replace fl0 := fl0.mono hqe
  refine P1 T.ok rfl rfl rfl ?_; refine WL_nil ?_; (with_reducible refine T_then ?_); refine W_seq ?_; refine W_seq ?_; refine W_region ?_; refine WL_o rfl rfl (OpR_loadO T.ok 0 rfl hs rfl rfl rfl ?_); refine P1 T.ok rfl rfl rfl ?_
  obtain ⟨g2, hw2, hs2, hqe, hep⟩ := hs.fzObj (i := 0) rfl; replace hs := hs2; clear hs2; rw [← hw2]; replace le0 := G.le.trans le0 hqe; replace rs0 := rs0.mono hqe; replace rs1 := rs1.mono hqe; replace fl0 := fl0.mono hqe
  have ep0 := hep
  clear hep
  skip
  refine WL_o rfl rfl (OpR_ret cl44 allF rfl rfl rfl rfl rfl (rGiven_c _ f n _ fl0) ?_); rintro g1 _ hf1 rfl; replace hs := hs.call hf1; have hqe := hf1.le; replace le0 := G.le.trans le0 hqe; replace ep0 := ep0.mono hqe; replace rs0 := rs0.mono hqe; replace rs1 := rs1.mono hqe; replace fl0 := fl0.mono hqe
  refine P1 T.ok rfl rfl rfl ?_; refine WL_nil ?_; (with_reducible refine T_then ?_)
  cases hg : given f [n] with
  | false =>
    refine W_yes rfl rfl ?_
    refine W_seq ?_; refine W_region ?_; refine P1 T.ok rfl rfl rfl ?_; refine WL_nil ?_; (with_reducible refine T_then ?_)
    refine W_ret (ret1 rfl rfl (hs.ret ?_))
    unfold reach; rw [hg]; exact OwnR.nil _ _ _ _
  | true =>
    refine W_no rfl rfl ?_
    obtain ⟨hval, hn⟩ := given_one.1 hg
    have hl40 := valid_n hval
    refine W_skip ?_; (with_reducible refine T_then ?_); refine W_seq ?_; refine W_region ?_; refine WL_o rfl rfl (OpR_loadE T.ok 0 rfl ep0 rfl rfl ?_); refine P1 T.ok rfl rfl rfl ?_
    refine WL_o rfl rfl (OpR_ret cl36 allF rfl rfl rfl rfl rfl (rReached_c _ f n _ fl0 hval hn) ?_); rintro g1 vo hf1 hvo; obtain ⟨gz, hwz, hsz, hqz, rs2⟩ := hs.ownRs hf1 hvo; have hqe := hf1.le.trans hqz; rw [← hwz]; replace hs := hsz; clear hsz hvo; replace le0 := G.le.trans le0 hqe; replace ep0 := ep0.mono hqe; replace rs0 := rs0.mono hqe; replace rs1 := rs1.mono hqe; replace fl0 := fl0.mono hqe
    obtain ⟨ab, cb, rfl⟩ := rs2.isSlice
    have hlb := reached_len f n
    generalize hbs : reached f n = bs at *
    replace hs := hs.nilrow 3 1 none
    refine P1 T.ok rfl rfl rfl ?_; refine WL_nil ?_; (with_reducible refine T_then ?_); refine W_seq ?_; refine W_region ?_; refine P1 T.ok rfl rfl rfl ?_; refine WL_nil ?_; (with_reducible refine T_then ?_); refine W_seq ?_; refine W_seq ?_; refine W_region ?_; refine P1 T.ok rfl rfl rfl ?_; refine WL_nil ?_; (with_reducible refine T_then ?_); refine W_block ?_
    have rs2c := rs2; have le8 := G.le.refl gz
    refine W_loop (fun m a' w => ∃ (k : Nat) (g' : G) (v : Value), w = g'.w ∧ St g g' [.row 3 1 v (trues 0 (bs.take k)).length ((trues 0 (bs.take k)).map (Value.int .i64))] ∧ G.le gz g' ∧ k ≤ bs.length ∧ m = bs.length - k ∧
      Fr 30 [] [(5, .slice ab bs.length cb), (6, v), (7, .int .i64 k)] a') bs.length (fun a' ha => ⟨0, _, _, rfl, hs, le8, Nat.zero_le _, rfl, ha.keep (by (repeat (first | exact trivial | refine ⟨rfl, ?_⟩)))⟩) ?_
    clear hs le8 rs2
    rintro m a' _ ⟨k, g', v, rfl, hs, le8, hk, rfl, ha'⟩
    have rs2 := rs2c.mono le8
    revert a'
    (with_reducible refine T_wp ?_); refine W_seq ?_; refine W_seq ?_; refine W_region ?_; (iterate 4 refine P1 T.ok rfl rfl rfl ?_); refine WL_nil ?_; (with_reducible refine T_then ?_)
    by_cases hlt : k < bs.length
    · refine W_yes (b := decide ((k : Int) < (bs.length : Int))) (decide_eq_true (by omega)) rfl ?_
      have htl := trues_len (bs.take k) 0
      rw [List.length_take] at htl
      have hsn := trues_snoc bs k hlt
      have hgi := geti_of (xs := bs) (n := (k : Int)) rfl hlt
      refine W_skip ?_; (with_reducible refine T_then ?_); refine W_seq ?_; refine W_block ?_; refine W_seq ?_; refine W_region ?_; refine P1 T.ok rfl rfl rfl ?_; refine P1 T.ok rfl rfl rfl ?_
      refine WL_o rfl rfl (OpR_idx T.ok rfl rs2 (y := bs[k]) hgi rfl rfl rfl rfl rfl rfl ?_)
      rintro b p ys hep rfl
      refine WL_o rfl rfl (OpR_loadE T.ok 0 rfl hep rfl rfl ?_)
      refine WL_nil ?_; (with_reducible refine T_then ?_)
      cases hb : bs[k] with
      | false =>
        refine W_no rfl rfl ?_
        rw [hb, if_neg (by simp), List.append_nil] at hsn
        refine W_skip ?_; (with_reducible refine T_bn ?_); (with_reducible refine T_then ?_); refine W_region ?_; (iterate 3 refine P1 T.ok rfl rfl rfl ?_); refine WL_nil ?_
        exact fun a ha => ⟨bs.length - (k + 1), by omega, k + 1, _, v, rfl, by rw [hsn]; exact hs, le8, by omega, rfl, ha.keep ⟨rfl, rfl, kI rfl (by rw [wr (by omega) (by omega)]; omega), trivial⟩⟩
      | true =>
        refine W_yes rfl rfl ?_
        rw [hb, if_pos rfl] at hsn
        refine W_region ?_; refine P1 T.ok rfl rfl rfl ?_; refine P1 T.ok rfl rfl rfl ?_
        refine WL_o rfl rfl (OpR_lit T.ok rfl hs (vs := [(0, .int .i64 k)]) (cells := [.int .i64 k]) rfl rfl rfl rfl rfl rfl (by decide) (by decide) (by kernel_rfl) rfl ?_); rintro b2 g2 hs hqe; replace le8 := G.le.trans le8 hqe; replace rs2 := rs2.mono hqe
        skip
        refine WL_o rfl rfl (OpR_append T.ok 1 rfl hs rfl rfl rfl rfl rfl rfl rfl (by decide) rfl (Src.of_row (hs.own 0 _ rfl).1).2 (by simp [Value.oneCell']) (by show ((trues 0 (bs.take k)).length + 1) * 8 ≤ _; omega) (by unfold maxLen; omega) ?_); rintro a' c' g3 hs hqe; replace le8 := G.le.trans le8 hqe; replace rs2 := rs2.mono hqe
        refine P1 T.ok rfl rfl rfl ?_; refine WL_nil ?_; (with_reducible refine T_bn ?_); (with_reducible refine T_then ?_); refine W_region ?_; (iterate 3 refine P1 T.ok rfl rfl rfl ?_); refine WL_nil ?_
        exact fun a ha => ⟨bs.length - (k + 1), by omega, k + 1, _, .slice a' ((trues 0 (bs.take k)).length + 1) c', rfl, by rw [hsn]; simpa using hs.drop 0, le8, by omega, rfl, ha.keep ⟨rfl, rfl, kI rfl (by rw [wr (by omega) (by omega)]; omega), trivial⟩⟩
    · refine W_no (b := decide ((k : Int) < (bs.length : Int))) (decide_eq_false (by omega)) rfl ?_
      obtain rfl : k = bs.length := by omega
      refine W_exit ?_; (with_reducible refine T_tx ?_; with_reducible refine T_tx ?_); (with_reducible refine T_bx ?_); (with_reducible refine T_then ?_); refine W_seq ?_; refine W_region ?_; refine P1 T.ok rfl rfl rfl ?_; refine P1 T.ok rfl rfl rfl ?_; refine WL_nil ?_; (with_reducible refine T_then ?_)
      refine W_ret (ret1 rfl rfl (hs.ret ?_))
      unfold reach
      rw [hg, if_pos rfl, hbs]
      rw [List.take_length] at hs
      exact hs.toOwn (i := 0) rfl (RcL.ints _ _)

theorem filter_take_succ (l : List Int) (p : Int → Bool) (k : Nat) (h : k < l.length) : (l.take (k + 1)).filter p = (l.take k).filter p ++ (if p l[k] then [l[k]] else []) := by
  rw [List.take_succ_eq_append_getElem h, List.filter_append]
  congr 1
  by_cases hp : p l[k]
  · rw [if_pos hp, List.filter_cons_of_pos hp]; rfl
  · rw [if_neg hp, List.filter_cons_of_neg hp]; rfl

theorem rEnds_c (v : Value) (f : Flow) (g : G) (fl0 : RFlow g v f) :
    CallsIn Wd 0 Try.prog 19 #[v] g.w (Ret g (OwnR 3 g (ends f))) := by
  obtain ⟨a1, n1, c1, a2, n2, c2, rfl, rs0, rs1⟩ := id fl0
  obtain ⟨_, _, e⟩ := rs0.isSlice; obtain ⟨rfl, rfl, rfl⟩ := Value.slice.inj e; clear e
  have hs := St.start g
  have le0 := G.le.refl g
  refine enter Try.func19 rfl Try.ntmps19 rfl ?_
  refine W_seq ?_; refine W_region ?_
  refine WL_o rfl rfl (OpR_box rfl hs rfl rfl ?_); clear hs; rintro b1 g1 hs hqe; replace le0 := G.le.trans le0 hqe; replace rs0 := rs0.mono hqe; replace rs1 := rs1.mono hqe; replace fl0 := fl0.mono hqe
  refine P1 T.ok rfl rfl rfl ?_; refine WL_nil ?_; (with_reducible refine T_then ?_); refine W_seq ?_; refine W_region ?_; refine WL_o rfl rfl (OpR_loadO T.ok 0 rfl hs rfl rfl rfl ?_)
  obtain ⟨g2, hw2, hs2, hqe, hep⟩ := hs.fzObj (i := 0) rfl; replace hs := hs2; clear hs2; rw [← hw2]; replace le0 := G.le.trans le0 hqe; replace rs0 := rs0.mono hqe; replace rs1 := rs1.mono hqe; replace fl0 := fl0.mono hqe
  have ep0 := hep
  clear hep
  skip
  refine WL_o rfl rfl (OpR_ret cl30 allF rfl rfl rfl rfl rfl (rReach_c _ f 0 _ fl0) ?_); rintro g1 vo hf1 hvo; obtain ⟨gz, hwz, hsz, hqz, rs2⟩ := hs.ownRs hf1 hvo; have hqe := hf1.le.trans hqz; rw [← hwz]; replace hs := hsz; clear hsz hvo; replace le0 := G.le.trans le0 hqe; replace ep0 := ep0.mono hqe; replace rs0 := rs0.mono hqe; replace rs1 := rs1.mono hqe; replace fl0 := fl0.mono hqe
  obtain ⟨ab, cb, rfl⟩ := rs2.isSlice
  have hlb := reach_len f 0
  unfold ends
  have hrr : ∀ n ∈ reach f 0, InR f n := fun n hn => mem_reach_inR hn
  have hl40 : (reach f 0).length ≤ 40 := by
    by_cases hv : valid f = true
    · have := valid_n hv; omega
    · have : reach f 0 = [] := by
        unfold reach
        rw [if_neg (fun h => hv (given_one.1 h).1)]
      rw [this]; simp
  generalize hbs : reach f 0 = l at *
  replace hs := hs.nilrow 3 1 none
  refine P1 T.ok rfl rfl rfl ?_; refine WL_nil ?_; (with_reducible refine T_then ?_); refine W_seq ?_; refine W_region ?_; refine P1 T.ok rfl rfl rfl ?_; refine WL_nil ?_; (with_reducible refine T_then ?_); refine W_seq ?_; refine W_seq ?_; refine W_region ?_; refine P1 T.ok rfl rfl rfl ?_; refine WL_nil ?_; (with_reducible refine T_then ?_); refine W_block ?_
  have rs2c := rs2; have ep0c := ep0; have rs0c := rs0; have le8 := G.le.refl gz
  refine W_loop (fun m a' w => ∃ (k : Nat) (g' : G) (v : Value), w = g'.w ∧ St g g' [.row 3 1 v ((l.take k).filter fun n => isEnd (stepD f n)).length (((l.take k).filter fun n => isEnd (stepD f n)).map (Value.int .i64))] ∧ G.le gz g' ∧ k ≤ l.length ∧ m = l.length - k ∧
    Fr 33 [] [(1, .pointer (some ⟨b1, 0, none⟩)), (3, .slice ab l.length cb), (4, v), (5, .int .i64 k)] a') l.length (fun a' ha => ⟨0, _, _, rfl, hs, le8, Nat.zero_le _, rfl, ha.keep (by (repeat (first | exact trivial | refine ⟨rfl, ?_⟩)))⟩) ?_
  clear hs le8 rs2 ep0 rs0 fl0 rs1
  rintro m a' _ ⟨k, g', v, rfl, hs, le8, hk, rfl, ha'⟩
  have rs2 := rs2c.mono le8; have ep0 := ep0c.mono le8; have rs0 := rs0c.mono le8
  revert a'
  (with_reducible refine T_wp ?_); refine W_seq ?_; refine W_seq ?_; refine W_region ?_; (iterate 4 refine P1 T.ok rfl rfl rfl ?_); refine WL_nil ?_; (with_reducible refine T_then ?_)
  by_cases hlt : k < l.length
  · refine W_yes (b := decide ((k : Int) < (l.length : Int))) (decide_eq_true (by omega)) rfl ?_
    have hsn := filter_take_succ l (fun n => isEnd (stepD f n)) k hlt
    have hfl : ((l.take k).filter fun n => isEnd (stepD f n)).length ≤ k := Nat.le_trans (List.length_filter_le _ _) (by rw [List.length_take]; omega)
    have hgi := geti_of (xs := l) (n := (k : Int)) rfl hlt
    have hnr := hrr _ (List.getElem_mem hlt)
    generalize l[k] = n at *
    generalize (l.take k).filter (fun n => isEnd (stepD f n)) = fl at *
    refine W_skip ?_; (with_reducible refine T_then ?_); refine W_seq ?_; refine W_block ?_; refine W_seq ?_
    apply W_draw allF rfl (Fact.eq _ :: Fact.eq _ :: Fact.eq _ :: Fact.eq _ :: (intPtr n) :: Fact.eq _ :: (stepPtr 0 (stepD f n)) :: (stepPtr 4 (stepD f n)) :: (Fact.rs (stepD f n).next) :: Fact.eq _ :: Fact.eq _ :: []) 11 [(10, 24)] rfl rfl
    · refine D_cons (D_step2 (js := []) (by kernel_rfl) fun gd hf => ?_) ?_
      · have hsd := hs.dr.call hf; have hfe := (G.le_dr _).trans hf.le
        refine QA_nil ?_
        (refine D_yes rfl ?_; refine OpR_pure _ T.ok rfl ?_; refine ⟨_, rfl, Fr0.refl _, ?_⟩; exact rfl)
      refine D_cons (D_step2 (js := [(0, 14)]) (by kernel_rfl) fun gd hf => ?_) ?_
      · have hsd := hs.dr.call hf; have hfe := (G.le_dr _).trans hf.le
        refine QA_eq rfl ?_
        refine QA_nil ?_
        (refine D_yes rfl ?_; refine OpR_loadE T.ok 2 rfl (ep0.mono hfe) rfl rfl ?_; refine ⟨_, rfl, Fr0.refl _, ?_⟩; exact rfl)
      refine D_cons (D_step2 (js := []) (by kernel_rfl) fun gd hf => ?_) ?_
      · have hsd := hs.dr.call hf; have hfe := (G.le_dr _).trans hf.le
        refine QA_nil ?_
        (refine D_yes rfl ?_; refine OpR_pure _ T.ok rfl ?_; refine ⟨_, rfl, Fr0.refl _, ?_⟩; exact rfl)
      refine D_cons (D_step2 (js := []) (by kernel_rfl) fun gd hf => ?_) ?_
      · have hsd := hs.dr.call hf; have hfe := (G.le_dr _).trans hf.le
        refine QA_nil ?_
        (refine D_yes rfl ?_; refine OpR_pure _ T.ok rfl ?_; refine ⟨_, rfl, Fr0.refl _, ?_⟩; exact rfl)
      refine D_cons (D_step2 (js := [(2, 16), (3, 17)]) (by kernel_rfl) fun gd hf => ?_) ?_
      · have hsd := hs.dr.call hf; have hfe := (G.le_dr _).trans hf.le
        refine QA_eq rfl ?_; refine QA_eq rfl ?_
        refine QA_nil ?_
        refine D_yes rfl ?_
        refine OpR_idx T.ok rfl (rs2.mono hfe) (y := n) hgi rfl rfl rfl rfl rfl rfl ?_
        intro b p ys hep hrc
        exact ⟨_, rfl, Fr0.refl _, b, p, rfl, by rw [← show ys = [Value.int .i64 n] from hrc]; exact hep⟩
      refine D_cons (D_step2 (js := [(4, 18)]) (by kernel_rfl) fun gd hf => ?_) ?_
      · have hsd := hs.dr.call hf; have hfe := (G.le_dr _).trans hf.le
        refine QA_any fun v4 h4 => ?_
        refine QA_nil ?_
        obtain ⟨b, p, rfl, hep⟩ := h4
        refine D_yes rfl ?_
        refine OpR_loadE T.ok 0 rfl hep rfl rfl ?_
        refine ⟨_, rfl, Fr0.refl _, ?_⟩
        exact rfl
      refine D_cons (D_step2 (js := [(1, 15), (5, 19)]) (by kernel_rfl) fun gd hf => ?_) ?_
      · have hsd := hs.dr.call hf; have hfe := (G.le_dr _).trans hf.le
        refine QA_eq rfl ?_; refine QA_eq rfl ?_
        refine QA_nil ?_
        refine D_yes rfl ?_
        refine OpR_idx T.ok rfl (rs0.mono hfe) (y := stepD f n) (step_geti hnr) rfl rfl rfl rfl rfl rfl ?_
        intro b p ys hep hrc
        exact ⟨_, rfl, Fr0.refl _, b, p, ys, rfl, hep, hrc⟩
      refine D_cons (D_step2 (js := [(6, 20)]) (by kernel_rfl) fun gd hf => ?_) ?_
      · have hsd := hs.dr.call hf; have hfe := (G.le_dr _).trans hf.le
        refine QA_any fun v6 h6 => ?_
        refine QA_nil ?_
        obtain ⟨b, p, ys, rfl, hep, hrc⟩ := h6
        refine D_yes rfl ?_
        refine OpR_pure _ T.ok rfl ?_
        exact ⟨_, rfl, Fr0.refl _, b, p, ys, rfl, hep, hrc⟩
      refine D_cons (D_step2 (js := [(7, 21)]) (by kernel_rfl) fun gd hf => ?_) ?_
      · have hsd := hs.dr.call hf; have hfe := (G.le_dr _).trans hf.le
        refine QA_any fun v7 h7 => ?_
        refine QA_nil ?_
        obtain ⟨b, p, ys, rfl, hep, hrc⟩ := h7
        obtain ⟨b1, b2, b3, b4, b5, b6, rfl, hx1, hx2⟩ := hrc
        refine D_yes rfl ?_
        refine OpR_loadE T.ok 4 rfl hep rfl rfl ?_
        exact ⟨_, rfl, Fr0.refl _, hx2⟩
      refine D_cons (D_step2 (js := [(8, 22)]) (by kernel_rfl) fun gd hf => ?_) ?_
      · have hsd := hs.dr.call hf; have hfe := (G.le_dr _).trans hf.le
        refine QA_any fun v8 h8 => ?_
        refine QA_nil ?_
        obtain ⟨a5, c5, rfl⟩ := Rs.isSlice h8
        refine D_yes rfl ?_
        refine OpR_pure _ T.ok rfl ?_
        refine ⟨_, rfl, Fr0.refl _, ?_⟩
        exact rfl
      refine D_cons (D_step2 (js := [(9, 23)]) (by kernel_rfl) fun gd hf => ?_) ?_
      · have hsd := hs.dr.call hf; have hfe := (G.le_dr _).trans hf.le
        refine QA_eq rfl ?_
        refine QA_nil ?_
        refine D_yes rfl ?_
        refine OpR_pure _ T.ok rfl ?_
        refine ⟨_, rfl, Fr0.refl _, ?_⟩
        exact congrArg Value.bool (show _ = isEnd (stepD f n) from rfl)
      exact D_nil
    intro g1 hf1; refine QA_eq rfl ?_; refine QA_nil ?_
    replace hs := hs.dr.call hf1; have hqe := (G.le_dr _).trans hf1.le; replace le8 := G.le.trans le8 hqe; replace ep0 := ep0.mono hqe; replace rs0 := rs0.mono hqe; replace rs2 := rs2.mono hqe
    refine WL_nil ?_; (with_reducible refine T_then ?_)
    cases hb : isEnd (stepD f n) with
    | false =>
      refine W_no rfl rfl ?_
      rw [hb, if_neg (by simp), List.append_nil] at hsn
      refine W_skip ?_; (with_reducible refine T_bn ?_); (with_reducible refine T_then ?_); refine W_region ?_; (iterate 3 refine P1 T.ok rfl rfl rfl ?_); refine WL_nil ?_
      exact fun a ha => ⟨l.length - (k + 1), by omega, k + 1, _, v, rfl, by rw [hsn]; exact hs, le8, by omega, rfl, ha.keep ⟨rfl, rfl, rfl, kI rfl (by rw [wr (by omega) (by omega)]; omega), trivial⟩⟩
    | true =>
      refine W_yes rfl rfl ?_
      rw [hb, if_pos rfl] at hsn
      refine W_region ?_; (iterate 3 refine P1 T.ok rfl rfl rfl ?_)
      refine WL_o rfl rfl (OpR_idx T.ok rfl rs2 (y := n) hgi rfl rfl rfl rfl rfl rfl ?_)
      rintro b p ys hep rfl
      refine WL_o rfl rfl (OpR_loadE T.ok 0 rfl hep rfl rfl ?_)
      skip
      refine WL_o rfl rfl (OpR_lit T.ok rfl hs (vs := [(0, .int .i64 n)]) (cells := [.int .i64 n]) rfl rfl rfl rfl rfl rfl (by decide) (by decide) (by kernel_rfl) rfl ?_); rintro b2 g2 hs hqe; replace le8 := G.le.trans le8 hqe; replace ep0 := ep0.mono hqe; replace rs0 := rs0.mono hqe; replace rs2 := rs2.mono hqe
      skip
      refine WL_o rfl rfl (OpR_append T.ok 1 rfl hs rfl rfl rfl rfl rfl rfl rfl (by decide) rfl (Src.of_row (hs.own 0 _ rfl).1).2 (by simp [Value.oneCell']) (by show (fl.length + 1) * 8 ≤ _; omega) (by unfold maxLen; omega) ?_); rintro a' c' g3 hs hqe; replace le8 := G.le.trans le8 hqe; replace ep0 := ep0.mono hqe; replace rs0 := rs0.mono hqe; replace rs2 := rs2.mono hqe
      refine P1 T.ok rfl rfl rfl ?_; refine WL_nil ?_; (with_reducible refine T_bn ?_); (with_reducible refine T_then ?_); refine W_region ?_; (iterate 3 refine P1 T.ok rfl rfl rfl ?_); refine WL_nil ?_
      exact fun a ha => ⟨l.length - (k + 1), by omega, k + 1, _, .slice a' (fl.length + 1) c', rfl, by rw [hsn]; simpa using hs.drop 0, le8, by omega, rfl, ha.keep ⟨rfl, rfl, rfl, kI rfl (by rw [wr (by omega) (by omega)]; omega), trivial⟩⟩
  · refine W_no (b := decide ((k : Int) < (l.length : Int))) (decide_eq_false (by omega)) rfl ?_
    obtain rfl : k = l.length := by omega
    refine W_exit ?_; (with_reducible refine T_tx ?_; with_reducible refine T_tx ?_); (with_reducible refine T_bx ?_); (with_reducible refine T_then ?_); refine W_seq ?_; refine W_region ?_; refine P1 T.ok rfl rfl rfl ?_; refine P1 T.ok rfl rfl rfl ?_; refine WL_nil ?_; (with_reducible refine T_then ?_)
    refine W_ret (ret1 rfl rfl (hs.ret ?_))
    rw [List.take_length] at hs
    exact hs.toOwn (i := 0) rfl (RcL.ints _ _)
end Go.Proofs.Ytijmlfmapfhabaa

/- The walk through the reference's order of ways. -/
namespace Go.Proofs.Ytijmlfmapfhabaa
open Go Go.K
set_option maxRecDepth 10000
attribute [local irreducible] W WL OpR
set_option maxHeartbeats 1000000

/-- A way as the reference keeps it: a row of three cells. -/
structure Pw where
  w : Option Wy
def RPw (g : G) (cs : List Value) (o : Pw) : Prop :=
  match o.w with
  | none => cs = [.int .i64 0, .slice none 0 0, .bool false]
  | some w => ∃ a n c, cs = [.int .i64 w.time, .slice a n c, .bool true] ∧ Rs g (.slice a n c) w.steps
theorem RPw.mono {g g' : G} {cs : List Value} {o : Pw} (hle : g.le g') (h : RPw g cs o) : RPw g' cs o := by
  unfold RPw at h ⊢
  split
  · rename_i e; rw [e] at h; exact h
  · rename_i w e
    rw [e] at h
    obtain ⟨a, n, c, e, h1⟩ := h
    exact ⟨a, n, c, e, h1.mono hle⟩
theorem RPw.cells {g : G} {cs : List Value} {o : Pw} (h : RPw g cs o) : ∃ t a n c b, cs = [.int .i64 t, .slice a n c, .bool b] := by
  unfold RPw at h
  split at h
  · exact ⟨_, _, _, _, _, h⟩
  · obtain ⟨a, n, c, e, _⟩ := h; exact ⟨_, _, _, _, _, e⟩
instance : El Pw where
  k := 3
  pos := by omega
  rc := RPw
  len h := by obtain ⟨_, _, _, _, _, rfl⟩ := RPw.cells h; rfl
  mono hle h := RPw.mono hle h
  one h := by obtain ⟨_, _, _, _, _, rfl⟩ := RPw.cells h; simp [Value.oneCell']

theorem cmpL_drop {l r : List Int} (k : Nat) (hl : k < l.length) (hr : k < r.length) : cmpL (l.drop k) (r.drop k) = if l[k] = r[k] then cmpL (l.drop (k + 1)) (r.drop (k + 1)) else if l[k] < r[k] then -1 else 1 := by
  rw [List.drop_eq_getElem_cons hl, List.drop_eq_getElem_cons hr, cmpL]
  generalize l[k] = y
  generalize r[k] = z
  unfold cmpI
  rcases Int.lt_trichotomy y z with h | h | h
  · simp [h, show y ≠ z from by omega]
  · subst h; simp
  · simp [h, show y ≠ z from by omega, show ¬ y < z from by omega]
instance (a b : Wy) : Decidable (Lt a b) := inferInstanceAs (Decidable (order a b < 0))




theorem rBetter_c (t : Int) (a1 : Option Addr) (n1 c1 : Nat) (cs : List Value) (w : Wy) (o : Option Wy) (g : G) (ht : t = w.time) (rs0 : Rs g (.slice a1 n1 c1) w.steps) (hu : RPw g cs ⟨o⟩) :
    CallsIn Wd 0 Try.prog 57 #[.agg #[.int .i64 t, .slice a1 n1 c1, .bool true], .agg cs.toArray] g.w (Ret g fun _ r => r = .bool (better w o)) := by
  subst ht
  obtain ⟨_, _, e⟩ := rs0.isSlice; obtain ⟨rfl, rfl, rfl⟩ := Value.slice.inj e; clear e
  have hs := St.start g
  have le0 := G.le.refl g
  cases o with
  | none =>
    obtain rfl : cs = [.int .i64 0, .slice none 0 0, .bool false] := hu
    refine enter Try.func57 rfl Try.ntmps57 rfl ?_
    refine W_seq ?_; refine W_region ?_
    refine WL_o rfl rfl (OpR_box rfl hs rfl rfl ?_); clear hs; rintro bx g1 hs hqe; replace le0 := G.le.trans le0 hqe; replace rs0 := rs0.mono hqe
    skip
    refine WL_o rfl rfl (OpR_box rfl hs rfl rfl ?_); clear hs; rintro by1 g1 hs hqe; replace le0 := G.le.trans le0 hqe; replace rs0 := rs0.mono hqe
    refine P1 T.ok rfl rfl rfl ?_; refine WL_nil ?_; (with_reducible refine T_then ?_); refine W_seq ?_; refine W_seq ?_; refine W_region ?_; refine P1 T.ok rfl rfl rfl ?_; refine WL_o rfl rfl (OpR_loadO T.ok 0 rfl hs rfl rfl rfl ?_); refine P1 T.ok rfl rfl rfl ?_; refine P1 T.ok rfl rfl rfl ?_; (iterate 5 refine S1 allF rfl rfl ?_); refine P1 T.ok rfl rfl rfl ?_; refine WL_nil ?_; (with_reducible refine T_then ?_)
    refine W_yes rfl rfl ?_
    refine W_seq ?_; refine W_region ?_; refine P1 T.ok rfl rfl rfl ?_; refine WL_o rfl rfl (OpR_loadO T.ok 0 rfl hs rfl rfl rfl ?_); refine P1 T.ok rfl rfl rfl ?_; refine P1 T.ok rfl rfl rfl ?_; (iterate 5 refine S1 allF rfl rfl ?_); refine P1 T.ok rfl rfl rfl ?_; refine P1 T.ok rfl rfl rfl ?_; refine WL_nil ?_; (with_reducible refine T_then ?_)
    exact W_ret (ret1 rfl rfl (hs.ret rfl))
  | some x =>
    obtain ⟨a2, n2, c2, rfl, rs1⟩ := hu
    obtain ⟨_, _, e⟩ := rs1.isSlice; obtain ⟨rfl, rfl, rfl⟩ := Value.slice.inj e; clear e
    have hl0 := rs0.len_le
    have hl1 := rs1.len_le
    unfold maxLen at hl0 hl1
    have hbl : better w (some x) = decide (Lt w x) := rfl
    rw [hbl]
    refine enter Try.func57 rfl Try.ntmps57 rfl ?_
    refine W_seq ?_; refine W_region ?_
    refine WL_o rfl rfl (OpR_box rfl hs rfl rfl ?_); clear hs; rintro bx g1 hs hqe; replace le0 := G.le.trans le0 hqe; replace rs0 := rs0.mono hqe; replace rs1 := rs1.mono hqe
    skip
    refine WL_o rfl rfl (OpR_box rfl hs rfl rfl ?_); clear hs; rintro by1 g1 hs hqe; replace le0 := G.le.trans le0 hqe; replace rs0 := rs0.mono hqe; replace rs1 := rs1.mono hqe
    obtain ⟨g2, hw2, hs2, hqe, hep⟩ := hs.fzObj (i := 0) rfl; replace hs := hs2; clear hs2; rw [← hw2]; replace le0 := G.le.trans le0 hqe; replace rs0 := rs0.mono hqe; replace rs1 := rs1.mono hqe
    have ep1 := hep; clear hep
    obtain ⟨g2, hw2, hs2, hqe, hep⟩ := hs.fzObj (i := 0) rfl; replace hs := hs2; clear hs2; rw [← hw2]; replace le0 := G.le.trans le0 hqe; replace ep1 := ep1.mono hqe; replace rs0 := rs0.mono hqe; replace rs1 := rs1.mono hqe
    have ep0 := hep; clear hep
    refine P1 T.ok rfl rfl rfl ?_; refine WL_nil ?_; (with_reducible refine T_then ?_); refine W_seq ?_; refine W_seq ?_; refine W_region ?_; refine P1 T.ok rfl rfl rfl ?_; refine WL_o rfl rfl (OpR_loadE T.ok 2 rfl ep1 rfl rfl ?_); (iterate 3 refine P1 T.ok rfl rfl rfl ?_); refine WL_o rfl rfl (OpR_loadE T.ok 0 rfl ep0 rfl rfl ?_); refine P1 T.ok rfl rfl rfl ?_; refine WL_o rfl rfl (OpR_loadE T.ok 0 rfl ep1 rfl rfl ?_); refine P1 T.ok rfl rfl rfl ?_; refine P1 T.ok rfl rfl rfl ?_; refine WL_nil ?_; (with_reducible refine T_then ?_)
    by_cases ht : w.time = x.time
    · refine W_no (b := w.time != x.time) (by simp [ht]) rfl ?_
      refine W_skip ?_; (with_reducible refine T_then ?_); refine W_seq ?_; refine W_seq ?_; refine W_region ?_; refine P1 T.ok rfl rfl rfl ?_; refine WL_o rfl rfl (OpR_loadE T.ok 1 rfl ep0 rfl rfl ?_); refine P1 T.ok rfl rfl rfl ?_; refine P1 T.ok rfl rfl rfl ?_; refine WL_o rfl rfl (OpR_loadE T.ok 1 rfl ep1 rfl rfl ?_); refine P1 T.ok rfl rfl rfl ?_; refine P1 T.ok rfl rfl rfl ?_; refine WL_nil ?_; (with_reducible refine T_then ?_)
      by_cases hl : w.steps.length = x.steps.length
      · refine W_no (b := ((w.steps.length : Nat) : Int) != ((x.steps.length : Nat) : Int)) (by simp [hl]) rfl ?_
        have hlt : Lt w x ↔ cmpL (w.steps.drop 0) (x.steps.drop 0) < 0 := by
          rw [Lt_iff, List.drop_zero, List.drop_zero]
          exact ⟨fun h => by rcases h with h | ⟨_, h | ⟨_, h⟩⟩ <;> omega, fun h => .inr ⟨ht, .inr ⟨hl, h⟩⟩⟩
        refine W_skip ?_; (with_reducible refine T_then ?_); refine W_seq ?_; refine W_seq ?_; refine W_region ?_; refine P1 T.ok rfl rfl rfl ?_; refine WL_nil ?_; (with_reducible refine T_then ?_); refine W_block ?_
        have ep0c := ep0; have ep1c := ep1; have rs0c := rs0; have rs1c := rs1; have le8 := G.le.refl g2
        refine W_loop (fun m a' w' => ∃ (k : Nat) (g3 : G), w' = g3.w ∧ St g g3 [] ∧ G.le g2 g3 ∧ k ≤ w.steps.length ∧ m = w.steps.length - k ∧ (Lt w x ↔ cmpL (w.steps.drop k) (x.steps.drop k) < 0) ∧
            Fr 69 [] [(2, .pointer (some ⟨bx, 0, none⟩)), (3, .pointer (some ⟨by1, 0, none⟩)), (5, .int .i64 k)] a') w.steps.length
          (fun a' ha => ⟨0, _, rfl, hs, le8, Nat.zero_le _, rfl, hlt, ha.keep (by (repeat (first | exact trivial | refine ⟨rfl, ?_⟩)))⟩) ?_
        clear hs le8 ep0 ep1 rs0 rs1 hlt
        rintro m a' _ ⟨k, g3, rfl, hs, le8, hk, rfl, hlt, ha'⟩
        have ep0 := ep0c.mono le8; have ep1 := ep1c.mono le8; have rs0 := rs0c.mono le8; have rs1 := rs1c.mono le8
        revert a'
        (with_reducible refine T_wp ?_); refine W_seq ?_; refine W_seq ?_; refine W_region ?_; refine P1 T.ok rfl rfl rfl ?_; refine P1 T.ok rfl rfl rfl ?_; refine WL_o rfl rfl (OpR_loadE T.ok 1 rfl ep0 rfl rfl ?_); refine P1 T.ok rfl rfl rfl ?_; refine P1 T.ok rfl rfl rfl ?_; refine WL_nil ?_; (with_reducible refine T_then ?_)
        by_cases hkl : k < w.steps.length
        · refine W_yes (b := decide ((k : Int) < (w.steps.length : Int))) (decide_eq_true (by omega)) rfl ?_
          rw [cmpL_drop k hkl (by omega)] at hlt
          have hg0 := geti_of (xs := w.steps) (n := (k : Int)) rfl hkl
          have hg1 := geti_of (xs := x.steps) (n := (k : Int)) rfl (by omega)
          generalize w.steps[k] = y at *
          generalize x.steps[k] = z at *
          refine W_skip ?_; (with_reducible refine T_then ?_); refine W_seq ?_; refine W_block ?_; refine W_seq ?_
          apply W_draw allF rfl (Fact.eq _ :: Fact.eq _ :: Fact.eq _ :: (intPtr y) :: Fact.eq _ :: Fact.eq _ :: Fact.eq _ :: Fact.eq _ :: (intPtr z) :: Fact.eq _ :: Fact.eq _ :: []) 11 [(10, 57)] rfl rfl
          · refine D_cons (D_step2 (js := []) (by kernel_rfl) fun gd hf => ?_) ?_
            · have hsd := hs.dr.call hf; have hfe := (G.le_dr _).trans hf.le
              refine QA_nil ?_
              (refine D_yes rfl ?_; refine OpR_pure _ T.ok rfl ?_; refine ⟨_, rfl, Fr0.refl _, ?_⟩; exact rfl)
            refine D_cons (D_step2 (js := [(0, 47)]) (by kernel_rfl) fun gd hf => ?_) ?_
            · have hsd := hs.dr.call hf; have hfe := (G.le_dr _).trans hf.le
              refine QA_eq rfl ?_
              refine QA_nil ?_
              (refine D_yes rfl ?_; refine OpR_loadE T.ok 1 rfl (ep0.mono hfe) rfl rfl ?_; refine ⟨_, rfl, Fr0.refl _, ?_⟩; exact rfl)
            refine D_cons (D_step2 (js := []) (by kernel_rfl) fun gd hf => ?_) ?_
            · have hsd := hs.dr.call hf; have hfe := (G.le_dr _).trans hf.le
              refine QA_nil ?_
              (refine D_yes rfl ?_; refine OpR_pure _ T.ok rfl ?_; refine ⟨_, rfl, Fr0.refl _, ?_⟩; exact rfl)
            refine D_cons (D_step2 (js := [(1, 48), (2, 49)]) (by kernel_rfl) fun gd hf => ?_) ?_
            · have hsd := hs.dr.call hf; have hfe := (G.le_dr _).trans hf.le
              refine QA_eq rfl ?_; refine QA_eq rfl ?_
              refine QA_nil ?_
              refine D_yes rfl ?_
              refine OpR_idx T.ok rfl (rs0.mono hfe) (y := y) hg0 rfl rfl rfl rfl rfl rfl ?_
              intro b p ys hep hrc
              exact ⟨_, rfl, Fr0.refl _, b, p, rfl, by rw [← show ys = [Value.int .i64 (y)] from hrc]; exact hep⟩
            refine D_cons (D_step2 (js := [(3, 50)]) (by kernel_rfl) fun gd hf => ?_) ?_
            · have hsd := hs.dr.call hf; have hfe := (G.le_dr _).trans hf.le
              refine QA_any fun v3 h3 => ?_
              refine QA_nil ?_
              obtain ⟨b, p, rfl, hep⟩ := h3
              refine D_yes rfl ?_
              refine OpR_loadE T.ok 0 rfl hep rfl rfl ?_
              refine ⟨_, rfl, Fr0.refl _, ?_⟩
              exact rfl
            refine D_cons (D_step2 (js := []) (by kernel_rfl) fun gd hf => ?_) ?_
            · have hsd := hs.dr.call hf; have hfe := (G.le_dr _).trans hf.le
              refine QA_nil ?_
              (refine D_yes rfl ?_; refine OpR_pure _ T.ok rfl ?_; refine ⟨_, rfl, Fr0.refl _, ?_⟩; exact rfl)
            refine D_cons (D_step2 (js := [(5, 52)]) (by kernel_rfl) fun gd hf => ?_) ?_
            · have hsd := hs.dr.call hf; have hfe := (G.le_dr _).trans hf.le
              refine QA_eq rfl ?_
              refine QA_nil ?_
              (refine D_yes rfl ?_; refine OpR_loadE T.ok 1 rfl (ep1.mono hfe) rfl rfl ?_; refine ⟨_, rfl, Fr0.refl _, ?_⟩; exact rfl)
            refine D_cons (D_step2 (js := []) (by kernel_rfl) fun gd hf => ?_) ?_
            · have hsd := hs.dr.call hf; have hfe := (G.le_dr _).trans hf.le
              refine QA_nil ?_
              (refine D_yes rfl ?_; refine OpR_pure _ T.ok rfl ?_; refine ⟨_, rfl, Fr0.refl _, ?_⟩; exact rfl)
            refine D_cons (D_step2 (js := [(6, 53), (7, 54)]) (by kernel_rfl) fun gd hf => ?_) ?_
            · have hsd := hs.dr.call hf; have hfe := (G.le_dr _).trans hf.le
              refine QA_eq rfl ?_; refine QA_eq rfl ?_
              refine QA_nil ?_
              refine D_yes rfl ?_
              refine OpR_idx T.ok rfl (rs1.mono hfe) (y := z) hg1 rfl rfl rfl rfl rfl rfl ?_
              intro b p ys hep hrc
              exact ⟨_, rfl, Fr0.refl _, b, p, rfl, by rw [← show ys = [Value.int .i64 (z)] from hrc]; exact hep⟩
            refine D_cons (D_step2 (js := [(8, 55)]) (by kernel_rfl) fun gd hf => ?_) ?_
            · have hsd := hs.dr.call hf; have hfe := (G.le_dr _).trans hf.le
              refine QA_any fun v8 h8 => ?_
              refine QA_nil ?_
              obtain ⟨b, p, rfl, hep⟩ := h8
              refine D_yes rfl ?_
              refine OpR_loadE T.ok 0 rfl hep rfl rfl ?_
              refine ⟨_, rfl, Fr0.refl _, ?_⟩
              exact rfl
            refine D_cons (D_step2 (js := [(4, 51), (9, 56)]) (by kernel_rfl) fun gd hf => ?_) ?_
            · have hsd := hs.dr.call hf; have hfe := (G.le_dr _).trans hf.le
              refine QA_eq rfl ?_; refine QA_eq rfl ?_
              refine QA_nil ?_
              (refine D_yes rfl ?_; refine OpR_pure _ T.ok rfl ?_; refine ⟨_, rfl, Fr0.refl _, ?_⟩; exact rfl)
            exact D_nil
          intro g1 hf1; refine QA_eq rfl ?_; refine QA_nil ?_
          replace hs := hs.dr.call hf1; have hqe := (G.le_dr _).trans hf1.le; replace le8 := G.le.trans le8 hqe; replace ep0 := ep0.mono hqe; replace ep1 := ep1.mono hqe; replace rs0 := rs0.mono hqe; replace rs1 := rs1.mono hqe
          refine WL_nil ?_; (with_reducible refine T_then ?_)
          by_cases hyz : y = z
          · rw [if_pos hyz] at hlt
            refine W_no (b := y != z) (by simp [hyz]) rfl ?_
            refine W_skip ?_; (with_reducible refine T_bn ?_); (with_reducible refine T_then ?_); refine W_region ?_; (iterate 3 refine P1 T.ok rfl rfl rfl ?_); refine WL_nil ?_
            exact fun a ha => ⟨w.steps.length - (k + 1), by omega, k + 1, _, rfl, hs, le8, by omega, rfl, hlt, ha.keep ⟨rfl, rfl, kI rfl (by rw [wr (by omega) (by omega)]; omega), trivial⟩⟩
          · rw [if_neg hyz] at hlt
            refine W_yes (b := y != z) (by simpa using hyz) rfl ?_
            refine W_seq ?_
            apply W_draw allF rfl (Fact.eq _ :: Fact.eq _ :: Fact.eq _ :: (intPtr y) :: Fact.eq _ :: Fact.eq _ :: Fact.eq _ :: Fact.eq _ :: (intPtr z) :: Fact.eq _ :: Fact.eq _ :: []) 11 [(10, 68)] rfl rfl
            · refine D_cons (D_step2 (js := []) (by kernel_rfl) fun gd hf => ?_) ?_
              · have hsd := hs.dr.call hf; have hfe := (G.le_dr _).trans hf.le
                refine QA_nil ?_
                (refine D_yes rfl ?_; refine OpR_pure _ T.ok rfl ?_; refine ⟨_, rfl, Fr0.refl _, ?_⟩; exact rfl)
              refine D_cons (D_step2 (js := [(0, 58)]) (by kernel_rfl) fun gd hf => ?_) ?_
              · have hsd := hs.dr.call hf; have hfe := (G.le_dr _).trans hf.le
                refine QA_eq rfl ?_
                refine QA_nil ?_
                (refine D_yes rfl ?_; refine OpR_loadE T.ok 1 rfl (ep0.mono hfe) rfl rfl ?_; refine ⟨_, rfl, Fr0.refl _, ?_⟩; exact rfl)
              refine D_cons (D_step2 (js := []) (by kernel_rfl) fun gd hf => ?_) ?_
              · have hsd := hs.dr.call hf; have hfe := (G.le_dr _).trans hf.le
                refine QA_nil ?_
                (refine D_yes rfl ?_; refine OpR_pure _ T.ok rfl ?_; refine ⟨_, rfl, Fr0.refl _, ?_⟩; exact rfl)
              refine D_cons (D_step2 (js := [(1, 59), (2, 60)]) (by kernel_rfl) fun gd hf => ?_) ?_
              · have hsd := hs.dr.call hf; have hfe := (G.le_dr _).trans hf.le
                refine QA_eq rfl ?_; refine QA_eq rfl ?_
                refine QA_nil ?_
                refine D_yes rfl ?_
                refine OpR_idx T.ok rfl (rs0.mono hfe) (y := y) hg0 rfl rfl rfl rfl rfl rfl ?_
                intro b p ys hep hrc
                exact ⟨_, rfl, Fr0.refl _, b, p, rfl, by rw [← show ys = [Value.int .i64 (y)] from hrc]; exact hep⟩
              refine D_cons (D_step2 (js := [(3, 61)]) (by kernel_rfl) fun gd hf => ?_) ?_
              · have hsd := hs.dr.call hf; have hfe := (G.le_dr _).trans hf.le
                refine QA_any fun v3 h3 => ?_
                refine QA_nil ?_
                obtain ⟨b, p, rfl, hep⟩ := h3
                refine D_yes rfl ?_
                refine OpR_loadE T.ok 0 rfl hep rfl rfl ?_
                refine ⟨_, rfl, Fr0.refl _, ?_⟩
                exact rfl
              refine D_cons (D_step2 (js := []) (by kernel_rfl) fun gd hf => ?_) ?_
              · have hsd := hs.dr.call hf; have hfe := (G.le_dr _).trans hf.le
                refine QA_nil ?_
                (refine D_yes rfl ?_; refine OpR_pure _ T.ok rfl ?_; refine ⟨_, rfl, Fr0.refl _, ?_⟩; exact rfl)
              refine D_cons (D_step2 (js := [(5, 63)]) (by kernel_rfl) fun gd hf => ?_) ?_
              · have hsd := hs.dr.call hf; have hfe := (G.le_dr _).trans hf.le
                refine QA_eq rfl ?_
                refine QA_nil ?_
                (refine D_yes rfl ?_; refine OpR_loadE T.ok 1 rfl (ep1.mono hfe) rfl rfl ?_; refine ⟨_, rfl, Fr0.refl _, ?_⟩; exact rfl)
              refine D_cons (D_step2 (js := []) (by kernel_rfl) fun gd hf => ?_) ?_
              · have hsd := hs.dr.call hf; have hfe := (G.le_dr _).trans hf.le
                refine QA_nil ?_
                (refine D_yes rfl ?_; refine OpR_pure _ T.ok rfl ?_; refine ⟨_, rfl, Fr0.refl _, ?_⟩; exact rfl)
              refine D_cons (D_step2 (js := [(6, 64), (7, 65)]) (by kernel_rfl) fun gd hf => ?_) ?_
              · have hsd := hs.dr.call hf; have hfe := (G.le_dr _).trans hf.le
                refine QA_eq rfl ?_; refine QA_eq rfl ?_
                refine QA_nil ?_
                refine D_yes rfl ?_
                refine OpR_idx T.ok rfl (rs1.mono hfe) (y := z) hg1 rfl rfl rfl rfl rfl rfl ?_
                intro b p ys hep hrc
                exact ⟨_, rfl, Fr0.refl _, b, p, rfl, by rw [← show ys = [Value.int .i64 (z)] from hrc]; exact hep⟩
              refine D_cons (D_step2 (js := [(8, 66)]) (by kernel_rfl) fun gd hf => ?_) ?_
              · have hsd := hs.dr.call hf; have hfe := (G.le_dr _).trans hf.le
                refine QA_any fun v8 h8 => ?_
                refine QA_nil ?_
                obtain ⟨b, p, rfl, hep⟩ := h8
                refine D_yes rfl ?_
                refine OpR_loadE T.ok 0 rfl hep rfl rfl ?_
                refine ⟨_, rfl, Fr0.refl _, ?_⟩
                exact rfl
              refine D_cons (D_step2 (js := [(4, 62), (9, 67)]) (by kernel_rfl) fun gd hf => ?_) ?_
              · have hsd := hs.dr.call hf; have hfe := (G.le_dr _).trans hf.le
                refine QA_eq rfl ?_; refine QA_eq rfl ?_
                refine QA_nil ?_
                (refine D_yes rfl ?_; refine OpR_pure _ T.ok rfl ?_; refine ⟨_, rfl, Fr0.refl _, ?_⟩; exact rfl)
              exact D_nil
            intro g1 hf1; refine QA_eq rfl ?_; refine QA_nil ?_
            replace hs := hs.dr.call hf1; have hqe := (G.le_dr _).trans hf1.le; replace le8 := G.le.trans le8 hqe; replace ep0 := ep0.mono hqe; replace ep1 := ep1.mono hqe; replace rs0 := rs0.mono hqe; replace rs1 := rs1.mono hqe
            refine P1 T.ok rfl rfl rfl ?_; refine WL_nil ?_; (with_reducible refine T_then ?_)
            refine W_ret (ret1 rfl rfl (hs.ret ?_))
            refine congrArg Value.bool ?_
            rw [Bool.eq_iff_iff, decide_eq_true_iff, decide_eq_true_iff, hlt]
            split <;> omega
        · refine W_no (b := decide ((k : Int) < (w.steps.length : Int))) (decide_eq_false (by omega)) rfl ?_
          rw [List.drop_of_length_le (by omega), List.drop_of_length_le (by omega)] at hlt
          refine W_exit ?_; (with_reducible refine T_tx ?_; with_reducible refine T_tx ?_); (with_reducible refine T_bx ?_); (with_reducible refine T_then ?_); refine W_seq ?_; refine W_region ?_; refine P1 T.ok rfl rfl rfl ?_; refine WL_nil ?_; (with_reducible refine T_then ?_)
          refine W_ret (ret1 rfl rfl (hs.ret ?_))
          refine congrArg Value.bool ?_
          rw [eq_comm, decide_eq_false_iff_not, hlt]
          exact (by decide : ¬ ((0 : Int) < 0))
      · refine W_yes (b := ((w.steps.length : Nat) : Int) != ((x.steps.length : Nat) : Int)) (by simpa using fun h => hl (by omega)) rfl ?_
        refine W_seq ?_; refine W_region ?_; refine P1 T.ok rfl rfl rfl ?_; refine WL_o rfl rfl (OpR_loadE T.ok 1 rfl ep0 rfl rfl ?_); refine P1 T.ok rfl rfl rfl ?_; refine P1 T.ok rfl rfl rfl ?_; refine WL_o rfl rfl (OpR_loadE T.ok 1 rfl ep1 rfl rfl ?_); (iterate 3 refine P1 T.ok rfl rfl rfl ?_); refine WL_nil ?_; (with_reducible refine T_then ?_)
        refine W_ret (ret1 rfl rfl (hs.ret ?_))
        refine congrArg Value.bool ?_
        rw [Bool.eq_iff_iff, decide_eq_true_iff, decide_eq_true_iff, Lt_iff]
        omega
    · refine W_yes (b := w.time != x.time) (by simpa using ht) rfl ?_
      refine W_seq ?_; refine W_region ?_; refine P1 T.ok rfl rfl rfl ?_; refine WL_o rfl rfl (OpR_loadE T.ok 2 rfl ep1 rfl rfl ?_); (iterate 3 refine P1 T.ok rfl rfl rfl ?_); refine WL_o rfl rfl (OpR_loadE T.ok 0 rfl ep0 rfl rfl ?_); refine P1 T.ok rfl rfl rfl ?_; refine WL_o rfl rfl (OpR_loadE T.ok 0 rfl ep1 rfl rfl ?_); (iterate 3 refine P1 T.ok rfl rfl rfl ?_); refine WL_nil ?_; (with_reducible refine T_then ?_)
      refine W_ret (ret1 rfl rfl (hs.ret ?_))
      refine congrArg Value.bool ?_
      rw [Bool.eq_iff_iff, decide_eq_true_iff, decide_eq_true_iff, Lt_iff]
      omega
end Go.Proofs.Ytijmlfmapfhabaa
