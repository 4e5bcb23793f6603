/- Iterators with a state, orders one by one. -/
import Derived.Test.YtnaeopehmdcplaaGreatDoorKf

/- A full slice; results of the library's contracts in my words. -/
namespace Go.K
open Go Go.RowKit

variable {F : Fence} {P : Program} {N : Nat} {ds : List Deferred} {l l' : Env} {a : Act} {w : World} {Q : Exit → Act → World → Prop} {ops : Array Oper} {os : List Oper} {o : Oper}
variable {g0 g : G} {L : List Ent} {K : Value → World → Prop} {R : Ending → World → Prop}

/-- 's[a:b:m]'. -/
theorem OpR_cut3 {tb : Tb} (htb : tb.ok P) {t e : Nat} {ti ei : TI} {x y z u : Operand} {ad : Option Addr} {n c a b m : Nat} {k1 k2 k3 : IntKind} (ho : o.op = .slice t x (some y) (some z) (some u)) (hi : tl tb t = some ti) (hd : ti.desc = .slice e) (hj : tl tb e = some ei)
  (hx : ev l x = some (.slice ad n c)) (hy : ev l y = some (.int k1 (a : Int))) (hz : ev l z = some (.int k2 (b : Int))) (hu : ev l u = some (.int k3 (m : Int))) (h1 : a ≤ b) (h2 : b ≤ m) (h3 : m ≤ c)
  (k : K (.slice (if m = a then ad else ad.map (·.add (a * ei.size))) (b - a) (m - a)) w) : OpR F P N ds o l w Q K := by
 obtain ⟨⟨dd, hu', he⟩, _⟩ := htb.at hi
 rw [hd] at he
 obtain rfl := KD.of_slice he
 obtain ⟨_, inf, e1, e2, _⟩ := htb.at hj
 refine OpR_value (fun c => ⟨by rw [ho]; simp, by rw [ho]; simp⟩) (fun ac ha => ?_) k
 simp [execOp, ho, ha.ev hx, ha.ev hy, ha.ev hz, ha.ev hu, Instr.sliceAt, run_underlying hu', Instr.slice, Instr.sliceBounds, Instr.sliceBound, asIntOf, sizeOf, typeInfo, e1, e2, h1, h2, h3]

theorem Ret.below {R : G → Value → Prop} {v : Value} {w' : World} (hb : Below g.w.heap.size g.w w') (hR : ∀ g' : G, g'.w = w' → Fr0 g g' → R g' v) : Ret g R (.returned v) w' := by
 let g' : G := ⟨w', g.im, fun b h => Nat.lt_of_lt_of_le (g.lt b h) hb.size⟩
 have hf : Fr0 g g' := ⟨hb, fun _ _ => Iff.rfl⟩
 exact ⟨g', v, rfl, hf, rfl, hR g' rfl hf⟩
/-- A contract of the library's, in my words. -/
theorem ret_of_calls {f : FuncId} {args : Array Value} {R : G → Value → Prop} {v : Value} (h : Calls P f args g.w fun e w' => e = .returned v ∧ Below g.w.heap.size g.w w') (hR : ∀ g' : G, Fr0 g g' → R g' v) : CallsIn Wd 0 P f args g.w (Ret g R) := by
 refine callsIn_wide.2 (h.mono ?_)
 rintro e w' ⟨rfl, hb⟩
 exact Ret.below hb fun g' _ hf => hR g' hf
/-- A part of a slice that no longer changes, whatever its room. -/
theorem Rs.part {α : Type} [El α] {b p n c : Nat} {xs : List α} (h : Rs g (.slice (some ⟨b, p, none⟩) n c) xs) {a m c' : Nat} (hm : 0 < m) (h1 : a + m ≤ n) (h2 : m ≤ c') (h3 : c' ≤ maxLen) : Rs g (.slice (some ⟨b, p + a * El.k α, none⟩) m c') ((xs.drop a).take m) := by
 obtain ⟨ad, n', c'', e, rfl, hnc, h⟩ := h
 simp only [Value.slice.injEq] at e
 obtain ⟨rfl, rfl, rfl⟩ := e
 rcases h with h | ⟨b', p', cells, e, hb, hr, hc⟩
 ·omega
 simp only [Option.some.injEq, Addr.mk.injEq, and_true] at e
 obtain ⟨rfl, rfl⟩ := e
 refine ⟨_, m, c', rfl, by rw [List.length_take, List.length_drop]; omega, ⟨h2, h3⟩, .inr ⟨b, p + a * El.k α, (cells.drop (a * El.k α)).take (m * El.k α), rfl, hb, (hr.drop a).take m, fun j y hy => ?_⟩⟩
 have hlt := (List.getElem?_eq_some_iff.1 hy).1
 rw [List.length_take] at hlt
 rw [List.getElem?_take_of_lt (by omega), List.getElem?_drop] at hy
 have := hc _ _ hy
 rw [Nat.add_assoc]; exact this
end Go.K

/- A range over a function whose iterator turns something that is its own. -/
namespace Go.K
open Go Go.RowKit

variable {F : Fence} {P : Program} {N : Nat} {ds : List Deferred} {l l' : Env} {a : Act} {w : World} {Q : Exit → Act → World → Prop} {ops : Array Oper} {os : List Oper} {o : Oper}
variable {g0 g : G} {L : List Ent} {K : Value → World → Prop} {R : Ending → World → Prop}

/-- The contract of an iterator that comes to the list xs, and turns what it owns between. -/
def SeqO {α : Type} (P : Program) (itf : FuncId) (caps : Array Value) (encs : α → List Value) (xs : List α) (st : Ent) (g : G) : Prop :=
 ∀ (g1 : G), g.le g1 → ∀ (yv : Value) (J Jx : List α → Ent → G → Prop),
  (∀ pre e g, J pre e g → ∃ (g0 : G) (L : List Ent) (i : Nat), St g0 g L ∧ L[i]? = some e ∧ ∀ e' g', St g0 g' (L.set i e') → g.le g' → J pre e' g') →
  (∀ pre x rest e g2, xs = pre ++ x :: rest → g1.le g2 → J pre e g2 → CallV P yv (encs x) g2.w fun en w' => ∃ g3 b, g3.w = w' ∧ en = .returned (.bool b) ∧ g2.le g3 ∧ (b = true → J (pre ++ [x]) e g3) ∧ (b = false → Jx (pre ++ [x]) e g3)) →
  J [] st g1 → CallsIn Wd 0 P itf (yv :: caps.toList).toArray g1.w fun en w' => ∃ g2 v, g2.w = w' ∧ en = .returned v ∧ g1.le g2 ∧ ((∃ e, J xs e g2) ∨ ∃ pre e, pre <+: xs ∧ Jx pre e g2)

theorem W_rangeO {α : Type} {itf : FuncId} {caps : Array Value} {encs : α → List Value} {xs : List α} {f : Operand} {ps : Array Tmp} {assign body : Code}
  {st : Ent} (hs : St g0 g (st :: L)) (hf : ev l f = some (.func (.func itf) #[] caps)) (hcall : Callable P itf) (hseq : SeqO P itf caps encs xs st g) (hps : (ps.toList.all fun t => Nat.blt t N) = true) (hen : ∀ x, (encs x).length = ps.size)
  (I : List α → List Ent → G → Prop) (Ix : Code → List α → List Ent → G → Prop) (hI : ∀ pre L g g', g.le g' → I pre L g → I pre L g') (hIx : ∀ c pre L g g', g.le g' → Ix c pre L g → Ix c pre L g')
  (h0 : I [] L g) (la : α → Env)
  (hassign : ∀ x ro w, W { Wd with round := some ro } P N [] assign (Exit.then (fun a w' => w' = w ∧ Fr N [] (la x) a) (fun _ _ _ => False)) (parEnv ps.toList (encs x) l) w)
  (hbody : ∀ lp D ro pre x rest e gr Lr, xs = pre ++ x :: rest → g.le gr → St g0 gr (.obj lp (ro .busy) :: .obj D defO :: e :: Lr) → I pre Lr gr →
   W { Wd with round := some lp } P N [] body (roundQ (fun L' g' => ∃ Lr, L' = e :: Lr ∧ I (pre ++ [x]) Lr g') (fun c L' g' => ∃ Lr, L' = e :: Lr ∧ Ix c (pre ++ [x]) Lr g') g0 gr lp D ro) (la x) gr.w)
  (hend : ∀ lp D o e Lr ge, g.le ge → St g0 ge (.obj lp o :: .obj D defO :: e :: Lr) → I xs Lr ge → ∀ a, Fr N (⟨.collected D, #[]⟩ :: ds) l a → Q .normal a ge.w)
  (hjump : ∀ c lp D o pre e Lr ge, pre <+: xs → g.le ge → St g0 ge (.obj lp o :: .obj D defO :: e :: Lr) → Ix c pre Lr ge → W Wd P N (⟨.collected D, #[]⟩ :: ds) c Q l ge.w) :
  W Wd P N ds (.rangeFunc f ps assign body) Q l g.w := by
 intro a ha
 refine wpIn_rangeFunc fun fn _ => ?_
 let ro : LoopState → Obj := fun st => recO fn a.tmps ps assign body g.w.heap.size st none
 have hs1 := hs.al defO
 have hs2 := hs1.1.al (ro .ready)
 have hsz : (g.al defO).w.heap.size = g.w.heap.size + 1 := by simp [G.al]
 let g2 := (g.al defO).al (ro .ready)
 have hle2 : g.le g2 := hs1.2.trans hs2.2
 refine ⟨g.w.heap.size + 1, [⟨.collected g.w.heap.size, #[]⟩], g2.w, ⟨.fn (.func itf) caps, #[.func (.yield (g.w.heap.size + 1)) #[] #[]]⟩, g2.w, itf, (.func (.yield (g.w.heap.size + 1)) #[] #[] :: caps.toList).toArray, g2.w, ?_, ?_, fun _ _ => trivial, ?_, fun h => (by cases h), ?_⟩
 ·exact run_enterLoop_outer fn a.tmps ps assign body
 ·simp only [resolve, ha.ev hf, Deferred.ofValue]
  simp [Act.eval, g2]
 ·have e : #[Value.func (.yield (g.w.heap.size + 1)) #[] #[]] ++ caps = (.func (.yield (g.w.heap.size + 1)) #[] #[] :: caps.toList).toArray := by apply Array.ext'; simp
  rw [← e]
  exact run_callFunc hcall _
 ·-- the iterator's contract, with what holds between the rounds
  have hs2' : St g0 g2 (.obj (g.w.heap.size + 1) (ro .ready) :: .obj g.w.heap.size defO :: st :: L) := by
   have := hs2.1
   rw [hsz] at this
   exact this
  refine CallsIn.mono (hseq g2 hle2 (.func (.yield (g.w.heap.size + 1)) #[] #[])
   (fun pre e g' => g.le g' ∧ ∃ Lr, St g0 g' (.obj (g.w.heap.size + 1) (ro .ready) :: .obj g.w.heap.size defO :: e :: Lr) ∧ I pre Lr g')
   (fun pre e g' => g.le g' ∧ ∃ c Lr, St g0 g' (.obj (g.w.heap.size + 1) (recO fn a.tmps ps assign body g.w.heap.size .done (some c)) :: .obj g.w.heap.size defO :: e :: Lr) ∧ Ix c pre Lr g')
   (fun pre e ga ⟨h1, Lr, h2, h3⟩ => ⟨g0, _, 2, h2, rfl, fun e' gb hst hle' => ⟨h1.trans hle', Lr, hst, hI _ _ _ _ hle' h3⟩⟩) ?_ ⟨hle2, L, hs2', hI _ _ _ _ hle2 h0⟩) ?_
  ·-- one round
   rintro pre x rest e0 gp hxs hlep ⟨hleg, Lr, hst, hi⟩
   have hrec : gp.w.heap[g.w.heap.size + 1]? = some (ro .ready) := (hst.own 0 _ rfl).2.1
   refine ⟨fn, _, assign, body, run_yield hrec (by simpa [recO] using hen x), ?_⟩
   refine roundIn_of_wpIn trivial ?_
   have hfr : Fr N [] (parEnv ps.toList (encs x) l) { tmps := (ps.zip (#[] ++ (encs x).toArray)).foldl (fun tmps (x : Nat × Value) => tmps.setIfInBounds x.1 x.2) a.tmps, defers := [] } := by
    have h := Fr_par (N := N) ps.toList (encs x) l a.tmps hps ⟨rfl, ha.size, ha.get⟩
    have e : (ps.zip (#[] ++ (encs x).toArray)).foldl (fun tmps (x : Nat × Value) => tmps.setIfInBounds x.1 x.2) a.tmps = (ps.toList.zip (encs x)).foldl (fun tmps (x : Nat × Value) => tmps.setIfInBounds x.1 x.2) a.tmps := by
     rw [← Array.foldl_toList]; simp
    rw [e]
    exact h
   refine Go.wpIn_mono (hassign x (g.w.heap.size + 1) gp.w _ hfr) fun e a1 w1 he => ?_
   cases e with
   | normal =>
    obtain ⟨rfl, hfr1⟩ := he
    have hb := hst.po (i := 0) (o' := ro .busy) rfl
    refine ⟨(gp.po (g.w.heap.size + 1) (ro .busy)).w, run_beginRound hrec rfl, ?_⟩
    have hst' : St g0 (gp.po (g.w.heap.size + 1) (ro .busy)) (.obj (g.w.heap.size + 1) (ro .busy) :: .obj g.w.heap.size defO :: e0 :: Lr) := hb.1
    refine Go.wpIn_mono (hbody _ _ ro pre x rest e0 _ Lr hxs (hleg.trans hb.2) hst' (hI _ _ _ _ hb.2 hi) a1 hfr1) fun e a2 w2 he => ?_
    cases e with
    | normal =>
     obtain ⟨L', g', rfl, hst2, hle', L'', rfl, hi'⟩ := he
     have hrec2 : g'.w.heap[g.w.heap.size + 1]? = some (ro .busy) := (hst2.own 0 _ rfl).2.1
     have hp := hst2.po (i := 0) (o' := ro .ready) rfl
     refine ⟨_, _, run_endRound none hrec2, g'.po (g.w.heap.size + 1) (ro .ready), true, rfl, rfl, (hb.2.trans hle').trans hp.2, fun _ => ⟨((hleg.trans hb.2).trans hle').trans hp.2, L'', hp.1, hI _ _ _ _ hp.2 hi'⟩, fun h => (by cases h)⟩
    | ret =>
     obtain ⟨L', g', rfl, hst2, hle', L'', rfl, hi'⟩ := he
     have hrec2 : g'.w.heap[g.w.heap.size + 1]? = some (ro .busy) := (hst2.own 0 _ rfl).2.1
     have hp := hst2.po (i := 0) (o' := recO fn a.tmps ps assign body g.w.heap.size .done (some .ret)) rfl
     refine ⟨_, _, run_endRound (some .ret) hrec2, g'.po (g.w.heap.size + 1) (recO fn a.tmps ps assign body g.w.heap.size .done (some .ret)), false, rfl, rfl, (hb.2.trans hle').trans hp.2, fun h => (by cases h),
      fun _ => ⟨((hleg.trans hb.2).trans hle').trans hp.2, .ret, L'', hp.1, hIx _ _ _ _ _ hp.2 hi'⟩⟩
    | exit id =>
     obtain ⟨L', g', rfl, hst2, hle', L'', rfl, hi'⟩ := he
     have hrec2 : g'.w.heap[g.w.heap.size + 1]? = some (ro .busy) := (hst2.own 0 _ rfl).2.1
     have hp := hst2.po (i := 0) (o' := recO fn a.tmps ps assign body g.w.heap.size .done (some (.exit id))) rfl
     refine ⟨_, _, run_endRound (some (.exit id)) hrec2, g'.po (g.w.heap.size + 1) (recO fn a.tmps ps assign body g.w.heap.size .done (some (.exit id))), false, rfl, rfl, (hb.2.trans hle').trans hp.2, fun h => (by cases h),
      fun _ => ⟨((hleg.trans hb.2).trans hle').trans hp.2, .exit id, L'', hp.1, hIx _ _ _ _ _ hp.2 hi'⟩⟩
    | goto t => exact he.elim
    | panic c => exact he.elim
    | outgrown => exact he.elim
   | exit id => exact he.elim
   | goto t => exact he.elim
   | ret => exact he.elim
   | panic c => exact he.elim
   | outgrown => exact he.elim
  ·-- the iterator has ended
   rintro e w' ⟨ge, v, rfl, rfl, hle', h⟩
   have hfra : Fr N (⟨.collected g.w.heap.size, #[]⟩ :: ds) l { a with defers := [⟨.collected g.w.heap.size, #[]⟩] ++ a.defers } := ⟨by simp [ha.defers], ha.size, ha.get⟩
   rcases h with ⟨e0, hle, Lr, hst, hi⟩ | ⟨pre, e0, hpre, hle, c, Lr, hst, hi⟩
   ·have hrec : ge.w.heap[g.w.heap.size + 1]? = some (ro .ready) := (hst.own 0 _ rfl).2.1
    have hp := hst.po (i := 0) (o' := recO fn a.tmps ps assign body g.w.heap.size .exhausted none) rfl
    exact ⟨none, _, run_endLoop hrec (by simp), hend _ _ _ e0 Lr (ge.po _ _) (hle.trans hp.2) hp.1 (hI _ _ _ _ hp.2 hi) _ hfra⟩
   ·have hrec : ge.w.heap[g.w.heap.size + 1]? = some (recO fn a.tmps ps assign body g.w.heap.size .done (some c)) := (hst.own 0 _ rfl).2.1
    have hp := hst.po (i := 0) (o' := recO fn a.tmps ps assign body g.w.heap.size .exhausted (some c)) rfl
    exact ⟨some c, _, run_endLoop hrec (by simp), hjump c _ _ _ pre e0 Lr (ge.po _ _) hpre (hle.trans hp.2) hp.1 (hIx _ _ _ _ _ hp.2 hi) _ hfra⟩

end Go.K

/- Functions of two and three results, out of slots, ranges or not. -/
namespace Go.K
open Go Go.RowKit

variable {F : Fence} {P : Program} {N : Nat} {ds : List Deferred} {l l' : Env} {a : Act} {w : World} {Q : Exit → Act → World → Prop} {ops : Array Oper} {os : List Oper} {o : Oper}
variable {g0 g : G} {L : List Ent} {K : Value → World → Prop} {R : Ending → World → Prop}

theorem retM2 {fn : Func} {t t2 D : Nat} {v v2 : Value} (i : Nat) (hr : fn.results = #[.tmp t, .tmp t2]) (hs : St g0 g L) (hi : L[i]? = some (.obj D defO)) (hl : lk l t = some v) (hl2 : lk l t2 = some v2)
  (hR : ∀ g', St g0 g' (L.eraseIdx i) → g.le g' → R (.returned (.tuple #[v, v2])) g'.w) (a : Act) (ha : Fr N [⟨.collected D, #[]⟩] l a) : bodyPostM Wd 0 P fn R .ret a g.w := by
 show LeavesInM Wd 0 P fn a.tmps R a.defers .returning g.w
 rw [ha.defers]
 have hp := hs.po (o' := .deferred none) hi
 refine leavesM hs hi ⟨_, results_tmp2 hr _ _ _, ?_⟩
 have h1 : a.tmps.getD t undef = v := by simp [Array.getD_eq_getD_getElem?, ha.get t v hl]
 have h2 : a.tmps.getD t2 undef = v2 := by simp [Array.getD_eq_getD_getElem?, ha.get t2 v2 hl2]
 rw [h1, h2]
 refine hR _ ?_ hp.2
 have h2 := hp.1.drop i
 rwa [show (L.set i (Ent.obj D (.deferred none))).eraseIdx i = L.eraseIdx i from by
  apply List.ext_getElem?
  intro j
  simp only [List.getElem?_eraseIdx, List.getElem?_set]
  split <;> (rw [if_neg (by omega)])] at h2
theorem retM2' {fn : Func} {t t2 : Nat} {v v2 : Value} (hr : fn.results = #[.tmp t, .tmp t2]) (hl : lk l t = some v) (hl2 : lk l t2 = some v2) (hR : R (.returned (.tuple #[v, v2])) w) (a : Act) (ha : Fr N [] l a) : bodyPostM Wd 0 P fn R .ret a w := by
 show LeavesInM Wd 0 P fn a.tmps R a.defers .returning w
 rw [ha.defers]
 refine ⟨_, results_tmp2 hr _ _ _, ?_⟩
 have h1 : a.tmps.getD t undef = v := by simp [Array.getD_eq_getD_getElem?, ha.get t v hl]
 have h2 : a.tmps.getD t2 undef = v2 := by simp [Array.getD_eq_getD_getElem?, ha.get t2 v2 hl2]
 rw [h1, h2]; exact hR
theorem ret3 {fn : Func} {t u x : Nat} {v1 v2 v3 : Value} (hr : fn.results = #[.tmp t, .tmp u, .tmp x]) (hl : lk l t = some v1) (hl2 : lk l u = some v2) (hl3 : lk l x = some v3) (hR : R (.returned (.tuple #[v1, v2, v3])) w) (a : Act) (ha : Fr N [] l a) : bodyPost P fn R .ret a w := by
 refine ⟨ha.defers, .tuple #[v1, v2, v3], ?_, hR⟩
 simp [results, hr, ha.get t _ hl, ha.get u _ hl2, ha.get x _ hl3]
end Go.K

/- The owned things in any order; small endings. -/
namespace Go.K
open Go Go.RowKit

variable {F : Fence} {P : Program} {N : Nat} {ds : List Deferred} {l l' : Env} {a : Act} {w : World} {Q : Exit → Act → World → Prop} {ops : Array Oper} {os : List Oper} {o : Oper}
variable {g0 g : G} {L L' : List Ent} {K : Value → World → Prop} {R : Ending → World → Prop}

theorem St.perm (hs : St g0 g L) (hp : L.Perm L') : St g0 g L' := by
 let S : Ent → Ent → Prop := fun e e' => ∀ b, e.blk = some b → e'.blk ≠ some b
 have hS : ∀ {x y}, S x y → S y x := fun h b hy hx => h b hx hy
 have h1 : L.Pairwise S := by
  rw [List.pairwise_iff_getElem]
  intro i j hi hj hij
  exact hs.sep i j _ _ (by omega) (List.getElem?_eq_getElem hi) (List.getElem?_eq_getElem hj)
 have h2 : L'.Pairwise S := (hp.pairwise_iff hS).1 h1
 rw [List.pairwise_iff_getElem] at h2
 refine ⟨hs.below, hs.im, fun j e he => ?_, fun j k e e' hne hj hk => ?_⟩
 ·obtain ⟨i, hi, e1⟩ := List.mem_iff_getElem.1 (hp.mem_iff.2 (List.mem_of_getElem? he))
  exact hs.own i e (by rw [← e1]; exact List.getElem?_eq_getElem hi)
 ·obtain ⟨hj1, rfl⟩ := List.getElem?_eq_some_iff.1 hj
  obtain ⟨hk1, rfl⟩ := List.getElem?_eq_some_iff.1 hk
  rcases Nat.lt_or_gt_of_ne hne with h | h
  ·exact h2 j k hj1 hk1 h
  ·exact hS (h2 k j hk1 hj1 h)
theorem St.swap {A B C : List Ent} (hs : St g0 g (A ++ (B ++ C))) : St g0 g (B ++ (A ++ C)) := hs.perm (by
 rw [← List.append_assoc, ← List.append_assoc]; exact List.Perm.append_right _ List.perm_append_comm)

theorem Ret.same {R : G → Value → Prop} {v : Value} (h : R g v) : Ret g R (.returned v) g.w := ⟨g, v, rfl, Fr0.refl g, rfl, h⟩
theorem Ret.of {g' : G} {R : G → Value → Prop} {v : Value} (hf : Fr0 g g') (h : R g' v) : Ret g R (.returned v) g'.w := ⟨g', v, rfl, hf, rfl, h⟩
/-- A contract that turns what the caller owns, met in a walk. -/
theorem OpR_stR {R : G → Value → Prop} {f : FuncId} (hc : Callable P f) (hF : ∀ f, F.fn f) (hdep : F.depth = none) {x : Operand} {args : Array Operand} {ts : Array TypeId} {first captured : Array Value} {vs as : List Value}
  (ho : o.op = .call { callee := .value x, args, argTypes := ts }) (hx : ev l x = some (.func (.func f) first captured)) (ha : evs l args.toList = some vs) (has : first.toList ++ vs ++ captured.toList = as)
  (h : CallsIn F 0 P f as.toArray g.w (RetS g R)) (k : ∀ g' v, g.le g' → R g' v → K v g'.w) : OpR F P N ds o l g.w Q K := OpR_st hc hF hdep ho hx ha has h k
theorem OpR_clear0 {tb : Tb} (htb : tb.ok P) {t e : Nat} {ti : TI} {x : Operand} {c' : Nat} {ad : Option Addr} (ho : o.op = .call { callee := .builtin .clear, args := #[x], argTypes := #[t] }) (hx : ev l x = some (.slice ad 0 c'))
  (hi : tl tb t = some ti) (hd : ti.desc = .slice e) (kk : K (.tuple #[]) w) : OpR F P N ds o l w Q K := by
 obtain ⟨⟨dd, hu, he⟩, _⟩ := htb.at hi
 rw [hd] at he
 obtain rfl := KD.of_slice he
 refine OpR_builtin ho (w' := w) (v := .tuple #[]) (fun ac ha => ?_) kk
 cases ad <;> simp [resolve, invoke, builtin, ha.ev hx, Builtin.clear_, run_underlying hu]
theorem Row.pos {B : Nat} {e : TypeId} {k n c : Nat} {ad : Option Addr} {xs : List Value} (h : Row B e k (.slice ad n c) n xs w) (hn : n ≠ 0) : ∃ b p, ad = some ⟨b, p, none⟩ := by
 rcases h.2 with ⟨h0, _⟩ | ⟨b, off, cap, cur, e1, _⟩
 ·exact absurd h0 hn
 ·simp only [Value.slice.injEq] at e1
  exact ⟨b, off, e1.1⟩
theorem set_self {α : Type} {xs : List α} {i : Nat} {x : α} (h : xs[i]? = some x) : xs.set i x = xs := by
 apply List.ext_getElem?
 intro j
 rw [List.getElem?_set]
 split
 ·rename_i h'; subst h'
  rw [h]
  simp [(List.getElem?_eq_some_iff.1 h).1]
 ·rfl
/-- 'clear(s)' of a whole slice of the call's own. -/
theorem OpR_clearR {tb : Tb} (htb : tb.ok P) (i : Nat) {t e : Nat} {ti ei : TI} {k : Nat} {x : Operand} {cap n : Nat} {ad : Option Addr} {xs : List Value}
  (ho : o.op = .call { callee := .builtin .clear, args := #[x], argTypes := #[t] }) (hs : St g0 g L) (hL : L[i]? = some (.row e k (.slice ad n cap) n xs)) (hx : ev l x = some (.slice ad n cap))
  (hi : tl tb t = some ti) (hd : ti.desc = .slice e) (hj : tl tb e = some ei) (hk : ei.size = k) (hpos : 0 < k) (hz : ei.zero.cells.size = k) (h1 : ei.zero.cells.toList.all Value.oneCell' = true)
  (kk : ∀ g', St g0 g' (L.set i (.row e k (.slice ad n cap) n (List.replicate n ei.zero.cells.toList).flatten)) → g.le g' → K (.tuple #[]) g'.w) : OpR F P N ds o l g.w Q K := by
 by_cases hn : n = 0
 ·subst hn
  have hxs : xs = [] := by
   have := (hs.own i _ hL).1.1
   rw [Nat.zero_mul] at this
   exact List.eq_nil_of_length_eq_zero this
  subst hxs
  refine OpR_clear0 htb ho hx hi hd (kk g ?_ (G.le.refl g))
  rw [show (List.replicate 0 ei.zero.cells.toList).flatten = [] from rfl, set_self hL]
  exact hs
 ·obtain ⟨b, p, rfl⟩ := (hs.own i _ hL).1.pos hn
  exact OpR_clear (a := 0) htb i ho hs hL hx hi hd hj hk hpos hz h1 (.inr (by rw [Nat.zero_mul]; rfl)) (by omega) (by rw [Nat.zero_mul, List.take_zero, List.nil_append]) kk
end Go.K

/- A region that draws its order, all orders walked one by one. -/
namespace Go.K
open Go Go.RowKit

variable {F : Fence} {P : Program} {N : Nat} {ds : List Deferred} {l l' : Env} {a : Act} {w : World} {Q : Exit → Act → World → Prop} {ops : Array Oper} {os : List Oper} {o : Oper}
variable {g0 g : G} {L L' : List Ent} {K : Value → World → Prop} {R : Ending → World → Prop}

def WA (F : Fence) (P : Program) (N : Nat) (ds : List Deferred) (ops : Array Oper) (Q : Exit → Act → World → Prop) (fuel : Nat) (listed : Array Bool) (l : Env) (w : World) : Prop :=
 ∀ a, Fr N ds l a → wpAnyIn F 0 P .any ops Q fuel listed a w
theorem W_any {id : Nat} (hm : P.follows .mixedOrders = true) (h : WA F P N ds ops Q ops.size (Array.replicate ops.size false) l g.dr.w) : W F P N ds (.region id ops true) Q l g.w :=
 fun a ha => wpIn_region_any hm (h a ha)
def WAJ (F : Fence) (P : Program) (N : Nat) (ds : List Deferred) (ops : Array Oper) (Q : Exit → Act → World → Prop) (fuel : Nat) (listed : Array Bool) (l : Env) (w : World) : List Nat → Prop
 | [] => True
 | j :: r => (∃ o, ops[j]? = some o ∧ gd ops l o = some true ∧ dOk N o.dst = true ∧ OpR F P N ds o l w Q (fun v w' => WA F P N ds ops Q fuel (listed.setIfInBounds j true) (pt o.dst v l) w')) ∧ WAJ F P N ds ops Q fuel listed l w r
theorem WAJ.mem {fuel : Nat} {listed : Array Bool} : ∀ {js : List Nat}, WAJ F P N ds ops Q fuel listed l w js → ∀ j ∈ js, ∃ o, ops[j]? = some o ∧ gd ops l o = some true ∧ dOk N o.dst = true ∧ OpR F P N ds o l w Q (fun v w' => WA F P N ds ops Q fuel (listed.setIfInBounds j true) (pt o.dst v l) w')
 | [], _, j, hj => by cases hj
 | i :: r, h, j, hj => by
  rcases List.mem_cons.1 hj with rfl | hj
  ·exact h.1
  ·exact WAJ.mem h.2 j hj
theorem WA_nil {fuel : Nat} {listed : Array Bool} : WAJ F P N ds ops Q fuel listed l w [] := trivial
theorem WA_cons {fuel : Nat} {listed : Array Bool} {j : Nat} {r : List Nat} (ho : ops[j]? = some o) (hg : gd ops l o = some true) (hd : dOk N o.dst = true)
  (h : OpR F P N ds o l w Q (fun v w' => WA F P N ds ops Q fuel (listed.setIfInBounds j true) (pt o.dst v l) w')) (h2 : WAJ F P N ds ops Q fuel listed l w r) : WAJ F P N ds ops Q fuel listed l w (j :: r) := ⟨⟨o, ho, hg, hd, h⟩, h2⟩
theorem WA_step {fuel : Nat} {listed : Array Bool} (js : List Nat) (hr : Region.ready .any ops listed = js) (hne : js.isEmpty = false) (h : WAJ F P N ds ops Q fuel listed l w js) : WA F P N ds ops Q (fuel + 1) listed l w := by
 intro a ha
 subst hr
 refine ⟨fun h0 => (by rw [h0] at hne; cases hne), fun i hi => ?_⟩
 obtain ⟨o, ho, hg, hd, hop⟩ := h.mem i hi
 unfold wpOpIn
 rw [ho]
 simp only [gd_spec hg ha, if_true]
 exact Oper.wpIn_mono (fun a' w' ⟨v, he, hk⟩ => he ▸ hk _ (ha.put hd v)) (hop a ha)
theorem WA_tail {fuel : Nat} {listed : Array Bool} (m : Nat) (hok : drawOk N ops [] m = true) (hl : (listed.size == ops.size && (List.range ops.size).all (fun j => listed.getD j false == Nat.blt j m) && Nat.ble (ops.size - m) fuel) = true)
  (h : WL F P N ds ops Q (ops.toList.drop m) l w) : WA F P N ds ops Q fuel listed l w := by
 intro a ha
 simp only [drawOk, Bool.and_eq_true, List.all_eq_true, List.mem_range] at hok
 obtain ⟨⟨⟨c1, c2⟩, _⟩, c4⟩ := hok
 simp only [Bool.and_eq_true, List.all_eq_true, List.mem_range, beq_iff_eq] at hl
 obtain ⟨⟨d1, d2⟩, d3⟩ := hl
 refine tail_run (fun i o ho j hj => ?_) fuel m listed a w d1 (Nat.le_of_ble_eq_true c4) (fun j o hj ho k hk => ?_) (fun j hj => ?_) (Nat.le_of_ble_eq_true d3) (h a ha)
 ·have := c1 i (Array.getElem?_eq_some_iff.1 ho).1
  rw [ho] at this
  have := (List.all_eq_true.1 this) j hj
  simpa [Nat.blt_eq] using this
 ·have := c2 j (Array.getElem?_eq_some_iff.1 ho).1
  simp only [Bool.or_eq_true] at this
  rcases this with h | h
  ·have : j < m := by simpa [Nat.blt_eq] using h
   omega
  ·have := (List.all_eq_true.1 h) k (List.mem_range.2 hk)
   obtain ⟨i', h1, h2⟩ := List.any_eq_true.1 this
   simp only [Bool.and_eq_true] at h2
   have h3 := List.mem_range.1 h1
   cases ho' : ops[i']? with
   | none => rw [ho'] at h2; simp at h2
   | some o' =>
    rw [ho'] at h2
    exact ⟨i', o', by simpa [Nat.blt_eq] using h2.1, by omega, ho', by simpa using h2.2⟩
 ·rw [d2 j hj]; simp [Nat.blt_eq]
/-- Where the orders meet. -/
theorem WA_meet {fuel : Nat} {listed : Array Bool} (m : Nat) (J : Env → World → Prop) (h : (∀ l w, J l w → WL F P N ds ops Q (ops.toList.drop m) l w) → WA F P N ds ops Q fuel listed l w)
  (hJ : ∀ l w, J l w → WL F P N ds ops Q (ops.toList.drop m) l w) : WA F P N ds ops Q fuel listed l w := h hJ
theorem OpR_makeX {tb : Tb} (htb : tb.ok P) {t e : Nat} {ti ei : TI} {k : Nat} {x y : Operand} {kl kc : IntKind} {n : Nat} {xs : List Value} (ho : o.op = .makeSlice t x y) (hs : St g0 g L)
  (hx : ev l x = some (.int kl (n : Int))) (hy : ev l y = some (.int kc (n : Int))) (hi : tl tb t = some ti) (hd : ti.desc = .slice e) (hj : tl tb e = some ei) (hk : ei.size = k) (hpos : 0 < k) (hz : ei.zero.cells.size = k)
  (hb : ei.bytes * n ≤ 281474976710656) (h63 : n ≤ maxLen) (hxs : (List.replicate n ei.zero.cells.toList).flatten = xs)
  (kk : ∀ b g', St g0 g' (.row e k (.slice (some ⟨b, 0, none⟩) n n) n xs :: L) → g.le g' → K (.slice (some ⟨b, 0, none⟩) n n) g'.w) : OpR F P N ds o l g.w Q K := by
 subst hxs; exact OpR_make htb ho hs hx hy hi hd hj hk hpos hz hb h63 kk
theorem St.in1 {g0 g : G} {e : Ent} {B C : List Ent} (hs : St g0 g (e :: (B ++ C))) : St g0 g (B ++ (e :: C)) := hs.perm List.perm_middle.symm
theorem St.out1 {g0 g : G} {e : Ent} {B C : List Ent} (hs : St g0 g (B ++ (e :: C))) : St g0 g (e :: (B ++ C)) := hs.perm List.perm_middle
end Go.K
