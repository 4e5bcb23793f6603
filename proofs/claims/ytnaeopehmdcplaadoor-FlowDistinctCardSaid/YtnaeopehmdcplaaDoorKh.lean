/- Builders, single operations, deferred calls, functions that answer or stop. -/
import Derived.Test.YtnaeopehmdcplaaDoorKg
import Derived.Shelf.Strings.BuilderK
import Derived.Laws.Externs
import Derived.RecoverIn
import Derived.Sort.OwnSortedInts

/- A strings.Builder among the owned things: its block, its buffer's block. -/
namespace Go.K
open Go Go.RowKit

variable {F : Fence} {P : Program} {N : Nat} {ds : List Deferred} {l l' : Env} {a : Act} {w : World} {Q : Exit → Act → World → Prop} {ops : Array Oper} {os : List Oper} {o : Oper}
variable {g0 g : G} {L L' : List Ent} {K : Value → World → Prop} {R : Ending → World → Prop}

/-- A buffer that nobody else has seen. -/
def BdRow (e : TypeId) (v : Value) (xs : List UInt8) (Lr : List Ent) : Prop :=
  (v = .slice none 0 0 ∧ xs = [] ∧ Lr = []) ∨ ∃ br cap cur, v = .slice (some ⟨br, 0, none⟩) xs.length cap ∧ Lr = [.obj br (.cells cur e (0, 0))] ∧ xs.length ≤ cap ∧ cap ≤ maxLen ∧ cur.size = cap ∧ cur.toList.take xs.length = byteV xs
theorem BdRow.nil (e : TypeId) : BdRow e (.slice none 0 0) [] [] := .inl ⟨rfl, rfl, rfl⟩
theorem strCells_bs (s : List UInt8) : Lib.strCells (bs s) = byteV s := by simp [Lib.strCells, byteV, bs]
theorem byteV_length (s : List UInt8) : (byteV s).length = s.length := by simp [byteV]
theorem byteV_app (s t : List UInt8) : byteV (s ++ t) = byteV s ++ byteV t := by simp [byteV]

theorem grown_fr0 {g : G} {w' : World} (hg : g.w.grownBy w' none) : Fr0 g ⟨w', g.im, fun b h => Nat.lt_of_lt_of_le (g.lt b h) hg.size⟩ :=
  ⟨⟨hg.os, hg.tape, hg.output, hg.size, fun k hk => hg.block k hk (by simp)⟩, fun _ _ => Iff.rfl⟩

theorem run_append_bd {tb : Tb} (htb : tb.ok P) {t u e ty : Nat} {ti ei ui : TI} {v : Value} {xs ys : List UInt8} {Lr : List Ent} (hb : BdRow e v xs Lr) (hs : St g0 g (Lr ++ L))
    (hi : tl tb t = some ti) (hd : ti.desc = .slice e) (hu : tl tb u = some ui) (hud : ui.desc = .string) (hj : tl tb e = some ei) (hk : ei.size = 1) (hby : ei.bytes = 1) (hz : ei.zero = .int .u8 0) (hlen : xs.length + ys.length ≤ 140737488355328) :
    ∃ v' Lr' g', (Builtin.append_ #[t, u] ty #[v, .string (bs ys)]).run P g.w = .ok v' g'.w ∧ BdRow e v' (xs ++ ys) Lr' ∧ St g0 g' (Lr' ++ L) ∧ g.le g' := by
  obtain ⟨⟨dd, hu1, he⟩, _⟩ := htb.at hi
  rw [hd] at he
  obtain rfl := KD.of_slice he
  obtain ⟨⟨dd, hu2, he⟩, _⟩ := htb.at hu
  rw [hud] at he
  obtain rfl := KD.of_string he
  obtain ⟨_, inf, e1, e2, e3, e4⟩ := htb.at hj
  rw [hk] at e2; rw [hby] at e3; rw [hz] at e4
  have hsz : (bs ys).size = ys.length := bs_size ys
  have hml : xs.length + ys.length ≤ maxLen := by unfold maxLen; omega
  have newrow : ∀ (old : Nat) (cs : List Value), cs.length = xs.length + ys.length → old < xs.length + ys.length → cs = byteV (xs ++ ys) →
      BdRow e (.slice (some ⟨g.w.heap.size, 0, none⟩) (xs.length + ys.length) (grownCap g.w (xs.length + ys.length) old e)) (xs ++ ys)
        [.obj g.w.heap.size (.cells (cs.toArray ++ Builtin.zeroCells (Value.int .u8 0).cells (grownCap g.w (xs.length + ys.length) old e - (xs.length + ys.length))) e (0, 0))] := by
    intro old cs hcl ho hc
    have hge := grownCap_ge g.w (xs.length + ys.length) old e
    have hcm : grownCap g.w (xs.length + ys.length) old e ≤ maxLen := grownCap_le_maxLen g.w (xs.length + ys.length) old e hml
    refine .inr ⟨_, _, _, by rw [List.length_append], rfl, by rw [List.length_append]; exact hge, hcm, ?_, ?_⟩
    · have hz1 : (Value.int IntKind.u8 0).cells.size = 1 := rfl
      simp only [Array.size_append, List.size_toArray, size_zeroCells, hz1, hcl]
      omega
    · rw [← hc, List.length_append, ← hcl]
      simp only [Array.toList_append]
      exact List.take_left
  rcases hb with ⟨rfl, rfl, rfl⟩ | ⟨br, cap, cur, rfl, rfl, hnc, hcm, hcs, htk⟩
  · by_cases hm : ys.length = 0
    · have hys : ys = [] := List.eq_nil_of_length_eq_zero hm
      subst hys
      refine ⟨.slice none 0 0, [], g, ?_, .inl ⟨rfl, rfl, rfl⟩, hs, G.le.refl g⟩
      have hf := Lib.run_firstCells_string (P := P) g.w 1 (bs [])
      rw [hsz, List.length_nil] at hf
      simp [Builtin.append_, run_underlying hu1, run_underlying hu2, sizeOf, typeInfo, e1, e2, Builtin.lenOf, hsz, hf]
    · have hr := run_append_nil_string (P := P) (ty := ty) g.w t u e inf (.int .u8 0) hu1 hu2 e1 e4 (bs ys) (by rw [hsz]; omega) (by rw [hsz]; omega) (by rw [e3, hsz]; omega)
      have e5 : ((bs ys).data.map fun b => Value.int .u8 b.toNat) = (byteV ys).toArray := by
        apply Array.ext'
        simp [byteV, bs]
      rw [e5, hsz] at hr
      have hnr := newrow 0 (byteV ys) (by simp [byteV]) (by simp only [List.length_nil]; omega) (by simp)
      simp only [List.length_nil, Nat.zero_add] at hnr
      have hg : g.w.grownBy (g.w.drew.alloc (.cells ((byteV ys).toArray ++ Builtin.zeroCells (Value.int .u8 0).cells (grownCap g.w ys.length 0 e - ys.length)) e)) none := ⟨rfl, rfl, rfl, by simp, fun k hk _ => heap_alloc_old g.w.drew _ k hk⟩
      let g' : G := ⟨_, g.im, fun b h => Nat.lt_of_lt_of_le (g.lt b h) hg.size⟩
      have hst := hs.add (g' := g') (e' := .obj g.w.heap.size (.cells ((byteV ys).toArray ++ Builtin.zeroCells (Value.int .u8 0).cells (grownCap g.w ys.length 0 e - ys.length)) e)) hg (fun _ _ => Iff.rfl)
        ⟨hs.below.size, heap_alloc_new g.w.drew _, fun h => by have := g.lt _ h; omega⟩ (fun b hb => by simp only [Ent.blk, Option.some.injEq] at hb; omega)
      exact ⟨_, _, g', hr, hnr, hst.1, hst.2⟩
  · have hown := hs.own 0 _ rfl
    have hh : g.w.heap[br]? = some (.cells cur e (0, 0)) := hown.2.1
    by_cases hroom : xs.length + ys.length ≤ cap
    · have hr := Lib.run_append_room_string (P := P) g.w t u ty e inf hu1 hu2 e1 e2 br xs.length cap cur hh (bs ys) (by rw [hsz]; exact hroom) (by rw [hsz]; omega)
      rw [hsz, strCells_bs] at hr
      have hst := hs.sr (i := 0) (cs' := (cur.toList.take xs.length ++ byteV ys ++ cur.toList.drop (xs.length + ys.length)).toArray) rfl
      refine ⟨_, _, _, hr, .inr ⟨br, cap, _, by rw [List.length_append], rfl, by rw [List.length_append]; exact hroom, hcm, ?_, ?_⟩, hst.1, hst.2⟩
      · simp only [List.size_toArray, List.length_append, List.length_take, List.length_drop, Array.length_toList, byteV_length]
        omega
      · rw [htk, byteV_app, show (xs ++ ys).length = (byteV xs ++ byteV ys).length from by simp [byteV]]
        exact List.take_left
    · have holds : ∀ j u, (byteV xs)[j]? = some u → g.w.cell? ((⟨br, 0, none⟩ : Addr).add j) = some u := by
        intro j u hju
        have hj := (List.getElem?_eq_some_iff.1 hju).1
        rw [byteV_length] at hj
        rw [← htk, List.getElem?_take_of_lt hj, Array.getElem?_toList] at hju
        rw [Addr.add_lit]
        simp [World.cell?, hh, hju]
      have hr := Lib.run_append_grow_string (P := P) g.w t u ty e inf (.int .u8 0) hu1 hu2 e1 e4 ⟨br, 0, none⟩ xs.length cap (byteV xs) (by rw [e2, byteV_length]; omega) holds (bs ys) (by rw [hsz]; omega) (by rw [hsz]; omega) (by rw [e3, hsz]; exact growslice_fits (by omega) (by omega))
      rw [hsz, strCells_bs, show (byteV xs).toArray ++ (byteV ys).toArray = (byteV (xs ++ ys)).toArray from by simp [byteV]] at hr
      have hnr := newrow cap (byteV (xs ++ ys)) (by simp [byteV]) (by omega) rfl
      have hg : g.w.grownBy (g.w.drew.alloc (.cells ((byteV (xs ++ ys)).toArray ++ Builtin.zeroCells (Value.int .u8 0).cells (grownCap g.w (xs.length + ys.length) cap e - (xs.length + ys.length))) e)) (some br) := ⟨rfl, rfl, rfl, by simp, fun k hk _ => heap_alloc_old g.w.drew _ k hk⟩
      let g' : G := ⟨_, g.im, fun b h => Nat.lt_of_lt_of_le (g.lt b h) hg.size⟩
      have hst := hs.chg (i := 0) (e := .obj br (.cells cur e (0, 0))) (g' := g') (e' := .obj g.w.heap.size (.cells ((byteV (xs ++ ys)).toArray ++ Builtin.zeroCells (Value.int .u8 0).cells (grownCap g.w (xs.length + ys.length) cap e - (xs.length + ys.length))) e)) rfl hg (fun _ _ => Iff.rfl)
        ⟨hs.below.size, heap_alloc_new g.w.drew _, fun h => by have := g.lt _ h; omega⟩ (fun b hb => by simp only [Ent.blk, Option.some.injEq] at hb; right; omega)
      exact ⟨_, _, g', hr, hnr, hst.1, hst.2⟩

theorem OpR_appendB {tb : Tb} (htb : tb.ok P) {t u e : Nat} {ti ei ui : TI} {s x : Operand} {v : Value} {xs ys : List UInt8} {Lr : List Ent} (ho : o.op = .call { callee := .builtin .append, args := #[s, x], argTypes := #[t, u] })
    (hb : BdRow e v xs Lr) (hs : St g0 g (Lr ++ L)) (hv : ev l s = some v) (hx : ev l x = some (.string (bs ys)))
    (hi : tl tb t = some ti) (hd : ti.desc = .slice e) (hu : tl tb u = some ui) (hud : ui.desc = .string) (hj : tl tb e = some ei) (hk : ei.size = 1) (hby : ei.bytes = 1) (hz : ei.zero = .int .u8 0) (hlen : xs.length + ys.length ≤ 140737488355328)
    (kk : ∀ v' Lr' g', BdRow e v' (xs ++ ys) Lr' → St g0 g' (Lr' ++ L) → g.le g' → K v' g'.w) : OpR F P N ds o l g.w Q K := by
  obtain ⟨v', Lr', g', hrun, h1, h2, h3⟩ := run_append_bd (ty := o.type) htb hb hs hi hd hu hud hj hk hby hz hlen
  refine OpR_builtin ho (w' := g'.w) (fun a ha => ?_) (kk v' Lr' g' h1 h2 h3)
  simp [resolve, invoke, builtin, ha.ev hv, ha.ev hx, hrun]

/-- What lies before, and what no longer changes of it. -/
def G.cutIm (g : G) (w' : World) (B : Nat) (h : g.w.heap.size ≤ w'.heap.size) : G := ⟨w', fun b => g.im b ∧ b < B, fun b hb => Nat.lt_of_lt_of_le (g.lt b hb.1) h⟩

/-- Behind a call of the library's that turns a builder and rows of bytes. -/
theorem St.bld {B e : Nat} {ob : Option Nat} {w' : World} (hs : St g0 g L) (hB : B = g0.w.heap.size) (hb : Below B g.w w') (ho : Lib.OthersKept e ob g.w w')
    (hL : ∀ x ∈ L, ∀ k, x.blk = some k → some k ≠ ob ∧ ∃ o, g.w.heap[k]? = some o ∧ ∀ c fz, o ≠ .cells c e fz) : St g0 (g.cutIm w' B hb.size) L ∧ g0.le (g.cutIm w' B hb.size) := by
  subst hB
  have h1 : St g0 (g.cutIm w' g0.w.heap.size hb.size) L := by
    refine ⟨hs.below.trans hb, fun k hk => ⟨fun h => (hs.im k hk).1 h.1, fun h => ⟨(hs.im k hk).2 h, hk⟩⟩, fun j x hj => ?_, hs.sep⟩
    have hx := hs.own j x hj
    have hkeep : ∀ k, x.blk = some k → w'.heap[k]? = g.w.heap[k]? := by
      intro k hk
      obtain ⟨h1, o, h2, h3⟩ := hL x (List.mem_of_getElem? hj) k hk
      rw [ho k o h2 h1 h3, h2]
    cases x with
    | obj b o => exact ⟨hx.1, (hkeep b rfl).trans hx.2.1, fun h => hx.2.2 h.1⟩
    | row t k v n xs => exact ⟨hx.1.kept fun b hb' => hkeep b hb', fun b hb' h => hx.2 b hb' h.1⟩
  exact ⟨h1, h1.le⟩

/-- What is owned here and what the caller owned, together. -/
theorem St.join {g1 : G} {M : List Ent} (hs : St g0 g L) (hm : St g g1 M) : St g0 g1 (M ++ L) := by
  have hs2 := hs.call hm.fr0
  have up : ∀ x : Ent, x.holds g.w.heap.size g1 → x.holds g0.w.heap.size g1 := by
    intro x h
    cases x with
    | obj b o => exact ⟨Nat.le_trans hs.below.size h.1, h.2⟩
    | row t k v n xs =>
      refine ⟨⟨h.1.1, ?_⟩, h.2⟩
      rcases h.1.2 with h' | ⟨b, off, cap, cur, e1, hB, h'⟩
      · exact .inl h'
      · exact .inr ⟨b, off, cap, cur, e1, Nat.le_trans hs.below.size hB, h'⟩
  refine ⟨hs2.below, hs2.im, fun j x hj => ?_, fun j k x y hjk hj hk b hbx hby => ?_⟩
  · rw [List.getElem?_append] at hj
    split at hj
    · exact up x (hm.own j x hj)
    · exact hs2.own _ x hj
  · rw [List.getElem?_append] at hj hk
    split at hj <;> split at hk
    · exact hm.sep j k x y hjk hj hk b hbx hby
    · have h1 := ((hm.own j x hj).lt b hbx).1
      have h2 := ((hs.own _ y hk).lt b hby).2.1
      omega
    · have h1 := ((hm.own k y hk).lt b hby).1
      have h2 := ((hs.own _ x hj).lt b hbx).2.1
      omega
    · exact hs2.sep _ _ x y (by omega) hj hk b hbx hby

theorem OthersKept_refl (e : TypeId) (ob : Option Nat) (w : World) : Lib.OthersKept e ob w w := Lib.OthersKept.refl e ob w

/-- A builder as the library's contracts see it. -/
theorem BdRow.isF {T e b : Nat} {p v : Value} {xs : List UInt8} {Lr : List Ent} (hb : BdRow e v xs Lr) (hs : St g0 g (.obj b (.cells [p, v].toArray T (0, 0)) :: (Lr ++ L))) : Lib.BuilderAtF T e g0.w.heap.size b p (Lib.byteCells xs) g.w := by
  have h0 := hs.own 0 _ rfl
  have hlen : (Lib.byteCells xs).length = xs.length := by simp [Lib.byteCells]
  rcases hb with ⟨rfl, rfl, rfl⟩ | ⟨br, cap, cur, rfl, rfl, hnc, hcm, hcs, htk⟩
  · exact ⟨h0.1, _, h0.2.1, ⟨rfl, .inl ⟨rfl, rfl⟩⟩, by simp [Value.ownBlock]⟩
  · have h1 := hs.own 1 _ rfl
    refine ⟨h0.1, _, h0.2.1, ⟨by rw [hlen, Nat.mul_one], .inr ⟨br, cap, cur, (0, 0), by rw [hlen], h1.1, h1.2.1, Nat.zero_le _, by rw [hlen]; exact hnc, hcm, by rw [Nat.mul_one]; exact hcs, by rw [hlen, Nat.mul_one, htk]; rfl⟩⟩, ?_⟩
    intro h
    simp only [Value.ownBlock, Option.some.injEq] at h
    exact hs.sep 0 1 _ _ (by omega) rfl rfl b rfl (by simp [Ent.blk, h])
end Go.K

/- Single operations by their own runs: conversions, functions of the model's own, comparisons of pointers. -/
namespace Go.K
open Go Go.RowKit

variable {F : Fence} {P : Program} {N : Nat} {ds : List Deferred} {l l' : Env} {a : Act} {w : World} {Q : Exit → Act → World → Prop} {ops : Array Oper} {os : List Oper} {o : Oper}
variable {g0 g : G} {L L' : List Ent} {K : Value → World → Prop} {R : Ending → World → Prop}

theorem OpR_conv {src dst : TypeId} {x : Operand} {v v' : Value} (ho : o.op = .convert src dst x) (hx : ev l x = some v) (h : (convert src dst v).run P w = .ok v' w) (k : K v' w) : OpR F P N ds o l w Q K :=
  OpR_value (fun c => ⟨by rw [ho]; simp, by rw [ho]; simp⟩) (fun a ha => by simp [execOp, ho, ha.ev hx, h]) k

theorem OpR_extern {f : FuncId} {fn : Func} {e : Array Value → Sem Value} (hf : P.funcs[f]? = some fn) (hname : (fn.name == "runtime.NumGoroutine") = false) (hb : fn.body.isNone = true) (hn : Extern.findNext fn = none) (he : Extern.find fn = some e) (hF : ∀ f, F.fn f)
    {x : Operand} {args : Array Operand} {ts : Array TypeId} {vs : List Value} {v : Value} (ho : o.op = .call { callee := .value x, args, argTypes := ts }) (hx : ev l x = some (.func (.func f) #[] #[])) (ha : evs l args.toList = some vs)
    (h : (e vs.toArray).run P w = .ok v w) (k : K v w) : OpR F P N ds o l w Q K := by
  intro a haa
  unfold Oper.wpIn
  refine ⟨fun f _ => hF f, ?_⟩
  have hargs : args.map a.eval = vs.toArray := by apply Array.ext'; simpa using evs_spec haa ha
  rw [Oper.semAt_eq _ _ _ (fun c e => by rw [ho] at e; cases e)]
  have hrun : (execOp a.eval o).run P w = .ok (.value v) w := by
    simp only [execOp, ho, Sem.run_bind, resolve, haa.ev hx, Deferred.ofValue, Sem.run_pure, Result.andThen_ok, invoke, hargs]
    have e1 : #[] ++ vs.toArray ++ #[] = vs.toArray := by apply Array.ext'; simp
    rw [e1, run_callFunc_extern hf hname hb hn he, h]
    rfl
  rw [hrun]
  exact ⟨v, rfl, k⟩

theorem OpR_neqPtrSame {t te t' : TypeId} {j : TypeInfo} {x y : Operand} {ad : Addr} (ho : o.op = .binOp .neq t x y t') (hx : ev l x = some (.pointer (some ad))) (hy : ev l y = some (.pointer (some ad)))
    (hp : P.underlying t = some (.pointer te)) (hte : P.info? te = some j) (k : K (.bool false) w) : OpR F P N ds o l w Q K := by
  have hg : ∀ op, (eqGuard op t x y (.pointer (some ad)) (.pointer (some ad))).run P w = .ok () w := fun op => by unfold eqGuard; split <;> rfl
  have hq := Lib.run_neq_ptr_same (w := w) ad hp hte
  exact OpR_value (fun c => ⟨by rw [ho]; simp, by rw [ho]; simp⟩) (fun a ha => by simp [execOp, ho, ha.ev hx, ha.ev hy, hg, hq]) k
theorem St.tail {M : List Ent} (hs : St g0 g (M ++ L)) : St g0 g L := by
  induction M with
  | nil => exact hs
  | cons e M ih => exact ih (hs.drop 0)
theorem Row.at {B : Nat} {e : TypeId} {k : Nat} {v : Value} {n : Nat} {xs : List Value} (h : Row B e k v n xs w) {q : Nat} (hq : obk v = some q) : ∃ cur fz, w.heap[q]? = some (.cells cur e fz) := by
  rcases h.2 with ⟨_, a', rfl⟩ | ⟨b', off, cap, cur, rfl, _, ⟨fz, hh, _⟩, _⟩
  · rw [obk_zero] at hq; cases hq
  · obtain ⟨_, _, _, e1, _, e2⟩ := obk_some hq
    simp only [Value.slice.injEq, Option.some.injEq] at e1
    obtain ⟨rfl, _⟩ := e1
    subst e2
    exact ⟨_, _, hh⟩
theorem St.flip {A B : List Ent} (hs : St g0 g (A ++ B)) : St g0 g (B ++ A) := hs.perm List.perm_append_comm
end Go.K

/- Functions with deferred calls; deferred calls that recover. -/
namespace Go.K
open Go Go.RowKit

variable {F : Fence} {P : Program} {N : Nat} {ds : List Deferred} {l l' : Env} {a : Act} {w : World} {Q : Exit → Act → World → Prop} {ops : Array Oper} {os : List Oper} {o : Oper}
variable {g0 g : G} {L L' : List Ent} {K : Value → World → Prop} {R : Ending → World → Prop}

def tmpsOk (tmps : Array Value) : Env → Prop
  | [] => True
  | (t, v) :: r => tmps[t]? = some v ∧ tmpsOk tmps r
theorem tmpsOk.get {tmps : Array Value} : ∀ {l : Env}, tmpsOk tmps l → ∀ t v, lk l t = some v → tmps[t]? = some v
  | [], _, t, v, h => by simp [lk] at h
  | (k, u) :: r, ⟨h1, h2⟩, t, v, h => by
    by_cases e : k = t
    · subst e
      rw [lk_cons_same] at h
      exact (Option.some.inj h) ▸ h1
    · rw [lk_cons_other _ _ e] at h
      exact h2.get t v h
theorem Fr.ofTmps {tmps : Array Value} (hs : tmps.size = N) (h : tmpsOk tmps l) : Fr N ds l { tmps, defers := ds } := ⟨rfl, hs, h.get⟩

/-- On from where the stack is no longer looked at. -/
theorem W_fromS {c : Code} {QS : Exit → Act → List Frame → World → Prop} {cs : List Frame} {tmps : Array Value} {a : Act} (ha : a = { tmps, defers := [] }) (hs : tmps.size = N) (hl : tmpsOk tmps l) (h : W Wd P N [] c (fun e a' w' => QS e a' cs w') l w) :
    c.wpSIn Wd 0 P QS a cs w := by
  subst ha
  exact wpSIn_of_wpIn rfl (h _ (Fr.ofTmps hs hl))
theorem endS {fn : Func} {c₀ : Frame} {cs cs' : List Frame} {RS : Ending → FrameMode → World → Prop} (u' : FrameMode) (hr : fn.results = #[]) (hc : cs' = { c₀ with mode := u' } :: cs) (hR : RS (.returned (.tuple #[])) u' w) (a : Act) (ha : Fr N [] l a) : bodyPostS P fn c₀ cs RS .normal a cs' w :=
  ⟨ha.defers, u', hc, _, results_none hr _ _ _, hR⟩

/-- 'defer f()'. -/
theorem WL_defer {f : FuncId} {x : Operand} {first captured : Array Value} (hro : F.round = none) (hF : ∀ f, F.fn f) (hg : gd ops l o = some true) (hd : o.dst = none) (ho : o.op = .defer { callee := .value x, args := #[], argTypes := #[] }) (hx : ev l x = some (.func (.func f) first captured))
    (k : WL F P N (⟨.fn (.func f) captured, first⟩ :: ds) ops Q os l w) : WL F P N ds ops Q (o :: os) l w := by
  intro a ha
  simp only [wpListIn, gd_spec hg ha, if_true]
  unfold Oper.wpIn
  refine ⟨fun f _ => hF f, ?_⟩
  rw [hro, Oper.semAt_none]
  have hrun : (execOp a.eval o).run P w = .ok (.defer ⟨.fn (.func f) captured, first⟩) w := by
    simp [execOp, ho, resolve, ha.ev hx, Deferred.ofValue]
  rw [hrun]
  simp only [Oper.uponIn, hd, Act.put]
  exact k _ ⟨by simp [ha.defers], ha.size, ha.get⟩

/-- A function's contract from its body's walk, deferred calls and all. -/
theorem enterD {f : FuncId} {fn : Func} {c : Code} {args : Array Value} (hf : P.funcs[f]? = some fn) (hb : fn.body = some c) (hN : fn.ntmps = N) (hle : Nat.ble args.size N = true)
    (h : W Wd P N [] c (bodyPostDIn Wd 0 P fn R) (argEnv 0 args.toList) w) : CallsIn Wd 0 P f args w R := by
  refine callsIn_of_wp_defers hf hb trivial ?_
  rw [hN]
  exact h _ (Fr_enter args N hle)

theorem leaves1 {fn : Func} {tmps : Array Value} {f : FuncId} {cap : Array Value} {u : FrameMode} (hc : Callable P f) (hu : u ≠ .run)
    (h : CallsDIn Wd 0 P f cap u w fun
      | .returned _, u', w' => LeavesIn Wd 0 P fn tmps R [] (settle u') w'
      | .panicked chain, u', w' => LeavesIn Wd 0 P fn tmps R [] (raised u' chain) w'
      | .outgrown, _, w' => R .outgrown w') : LeavesIn Wd 0 P fn tmps R [⟨.fn (.func f) cap, #[]⟩] u w := by
  refine leavesIn_cons (args := cap) (f := f) hu (fun h => by cases h) ?_ (fun _ _ => trivial) h
  have e : #[] ++ cap = cap := by apply Array.ext'; simp
  simp only [invoke]
  rw [e]
  exact run_callFunc hc cap
theorem retD {fn : Func} {f : FuncId} {cap : Array Value} (hc : Callable P f)
    (h : ∀ tmps : Array Value, (∀ t v, lk l t = some v → tmps[t]? = some v) → CallsDIn Wd 0 P f cap .returning w fun
      | .returned _, u', w' => LeavesIn Wd 0 P fn tmps R [] (settle u') w'
      | .panicked chain, u', w' => LeavesIn Wd 0 P fn tmps R [] (raised u' chain) w'
      | .outgrown, _, w' => R .outgrown w') (a : Act) (ha : Fr N [⟨.fn (.func f) cap, #[]⟩] l a) : bodyPostDIn Wd 0 P fn R .ret a w := by
  show LeavesIn Wd 0 P fn a.tmps R a.defers .returning w
  rw [ha.defers]
  exact leaves1 hc (by simp) (h a.tmps ha.get)
theorem panicD {fn : Func} {f : FuncId} {cap : Array Value} {ch : List PanicEntry} (hc : Callable P f)
    (h : ∀ tmps : Array Value, (∀ t v, lk l t = some v → tmps[t]? = some v) → CallsDIn Wd 0 P f cap (.panicking ch) w fun
      | .returned _, u', w' => LeavesIn Wd 0 P fn tmps R [] (settle u') w'
      | .panicked chain, u', w' => LeavesIn Wd 0 P fn tmps R [] (raised u' chain) w'
      | .outgrown, _, w' => R .outgrown w') (a : Act) (ha : Fr N [⟨.fn (.func f) cap, #[]⟩] l a) : bodyPostDIn Wd 0 P fn R (.panic ch) a w := by
  show LeavesIn Wd 0 P fn a.tmps R a.defers (.panicking ch) w
  rw [ha.defers]
  exact leaves1 hc (by simp) (h a.tmps ha.get)
theorem results_cell2 {fn : Func} {tb : Tb} (htb : tb.ok P) {tmps : Array Value} {t T u U b c : Nat} {v x : Value} {cs cs2 : List Value} {E E2 : TypeId} {fz fz2 : Nat × Nat} (i j : Nat) (hr : fn.results = #[.cell t T, .cell u U]) (hs : St g0 g L)
    (h1 : tmps[t]? = some (.pointer (some ⟨b, 0, none⟩))) (h2 : tmps[u]? = some (.pointer (some ⟨c, 0, none⟩))) (hi : L[i]? = some (.obj b (.cells cs.toArray E fz))) (hj : L[j]? = some (.obj c (.cells cs2.toArray E2 fz2))) (hv : ldl tb T cs 0 = some v) (hx : ldl tb U cs2 0 = some x) :
    (results fn tmps).run P g.w = .ok (.tuple #[v, x]) g.w := by
  have e1 := run_loadVar (P := P) (w := g.w) (off := 0) (o := 0) htb hv (obj_cells (hs.own i _ hi).2.1)
  have e2 := run_loadVar (P := P) (w := g.w) (off := 0) (o := 0) htb hx (obj_cells (hs.own j _ hj).2.1)
  simp only [Nat.add_zero] at e1 e2
  simp [results, hr, h1, h2, asAddr, e1, e2]
end Go.K

/- A row of integers of the call's own that the library has turned. -/
namespace Go.K
open Go Go.RowKit Go.Sort

variable {F : Fence} {P : Program} {N : Nat} {ds : List Deferred} {l l' : Env} {a : Act} {w : World} {Q : Exit → Act → World → Prop} {ops : Array Oper} {os : List Oper} {o : Oper}
variable {g0 g : G} {L L' : List Ent} {K : Value → World → Prop} {R : Ending → World → Prop}

def intsV (zs : List Int) : List Value := zs.map (Value.int .i64)
theorem intsV_len (zs : List Int) : (intsV zs).length = zs.length := by simp [intsV]
theorem putCells_at {zs : List Int} {off : Nat} {cur : Array Value} (j : Nat) : (putCells (Value.int .i64) off zs.toArray cur)[j]? = (cur[j]?).map fun x => if off ≤ j ∧ j < off + zs.length then Value.int .i64 (zs.toArray[j - off]!) else x := by
  unfold putCells
  rw [Array.getElem?_mapIdx]
  simp
theorem putCells_size {zs : List Int} {off : Nat} {cur : Array Value} : (putCells (Value.int .i64) off zs.toArray cur).size = cur.size := by unfold putCells; simp
theorem heap_putRow (w : World) (q b off : Nat) (d : Array Int) (os : Array Obj) (k : Nat) (hk : k < w.heap.size) :
    (grow (putRow (Value.int .i64) (Sort.ahead w q) b off d) os).heap[k]? = if b = k then (w.heap[k]?).map (fun o => match o with | .cells c e f => .cells (putCells (Value.int .i64) off d c) e f | o => o) else w.heap[k]? := by
  have h1 : (grow (putRow (Value.int .i64) (Sort.ahead w q) b off d) os).heap = (putRow (Value.int .i64) (Sort.ahead w q) b off d).heap ++ os := rfl
  have h2 : (putRow (Value.int .i64) (Sort.ahead w q) b off d).heap = w.heap.modify b (onCells (putCells (Value.int .i64) off d)) := rfl
  rw [h1, h2, Array.getElem?_append_left (by simpa using hk), Array.getElem?_modify]
  split
  · cases w.heap[k]? with
    | none => rfl
    | some o => cases o <;> rfl
  · rfl
theorem grown_putRow (w : World) (q b off : Nat) (d : Array Int) (os : Array Obj) : w.grownBy (grow (putRow (Value.int .i64) (Sort.ahead w q) b off d) os) (some b) :=
  ⟨rfl, rfl, rfl, by show w.heap.size ≤ ((putRow (Value.int .i64) (Sort.ahead w q) b off d).heap ++ os).size; rw [Array.size_append]; show _ ≤ (w.heap.modify b _).size + _; simp, fun k hk hne => by
    rw [heap_putRow w q b off d os k hk, if_neg (fun e => hne (by rw [e]))]⟩

theorem St.putRow {i b off n c q : Nat} {e : TypeId} {zs d : List Int} {os : Array Obj} (hs : St g0 g L) (hi : L[i]? = some (.row e 1 (.slice (some ⟨b, off, none⟩) n c) n (intsV zs))) (hn : n ≠ 0) (hd : d.length = n) :
    ∃ g' : G, g'.w = grow (Sort.putRow (Value.int .i64) (Sort.ahead g.w q) b off d.toArray) os ∧ St g0 g' (L.set i (.row e 1 (.slice (some ⟨b, off, none⟩) n c) n (intsV d))) ∧ g.le g' := by
  have hown := hs.own i _ hi
  have hr := hown.1
  obtain ⟨hxl, hr⟩ := hr
  rcases hr with ⟨h0, _⟩ | ⟨b', off', cap, cur, e1, hB, ⟨fz, hh, hz⟩, hnc, hcm, hcs, htk⟩
  · exact absurd h0 hn
  simp only [Value.slice.injEq, Option.some.injEq, Addr.mk.injEq, true_and, and_true] at e1
  obtain ⟨⟨rfl, rfl⟩, rfl⟩ := e1
  rw [Nat.mul_one] at hcs htk
  have hg := grown_putRow g.w q b off d.toArray os
  have hob : obk (.slice (some ⟨b, off, none⟩) n c) = some b := obk_pos (by omega)
  have hlt : b < g.w.heap.size := (Array.getElem?_eq_some_iff.1 hh).1
  let g' : G := ⟨grow (Sort.putRow (Value.int .i64) (Sort.ahead g.w q) b off d.toArray) os, g.im, fun x h => Nat.lt_of_lt_of_le (g.lt x h) hg.size⟩
  have hst := hs.chg (g' := g') (e' := .row e 1 (.slice (some ⟨b, off, none⟩) n c) n (intsV d)) hi (by rw [show (Ent.row e 1 (.slice (some ⟨b, off, none⟩) n c) n (intsV zs)).blk = some b from hob]; exact hg) (fun _ _ => Iff.rfl)
    ⟨⟨by rw [intsV_len, hd, Nat.mul_one], .inr ⟨b, off, c, putCells (Value.int .i64) off d.toArray cur, rfl, hB, ⟨fz, by
        show (grow (Sort.putRow (Value.int .i64) (Sort.ahead g.w q) b off d.toArray) os).heap[b]? = _
        rw [heap_putRow g.w q b off d.toArray os b hlt, if_pos rfl, hh]; rfl, by rw [putCells_size]; exact hz⟩, hnc, hcm, by rw [putCells_size, Nat.mul_one]; exact hcs, by
        rw [Nat.mul_one]
        apply List.ext_getElem?
        intro j
        by_cases hj : j < n
        · rw [List.getElem?_take_of_lt hj, List.getElem?_drop, Array.getElem?_toList, putCells_at, Array.getElem?_eq_getElem (by omega), Option.map_some, if_pos ⟨by omega, by omega⟩, Nat.add_sub_cancel_left]
          unfold intsV
          rw [List.getElem?_map, List.getElem?_eq_getElem (by omega), Option.map_some]
          congr 2
          rw [getElem!_pos d.toArray j (by simp; omega)]
          simp
        · rw [List.getElem?_eq_none (by rw [List.length_take]; omega), List.getElem?_eq_none (by rw [intsV_len]; omega)]⟩⟩,
      fun x hx h => hown.2 x hx h⟩ (fun x hx => .inl hx)
  exact ⟨g', rfl, hst.1, hst.2⟩
theorem Row.holdsI {B b off n c : Nat} {e : TypeId} {zs : List Int} (h : Row B e 1 (.slice (some ⟨b, off, none⟩) n c) n (intsV zs) w) (hn : n ≠ 0) : Holds (Value.int .i64) w b off zs.toArray ∧ b < w.heap.size ∧ n = zs.length ∧ n ≤ c ∧ c ≤ maxLen := by
  obtain ⟨hxl, hr⟩ := h
  rw [intsV_len, Nat.mul_one] at hxl
  rcases hr with ⟨h0, _⟩ | ⟨b', off', cap, cur, e1, hB, ⟨fz, hh, hz⟩, hnc, hcm, hcs, htk⟩
  · exact absurd h0 hn
  simp only [Value.slice.injEq, Option.some.injEq, Addr.mk.injEq, true_and, and_true] at e1
  obtain ⟨⟨rfl, rfl⟩, rfl⟩ := e1
  rw [Nat.mul_one] at hcs htk
  refine ⟨fun j hj => ?_, (Array.getElem?_eq_some_iff.1 hh).1, hxl.symm, hnc, hcm⟩
  have hj : j < zs.length := by simpa using hj
  have hc : cur[off + j]? = some (.int .i64 zs.toArray[j]!) := by
    have : (intsV zs)[j]? = some (.int .i64 zs.toArray[j]!) := by
      unfold intsV
      rw [List.getElem?_map, List.getElem?_eq_getElem hj, Option.map_some, getElem!_pos zs.toArray j (by simpa using hj)]
      simp
    rw [← htk, List.getElem?_take_of_lt (by omega), List.getElem?_drop, Array.getElem?_toList] at this
    exact this
  refine ⟨by simp [World.cell?, hh, hc], ?_⟩
  rcases hz with rfl | hz
  · simp [World.frozen?, hh]
  · simp only [World.frozen?, hh, Bool.and_eq_false_iff, decide_eq_false_iff_not]
    left; omega
end Go.K

/- A region that draws its order, in which a chain of operations changes what is owned, stage by stage: what else there is may be done at every stage. -/
namespace Go.K
open Go Go.RowKit

variable {F : Fence} {P : Program} {N : Nat} {ds : List Deferred} {ops : Array Oper} {Q : Exit → Act → World → Prop} {φs : List Fact} {l0 : Env} {gd : G}

/-- Where an operation stands in the chain. -/
def posOf : List Nat → Nat → Option Nat
  | [], _ => none
  | e :: r, i => bif Nat.beq e i then some 0 else (posOf r i).map (· + 1)
theorem posOf_some : ∀ {es : List Nat} {i k : Nat}, posOf es i = some k → es[k]? = some i
  | [], i, k, h => by cases h
  | e :: r, i, k, h => by
    unfold posOf at h
    cases hb : Nat.beq e i with
    | true =>
      rw [hb] at h
      obtain rfl := Option.some.inj h
      rw [Nat.eq_of_beq_eq_true hb]; rfl
    | false =>
      rw [hb] at h
      cases hp : posOf r i with
      | none => rw [hp] at h; cases h
      | some k' =>
        rw [hp] at h
        obtain rfl := Option.some.inj h
        exact posOf_some (es := r) hp
theorem posOf_none : ∀ {es : List Nat} {i : Nat}, posOf es i = none → ∀ k : Nat, es[k]? ≠ some i
  | [], i, _, k => by simp
  | e :: r, i, h, k => by
    unfold posOf at h
    cases hb : Nat.beq e i with
    | true => rw [hb] at h; cases h
    | false =>
      rw [hb] at h
      cases hp : posOf r i with
      | some k' => rw [hp] at h; cases h
      | none =>
        cases k with
        | zero =>
          intro he
          obtain rfl : e = i := by simpa using he
          rw [Nat.beq_refl] at hb; cases hb
        | succ k => exact posOf_none hp k
/-- Each of the chain waits for the one before it. -/
def chainOk (ops : Array Oper) (es : List Nat) (m : Nat) : Bool :=
  (List.range es.length).all fun k => match es[k]? with
    | some e => (posOf es e == some k) && Nat.blt e m && (Nat.beq k 0 || (match es[k - 1]?, ops[e]? with | some p, some o => (edg o).contains p | _, _ => false))
    | none => false
theorem chainOk_at {es : List Nat} {m : Nat} (h : chainOk ops es m = true) : ∀ k e, es[k]? = some e → posOf es e = some k ∧ e < m ∧ (k ≠ 0 → ∃ p o, es[k - 1]? = some p ∧ ops[e]? = some o ∧ p ∈ edg o) := by
  intro k e hk
  have hlt := (List.getElem?_eq_some_iff.1 hk).1
  have := (List.all_eq_true.1 h) k (List.mem_range.2 hlt)
  rw [hk] at this
  simp only [Bool.and_eq_true, beq_iff_eq, Bool.or_eq_true] at this
  obtain ⟨⟨h1, h2⟩, h3⟩ := this
  refine ⟨h1, by simpa [Nat.blt_eq] using h2, fun hne => ?_⟩
  rcases h3 with h3 | h3
  · exact absurd (Nat.eq_of_beq_eq_true h3) hne
  · cases hp : es[k - 1]? with
    | none => rw [hp] at h3; simp at h3
    | some p =>
      cases ho : ops[e]? with
      | none => rw [hp, ho] at h3; simp at h3
      | some o =>
        rw [hp, ho] at h3
        exact ⟨p, o, rfl, rfl, by simpa using h3⟩

def EffJ (es : List Nat) (J : Nat → G → Prop) (s i : Nat) (g g' : G) : Prop := match posOf es i with
  | some _ => g.le g' ∧ J (s + 1) g'
  | none => Fr0 g g'
def StepJ (F : Fence) (P : Program) (N : Nat) (ds : List Deferred) (ops : Array Oper) (Q : Exit → Act → World → Prop) (φs : List Fact) (l0 : Env) (gd : G) (es : List Nat) (J : Nat → G → Prop) (i : Nat) (o : Oper) : Prop :=
  ∀ s g', gd.le g' → J s g' → (∀ k, posOf es i = some k → s = k) → QA φs g' (needs ops o) l0 fun env =>
    match gdx ops env o.guard with
    | some true => OpR F P N ds o env g'.w Q fun v w' => ∃ g'', g''.w = w' ∧ EffJ es J s i g' g'' ∧ (fct φs i).p v g''
    | some false => posOf es i = none ∧ (fct φs i).p undef g'
    | none => False
def StepsJ (F : Fence) (P : Program) (N : Nat) (ds : List Deferred) (ops : Array Oper) (Q : Exit → Act → World → Prop) (φs : List Fact) (l0 : Env) (gd : G) (es : List Nat) (J : Nat → G → Prop) : Nat → List Oper → Prop
  | _, [] => True
  | i, o :: os => StepJ F P N ds ops Q φs l0 gd es J i o ∧ StepsJ F P N ds ops Q φs l0 gd es J (i + 1) os
theorem StepsJ.at {es : List Nat} {J : Nat → G → Prop} : ∀ {l : List Oper} {i0 : Nat}, StepsJ F P N ds ops Q φs l0 gd es J i0 l → ∀ (j : Nat) o, l[j]? = some o → StepJ F P N ds ops Q φs l0 gd es J (i0 + j) o
  | [], _, _, j, o, h => by simp at h
  | x :: l, i0, hs, 0, o, h => by
    simp only [List.getElem?_cons_zero, Option.some.injEq] at h
    subst h
    exact hs.1
  | x :: l, i0, hs, j + 1, o, h => by
    simp only [List.getElem?_cons_succ] at h
    have := StepsJ.at (i0 := i0 + 1) hs.2 j o h
    rw [show i0 + (j + 1) = i0 + 1 + j from by omega]
    exact this

theorem W_drawJ {id : Nat} {g : G} (hF : ∀ f, F.fn f) (hm : P.follows .mixedOrders = true) (φs : List Fact) (m : Nat) (outs : List (Nat × Nat)) (es : List Nat) (J : Nat → G → Prop) (hJ : ∀ s g g', Fr0 g g' → J s g → J s g') (hJ0 : J 0 g.dr) (hok : drawOk N ops l0 m = true) (hes : chainOk ops es m = true) (hsoft : SoftL [] 0 φs)
    (houts : outs.all (fun p => Nat.blt p.1 m && (dstOf ops p.1 == some p.2)) = true)
    (hsteps : StepsJ F P N ds ops Q φs l0 g.dr es J 0 (ops.toList.take m))
    (hend : ∀ g', g.dr.le g' → J es.length g' → QA φs g' outs l0 fun env => WL F P N ds ops Q (ops.toList.drop m) env g'.w) : W F P N ds (.region id ops true) Q l0 g.w := by
  intro a ha
  simp only [drawOk, Bool.and_eq_true, List.all_eq_true, List.mem_range] at hok
  obtain ⟨⟨⟨c1, c2⟩, c3⟩, c4⟩ := hok
  have c4 : m ≤ ops.size := Nat.le_of_ble_eq_true c4
  have k1 : ∀ i o, ops[i]? = some o → ∀ j ∈ edg o, j < i := by
    intro i o ho j hj
    have := c1 i (Array.getElem?_eq_some_iff.1 ho).1
    rw [ho] at this
    have := (List.all_eq_true.1 this) j hj
    simpa [Nat.blt_eq] using this
  have k2 : ∀ j o, m ≤ j → ops[j]? = some o → ∀ k, k < j → ∃ i' o', k < i' ∧ i' ≤ j ∧ ops[i']? = some o' ∧ k ∈ edg o' := by
    intro j o hj ho k hk
    have := c2 j (Array.getElem?_eq_some_iff.1 ho).1
    simp only [Bool.or_eq_true] at this
    rcases this with h | h
    · have : j < m := by simpa [Nat.blt_eq] using h
      omega
    · have := (List.all_eq_true.1 h) k (List.mem_range.2 hk)
      obtain ⟨i', h1, h2⟩ := List.any_eq_true.1 this
      simp only [Bool.and_eq_true] at h2
      have h3 := List.mem_range.1 h1
      cases ho' : ops[i']? with
      | none => rw [ho'] at h2; simp at h2
      | some o' =>
        rw [ho'] at h2
        exact ⟨i', o', by simpa [Nat.blt_eq] using h2.1, by omega, ho', by simpa using h2.2⟩
  -- where all that an operation waits for is listed, all ahead of it is
  have k4 : ∀ (listed : Array Bool), (∀ k o, listed.getD k false = true → ops[k]? = some o → ∀ e ∈ edg o, listed.getD e false = true) → ∀ j o, m ≤ j → ops[j]? = some o → (∀ e ∈ edg o, listed.getD e false = true) → ∀ k, k < j → listed.getD k false = true := by
    intro listed hcl j o hj ho hall
    have : ∀ d k, k < j → j - k = d → listed.getD k false = true := by
      intro d
      induction d using Nat.strongRecOn with
      | _ d ihd =>
        intro k hk hd
        obtain ⟨i', o', h1, h2, h3, h4⟩ := k2 j o hj ho k hk
        rcases Nat.lt_or_ge i' j with h | h
        · exact hcl i' o' (ihd (j - i') (by omega) i' h rfl) h3 k h4
        · obtain rfl : i' = j := by omega
          rw [ho] at h3
          obtain rfl := Option.some.inj h3
          exact hall k h4
    exact fun k hk => this _ k hk rfl
  have k3 : ∀ i, i < m → ∃ d, dstOf ops i = some d ∧ d < N ∧ lk l0 d = none ∧ ∀ j, j < m → j ≠ i → ∃ e, dstOf ops j = some e ∧ e ≠ d := by
    intro i hi
    have := c3 i hi
    cases hd : dstOf ops i with
    | none => simp [hd] at this
    | some d =>
      simp only [hd, Bool.and_eq_true, List.all_eq_true, List.mem_range, Bool.or_eq_true] at this
      refine ⟨d, rfl, by simpa [Nat.blt_eq] using this.1.1, by simpa using this.1.2, fun j hj hne => ?_⟩
      rcases this.2 j hj with h | h
      · exact absurd (by simpa using h) hne
      · cases he : dstOf ops j with
        | none => simp [he] at h
        | some e => exact ⟨e, rfl, by simpa [he] using h⟩
  have ch := chainOk_at hes
  let INV : Array Bool → G → Prop := fun listed g' => g.dr.le g' ∧ ∃ s, s ≤ es.length ∧ (∀ k e, es[k]? = some e → (listed.getD e false = true ↔ k < s)) ∧ J s g'
  have hfin : ∀ listed g', INV listed g' → (∀ j, j < m → listed.getD j false = true) → g.dr.le g' ∧ J es.length g' := by
    rintro listed g' ⟨h1, s, h2, h3, h4⟩ hall
    refine ⟨h1, ?_⟩
    have : s = es.length := by
      apply Classical.byContradiction
      intro hne
      have hlt : s < es.length := by omega
      have he := List.getElem?_eq_getElem hlt
      have := (h3 s _ he).1 (hall _ (ch s _ he).2.1)
      omega
    rw [← this]; exact h4
  refine wpIn_region_any hm ?_
  -- the relation
  have key : ∀ (fuel : Nat) (listed : Array Bool) (a : Act) (g' : G), listed.size = ops.size → INV listed g' → Fr N ds l0 a →
      (∀ i, i < m → listed.getD i false = true → ∃ d v, dstOf ops i = some d ∧ a.tmps[d]? = some v ∧ (fct φs i).p v g') → (∀ j, m ≤ j → j < ops.size → listed.getD j false = false) → (∀ k o, listed.getD k false = true → ops[k]? = some o → ∀ e ∈ edg o, listed.getD e false = true) →
      (ops.size - ((List.range ops.size).filter fun i => listed.getD i false).length ≤ fuel) → wpAnyIn F 0 P .any ops Q fuel listed a g'.w := by
    intro fuel
    induction fuel with
    | zero =>
      intro listed a g' hsz hf ha hfacts htail hcl hfuel
      have hall : ∀ j, j < ops.size → listed.getD j false = true := by
        have hlen : ((List.range ops.size).filter fun i => listed.getD i false).length = (List.range ops.size).length := by
          have := List.length_filter_le (fun i => listed.getD i false) (List.range ops.size)
          simp only [List.length_range] at this ⊢
          omega
        have := List.length_filter_eq_length_iff.1 hlen
        intro j hj
        exact this j (List.mem_range.2 hj)
      have hme : m = ops.size := by
        rcases Nat.lt_or_ge m ops.size with h | h
        · have := htail m (Nat.le_refl _) h; rw [hall m h] at this; cases this
        · omega
      have hfi := hfin listed g' hf (fun j hj => hall j (by omega))
      obtain ⟨env, hW, henv⟩ := QA_use outs (hend g' hfi.1 hfi.2) ha (fun p hp => by
        have := (List.all_eq_true.1 houts) p hp
        simp only [Bool.and_eq_true, beq_iff_eq] at this
        have hlt : p.1 < m := by simpa [Nat.blt_eq] using this.1
        obtain ⟨d, v, hd, hv, hfv⟩ := hfacts p.1 hlt (hall _ (by omega))
        rw [this.2] at hd
        obtain rfl := Option.some.inj hd
        exact ⟨v, hv, hfv⟩)
      refine tail_run k1 0 ops.size listed a g'.w hsz (Nat.le_refl _) (fun j o hj ho => ?_) (fun j hj => ⟨fun _ => hj, fun _ => hall j hj⟩) (by omega) (by rw [← hme]; exact hW a henv)
      have := (Array.getElem?_eq_some_iff.1 ho).1
      omega
    | succ fuel ih =>
      intro listed a g' hsz hf ha hfacts htail hcl hfuel
      by_cases hpre : ∀ j, j < m → listed.getD j false = true
      · have hfi := hfin listed g' hf hpre
        obtain ⟨env, hW, henv⟩ := QA_use outs (hend g' hfi.1 hfi.2) ha (fun p hp => by
          have := (List.all_eq_true.1 houts) p hp
          simp only [Bool.and_eq_true, beq_iff_eq] at this
          have hlt : p.1 < m := by simpa [Nat.blt_eq] using this.1
          obtain ⟨d, v, hd, hv, hfv⟩ := hfacts p.1 hlt (hpre _ hlt)
          rw [this.2] at hd
          obtain rfl := Option.some.inj hd
          exact ⟨v, hv, hfv⟩)
        refine tail_run k1 (fuel + 1) m listed a g'.w hsz c4 (fun j o hj ho => k2 j o hj ho) (fun j hj => ⟨fun h => ?_, fun h => hpre j h⟩) ?_ (hW a henv)
        · rcases Nat.lt_or_ge j m with h' | h'
          · exact h'
          · rw [htail j h' hj] at h; cases h
        · have hle : ((List.range ops.size).filter fun i => listed.getD i false).length ≤ m := by
            have hsub : ((List.range ops.size).filter fun i => listed.getD i false).length ≤ ((List.range ops.size).filter fun i => decide (i < m)).length := by
              refine List.Sublist.length_le ?_
              rw [show ((List.range ops.size).filter fun i => listed.getD i false) = ((List.range ops.size).filter fun i => decide (i < m)).filter (fun i => listed.getD i false) from ?_]
              · exact List.filter_sublist
              · rw [List.filter_filter]
                refine List.filter_congr fun i hi => ?_
                have hi := List.mem_range.1 hi
                by_cases h : i < m
                · simp [h]
                · rw [htail i (by omega) hi]; simp
            have : ((List.range ops.size).filter fun i => decide (i < m)).length = m := by
              have e : ops.size = m + (ops.size - m) := by omega
              rw [e, List.range_add, List.filter_append, List.length_append, List.filter_eq_self.2 (by intro x hx; simpa using hx), List.filter_eq_nil_iff.2 (by
                intro x hx
                obtain ⟨y, _, rfl⟩ := List.mem_map.1 hx
                simp)]
              simp
            omega
          omega
      · -- something of the first part is not listed: the least such is ready
        have hex : ∃ j, j < m ∧ listed.getD j false = false ∧ ∀ k, k < j → listed.getD k false = true := by
          have : ∃ j, j < m ∧ listed.getD j false = false := by
            apply Classical.byContradiction
            intro hno
            apply hpre
            intro j hj
            cases hc : listed.getD j false with
            | true => rfl
            | false => exact absurd ⟨j, hj, hc⟩ hno
          obtain ⟨j, hj⟩ := this
          induction j using Nat.strongRecOn with
          | _ j ihj =>
            by_cases hk : ∃ k, k < j ∧ listed.getD k false = false
            · obtain ⟨k, hk1, hk2⟩ := hk
              exact ihj k hk1 ⟨by omega, hk2⟩
            · refine ⟨j, hj.1, hj.2, fun k hk1 => ?_⟩
              cases hc : listed.getD k false with
              | true => rfl
              | false => exact absurd ⟨k, hk1, hc⟩ hk
        obtain ⟨j0, hj0, hj1, hj2⟩ := hex
        have hready : j0 ∈ Region.ready .any ops listed := by
          rw [ready_iff]
          have hlt : j0 < ops.size := by omega
          refine ⟨by rw [getD_lt (hsz ▸ hlt) true false]; exact hj1, _, Array.getElem?_eq_getElem hlt, fun k hk => hj2 k (k1 j0 _ (Array.getElem?_eq_getElem hlt) k hk)⟩
        refine ⟨fun h0 => (by rw [h0] at hready; cases hready), fun i hi => ?_⟩
        obtain ⟨h0, o, ho, hall⟩ := ready_iff.1 hi
        have hilt : i < ops.size := (Array.getElem?_eq_some_iff.1 ho).1
        rw [getD_lt (hsz ▸ hilt) true false] at h0
        have him : i < m := by
          rcases Nat.lt_or_ge i m with h | h
          · exact h
          · have := k4 listed hcl i o h ho hall j0 (by omega); rw [hj1] at this; cases this
        obtain ⟨d, hd, hdN, hd0, hdne⟩ := k3 i him
        have hod : o.dst = some d := by unfold dstOf at hd; rw [ho] at hd; exact hd
        have hstep := hsteps.at (i0 := 0) i o (by rw [List.getElem?_take_of_lt him]; simpa using ho)
        rw [Nat.zero_add] at hstep
        have hneeds : ∀ p ∈ needs ops o, ∃ v, a.tmps[p.2]? = some v ∧ (fct φs p.1).p v g' := by
          intro p hp
          unfold needs at hp
          obtain ⟨j, hj, hjp⟩ := List.mem_filterMap.1 hp
          cases hdj : dstOf ops j with
          | none => simp [hdj] at hjp
          | some e =>
            simp only [hdj] at hjp
            have hjm : j < m := by have := k1 i o ho j hj; omega
            obtain ⟨d', v, hd', hv, hfv⟩ := hfacts j hjm (hall j hj)
            rw [hdj] at hd'
            obtain rfl := Option.some.inj hd'
            have hjp2 : ∀ (c : Bool) (q : Nat × Nat), (bif c then some q else none) = some p → q = p := by
              intro c q h
              cases c with
              | true => exact Option.some.inj h
              | false => cases h
            obtain rfl := hjp2 _ _ hjp
            exact ⟨v, hv, hfv⟩
        obtain ⟨hgl, s, hs1, hs2, hs3⟩ := hf
        have hpos : ∀ k, posOf es i = some k → s = k := by
          intro k hk
          have hek := posOf_some hk
          have h1 : ¬ k < s := fun h => by have := (hs2 k i hek).2 h; rw [this] at h0; cases h0
          rcases Nat.eq_zero_or_pos k with h | h
          · omega
          · obtain ⟨p, o', hp1, hp2, hp3⟩ := (ch k i hek).2.2 (by omega)
            rw [ho] at hp2
            obtain rfl := Option.some.inj hp2
            have := (hs2 (k - 1) p hp1).1 (hall p hp3)
            omega
        obtain ⟨env, hk, henv⟩ := QA_use (needs ops o) (hstep s g' hgl hs3 hpos) ha hneeds
        -- what is asked behind the operation
        have hnext : ∀ (a' : Act) (g'' : G) (v : Value), a' = a.put o.dst v → EffJ es J s i g' g'' → (fct φs i).p v g'' → wpAnyIn F 0 P .any ops Q fuel (listed.setIfInBounds i true) a' g''.w := by
          intro a' g'' v he hf' hfv
          have hput : ∀ t, t ≠ d → a'.tmps[t]? = a.tmps[t]? := fun t ht => by
            rw [he, hod]
            simp only [Act.put]
            rw [Array.getElem?_setIfInBounds_ne (fun e => ht e.symm)]
          have hself : a'.tmps[d]? = some v := by
            rw [he, hod]
            simp only [Act.put]
            rw [Array.getElem?_setIfInBounds_self, if_pos (by rw [ha.size]; exact hdN)]
          have hset : ∀ k, k ≠ i → (listed.setIfInBounds i true).getD k false = listed.getD k false := fun k hk => by
            simp only [Array.getD_eq_getD_getElem?]
            rw [Array.getElem?_setIfInBounds_ne (fun e => hk e.symm)]
          have hsetself : (listed.setIfInBounds i true).getD i false = true := by simp [hsz, hilt]
          have hgle : g'.le g'' := by
            unfold EffJ at hf'
            split at hf'
            · exact hf'.1
            · exact hf'.le
          have hinv : INV (listed.setIfInBounds i true) g'' := by
            refine ⟨hgl.trans hgle, ?_⟩
            unfold EffJ at hf'
            cases hpi : posOf es i with
            | none =>
              rw [hpi] at hf'
              refine ⟨s, hs1, fun k e hke => ?_, hJ s _ _ hf' hs3⟩
              have hne : e ≠ i := fun h => posOf_none hpi k (by rw [← h]; exact hke)
              rw [hset e hne]; exact hs2 k e hke
            | some k0 =>
              rw [hpi] at hf'
              have hsk := hpos k0 hpi
              have hek := posOf_some hpi
              have hlt := (List.getElem?_eq_some_iff.1 hek).1
              refine ⟨s + 1, by omega, fun k e hke => ?_, hf'.2⟩
              by_cases hei : e = i
              · subst hei
                have h1 := (ch k e hke).1
                rw [hpi] at h1
                obtain rfl := Option.some.inj h1
                exact ⟨fun _ => by omega, fun _ => hsetself⟩
              · rw [hset e hei, hs2 k e hke]
                have hkk : k ≠ k0 := fun h => by subst h; rw [hek] at hke; exact hei (Option.some.inj hke).symm
                omega
          refine ih _ a' g'' (by simpa using hsz) hinv ⟨by rw [he, hod]; exact ha.defers, by rw [he, hod]; simp [Act.put, ha.size], fun t u hu => ?_⟩ (fun k hk hkl => ?_) (fun j hj hjs => ?_) (fun k o' hk hko e he => ?_) ?_
          · have htd : t ≠ d := fun e => by subst e; rw [hd0] at hu; cases hu
            rw [hput t htd]; exact ha.get t u hu
          · by_cases hki : k = i
            · subst hki
              exact ⟨d, v, hd, hself, hfv⟩
            · rw [hset k hki] at hkl
              obtain ⟨d', v', hd', hv', hfv'⟩ := hfacts k hk hkl
              obtain ⟨e, he1, he2⟩ := hdne k hk hki
              rw [hd'] at he1
              obtain rfl := Option.some.inj he1
              exact ⟨d', v', hd', by rw [hput d' he2]; exact hv', (SoftL.at hsoft k).elim (fun h => by simp at h) fun h => h _ _ _ hgle hfv'⟩
          · rw [hset j (by omega)]
            exact htail j hj hjs
          · have hle : ∀ x, listed.getD x false = true → (listed.setIfInBounds i true).getD x false = true := fun x hx => by
              by_cases hxi : x = i
              · subst hxi; exact hsetself
              · rw [hset x hxi]; exact hx
            by_cases hki : k = i
            · subst hki
              rw [ho] at hko
              obtain rfl := Option.some.inj hko
              exact hle e (hall e he)
            · rw [hset k hki] at hk
              exact hle e (hcl k o' hk hko e he)
          · have hlt : ((List.range ops.size).filter fun k => listed.getD k false).length < ((List.range ops.size).filter fun k => (listed.setIfInBounds i true).getD k false).length := by
              have hsub : List.Sublist ((List.range ops.size).filter fun k => listed.getD k false) ((List.range ops.size).filter fun k => (listed.setIfInBounds i true).getD k false) := by
                have e : ((List.range ops.size).filter fun k => listed.getD k false) = ((List.range ops.size).filter fun k => (listed.setIfInBounds i true).getD k false).filter (fun k => listed.getD k false) := by
                  rw [List.filter_filter]
                  refine List.filter_congr fun k _ => ?_
                  by_cases hki : k = i
                  · subst hki; rw [hsetself]; simp
                  · rw [hset k hki]; simp
                rw [e]
                exact List.filter_sublist
              refine Nat.lt_of_le_of_ne hsub.length_le fun e => ?_
              have := hsub.eq_of_length e
              have hin : i ∈ ((List.range ops.size).filter fun k => (listed.setIfInBounds i true).getD k false) := List.mem_filter.2 ⟨List.mem_range.2 hilt, hsetself⟩
              rw [← this] at hin
              have := (List.mem_filter.1 hin).2
              rw [h0] at this
              cases this
            omega
        unfold wpOpIn
        rw [ho]
        simp only
        cases hg : gdx ops env o.guard with
        | none => rw [hg] at hk; exact hk.elim
        | some b =>
          have hwant : Region.wanted o (yielded ops a.tmps) = b := gdx_spec (l := env) (o := o) hg henv
          rw [hg] at hk
          cases b with
          | true =>
            rw [if_pos hwant]
            exact Oper.wpIn_mono (fun a' w' ⟨v, he, g'', hw, hf', hfv⟩ => hw ▸ hnext a' g'' v he hf' hfv) (hk a henv)
          | false =>
            rw [if_neg (by rw [hwant]; simp)]
            exact ⟨fun f _ => hF f, hnext _ g' undef rfl (by unfold EffJ; rw [hk.1]; exact Fr0.refl _) hk.2⟩
  refine key ops.size _ a g.dr (by simp) ⟨G.le.refl _, 0, Nat.zero_le _, fun k e _ => ⟨fun h => by
    simp only [Array.getD_eq_getD_getElem?, Array.getElem?_replicate] at h
    split at h <;> simp at h, fun h => by omega⟩, hJ0⟩ ha (fun i hi hl => ?_) (fun j _ hj => by simp [hj]) (fun k o hl => ?_) (by omega)
  · simp only [Array.getD_eq_getD_getElem?, Array.getElem?_replicate] at hl
    split at hl <;> simp at hl
  · simp only [Array.getD_eq_getD_getElem?, Array.getElem?_replicate] at hl
    split at hl <;> simp at hl


/-! ### Its steps -/
variable {es : List Nat} {J : Nat → G → Prop} {os : List Oper} {o : Oper} {l : Env} {g : G}
theorem J_cons {i : Nat} (h : StepJ F P N ds ops Q φs l0 gd es J i o) (h2 : StepsJ F P N ds ops Q φs l0 gd es J (i + 1) os) : StepsJ F P N ds ops Q φs l0 gd es J i (o :: os) := ⟨h, h2⟩
theorem J_nil {i : Nat} : StepsJ F P N ds ops Q φs l0 gd es J i [] := trivial
/-- One that changes nothing. -/
theorem J_free {i : Nat} {js : List (Nat × Nat)} (hj : needs ops o = js) (hp : posOf es i = none) (h : ∀ s g', gd.le g' → J s g' → QA φs g' js l0 (DK F P N ds ops Q (fct φs i) g' o)) : StepJ F P N ds ops Q φs l0 gd es J i o := by
  subst hj
  intro s g' hf hs _
  refine QA_mono _ _ _ _ (fun env hd => ?_) (h s g' hf hs)
  unfold DK at hd
  unfold EffJ
  rw [hp]
  cases hg : gdx ops env o.guard with
  | none => rw [hg] at hd; exact hd
  | some b =>
    rw [hg] at hd
    cases b with
    | true => exact hd
    | false => exact ⟨rfl, hd⟩
/-- One of the chain. -/
def DJ (F : Fence) (P : Program) (N : Nat) (ds : List Deferred) (ops : Array Oper) (Q : Exit → Act → World → Prop) (φ : Fact) (g' : G) (J' : G → Prop) (o : Oper) (env : Env) : Prop :=
  gdx ops env o.guard = some true ∧ OpR F P N ds o env g'.w Q fun v w' => ∃ g'', g''.w = w' ∧ (g'.le g'' ∧ J' g'') ∧ φ.p v g''
theorem J_eat {i : Nat} (k : Nat) {js : List (Nat × Nat)} (hj : needs ops o = js) (hp : posOf es i = some k) (h : ∀ g', gd.le g' → J k g' → QA φs g' js l0 (DJ F P N ds ops Q (fct φs i) g' (J (k + 1)) o)) : StepJ F P N ds ops Q φs l0 gd es J i o := by
  subst hj
  intro s g' hf hs hk
  obtain rfl := hk k hp
  refine QA_mono _ _ _ _ (fun env hd => ?_) (h g' hf hs)
  obtain ⟨hg, hd⟩ := hd
  rw [hg]
  unfold EffJ
  rw [hp]
  exact hd
end Go.K

/- Calls that return or panic, as a condition says. -/
namespace Go.K
open Go Go.RowKit

variable {F : Fence} {P : Program} {N : Nat} {ds : List Deferred} {l l' : Env} {a : Act} {w : World} {Q : Exit → Act → World → Prop} {ops : Array Oper} {os : List Oper} {o : Oper}
variable {g0 g g1 : G} {L : List Ent} {K : Value → World → Prop} {R : G → Value → Prop} {ch : List PanicEntry} {b : Prop}

/-- It returns, or, where b, it panics; what was there is as it was. -/
def Orp (g : G) (R : G → Value → Prop) (ch : List PanicEntry) (b : Prop) : Ending → World → Prop := fun e w' => Ret g R e w' ∨ (b ∧ BoomS g ch (fun g' => Fr0 g g') e w')
theorem Orp.ok {e : Ending} {w' : World} (h : Ret g R e w') : Orp g R ch b e w' := .inl h
theorem Orp.boom (hb : b) (hf : Fr0 g g1) : Orp g R ch b (.panicked ch) g1.w := .inr ⟨hb, g1, rfl, rfl, hf.le, hf⟩
theorem OpR_orp {f : FuncId} (hc : Callable P f) (hF : ∀ f, F.fn f) (hdep : F.depth = none) {x : Operand} {args : Array Operand} {ts : Array TypeId} {first captured : Array Value} {vs as' : List Value}
    (ho : o.op = .call { callee := .value x, args, argTypes := ts }) (hx : ev l x = some (.func (.func f) first captured)) (ha : evs l args.toList = some vs) (has : first.toList ++ vs ++ captured.toList = as')
    (h : CallsIn F 0 P f as'.toArray g.w (Orp g R ch b)) (k : ∀ g' v, Fr0 g g' → R g' v → K v g'.w) (kb : b → ∀ g', Fr0 g g' → ∀ a, Fr N ds l a → Q (.panic ch) a g'.w) : OpR F P N ds o l g.w Q K :=
  OpR_callE hc hF hdep ho hx ha has (CallsIn.mono h fun _ _ hh => by
    rcases hh with ⟨g', v, hw, hf, he, hr⟩ | ⟨hb, g', hw, he, _, hf⟩
    · exact .inl ⟨v, he, hw ▸ k g' v hf hr⟩
    · exact .inr ⟨ch, he, hw ▸ kb hb g' hf⟩)
def notI : TypeDesc → Bool
  | .interface .. => false
  | _ => true
theorem OpR_mkI {t : TypeId} {d : TypeDesc} {x : Operand} {v : Value} (ho : o.op = .makeInterface t x) (hd : P.underlying t = some d) (hn : notI d = true) (hx : ev l x = some v) (k : K (.iface t v) w) : OpR F P N ds o l w Q K :=
  OpR_value (fun c => ⟨by rw [ho]; simp, by rw [ho]; simp⟩) (fun a ha => by
    cases d <;> first | (simp [notI] at hn; done) | simp [execOp, ho, ha.ev hx, Instr.makeInterface, run_underlying hd]) k
def isNilI : Value → Option Bool
  | .nilIface => some true
  | .iface _ _ => some false
  | _ => none
/-- Is it the nil interface? -/
theorem OpR_nilI {t t' : TypeId} {d : TypeDesc} {x : Operand} {v : Value} {b neg : Bool} (ho : o.op = .binOp (if neg then .neq else .eql) t x (.const .nilIface) t') (hd : P.underlying t = some d) (hn : notI d = false) (hx : ev l x = some v) (hb : isNilI v = some b) (k : K (.bool (neg != b)) w) : OpR F P N ds o l w Q K :=
  OpR_value (fun c => ⟨by rw [ho]; simp, by rw [ho]; simp⟩) (fun a ha => by
    have hq : (Op.equal t v .nilIface).run P w = .ok b w := by
      show (Op.equalIn (9999 + 1) t v .nilIface).run P w = _
      unfold Op.equalIn
      cases d <;> first | (simp [notI] at hn; done) | (cases v <;> simp [isNilI] at hb <;> subst hb <;> simp [run_underlying hd])
    have hg : ∀ op, (eqGuard op t x (.const .nilIface) v .nilIface).run P w = .ok () w := fun op => by
      unfold eqGuard
      cases v <;> simp [isNilI] at hb <;> (split <;> simp)
    have he : a.eval (.const .nilIface) = .nilIface := rfl
    cases neg <;> simp [execOp, ho, ha.ev hx, he, hg, binOp, hq]) k
end Go.K
