/- Builders, single operations, deferred calls, functions that answer or stop. -/
import Derived.Test.YtnggomfbgmlkhaaGreatDoorYg
import Derived.Shelf.Strings.BuilderK
import Derived.Laws.Externs
import Derived.RecoverIn

/- A strings.Builder among the owned things: its block, its buffer's block. -/
namespace Go.K
open Go Go.RowKit

variable {F : Fence} {P : Program} {N : Nat} {ds : List Deferred} {l l' : Env} {a : Act} {w : World} {Q : Exit → Act → World → Prop} {ops : Array Oper} {os : List Oper} {o : Oper}
variable {g0 g : G} {L L' : List Ent} {K : Value → World → Prop} {R : Ending → World → Prop}

/-- A buffer that nobody else has seen. -/
def BdRow (e : TypeId) (v : Value) (xs : List UInt8) (Lr : List Ent) : Prop :=
 (v = .slice none 0 0 ∧ xs = [] ∧ Lr = []) ∨ ∃ br cap cur, v = .slice (some ⟨br, 0, none⟩) xs.length cap ∧ Lr = [.obj br (.cells cur e (0, 0))] ∧ xs.length ≤ cap ∧ cap ≤ maxLen ∧ cur.size = cap ∧ cur.toList.take xs.length = byteV xs
theorem BdRow.nil (e : TypeId) : BdRow e (.slice none 0 0) [] [] := .inl ⟨rfl, rfl, rfl⟩
theorem strCells_bs (s : List UInt8) : Lib.strCells (bs s) = byteV s := by simp [Lib.strCells, byteV, bs]
theorem byteV_length (s : List UInt8) : (byteV s).length = s.length := by simp [byteV]
theorem byteV_app (s t : List UInt8) : byteV (s ++ t) = byteV s ++ byteV t := by simp [byteV]

theorem run_append_bd {tb : Tb} (htb : tb.ok P) {t u e ty : Nat} {ti ei ui : TI} {v : Value} {xs ys : List UInt8} {Lr : List Ent} (hb : BdRow e v xs Lr) (hs : St g0 g (Lr ++ L))
  (hi : tl tb t = some ti) (hd : ti.desc = .slice e) (hu : tl tb u = some ui) (hud : ui.desc = .string) (hj : tl tb e = some ei) (hk : ei.size = 1) (hby : ei.bytes = 1) (hz : ei.zero = .int .u8 0) (hlen : xs.length + ys.length ≤ 140737488355328) :
  ∃ v' Lr' g', (Builtin.append_ #[t, u] ty #[v, .string (bs ys)]).run P g.w = .ok v' g'.w ∧ BdRow e v' (xs ++ ys) Lr' ∧ St g0 g' (Lr' ++ L) ∧ g.le g' := by
 obtain ⟨⟨dd, hu1, he⟩, _⟩ := htb.at hi
 rw [hd] at he
 obtain rfl := KD.of_slice he
 obtain ⟨⟨dd, hu2, he⟩, _⟩ := htb.at hu
 rw [hud] at he
 obtain rfl := KD.of_string he
 obtain ⟨_, inf, e1, e2, e3, e4⟩ := htb.at hj
 rw [hk] at e2; rw [hby] at e3; rw [hz] at e4
 have hsz : (bs ys).size = ys.length := bs_size ys
 have hml : xs.length + ys.length ≤ maxLen := by unfold maxLen; omega
 have newrow : ∀ (old : Nat) (cs : List Value), cs.length = xs.length + ys.length → old < xs.length + ys.length → cs = byteV (xs ++ ys) →
   BdRow e (.slice (some ⟨g.w.heap.size, 0, none⟩) (xs.length + ys.length) (grownCap g.w (xs.length + ys.length) old e)) (xs ++ ys)
    [.obj g.w.heap.size (.cells (cs.toArray ++ Builtin.zeroCells (Value.int .u8 0).cells (grownCap g.w (xs.length + ys.length) old e - (xs.length + ys.length))) e (0, 0))] := by
  intro old cs hcl ho hc
  have hge := grownCap_ge g.w (xs.length + ys.length) old e
  have hcm : grownCap g.w (xs.length + ys.length) old e ≤ maxLen := grownCap_le_maxLen g.w (xs.length + ys.length) old e hml
  refine .inr ⟨_, _, _, by rw [List.length_append], rfl, by rw [List.length_append]; exact hge, hcm, ?_, ?_⟩
  ·have hz1 : (Value.int IntKind.u8 0).cells.size = 1 := rfl
   simp only [Array.size_append, List.size_toArray, size_zeroCells, hz1, hcl]
   omega
  ·rw [← hc, List.length_append, ← hcl]
   simp only [Array.toList_append]
   exact List.take_left
 rcases hb with ⟨rfl, rfl, rfl⟩ | ⟨br, cap, cur, rfl, rfl, hnc, hcm, hcs, htk⟩
 ·by_cases hm : ys.length = 0
  ·have hys : ys = [] := List.eq_nil_of_length_eq_zero hm
   subst hys
   refine ⟨.slice none 0 0, [], g, ?_, .inl ⟨rfl, rfl, rfl⟩, hs, G.le.refl g⟩
   have hf := Lib.run_firstCells_string (P := P) g.w 1 (bs [])
   rw [hsz, List.length_nil] at hf
   simp [Builtin.append_, run_underlying hu1, run_underlying hu2, sizeOf, typeInfo, e1, e2, Builtin.lenOf, hsz, hf]
  ·have hr := run_append_nil_string (P := P) (ty := ty) g.w t u e inf (.int .u8 0) hu1 hu2 e1 e4 (bs ys) (by rw [hsz]; omega) (by rw [hsz]; omega) (by rw [e3, hsz]; omega)
   have e5 : ((bs ys).data.map fun b => Value.int .u8 b.toNat) = (byteV ys).toArray := by
    apply Array.ext'
    simp [byteV, bs]
   rw [e5, hsz] at hr
   have hnr := newrow 0 (byteV ys) (by simp [byteV]) (by simp only [List.length_nil]; omega) (by simp)
   simp only [List.length_nil, Nat.zero_add] at hnr
   have hg : g.w.grownBy (g.w.drew.alloc (.cells ((byteV ys).toArray ++ Builtin.zeroCells (Value.int .u8 0).cells (grownCap g.w ys.length 0 e - ys.length)) e)) none := ⟨rfl, rfl, rfl, by simp, fun k hk _ => heap_alloc_old g.w.drew _ k hk⟩
   let g' : G := ⟨_, g.im, fun b h => Nat.lt_of_lt_of_le (g.lt b h) hg.size⟩
   have hst := hs.add (g' := g') (e' := .obj g.w.heap.size (.cells ((byteV ys).toArray ++ Builtin.zeroCells (Value.int .u8 0).cells (grownCap g.w ys.length 0 e - ys.length)) e)) hg (fun _ _ => Iff.rfl)
    ⟨hs.below.size, heap_alloc_new g.w.drew _, fun h => by have := g.lt _ h; omega⟩ (fun b hb => by simp only [Ent.blk, Option.some.injEq] at hb; omega)
   exact ⟨_, _, g', hr, hnr, hst.1, hst.2⟩
 ·have hown := hs.own 0 _ rfl
  have hh : g.w.heap[br]? = some (.cells cur e (0, 0)) := hown.2.1
  by_cases hroom : xs.length + ys.length ≤ cap
  ·have hr := Lib.run_append_room_string (P := P) g.w t u ty e inf hu1 hu2 e1 e2 br xs.length cap cur hh (bs ys) (by rw [hsz]; exact hroom) (by rw [hsz]; omega)
   rw [hsz, strCells_bs] at hr
   have hst := hs.sr (i := 0) (cs' := (cur.toList.take xs.length ++ byteV ys ++ cur.toList.drop (xs.length + ys.length)).toArray) rfl
   refine ⟨_, _, _, hr, .inr ⟨br, cap, _, by rw [List.length_append], rfl, by rw [List.length_append]; exact hroom, hcm, ?_, ?_⟩, hst.1, hst.2⟩
   ·simp only [List.size_toArray, List.length_append, List.length_take, List.length_drop, Array.length_toList, byteV_length]
    omega
   ·rw [htk, byteV_app, show (xs ++ ys).length = (byteV xs ++ byteV ys).length from by simp [byteV]]
    exact List.take_left
  ·have holds : ∀ j u, (byteV xs)[j]? = some u → g.w.cell? ((⟨br, 0, none⟩ : Addr).add j) = some u := by
    intro j u hju
    have hj := (List.getElem?_eq_some_iff.1 hju).1
    rw [byteV_length] at hj
    rw [← htk, List.getElem?_take_of_lt hj, Array.getElem?_toList] at hju
    rw [Addr.add_lit]
    simp [World.cell?, hh, hju]
   have hr := Lib.run_append_grow_string (P := P) g.w t u ty e inf (.int .u8 0) hu1 hu2 e1 e4 ⟨br, 0, none⟩ xs.length cap (byteV xs) (by rw [e2, byteV_length]; omega) holds (bs ys) (by rw [hsz]; omega) (by rw [hsz]; omega) (by rw [e3, hsz]; exact growslice_fits (by omega) (by omega))
   rw [hsz, strCells_bs, show (byteV xs).toArray ++ (byteV ys).toArray = (byteV (xs ++ ys)).toArray from by simp [byteV]] at hr
   have hnr := newrow cap (byteV (xs ++ ys)) (by simp [byteV]) (by omega) rfl
   have hg : g.w.grownBy (g.w.drew.alloc (.cells ((byteV (xs ++ ys)).toArray ++ Builtin.zeroCells (Value.int .u8 0).cells (grownCap g.w (xs.length + ys.length) cap e - (xs.length + ys.length))) e)) (some br) := ⟨rfl, rfl, rfl, by simp, fun k hk _ => heap_alloc_old g.w.drew _ k hk⟩
   let g' : G := ⟨_, g.im, fun b h => Nat.lt_of_lt_of_le (g.lt b h) hg.size⟩
   have hst := hs.chg (i := 0) (e := .obj br (.cells cur e (0, 0))) (g' := g') (e' := .obj g.w.heap.size (.cells ((byteV (xs ++ ys)).toArray ++ Builtin.zeroCells (Value.int .u8 0).cells (grownCap g.w (xs.length + ys.length) cap e - (xs.length + ys.length))) e)) rfl hg (fun _ _ => Iff.rfl)
    ⟨hs.below.size, heap_alloc_new g.w.drew _, fun h => by have := g.lt _ h; omega⟩ (fun b hb => by simp only [Ent.blk, Option.some.injEq] at hb; right; omega)
   exact ⟨_, _, g', hr, hnr, hst.1, hst.2⟩

theorem OpR_appendB {tb : Tb} (htb : tb.ok P) {t u e : Nat} {ti ei ui : TI} {s x : Operand} {v : Value} {xs ys : List UInt8} {Lr : List Ent} (ho : o.op = .call { callee := .builtin .append, args := #[s, x], argTypes := #[t, u] })
  (hb : BdRow e v xs Lr) (hs : St g0 g (Lr ++ L)) (hv : ev l s = some v) (hx : ev l x = some (.string (bs ys)))
  (hi : tl tb t = some ti) (hd : ti.desc = .slice e) (hu : tl tb u = some ui) (hud : ui.desc = .string) (hj : tl tb e = some ei) (hk : ei.size = 1) (hby : ei.bytes = 1) (hz : ei.zero = .int .u8 0) (hlen : xs.length + ys.length ≤ 140737488355328)
  (kk : ∀ v' Lr' g', BdRow e v' (xs ++ ys) Lr' → St g0 g' (Lr' ++ L) → g.le g' → K v' g'.w) : OpR F P N ds o l g.w Q K := by
 obtain ⟨v', Lr', g', hrun, h1, h2, h3⟩ := run_append_bd (ty := o.type) htb hb hs hi hd hu hud hj hk hby hz hlen
 refine OpR_builtin ho (w' := g'.w) (fun a ha => ?_) (kk v' Lr' g' h1 h2 h3)
 simp [resolve, invoke, builtin, ha.ev hv, ha.ev hx, hrun]

/-- What lies before, and what no longer changes of it. -/
def G.cutIm (g : G) (w' : World) (B : Nat) (h : g.w.heap.size ≤ w'.heap.size) : G := ⟨w', fun b => g.im b ∧ b < B, fun b hb => Nat.lt_of_lt_of_le (g.lt b hb.1) h⟩

/-- Behind a call of the library's that turns a builder and rows of bytes. -/
theorem St.bld {B e : Nat} {ob : Option Nat} {w' : World} (hs : St g0 g L) (hB : B = g0.w.heap.size) (hb : Below B g.w w') (ho : Lib.OthersKept e ob g.w w')
  (hL : ∀ x ∈ L, ∀ k, x.blk = some k → some k ≠ ob ∧ ∃ o, g.w.heap[k]? = some o ∧ ∀ c fz, o ≠ .cells c e fz) : St g0 (g.cutIm w' B hb.size) L ∧ g0.le (g.cutIm w' B hb.size) := by
 subst hB
 have h1 : St g0 (g.cutIm w' g0.w.heap.size hb.size) L := by
  refine ⟨hs.below.trans hb, fun k hk => ⟨fun h => (hs.im k hk).1 h.1, fun h => ⟨(hs.im k hk).2 h, hk⟩⟩, fun j x hj => ?_, hs.sep⟩
  have hx := hs.own j x hj
  have hkeep : ∀ k, x.blk = some k → w'.heap[k]? = g.w.heap[k]? := by
   intro k hk
   obtain ⟨h1, o, h2, h3⟩ := hL x (List.mem_of_getElem? hj) k hk
   rw [ho k o h2 h1 h3, h2]
  cases x with
  | obj b o => exact ⟨hx.1, (hkeep b rfl).trans hx.2.1, fun h => hx.2.2 h.1⟩
  | row t k v n xs => exact ⟨hx.1.kept fun b hb' => hkeep b hb', fun b hb' h => hx.2 b hb' h.1⟩
 exact ⟨h1, h1.le⟩

/-- What is owned here and what the caller owned, together. -/
theorem St.join {g1 : G} {M : List Ent} (hs : St g0 g L) (hm : St g g1 M) : St g0 g1 (M ++ L) := by
 have hs2 := hs.call hm.fr0
 have up : ∀ x : Ent, x.holds g.w.heap.size g1 → x.holds g0.w.heap.size g1 := by
  intro x h
  cases x with
  | obj b o => exact ⟨Nat.le_trans hs.below.size h.1, h.2⟩
  | row t k v n xs =>
   refine ⟨⟨h.1.1, ?_⟩, h.2⟩
   rcases h.1.2 with h' | ⟨b, off, cap, cur, e1, hB, h'⟩
   ·exact .inl h'
   ·exact .inr ⟨b, off, cap, cur, e1, Nat.le_trans hs.below.size hB, h'⟩
 refine ⟨hs2.below, hs2.im, fun j x hj => ?_, fun j k x y hjk hj hk b hbx hby => ?_⟩
 ·rw [List.getElem?_append] at hj
  split at hj
  ·exact up x (hm.own j x hj)
  ·exact hs2.own _ x hj
 ·rw [List.getElem?_append] at hj hk
  split at hj <;> split at hk
  ·exact hm.sep j k x y hjk hj hk b hbx hby
  ·have h1 := ((hm.own j x hj).lt b hbx).1
   have h2 := ((hs.own _ y hk).lt b hby).2.1
   omega
  ·have h1 := ((hm.own k y hk).lt b hby).1
   have h2 := ((hs.own _ x hj).lt b hbx).2.1
   omega
  ·exact hs2.sep _ _ x y (by omega) hj hk b hbx hby

/-- A builder as the library's contracts see it. -/
theorem BdRow.isF {T e b : Nat} {p v : Value} {xs : List UInt8} {Lr : List Ent} (hb : BdRow e v xs Lr) (hs : St g0 g (.obj b (.cells [p, v].toArray T (0, 0)) :: (Lr ++ L))) : Lib.BuilderAtF T e g0.w.heap.size b p (Lib.byteCells xs) g.w := by
 have h0 := hs.own 0 _ rfl
 have hlen : (Lib.byteCells xs).length = xs.length := by simp [Lib.byteCells]
 rcases hb with ⟨rfl, rfl, rfl⟩ | ⟨br, cap, cur, rfl, rfl, hnc, hcm, hcs, htk⟩
 ·exact ⟨h0.1, _, h0.2.1, ⟨rfl, .inl ⟨rfl, rfl⟩⟩, by simp [Value.ownBlock]⟩
 ·have h1 := hs.own 1 _ rfl
  refine ⟨h0.1, _, h0.2.1, ⟨by rw [hlen, Nat.mul_one], .inr ⟨br, cap, cur, (0, 0), by rw [hlen], h1.1, h1.2.1, Nat.zero_le _, by rw [hlen]; exact hnc, hcm, by rw [Nat.mul_one]; exact hcs, by rw [hlen, Nat.mul_one, htk]; rfl⟩⟩, ?_⟩
  intro h
  simp only [Value.ownBlock, Option.some.injEq] at h
  exact hs.sep 0 1 _ _ (by omega) rfl rfl b rfl (by simp [Ent.blk, h])
end Go.K

/- Single operations by their own runs: conversions, functions of the model's own, comparisons of pointers. -/
namespace Go.K
open Go Go.RowKit

variable {F : Fence} {P : Program} {N : Nat} {ds : List Deferred} {l l' : Env} {a : Act} {w : World} {Q : Exit → Act → World → Prop} {ops : Array Oper} {os : List Oper} {o : Oper}
variable {g0 g : G} {L L' : List Ent} {K : Value → World → Prop} {R : Ending → World → Prop}

theorem OpR_conv {src dst : TypeId} {x : Operand} {v v' : Value} (ho : o.op = .convert src dst x) (hx : ev l x = some v) (h : (convert src dst v).run P w = .ok v' w) (k : K v' w) : OpR F P N ds o l w Q K :=
 OpR_value (fun c => ⟨by rw [ho]; simp, by rw [ho]; simp⟩) (fun a ha => by simp [execOp, ho, ha.ev hx, h]) k

theorem OpR_extern {f : FuncId} {fn : Func} {e : Array Value → Sem Value} (hf : P.funcs[f]? = some fn) (hname : (fn.name == "runtime.NumGoroutine") = false) (hb : fn.body.isNone = true) (hn : Extern.findNext fn = none) (he : Extern.find fn = some e) (hF : ∀ f, F.fn f)
  {x : Operand} {args : Array Operand} {ts : Array TypeId} {vs : List Value} {v : Value} (ho : o.op = .call { callee := .value x, args, argTypes := ts }) (hx : ev l x = some (.func (.func f) #[] #[])) (ha : evs l args.toList = some vs)
  (h : (e vs.toArray).run P w = .ok v w) (k : K v w) : OpR F P N ds o l w Q K := by
 intro a haa
 unfold Oper.wpIn
 refine ⟨fun f _ => hF f, ?_⟩
 have hargs : args.map a.eval = vs.toArray := by apply Array.ext'; simpa using evs_spec haa ha
 rw [Oper.semAt_eq _ _ _ (fun c e => by rw [ho] at e; cases e)]
 have hrun : (execOp a.eval o).run P w = .ok (.value v) w := by
  simp only [execOp, ho, Sem.run_bind, resolve, haa.ev hx, Deferred.ofValue, Sem.run_pure, Result.andThen_ok, invoke, hargs]
  have e1 : #[] ++ vs.toArray ++ #[] = vs.toArray := by apply Array.ext'; simp
  rw [e1, run_callFunc_extern hf hname hb hn he, h]
  rfl
 rw [hrun]
 exact ⟨v, rfl, k⟩

theorem OpR_neqPtrSame {t te t' : TypeId} {j : TypeInfo} {x y : Operand} {ad : Addr} (ho : o.op = .binOp .neq t x y t') (hx : ev l x = some (.pointer (some ad))) (hy : ev l y = some (.pointer (some ad)))
  (hp : P.underlying t = some (.pointer te)) (hte : P.info? te = some j) (k : K (.bool false) w) : OpR F P N ds o l w Q K := by
 have hg : ∀ op, (eqGuard op t x y (.pointer (some ad)) (.pointer (some ad))).run P w = .ok () w := fun op => by unfold eqGuard; split <;> rfl
 have hq := Lib.run_neq_ptr_same (w := w) ad hp hte
 exact OpR_value (fun c => ⟨by rw [ho]; simp, by rw [ho]; simp⟩) (fun a ha => by simp [execOp, ho, ha.ev hx, ha.ev hy, hg, hq]) k
theorem St.tail {M : List Ent} (hs : St g0 g (M ++ L)) : St g0 g L := by
 induction M with
 | nil => exact hs
 | cons e M ih => exact ih (hs.drop 0)
theorem Row.at {B : Nat} {e : TypeId} {k : Nat} {v : Value} {n : Nat} {xs : List Value} (h : Row B e k v n xs w) {q : Nat} (hq : obk v = some q) : ∃ cur fz, w.heap[q]? = some (.cells cur e fz) := by
 rcases h.2 with ⟨_, a', rfl⟩ | ⟨b', off, cap, cur, rfl, _, ⟨fz, hh, _⟩, _⟩
 ·rw [obk_zero] at hq; cases hq
 ·obtain ⟨_, _, _, e1, _, e2⟩ := obk_some hq
  simp only [Value.slice.injEq, Option.some.injEq] at e1
  obtain ⟨rfl, _⟩ := e1
  subst e2
  exact ⟨_, _, hh⟩
end Go.K

/- Functions with deferred calls; deferred calls that recover. -/
namespace Go.K
open Go Go.RowKit

variable {F : Fence} {P : Program} {N : Nat} {ds : List Deferred} {l l' : Env} {a : Act} {w : World} {Q : Exit → Act → World → Prop} {ops : Array Oper} {os : List Oper} {o : Oper}
variable {g0 g : G} {L L' : List Ent} {K : Value → World → Prop} {R : Ending → World → Prop}

def tmpsOk (tmps : Array Value) : Env → Prop
 | [] => True
 | (t, v) :: r => tmps[t]? = some v ∧ tmpsOk tmps r
theorem tmpsOk.get {tmps : Array Value} : ∀ {l : Env}, tmpsOk tmps l → ∀ t v, lk l t = some v → tmps[t]? = some v
 | [], _, t, v, h => by simp [lk] at h
 | (k, u) :: r, ⟨h1, h2⟩, t, v, h => by
  by_cases e : k = t
  ·subst e
   rw [lk_cons_same] at h
   exact (Option.some.inj h) ▸ h1
  ·rw [lk_cons_other _ _ e] at h
   exact h2.get t v h
theorem Fr.ofTmps {tmps : Array Value} (hs : tmps.size = N) (h : tmpsOk tmps l) : Fr N ds l { tmps, defers := ds } := ⟨rfl, hs, h.get⟩

/-- On from where the stack is no longer looked at. -/
theorem W_fromS {c : Code} {QS : Exit → Act → List Frame → World → Prop} {cs : List Frame} {tmps : Array Value} {a : Act} (ha : a = { tmps, defers := [] }) (hs : tmps.size = N) (hl : tmpsOk tmps l) (h : W Wd P N [] c (fun e a' w' => QS e a' cs w') l w) :
  c.wpSIn Wd 0 P QS a cs w := by
 subst ha
 exact wpSIn_of_wpIn rfl (h _ (Fr.ofTmps hs hl))
theorem endS {fn : Func} {c₀ : Frame} {cs cs' : List Frame} {RS : Ending → FrameMode → World → Prop} (u' : FrameMode) (hr : fn.results = #[]) (hc : cs' = { c₀ with mode := u' } :: cs) (hR : RS (.returned (.tuple #[])) u' w) (a : Act) (ha : Fr N [] l a) : bodyPostS P fn c₀ cs RS .normal a cs' w :=
 ⟨ha.defers, u', hc, _, results_none hr _ _ _, hR⟩

/-- 'defer f()'. -/
theorem WL_defer {f : FuncId} {x : Operand} {first captured : Array Value} (hro : F.round = none) (hF : ∀ f, F.fn f) (hg : gd ops l o = some true) (hd : o.dst = none) (ho : o.op = .defer { callee := .value x, args := #[], argTypes := #[] }) (hx : ev l x = some (.func (.func f) first captured))
  (k : WL F P N (⟨.fn (.func f) captured, first⟩ :: ds) ops Q os l w) : WL F P N ds ops Q (o :: os) l w := by
 intro a ha
 simp only [wpListIn, gd_spec hg ha, if_true]
 unfold Oper.wpIn
 refine ⟨fun f _ => hF f, ?_⟩
 rw [hro, Oper.semAt_none]
 have hrun : (execOp a.eval o).run P w = .ok (.defer ⟨.fn (.func f) captured, first⟩) w := by
  simp [execOp, ho, resolve, ha.ev hx, Deferred.ofValue]
 rw [hrun]
 simp only [Oper.uponIn, hd, Act.put]
 exact k _ ⟨by simp [ha.defers], ha.size, ha.get⟩

/-- A function's contract from its body's walk, deferred calls and all. -/
theorem enterD {f : FuncId} {fn : Func} {c : Code} {args : Array Value} (hf : P.funcs[f]? = some fn) (hb : fn.body = some c) (hN : fn.ntmps = N) (hle : Nat.ble args.size N = true)
  (h : W Wd P N [] c (bodyPostDIn Wd 0 P fn R) (argEnv 0 args.toList) w) : CallsIn Wd 0 P f args w R := by
 refine callsIn_of_wp_defers hf hb trivial ?_
 rw [hN]
 exact h _ (Fr_enter args N hle)

theorem leaves1 {fn : Func} {tmps : Array Value} {f : FuncId} {cap : Array Value} {u : FrameMode} (hc : Callable P f) (hu : u ≠ .run)
  (h : CallsDIn Wd 0 P f cap u w fun
   | .returned _, u', w' => LeavesIn Wd 0 P fn tmps R [] (settle u') w'
   | .panicked chain, u', w' => LeavesIn Wd 0 P fn tmps R [] (raised u' chain) w'
   | .outgrown, _, w' => R .outgrown w') : LeavesIn Wd 0 P fn tmps R [⟨.fn (.func f) cap, #[]⟩] u w := by
 refine leavesIn_cons (args := cap) (f := f) hu (fun h => by cases h) ?_ (fun _ _ => trivial) h
 have e : #[] ++ cap = cap := by apply Array.ext'; simp
 simp only [invoke]
 rw [e]
 exact run_callFunc hc cap
theorem retD {fn : Func} {f : FuncId} {cap : Array Value} (hc : Callable P f)
  (h : ∀ tmps : Array Value, (∀ t v, lk l t = some v → tmps[t]? = some v) → CallsDIn Wd 0 P f cap .returning w fun
   | .returned _, u', w' => LeavesIn Wd 0 P fn tmps R [] (settle u') w'
   | .panicked chain, u', w' => LeavesIn Wd 0 P fn tmps R [] (raised u' chain) w'
   | .outgrown, _, w' => R .outgrown w') (a : Act) (ha : Fr N [⟨.fn (.func f) cap, #[]⟩] l a) : bodyPostDIn Wd 0 P fn R .ret a w := by
 show LeavesIn Wd 0 P fn a.tmps R a.defers .returning w
 rw [ha.defers]
 exact leaves1 hc (by simp) (h a.tmps ha.get)
theorem panicD {fn : Func} {f : FuncId} {cap : Array Value} {ch : List PanicEntry} (hc : Callable P f)
  (h : ∀ tmps : Array Value, (∀ t v, lk l t = some v → tmps[t]? = some v) → CallsDIn Wd 0 P f cap (.panicking ch) w fun
   | .returned _, u', w' => LeavesIn Wd 0 P fn tmps R [] (settle u') w'
   | .panicked chain, u', w' => LeavesIn Wd 0 P fn tmps R [] (raised u' chain) w'
   | .outgrown, _, w' => R .outgrown w') (a : Act) (ha : Fr N [⟨.fn (.func f) cap, #[]⟩] l a) : bodyPostDIn Wd 0 P fn R (.panic ch) a w := by
 show LeavesIn Wd 0 P fn a.tmps R a.defers (.panicking ch) w
 rw [ha.defers]
 exact leaves1 hc (by simp) (h a.tmps ha.get)
end Go.K

/- Calls that return or panic, as a condition says. -/
namespace Go.K
open Go Go.RowKit

variable {F : Fence} {P : Program} {N : Nat} {ds : List Deferred} {l l' : Env} {a : Act} {w : World} {Q : Exit → Act → World → Prop} {ops : Array Oper} {os : List Oper} {o : Oper}
variable {g0 g g1 : G} {L : List Ent} {K : Value → World → Prop} {R : G → Value → Prop} {ch : List PanicEntry} {b : Prop}

/-- It returns, or, where b, it panics; what was there is as it was. -/
def Orp (g : G) (R : G → Value → Prop) (ch : List PanicEntry) (b : Prop) : Ending → World → Prop := fun e w' => Ret g R e w' ∨ (b ∧ BoomS g ch (fun g' => Fr0 g g') e w')
theorem Orp.ok {e : Ending} {w' : World} (h : Ret g R e w') : Orp g R ch b e w' := .inl h
theorem Orp.boom (hb : b) (hf : Fr0 g g1) : Orp g R ch b (.panicked ch) g1.w := .inr ⟨hb, g1, rfl, rfl, hf.le, hf⟩
theorem OpR_orp {f : FuncId} (hc : Callable P f) (hF : ∀ f, F.fn f) (hdep : F.depth = none) {x : Operand} {args : Array Operand} {ts : Array TypeId} {first captured : Array Value} {vs as' : List Value}
  (ho : o.op = .call { callee := .value x, args, argTypes := ts }) (hx : ev l x = some (.func (.func f) first captured)) (ha : evs l args.toList = some vs) (has : first.toList ++ vs ++ captured.toList = as')
  (h : CallsIn F 0 P f as'.toArray g.w (Orp g R ch b)) (k : ∀ g' v, Fr0 g g' → R g' v → K v g'.w) (kb : b → ∀ g', Fr0 g g' → ∀ a, Fr N ds l a → Q (.panic ch) a g'.w) : OpR F P N ds o l g.w Q K :=
 OpR_callE hc hF hdep ho hx ha has (CallsIn.mono h fun _ _ hh => by
  rcases hh with ⟨g', v, hw, hf, he, hr⟩ | ⟨hb, g', hw, he, _, hf⟩
  ·exact .inl ⟨v, he, hw ▸ k g' v hf hr⟩
  ·exact .inr ⟨ch, he, hw ▸ kb hb g' hf⟩)
def notI : TypeDesc → Bool
 | .interface .. => false
 | _ => true
theorem OpR_mkI {t : TypeId} {d : TypeDesc} {x : Operand} {v : Value} (ho : o.op = .makeInterface t x) (hd : P.underlying t = some d) (hn : notI d = true) (hx : ev l x = some v) (k : K (.iface t v) w) : OpR F P N ds o l w Q K :=
 OpR_value (fun c => ⟨by rw [ho]; simp, by rw [ho]; simp⟩) (fun a ha => by
  cases d <;> first | (simp [notI] at hn; done) | simp [execOp, ho, ha.ev hx, Instr.makeInterface, run_underlying hd]) k
def isNilI : Value → Option Bool
 | .nilIface => some true
 | .iface _ _ => some false
 | _ => none
/-- Is it the nil interface? -/
theorem OpR_nilI {t t' : TypeId} {d : TypeDesc} {x : Operand} {v : Value} {b neg : Bool} (ho : o.op = .binOp (if neg then .neq else .eql) t x (.const .nilIface) t') (hd : P.underlying t = some d) (hn : notI d = false) (hx : ev l x = some v) (hb : isNilI v = some b) (k : K (.bool (neg != b)) w) : OpR F P N ds o l w Q K :=
 OpR_value (fun c => ⟨by rw [ho]; simp, by rw [ho]; simp⟩) (fun a ha => by
  have hq : (Op.equal t v .nilIface).run P w = .ok b w := by
   show (Op.equalIn (9999 + 1) t v .nilIface).run P w = _
   unfold Op.equalIn
   cases d <;> first | (simp [notI] at hn; done) | (cases v <;> simp [isNilI] at hb <;> subst hb <;> simp [run_underlying hd])
  have hg : ∀ op, (eqGuard op t x (.const .nilIface) v .nilIface).run P w = .ok () w := fun op => by
   unfold eqGuard
   cases v <;> simp [isNilI] at hb <;> (split <;> simp)
  have he : a.eval (.const .nilIface) = .nilIface := rfl
  cases neg <;> simp [execOp, ho, ha.ev hx, he, hg, binOp, hq]) k
end Go.K
