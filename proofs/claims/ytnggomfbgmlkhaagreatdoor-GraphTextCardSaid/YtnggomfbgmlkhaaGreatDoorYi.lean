/- Appending bytes and lists, stores in drawn regions. -/
import Derived.Test.YtnggomfbgmlkhaaGreatDoorYh
import Derived.Shelf.Strings.BuilderK
import Derived.ArgAppend

/- Bytes of a slice behind a builder's. -/
namespace Go.K
open Go Go.RowKit

variable {F : Fence} {P : Program} {N : Nat} {ds : List Deferred} {l l' : Env} {a : Act} {w : World} {Q : Exit → Act → World → Prop} {ops : Array Oper} {os : List Oper} {o : Oper}
variable {g0 g : G} {L L' : List Ent} {K : Value → World → Prop} {R : Ending → World → Prop}

theorem run_append_bs {tb : Tb} (htb : tb.ok P) {t e ty : Nat} {ti ei : TI} {sa : Addr} {sc : Nat} {v : Value} {xs ys : List UInt8} {Lr : List Ent} (hb : BdRow e v xs Lr) (hs : St g0 g (Lr ++ L))
  (hi : tl tb t = some ti) (hd : ti.desc = .slice e) (hj : tl tb e = some ei) (hk : ei.size = 1) (hby : ei.bytes = 1) (hz : ei.zero = .int .u8 0) (hsrc : ∀ j u, (byteV ys)[j]? = some u → g.w.cell? (sa.add j) = some u) (hy0 : ys.length ≠ 0) (hlen : xs.length + ys.length ≤ 140737488355328) :
  ∃ v' Lr' g', (Builtin.append_ #[t, t] ty #[v, .slice (some sa) ys.length sc]).run P g.w = .ok v' g'.w ∧ BdRow e v' (xs ++ ys) Lr' ∧ St g0 g' (Lr' ++ L) ∧ g.le g' := by
 obtain ⟨⟨dd, hu1, he⟩, _⟩ := htb.at hi
 rw [hd] at he
 obtain rfl := KD.of_slice he
 obtain ⟨_, inf, e1, e2, e3, e4⟩ := htb.at hj
 rw [hk] at e2; rw [hby] at e3; rw [hz] at e4
 have hbl := byteV_length ys
 have h1c : ∀ u ∈ byteV ys, u.oneCell' = true := by intro u hu; obtain ⟨c, _, rfl⟩ := List.mem_map.1 hu; rfl
 have hml : xs.length + ys.length ≤ maxLen := by unfold maxLen; omega
 have newrow : ∀ (old : Nat) (cs : List Value), cs.length = xs.length + ys.length → old < xs.length + ys.length → cs = byteV (xs ++ ys) →
   BdRow e (.slice (some ⟨g.w.heap.size, 0, none⟩) (xs.length + ys.length) (grownCap g.w (xs.length + ys.length) old e)) (xs ++ ys)
    [.obj g.w.heap.size (.cells (cs.toArray ++ Builtin.zeroCells (Value.int .u8 0).cells (grownCap g.w (xs.length + ys.length) old e - (xs.length + ys.length))) e (0, 0))] := by
  intro old cs hcl ho hc
  have hge := grownCap_ge g.w (xs.length + ys.length) old e
  have hcm : grownCap g.w (xs.length + ys.length) old e ≤ maxLen := grownCap_le_maxLen g.w (xs.length + ys.length) old e hml
  refine .inr ⟨_, _, _, by rw [List.length_append], rfl, by rw [List.length_append]; exact hge, hcm, ?_, ?_⟩
  ·have hz1 : (Value.int IntKind.u8 0).cells.size = 1 := rfl
   simp only [Array.size_append, List.size_toArray, size_zeroCells, hz1, hcl]
   omega
  ·rw [← hc, List.length_append, ← hcl]
   simp only [Array.toList_append]
   exact List.take_left
 rcases hb with ⟨rfl, rfl, rfl⟩ | ⟨br, cap, cur, rfl, rfl, hnc, hcm, hcs, htk⟩
 ··have hr := run_append_nil (P := P) g.w t ty e inf (.int .u8 0) hu1 e1 e4 sa ys.length sc (byteV ys) (by rw [e2, hbl]; omega) hsrc (by omega) (by omega) (by rw [e3]; omega)
   have hnr := newrow 0 (byteV ys) (by simp [byteV]) (by simp only [List.length_nil]; omega) (by simp)
   simp only [List.length_nil, Nat.zero_add] at hnr
   have hg : g.w.grownBy (g.w.drew.alloc (.cells ((byteV ys).toArray ++ Builtin.zeroCells (Value.int .u8 0).cells (grownCap g.w ys.length 0 e - ys.length)) e)) none := ⟨rfl, rfl, rfl, by simp, fun k hk _ => heap_alloc_old g.w.drew _ k hk⟩
   let g' : G := ⟨_, g.im, fun b h => Nat.lt_of_lt_of_le (g.lt b h) hg.size⟩
   have hst := hs.add (g' := g') (e' := .obj g.w.heap.size (.cells ((byteV ys).toArray ++ Builtin.zeroCells (Value.int .u8 0).cells (grownCap g.w ys.length 0 e - ys.length)) e)) hg (fun _ _ => Iff.rfl)
    ⟨hs.below.size, heap_alloc_new g.w.drew _, fun h => by have := g.lt _ h; omega⟩ (fun b hb => by simp only [Ent.blk, Option.some.injEq] at hb; omega)
   exact ⟨_, _, g', hr, hnr, hst.1, hst.2⟩
 ·have hown := hs.own 0 _ rfl
  have hh : g.w.heap[br]? = some (.cells cur e (0, 0)) := hown.2.1
  by_cases hroom : xs.length + ys.length ≤ cap
  ·have hr := run_append_room (P := P) g.w t ty e inf hu1 e1 br xs.length cap cur hh sa ys.length sc (byteV ys) (by rw [e2, hbl]; omega) hsrc h1c hroom (by rw [e2, hbl]; omega)
   rw [e2, hbl, Nat.mul_one] at hr
   have hst := hs.sr (i := 0) (cs' := (cur.toList.take xs.length ++ byteV ys ++ cur.toList.drop (xs.length + ys.length)).toArray) rfl
   refine ⟨_, _, _, hr, .inr ⟨br, cap, _, by rw [List.length_append], rfl, by rw [List.length_append]; exact hroom, hcm, ?_, ?_⟩, hst.1, hst.2⟩
   ·simp only [List.size_toArray, List.length_append, List.length_take, List.length_drop, Array.length_toList, byteV_length]
    omega
   ·rw [htk, byteV_app, show (xs ++ ys).length = (byteV xs ++ byteV ys).length from by simp [byteV]]
    exact List.take_left
  ·have holds : ∀ j u, (byteV xs)[j]? = some u → g.w.cell? ((⟨br, 0, none⟩ : Addr).add j) = some u := by
    intro j u hju
    have hj := (List.getElem?_eq_some_iff.1 hju).1
    rw [byteV_length] at hj
    rw [← htk, List.getElem?_take_of_lt hj, Array.getElem?_toList] at hju
    rw [Addr.add_lit]
    simp [World.cell?, hh, hju]
   have hr := run_append_grow (P := P) g.w t ty e inf (.int .u8 0) hu1 e1 e4 ⟨br, 0, none⟩ xs.length cap (byteV xs) (by rw [e2, byteV_length]; omega) holds sa ys.length sc (byteV ys) (by rw [e2, hbl]; omega) hsrc (by omega) (by omega) (by rw [e3]; exact growslice_fits (by omega) (by omega))
   rw [show (byteV xs).toArray ++ (byteV ys).toArray = (byteV (xs ++ ys)).toArray from by simp [byteV]] at hr
   have hnr := newrow cap (byteV (xs ++ ys)) (by simp [byteV]) (by omega) rfl
   have hg : g.w.grownBy (g.w.drew.alloc (.cells ((byteV (xs ++ ys)).toArray ++ Builtin.zeroCells (Value.int .u8 0).cells (grownCap g.w (xs.length + ys.length) cap e - (xs.length + ys.length))) e)) (some br) := ⟨rfl, rfl, rfl, by simp, fun k hk _ => heap_alloc_old g.w.drew _ k hk⟩
   let g' : G := ⟨_, g.im, fun b h => Nat.lt_of_lt_of_le (g.lt b h) hg.size⟩
   have hst := hs.chg (i := 0) (e := .obj br (.cells cur e (0, 0))) (g' := g') (e' := .obj g.w.heap.size (.cells ((byteV (xs ++ ys)).toArray ++ Builtin.zeroCells (Value.int .u8 0).cells (grownCap g.w (xs.length + ys.length) cap e - (xs.length + ys.length))) e)) rfl hg (fun _ _ => Iff.rfl)
    ⟨hs.below.size, heap_alloc_new g.w.drew _, fun h => by have := g.lt _ h; omega⟩ (fun b hb => by simp only [Ent.blk, Option.some.injEq] at hb; right; omega)
   exact ⟨_, _, g', hr, hnr, hst.1, hst.2⟩

theorem OpR_appendBS {tb : Tb} (htb : tb.ok P) {t e : Nat} {ti ei : TI} {sa : Addr} {sc : Nat} {s x : Operand} {v : Value} {xs ys : List UInt8} {Lr : List Ent} (ho : o.op = .call { callee := .builtin .append, args := #[s, x], argTypes := #[t, t] })
  (hb : BdRow e v xs Lr) (hs : St g0 g (Lr ++ L)) (hv : ev l s = some v) (hx : ev l x = some (.slice (some sa) ys.length sc)) (hsrc : ∀ j u, (byteV ys)[j]? = some u → g.w.cell? (sa.add j) = some u) (hy0 : ys.length ≠ 0)
  (hi : tl tb t = some ti) (hd : ti.desc = .slice e) (hj : tl tb e = some ei) (hk : ei.size = 1) (hby : ei.bytes = 1) (hz : ei.zero = .int .u8 0) (hlen : xs.length + ys.length ≤ 140737488355328)
  (kk : ∀ v' Lr' g', BdRow e v' (xs ++ ys) Lr' → St g0 g' (Lr' ++ L) → g.le g' → K v' g'.w) : OpR F P N ds o l g.w Q K := by
 obtain ⟨v', Lr', g', hrun, h1, h2, h3⟩ := run_append_bs (sc := sc) (ty := o.type) htb hb hs hi hd hj hk hby hz hsrc hy0 hlen
 refine OpR_builtin ho (w' := g'.w) (fun a ha => ?_) (kk v' Lr' g' h1 h2 h3)
 simp [resolve, invoke, builtin, ha.ev hv, ha.ev hx, hrun]

end Go.K

/- Appending to a slice that has no room: what it holds is copied. -/
namespace Go.K
open Go Go.RowKit

variable {F : Fence} {P : Program} {N : Nat} {ds : List Deferred} {l l' : Env} {a : Act} {w : World} {Q : Exit → Act → World → Prop} {ops : Array Oper} {os : List Oper} {o : Oper}
variable {g0 g : G} {L L' : List Ent} {K : Value → World → Prop} {R : Ending → World → Prop}

end Go.K

/- A drawn region in which one operation, that answers nothing (a store), changes something owned. -/
namespace Go.K
open Go Go.RowKit

variable {F : Fence} {P : Program} {N : Nat} {ds : List Deferred} {ops : Array Oper} {Q : Exit → Act → World → Prop} {φs : List Fact} {l0 : Env} {gd : G}

end Go.K
