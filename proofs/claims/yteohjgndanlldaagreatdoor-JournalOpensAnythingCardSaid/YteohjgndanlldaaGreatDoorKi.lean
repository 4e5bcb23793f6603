/- Rows of integers that a sort changes. -/
import Derived.Test.YteohjgndanlldaaGreatDoorKh
import Derived.Sort.OwnSortedInts

namespace Go.K
open Go Go.RowKit Go.Sort

variable {F : Fence} {P : Program} {N : Nat} {ds : List Deferred} {l l' : Env} {a : Act} {w : World} {Q : Exit → Act → World → Prop} {ops : Array Oper} {os : List Oper} {o : Oper}
variable {g0 g : G} {L L' : List Ent} {K : Value → World → Prop} {R : Ending → World → Prop}

def intsV (zs : List Int) : List Value := zs.map (Value.int .i64)
theorem intsV_len (zs : List Int) : (intsV zs).length = zs.length := by simp [intsV]
theorem putCells_at {zs : List Int} {off : Nat} {cur : Array Value} (j : Nat) : (putCells (Value.int .i64) off zs.toArray cur)[j]? = (cur[j]?).map fun x => if off ≤ j ∧ j < off + zs.length then Value.int .i64 (zs.toArray[j - off]!) else x := by
 unfold putCells
 rw [Array.getElem?_mapIdx]
 simp
theorem putCells_size {zs : List Int} {off : Nat} {cur : Array Value} : (putCells (Value.int .i64) off zs.toArray cur).size = cur.size := by unfold putCells; simp
theorem heap_putRow (w : World) (q b off : Nat) (d : Array Int) (os : Array Obj) (k : Nat) (hk : k < w.heap.size) :
  (grow (putRow (Value.int .i64) (Sort.ahead w q) b off d) os).heap[k]? = if b = k then (w.heap[k]?).map (fun o => match o with | .cells c e f => .cells (putCells (Value.int .i64) off d c) e f | o => o) else w.heap[k]? := by
 have h1 : (grow (putRow (Value.int .i64) (Sort.ahead w q) b off d) os).heap = (putRow (Value.int .i64) (Sort.ahead w q) b off d).heap ++ os := rfl
 have h2 : (putRow (Value.int .i64) (Sort.ahead w q) b off d).heap = w.heap.modify b (onCells (putCells (Value.int .i64) off d)) := rfl
 rw [h1, h2, Array.getElem?_append_left (by simpa using hk), Array.getElem?_modify]
 split
 ·cases w.heap[k]? with
  | none => rfl
  | some o => cases o <;> rfl
 ·rfl
theorem grown_putRow (w : World) (q b off : Nat) (d : Array Int) (os : Array Obj) : w.grownBy (grow (putRow (Value.int .i64) (Sort.ahead w q) b off d) os) (some b) :=
 ⟨rfl, rfl, rfl, by show w.heap.size ≤ ((putRow (Value.int .i64) (Sort.ahead w q) b off d).heap ++ os).size; rw [Array.size_append]; show _ ≤ (w.heap.modify b _).size + _; simp, fun k hk hne => by
  rw [heap_putRow w q b off d os k hk, if_neg (fun e => hne (by rw [e]))]⟩

theorem St.putRow {i b off n c q : Nat} {e : TypeId} {zs d : List Int} {os : Array Obj} (hs : St g0 g L) (hi : L[i]? = some (.row e 1 (.slice (some ⟨b, off, none⟩) n c) n (intsV zs))) (hn : n ≠ 0) (hd : d.length = n) :
  ∃ g' : G, g'.w = grow (Sort.putRow (Value.int .i64) (Sort.ahead g.w q) b off d.toArray) os ∧ St g0 g' (L.set i (.row e 1 (.slice (some ⟨b, off, none⟩) n c) n (intsV d))) ∧ g.le g' := by
 have hown := hs.own i _ hi
 have hr := hown.1
 obtain ⟨hxl, hr⟩ := hr
 rcases hr with ⟨h0, _⟩ | ⟨b', off', cap, cur, e1, hB, ⟨fz, hh, hz⟩, hnc, hcm, hcs, htk⟩
 ·exact absurd h0 hn
 simp only [Value.slice.injEq, Option.some.injEq, Addr.mk.injEq, true_and, and_true] at e1
 obtain ⟨⟨rfl, rfl⟩, rfl⟩ := e1
 rw [Nat.mul_one] at hcs htk
 have hg := grown_putRow g.w q b off d.toArray os
 have hob : obk (.slice (some ⟨b, off, none⟩) n c) = some b := obk_pos (by omega)
 have hlt : b < g.w.heap.size := (Array.getElem?_eq_some_iff.1 hh).1
 let g' : G := ⟨grow (Sort.putRow (Value.int .i64) (Sort.ahead g.w q) b off d.toArray) os, g.im, fun x h => Nat.lt_of_lt_of_le (g.lt x h) hg.size⟩
 have hst := hs.chg (g' := g') (e' := .row e 1 (.slice (some ⟨b, off, none⟩) n c) n (intsV d)) hi (by rw [show (Ent.row e 1 (.slice (some ⟨b, off, none⟩) n c) n (intsV zs)).blk = some b from hob]; exact hg) (fun _ _ => Iff.rfl)
  ⟨⟨by rw [intsV_len, hd, Nat.mul_one], .inr ⟨b, off, c, putCells (Value.int .i64) off d.toArray cur, rfl, hB, ⟨fz, by
    show (grow (Sort.putRow (Value.int .i64) (Sort.ahead g.w q) b off d.toArray) os).heap[b]? = _
    rw [heap_putRow g.w q b off d.toArray os b hlt, if_pos rfl, hh]; rfl, by rw [putCells_size]; exact hz⟩, hnc, hcm, by rw [putCells_size, Nat.mul_one]; exact hcs, by
    rw [Nat.mul_one]
    apply List.ext_getElem?
    intro j
    by_cases hj : j < n
    ·rw [List.getElem?_take_of_lt hj, List.getElem?_drop, Array.getElem?_toList, putCells_at, Array.getElem?_eq_getElem (by omega), Option.map_some, if_pos ⟨by omega, by omega⟩, Nat.add_sub_cancel_left]
     unfold intsV
     rw [List.getElem?_map, List.getElem?_eq_getElem (by omega), Option.map_some]
     congr 2
     rw [getElem!_pos d.toArray j (by simp; omega)]
     simp
    ·rw [List.getElem?_eq_none (by rw [List.length_take]; omega), List.getElem?_eq_none (by rw [intsV_len]; omega)]⟩⟩,
   fun x hx h => hown.2 x hx h⟩ (fun x hx => .inl hx)
 exact ⟨g', rfl, hst.1, hst.2⟩
theorem Row.holdsI {B b off n c : Nat} {e : TypeId} {zs : List Int} (h : Row B e 1 (.slice (some ⟨b, off, none⟩) n c) n (intsV zs) w) (hn : n ≠ 0) : Holds (Value.int .i64) w b off zs.toArray ∧ b < w.heap.size ∧ n = zs.length ∧ n ≤ c ∧ c ≤ maxLen := by
 obtain ⟨hxl, hr⟩ := h
 rw [intsV_len, Nat.mul_one] at hxl
 rcases hr with ⟨h0, _⟩ | ⟨b', off', cap, cur, e1, hB, ⟨fz, hh, hz⟩, hnc, hcm, hcs, htk⟩
 ·exact absurd h0 hn
 simp only [Value.slice.injEq, Option.some.injEq, Addr.mk.injEq, true_and, and_true] at e1
 obtain ⟨⟨rfl, rfl⟩, rfl⟩ := e1
 rw [Nat.mul_one] at hcs htk
 refine ⟨fun j hj => ?_, (Array.getElem?_eq_some_iff.1 hh).1, hxl.symm, hnc, hcm⟩
 have hj : j < zs.length := by simpa using hj
 have hc : cur[off + j]? = some (.int .i64 zs.toArray[j]!) := by
  have : (intsV zs)[j]? = some (.int .i64 zs.toArray[j]!) := by
   unfold intsV
   rw [List.getElem?_map, List.getElem?_eq_getElem hj, Option.map_some, getElem!_pos zs.toArray j (by simpa using hj)]
   simp
  rw [← htk, List.getElem?_take_of_lt (by omega), List.getElem?_drop, Array.getElem?_toList] at this
  exact this
 refine ⟨by simp [World.cell?, hh, hc], ?_⟩
 rcases hz with rfl | hz
 ·simp [World.frozen?, hh]
 ·simp only [World.frozen?, hh, Bool.and_eq_false_iff, decide_eq_false_iff_not]
  left; omega
end Go.K
