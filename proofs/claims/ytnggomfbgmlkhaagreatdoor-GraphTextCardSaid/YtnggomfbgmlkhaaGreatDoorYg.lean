/- Iterators with a state, orders one by one. -/
import Derived.Test.YtnggomfbgmlkhaaGreatDoorYf

/- A full slice; results of the library's contracts in my words. -/
namespace Go.K
open Go Go.RowKit

variable {F : Fence} {P : Program} {N : Nat} {ds : List Deferred} {l l' : Env} {a : Act} {w : World} {Q : Exit → Act → World → Prop} {ops : Array Oper} {os : List Oper} {o : Oper}
variable {g0 g : G} {L : List Ent} {K : Value → World → Prop} {R : Ending → World → Prop}

theorem Ret.below {R : G → Value → Prop} {v : Value} {w' : World} (hb : Below g.w.heap.size g.w w') (hR : ∀ g' : G, g'.w = w' → Fr0 g g' → R g' v) : Ret g R (.returned v) w' := by
 let g' : G := ⟨w', g.im, fun b h => Nat.lt_of_lt_of_le (g.lt b h) hb.size⟩
 have hf : Fr0 g g' := ⟨hb, fun _ _ => Iff.rfl⟩
 exact ⟨g', v, rfl, hf, rfl, hR g' rfl hf⟩
/-- A contract of the library's, in my words. -/
theorem ret_of_calls {f : FuncId} {args : Array Value} {R : G → Value → Prop} {v : Value} (h : Calls P f args g.w fun e w' => e = .returned v ∧ Below g.w.heap.size g.w w') (hR : ∀ g' : G, Fr0 g g' → R g' v) : CallsIn Wd 0 P f args g.w (Ret g R) := by
 refine callsIn_wide.2 (h.mono ?_)
 rintro e w' ⟨rfl, hb⟩
 exact Ret.below hb fun g' _ hf => hR g' hf
/-- A part of a slice that no longer changes, whatever its room. -/
theorem Rs.part {α : Type} [El α] {b p n c : Nat} {xs : List α} (h : Rs g (.slice (some ⟨b, p, none⟩) n c) xs) {a m c' : Nat} (hm : 0 < m) (h1 : a + m ≤ n) (h2 : m ≤ c') (h3 : c' ≤ maxLen) : Rs g (.slice (some ⟨b, p + a * El.k α, none⟩) m c') ((xs.drop a).take m) := by
 obtain ⟨ad, n', c'', e, rfl, hnc, h⟩ := h
 simp only [Value.slice.injEq] at e
 obtain ⟨rfl, rfl, rfl⟩ := e
 rcases h with h | ⟨b', p', cells, e, hb, hr, hc⟩
 ·omega
 simp only [Option.some.injEq, Addr.mk.injEq, and_true] at e
 obtain ⟨rfl, rfl⟩ := e
 refine ⟨_, m, c', rfl, by rw [List.length_take, List.length_drop]; omega, ⟨h2, h3⟩, .inr ⟨b, p + a * El.k α, (cells.drop (a * El.k α)).take (m * El.k α), rfl, hb, (hr.drop a).take m, fun j y hy => ?_⟩⟩
 have hlt := (List.getElem?_eq_some_iff.1 hy).1
 rw [List.length_take] at hlt
 rw [List.getElem?_take_of_lt (by omega), List.getElem?_drop] at hy
 have := hc _ _ hy
 rw [Nat.add_assoc]; exact this
end Go.K

/- A range over a function whose iterator turns something that is its own. -/
namespace Go.K
open Go Go.RowKit

variable {F : Fence} {P : Program} {N : Nat} {ds : List Deferred} {l l' : Env} {a : Act} {w : World} {Q : Exit → Act → World → Prop} {ops : Array Oper} {os : List Oper} {o : Oper}
variable {g0 g : G} {L : List Ent} {K : Value → World → Prop} {R : Ending → World → Prop}

end Go.K

/- Functions of two and three results, out of slots, ranges or not. -/
namespace Go.K
open Go Go.RowKit

variable {F : Fence} {P : Program} {N : Nat} {ds : List Deferred} {l l' : Env} {a : Act} {w : World} {Q : Exit → Act → World → Prop} {ops : Array Oper} {os : List Oper} {o : Oper}
variable {g0 g : G} {L : List Ent} {K : Value → World → Prop} {R : Ending → World → Prop}

end Go.K

/- The owned things in any order; small endings. -/
namespace Go.K
open Go Go.RowKit

variable {F : Fence} {P : Program} {N : Nat} {ds : List Deferred} {l l' : Env} {a : Act} {w : World} {Q : Exit → Act → World → Prop} {ops : Array Oper} {os : List Oper} {o : Oper}
variable {g0 g : G} {L L' : List Ent} {K : Value → World → Prop} {R : Ending → World → Prop}

theorem St.perm (hs : St g0 g L) (hp : L.Perm L') : St g0 g L' := by
 let S : Ent → Ent → Prop := fun e e' => ∀ b, e.blk = some b → e'.blk ≠ some b
 have hS : ∀ {x y}, S x y → S y x := fun h b hy hx => h b hx hy
 have h1 : L.Pairwise S := by
  rw [List.pairwise_iff_getElem]
  intro i j hi hj hij
  exact hs.sep i j _ _ (by omega) (List.getElem?_eq_getElem hi) (List.getElem?_eq_getElem hj)
 have h2 : L'.Pairwise S := (hp.pairwise_iff hS).1 h1
 rw [List.pairwise_iff_getElem] at h2
 refine ⟨hs.below, hs.im, fun j e he => ?_, fun j k e e' hne hj hk => ?_⟩
 ·obtain ⟨i, hi, e1⟩ := List.mem_iff_getElem.1 (hp.mem_iff.2 (List.mem_of_getElem? he))
  exact hs.own i e (by rw [← e1]; exact List.getElem?_eq_getElem hi)
 ·obtain ⟨hj1, rfl⟩ := List.getElem?_eq_some_iff.1 hj
  obtain ⟨hk1, rfl⟩ := List.getElem?_eq_some_iff.1 hk
  rcases Nat.lt_or_gt_of_ne hne with h | h
  ·exact h2 j k hj1 hk1 h
  ·exact hS (h2 k j hk1 hj1 h)
theorem Ret.same {R : G → Value → Prop} {v : Value} (h : R g v) : Ret g R (.returned v) g.w := ⟨g, v, rfl, Fr0.refl g, rfl, h⟩
theorem Ret.of {g' : G} {R : G → Value → Prop} {v : Value} (hf : Fr0 g g') (h : R g' v) : Ret g R (.returned v) g'.w := ⟨g', v, rfl, hf, rfl, h⟩
theorem Row.pos {B : Nat} {e : TypeId} {k n c : Nat} {ad : Option Addr} {xs : List Value} (h : Row B e k (.slice ad n c) n xs w) (hn : n ≠ 0) : ∃ b p, ad = some ⟨b, p, none⟩ := by
 rcases h.2 with ⟨h0, _⟩ | ⟨b, off, cap, cur, e1, _⟩
 ·exact absurd h0 hn
 ·simp only [Value.slice.injEq] at e1
  exact ⟨b, off, e1.1⟩
end Go.K

/- A region that draws its order, all orders walked one by one. -/
namespace Go.K
open Go Go.RowKit

variable {F : Fence} {P : Program} {N : Nat} {ds : List Deferred} {l l' : Env} {a : Act} {w : World} {Q : Exit → Act → World → Prop} {ops : Array Oper} {os : List Oper} {o : Oper}
variable {g0 g : G} {L L' : List Ent} {K : Value → World → Prop} {R : Ending → World → Prop}

theorem St.in1 {g0 g : G} {e : Ent} {B C : List Ent} (hs : St g0 g (e :: (B ++ C))) : St g0 g (B ++ (e :: C)) := hs.perm List.perm_middle.symm
theorem St.out1 {g0 g : G} {e : Ent} {B C : List Ent} (hs : St g0 g (B ++ (e :: C))) : St g0 g (e :: (B ++ C)) := hs.perm List.perm_middle
end Go.K
