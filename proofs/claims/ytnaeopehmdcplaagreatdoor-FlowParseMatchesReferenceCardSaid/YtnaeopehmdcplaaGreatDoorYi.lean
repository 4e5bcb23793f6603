/- Appending bytes and lists, stores in drawn regions. -/
import Derived.Test.YtnaeopehmdcplaaGreatDoorYh
import Derived.Shelf.Strings.BuilderK
import Derived.ArgAppend

/- Bytes of a slice behind a builder's. -/
namespace Go.K
open Go Go.RowKit

variable {F : Fence} {P : Program} {N : Nat} {ds : List Deferred} {l l' : Env} {a : Act} {w : World} {Q : Exit → Act → World → Prop} {ops : Array Oper} {os : List Oper} {o : Oper}
variable {g0 g : G} {L L' : List Ent} {K : Value → World → Prop} {R : Ending → World → Prop}

theorem run_append_bs {tb : Tb} (htb : tb.ok P) {t e ty : Nat} {ti ei : TI} {sa : Addr} {sc : Nat} {v : Value} {xs ys : List UInt8} {Lr : List Ent} (hb : BdRow e v xs Lr) (hs : St g0 g (Lr ++ L))
  (hi : tl tb t = some ti) (hd : ti.desc = .slice e) (hj : tl tb e = some ei) (hk : ei.size = 1) (hby : ei.bytes = 1) (hz : ei.zero = .int .u8 0) (hsrc : ∀ j u, (byteV ys)[j]? = some u → g.w.cell? (sa.add j) = some u) (hy0 : ys.length ≠ 0) (hlen : xs.length + ys.length ≤ 140737488355328) :
  ∃ v' Lr' g', (Builtin.append_ #[t, t] ty #[v, .slice (some sa) ys.length sc]).run P g.w = .ok v' g'.w ∧ BdRow e v' (xs ++ ys) Lr' ∧ St g0 g' (Lr' ++ L) ∧ g.le g' := by
 obtain ⟨⟨dd, hu1, he⟩, _⟩ := htb.at hi
 rw [hd] at he
 obtain rfl := KD.of_slice he
 obtain ⟨_, inf, e1, e2, e3, e4⟩ := htb.at hj
 rw [hk] at e2; rw [hby] at e3; rw [hz] at e4
 have hbl := byteV_length ys
 have h1c : ∀ u ∈ byteV ys, u.oneCell' = true := by intro u hu; obtain ⟨c, _, rfl⟩ := List.mem_map.1 hu; rfl
 have hml : xs.length + ys.length ≤ maxLen := by unfold maxLen; omega
 have newrow : ∀ (old : Nat) (cs : List Value), cs.length = xs.length + ys.length → old < xs.length + ys.length → cs = byteV (xs ++ ys) →
   BdRow e (.slice (some ⟨g.w.heap.size, 0, none⟩) (xs.length + ys.length) (grownCap g.w (xs.length + ys.length) old e)) (xs ++ ys)
    [.obj g.w.heap.size (.cells (cs.toArray ++ Builtin.zeroCells (Value.int .u8 0).cells (grownCap g.w (xs.length + ys.length) old e - (xs.length + ys.length))) e (0, 0))] := by
  intro old cs hcl ho hc
  have hge := grownCap_ge g.w (xs.length + ys.length) old e
  have hcm : grownCap g.w (xs.length + ys.length) old e ≤ maxLen := grownCap_le_maxLen g.w (xs.length + ys.length) old e hml
  refine .inr ⟨_, _, _, by rw [List.length_append], rfl, by rw [List.length_append]; exact hge, hcm, ?_, ?_⟩
  ·have hz1 : (Value.int IntKind.u8 0).cells.size = 1 := rfl
   simp only [Array.size_append, List.size_toArray, size_zeroCells, hz1, hcl]
   omega
  ·rw [← hc, List.length_append, ← hcl]
   simp only [Array.toList_append]
   exact List.take_left
 rcases hb with ⟨rfl, rfl, rfl⟩ | ⟨br, cap, cur, rfl, rfl, hnc, hcm, hcs, htk⟩
 ··have hr := run_append_nil (P := P) g.w t ty e inf (.int .u8 0) hu1 e1 e4 sa ys.length sc (byteV ys) (by rw [e2, hbl]; omega) hsrc (by omega) (by omega) (by rw [e3]; omega)
   have hnr := newrow 0 (byteV ys) (by simp [byteV]) (by simp only [List.length_nil]; omega) (by simp)
   simp only [List.length_nil, Nat.zero_add] at hnr
   have hg : g.w.grownBy (g.w.drew.alloc (.cells ((byteV ys).toArray ++ Builtin.zeroCells (Value.int .u8 0).cells (grownCap g.w ys.length 0 e - ys.length)) e)) none := ⟨rfl, rfl, rfl, by simp, fun k hk _ => heap_alloc_old g.w.drew _ k hk⟩
   let g' : G := ⟨_, g.im, fun b h => Nat.lt_of_lt_of_le (g.lt b h) hg.size⟩
   have hst := hs.add (g' := g') (e' := .obj g.w.heap.size (.cells ((byteV ys).toArray ++ Builtin.zeroCells (Value.int .u8 0).cells (grownCap g.w ys.length 0 e - ys.length)) e)) hg (fun _ _ => Iff.rfl)
    ⟨hs.below.size, heap_alloc_new g.w.drew _, fun h => by have := g.lt _ h; omega⟩ (fun b hb => by simp only [Ent.blk, Option.some.injEq] at hb; omega)
   exact ⟨_, _, g', hr, hnr, hst.1, hst.2⟩
 ·have hown := hs.own 0 _ rfl
  have hh : g.w.heap[br]? = some (.cells cur e (0, 0)) := hown.2.1
  by_cases hroom : xs.length + ys.length ≤ cap
  ·have hr := run_append_room (P := P) g.w t ty e inf hu1 e1 br xs.length cap cur hh sa ys.length sc (byteV ys) (by rw [e2, hbl]; omega) hsrc h1c hroom (by rw [e2, hbl]; omega)
   rw [e2, hbl, Nat.mul_one] at hr
   have hst := hs.sr (i := 0) (cs' := (cur.toList.take xs.length ++ byteV ys ++ cur.toList.drop (xs.length + ys.length)).toArray) rfl
   refine ⟨_, _, _, hr, .inr ⟨br, cap, _, by rw [List.length_append], rfl, by rw [List.length_append]; exact hroom, hcm, ?_, ?_⟩, hst.1, hst.2⟩
   ·simp only [List.size_toArray, List.length_append, List.length_take, List.length_drop, Array.length_toList, byteV_length]
    omega
   ·rw [htk, byteV_app, show (xs ++ ys).length = (byteV xs ++ byteV ys).length from by simp [byteV]]
    exact List.take_left
  ·have holds : ∀ j u, (byteV xs)[j]? = some u → g.w.cell? ((⟨br, 0, none⟩ : Addr).add j) = some u := by
    intro j u hju
    have hj := (List.getElem?_eq_some_iff.1 hju).1
    rw [byteV_length] at hj
    rw [← htk, List.getElem?_take_of_lt hj, Array.getElem?_toList] at hju
    rw [Addr.add_lit]
    simp [World.cell?, hh, hju]
   have hr := run_append_grow (P := P) g.w t ty e inf (.int .u8 0) hu1 e1 e4 ⟨br, 0, none⟩ xs.length cap (byteV xs) (by rw [e2, byteV_length]; omega) holds sa ys.length sc (byteV ys) (by rw [e2, hbl]; omega) hsrc (by omega) (by omega) (by rw [e3]; exact growslice_fits (by omega) (by omega))
   rw [show (byteV xs).toArray ++ (byteV ys).toArray = (byteV (xs ++ ys)).toArray from by simp [byteV]] at hr
   have hnr := newrow cap (byteV (xs ++ ys)) (by simp [byteV]) (by omega) rfl
   have hg : g.w.grownBy (g.w.drew.alloc (.cells ((byteV (xs ++ ys)).toArray ++ Builtin.zeroCells (Value.int .u8 0).cells (grownCap g.w (xs.length + ys.length) cap e - (xs.length + ys.length))) e)) (some br) := ⟨rfl, rfl, rfl, by simp, fun k hk _ => heap_alloc_old g.w.drew _ k hk⟩
   let g' : G := ⟨_, g.im, fun b h => Nat.lt_of_lt_of_le (g.lt b h) hg.size⟩
   have hst := hs.chg (i := 0) (e := .obj br (.cells cur e (0, 0))) (g' := g') (e' := .obj g.w.heap.size (.cells ((byteV (xs ++ ys)).toArray ++ Builtin.zeroCells (Value.int .u8 0).cells (grownCap g.w (xs.length + ys.length) cap e - (xs.length + ys.length))) e)) rfl hg (fun _ _ => Iff.rfl)
    ⟨hs.below.size, heap_alloc_new g.w.drew _, fun h => by have := g.lt _ h; omega⟩ (fun b hb => by simp only [Ent.blk, Option.some.injEq] at hb; right; omega)
   exact ⟨_, _, g', hr, hnr, hst.1, hst.2⟩

theorem OpR_appendBS {tb : Tb} (htb : tb.ok P) {t e : Nat} {ti ei : TI} {sa : Addr} {sc : Nat} {s x : Operand} {v : Value} {xs ys : List UInt8} {Lr : List Ent} (ho : o.op = .call { callee := .builtin .append, args := #[s, x], argTypes := #[t, t] })
  (hb : BdRow e v xs Lr) (hs : St g0 g (Lr ++ L)) (hv : ev l s = some v) (hx : ev l x = some (.slice (some sa) ys.length sc)) (hsrc : ∀ j u, (byteV ys)[j]? = some u → g.w.cell? (sa.add j) = some u) (hy0 : ys.length ≠ 0)
  (hi : tl tb t = some ti) (hd : ti.desc = .slice e) (hj : tl tb e = some ei) (hk : ei.size = 1) (hby : ei.bytes = 1) (hz : ei.zero = .int .u8 0) (hlen : xs.length + ys.length ≤ 140737488355328)
  (kk : ∀ v' Lr' g', BdRow e v' (xs ++ ys) Lr' → St g0 g' (Lr' ++ L) → g.le g' → K v' g'.w) : OpR F P N ds o l g.w Q K := by
 obtain ⟨v', Lr', g', hrun, h1, h2, h3⟩ := run_append_bs (sc := sc) (ty := o.type) htb hb hs hi hd hj hk hby hz hsrc hy0 hlen
 refine OpR_builtin ho (w' := g'.w) (fun a ha => ?_) (kk v' Lr' g' h1 h2 h3)
 simp [resolve, invoke, builtin, ha.ev hv, ha.ev hx, hrun]

end Go.K

/- Appending to a slice that has no room: what it holds is copied. -/
namespace Go.K
open Go Go.RowKit

variable {F : Fence} {P : Program} {N : Nat} {ds : List Deferred} {l l' : Env} {a : Act} {w : World} {Q : Exit → Act → World → Prop} {ops : Array Oper} {os : List Oper} {o : Oper}
variable {g0 g : G} {L L' : List Ent} {K : Value → World → Prop} {R : Ending → World → Prop}

theorem OpR_appendG {α : Type} [El α] {tb : Tb} (htb : tb.ok P) {t e : Nat} {ti ei : TI} {s x : Operand} {ad ad2 : Option Addr} {n m c2 : Nat} {xs ys : List α}
  (ho : o.op = .call { callee := .builtin .append, args := #[s, x], argTypes := #[t, t] }) (hv : ev l s = some (.slice ad n n)) (hx : ev l x = some (.slice ad2 m c2)) (h1 : Rs g (.slice ad n n) xs) (h2 : Rs g (.slice ad2 m c2) ys)
  (hn : n ≠ 0) (hm : m ≠ 0) (hi : tl tb t = some ti) (hd : ti.desc = .slice e) (hj : tl tb e = some ei) (hk : ei.size = El.k α) (hz : ei.zero.cells.size = El.k α) (hb : (n + m) * ei.bytes ≤ 140737488355328) (h63 : n + m ≤ maxLen)
  (kk : ∀ v g', Fr0 g g' → Rs g' v (xs ++ ys) → K v g'.w) : OpR F P N ds o l g.w Q K := by
 obtain ⟨⟨dd, hu1, he⟩, _⟩ := htb.at hi
 rw [hd] at he
 obtain rfl := KD.of_slice he
 obtain ⟨_, inf, e1, e2, e3, e4⟩ := htb.at hj
 obtain ⟨hnx, olds, hr1, hs1⟩ := Src.of_rs h1
 obtain ⟨hmy, news, hr2, hs2⟩ := Src.of_rs h2
 obtain ⟨b1, p1, rfl, hc1⟩ := hs1.2.resolve_left hn
 obtain ⟨b2, p2, rfl, hc2⟩ := hs2.2.resolve_left hm
 obtain ⟨v', w', hrun, hown, hg⟩ := run_append_arg_grows (P := P) g.w t o.type e inf ei.zero (El.k α) ei.bytes hu1 e1 e4 (by rw [e2, hk]) e3 hz (El.pos (α := α)) ⟨b1, p1, none⟩ n n olds hs1.1
  (fun j u hu => by rw [Addr.add_lit]; exact hc1 j u hu) ⟨b2, p2, none⟩ m c2 news hs2.1 (fun j u hu => by rw [Addr.add_lit]; exact hc2 j u hu) (by omega) h63 hb
 have hf := grown_fr0 (g := g) hg
 have hlen : n + m = (xs ++ ys).length := by rw [List.length_append, ← hnx, ← hmy]
 have hO : OwnR e g (xs ++ ys) (⟨w', g.im, fun b h => Nat.lt_of_lt_of_le (g.lt b h) hg.size⟩ : G) v' := by
  refine ⟨olds ++ news, ⟨?_, fun b hb hi => ?_⟩, RcL.app (hr2.mono hf.le) (hr1.mono hf.le)⟩
  ·rw [← hlen]; exact Row.of_own hown
  ·have := obk_own hown b hb
   have := g.lt b hi
   omega
 obtain ⟨g2, hw2, hs2', hle2, hrs⟩ := (St.start g).ownRs hf hO
 refine OpR_builtin ho (w' := w') (fun a ha => ?_) (by have h := kk v' g2 hs2'.fr0 hrs; rw [hw2] at h; exact h)
 simp [resolve, invoke, builtin, ha.ev hv, ha.ev hx, hrun]
end Go.K

/- A drawn region in which one operation, that answers nothing (a store), changes something owned. -/
namespace Go.K
open Go Go.RowKit

variable {F : Fence} {P : Program} {N : Nat} {ds : List Deferred} {ops : Array Oper} {Q : Exit → Act → World → Prop} {φs : List Fact} {l0 : Env} {gd : G}

def drawOkN (N : Nat) (ops : Array Oper) (l0 : Env) (m e : Nat) : Bool :=
 (List.range ops.size).all (fun i => match ops[i]? with | some o => (edg o).all (fun j => Nat.blt j i) | none => true) &&
 (List.range ops.size).all (fun j => Nat.blt j m || (List.range j).all (fun k => (List.range (j + 1)).any (fun i => Nat.blt k i && (match ops[i]? with | some o => (edg o).contains k | none => false)))) &&
 (List.range m).all (fun i => i == e || match dstOf ops i with
  | some d => Nat.blt d N && (lk l0 d).isNone && (List.range m).all (fun j => j == i || j == e || (match dstOf ops j with | some e => e != d | none => false))
  | none => false) && Nat.ble m ops.size && (dstOf ops e).isNone
theorem W_drawN {id : Nat} {g : G} (hF : ∀ f, F.fn f) (hm : P.follows .mixedOrders = true) (φs : List Fact) (m : Nat) (outs : List (Nat × Nat)) (own anc : List Nat) (e : Nat) (hok : drawOkN N ops l0 m e = true) (hem : e < m) (hown : ownOk ops own e m outs = true) (hanc : ancOk ops anc e = true) (hsoft : SoftL (e :: own) 0 φs)
  (houts : outs.all (fun p => Nat.blt p.1 m && (dstOf ops p.1 == some p.2)) = true)
  (hsteps : StepsM F P N ds ops Q φs l0 g.dr anc e 0 (ops.toList.take m))
  (hend : ∀ g', g.dr.le g' → (∃ v, (fct φs e).p v g') → QA φs g' outs l0 fun env => WL F P N ds ops Q (ops.toList.drop m) env g'.w) : W F P N ds (.region id ops true) Q l0 g.w := by
 intro a ha
 simp only [drawOkN, Bool.and_eq_true, List.all_eq_true, List.mem_range] at hok
 obtain ⟨⟨⟨⟨c1, c2⟩, c3⟩, c4⟩, c5⟩ := hok
 have hde : dstOf ops e = none := by simpa using c5
 have c4 : m ≤ ops.size := Nat.le_of_ble_eq_true c4
 have k1 : ∀ i o, ops[i]? = some o → ∀ j ∈ edg o, j < i := by
  intro i o ho j hj
  have := c1 i (Array.getElem?_eq_some_iff.1 ho).1
  rw [ho] at this
  have := (List.all_eq_true.1 this) j hj
  simpa [Nat.blt_eq] using this
 have k2 : ∀ j o, m ≤ j → ops[j]? = some o → ∀ k, k < j → ∃ i' o', k < i' ∧ i' ≤ j ∧ ops[i']? = some o' ∧ k ∈ edg o' := by
  intro j o hj ho k hk
  have := c2 j (Array.getElem?_eq_some_iff.1 ho).1
  simp only [Bool.or_eq_true] at this
  rcases this with h | h
  ·have : j < m := by simpa [Nat.blt_eq] using h
   omega
  ·have := (List.all_eq_true.1 h) k (List.mem_range.2 hk)
   obtain ⟨i', h1, h2⟩ := List.any_eq_true.1 this
   simp only [Bool.and_eq_true] at h2
   have h3 := List.mem_range.1 h1
   cases ho' : ops[i']? with
   | none => rw [ho'] at h2; simp at h2
   | some o' =>
    rw [ho'] at h2
    exact ⟨i', o', by simpa [Nat.blt_eq] using h2.1, by omega, ho', by simpa using h2.2⟩
 -- where all that an operation waits for is listed, all ahead of it is
 have k4 : ∀ (listed : Array Bool), (∀ k o, listed.getD k false = true → ops[k]? = some o → ∀ e ∈ edg o, listed.getD e false = true) → ∀ j o, m ≤ j → ops[j]? = some o → (∀ e ∈ edg o, listed.getD e false = true) → ∀ k, k < j → listed.getD k false = true := by
  intro listed hcl j o hj ho hall
  have : ∀ d k, k < j → j - k = d → listed.getD k false = true := by
   intro d
   induction d using Nat.strongRecOn with
   | _ d ihd =>
    intro k hk hd
    obtain ⟨i', o', h1, h2, h3, h4⟩ := k2 j o hj ho k hk
    rcases Nat.lt_or_ge i' j with h | h
    ·exact hcl i' o' (ihd (j - i') (by omega) i' h rfl) h3 k h4
    ·obtain rfl : i' = j := by omega
     rw [ho] at h3
     obtain rfl := Option.some.inj h3
     exact hall k h4
  exact fun k hk => this _ k hk rfl
 have k3 : ∀ i, i < m → i ≠ e → ∃ d, dstOf ops i = some d ∧ d < N ∧ lk l0 d = none ∧ ∀ j, j < m → j ≠ i → j ≠ e → ∃ e, dstOf ops j = some e ∧ e ≠ d := by
  intro i hi hie
  have h0 := c3 i hi
  simp only [Bool.or_eq_true] at h0
  have this := h0.resolve_left fun h => hie (by simpa using h)
  cases hd : dstOf ops i with
  | none => simp [hd] at this
  | some d =>
   simp only [hd, Bool.and_eq_true, List.all_eq_true, List.mem_range, Bool.or_eq_true] at this
   refine ⟨d, rfl, by simpa [Nat.blt_eq] using this.1.1, by simpa using this.1.2, fun j hj hne hje => ?_⟩
   rcases this.2 j hj with (h | h) | h
   ·exact absurd (by simpa using h) hne
   ·exact absurd (by simpa using h) hje
   ·cases he : dstOf ops j with
    | none => simp [he] at h
    | some e => exact ⟨e, rfl, by simpa [he] using h⟩
 simp only [ownOk, Bool.and_eq_true, List.all_eq_true, List.mem_range] at hown
 have o1 : ∀ p ∈ outs, own.contains p.1 = false := fun p hp => by simpa using hown.1 p hp
 have o2 : ∀ i o, i < m → i ≠ e → ops[i]? = some o → ∀ p ∈ needs ops o, own.contains p.1 = false := by
  intro i o hi hne ho p hp
  have := hown.2 i hi
  rw [ho] at this
  simp only [Bool.or_eq_true] at this
  rcases this with h | h
  ·exact absurd (by simpa using h) hne
  ·simpa using (List.all_eq_true.1 h) p hp
 have hAnc : ∀ (listed : Array Bool), (∀ k o, listed.getD k false = true → ops[k]? = some o → ∀ e ∈ edg o, listed.getD e false = true) → listed.getD e false = true → ∀ i, anc.contains i = true → listed.getD i false = true := by
  intro listed hcl hle
  have : ∀ d i, anc.contains i = true → e - i = d → listed.getD i false = true := by
   intro d
   induction d using Nat.strongRecOn with
   | _ d ihd =>
    intro i hi hd
    have h := (List.all_eq_true.1 hanc) i (by simpa using hi)
    simp only [Bool.and_eq_true, List.any_eq_true] at h
    obtain ⟨hie, j, hj, hj2⟩ := h
    have hie : i < e := by simpa [Nat.blt_eq] using hie
    cases ho' : ops[j]? with
    | none => rw [ho'] at hj2; simp at hj2
    | some o' =>
     rw [ho'] at hj2
     have hij := k1 j o' ho' i (by simpa using hj2)
     refine hcl j o' ?_ ho' i (by simpa using hj2)
     rcases List.mem_cons.1 hj with rfl | hj
     ·exact hle
     ·have hje := (List.all_eq_true.1 hanc) j hj
      simp only [Bool.and_eq_true] at hje
      have hje : j < e := by simpa [Nat.blt_eq] using hje.1
      exact ihd (e - j) (by omega) j (by simpa using hj) rfl
  exact fun i hi => this _ i hi rfl
 -- who still waits for an operation's result
 let waits : Nat → Array Bool → Prop := fun j listed => (∃ p ∈ outs, p.1 = j) ∨ ∃ i o, i < m ∧ listed.getD i false = false ∧ ops[i]? = some o ∧ ∃ p ∈ needs ops o, p.1 = j
 refine wpIn_region_any hm ?_
 -- the relation
 have key : ∀ (fuel : Nat) (listed : Array Bool) (a : Act) (g' : G), listed.size = ops.size → (g.dr.le g' ∧ (listed.getD e false = false → Fr0 g.dr g')) → Fr N ds l0 a →
   (∀ i, i < m → i ≠ e → listed.getD i false = true → ∃ d v, dstOf ops i = some d ∧ a.tmps[d]? = some v ∧ (waits i listed → (fct φs i).p v g')) → (listed.getD e false = true → ∃ v, (fct φs e).p v g') → (∀ j, m ≤ j → j < ops.size → listed.getD j false = false) → (∀ k o, listed.getD k false = true → ops[k]? = some o → ∀ e ∈ edg o, listed.getD e false = true) →
   (ops.size - ((List.range ops.size).filter fun i => listed.getD i false).length ≤ fuel) → wpAnyIn F 0 P .any ops Q fuel listed a g'.w := by
  intro fuel
  induction fuel with
  | zero =>
   intro listed a g' hsz hf ha hfacts hE htail hcl hfuel
   have hall : ∀ j, j < ops.size → listed.getD j false = true := by
    have hlen : ((List.range ops.size).filter fun i => listed.getD i false).length = (List.range ops.size).length := by
     have := List.length_filter_le (fun i => listed.getD i false) (List.range ops.size)
     simp only [List.length_range] at this ⊢
     omega
    have := List.length_filter_eq_length_iff.1 hlen
    intro j hj
    exact this j (List.mem_range.2 hj)
   have hme : m = ops.size := by
    rcases Nat.lt_or_ge m ops.size with h | h
    ·have := htail m (Nat.le_refl _) h; rw [hall m h] at this; cases this
    ·omega
   obtain ⟨env, hW, henv⟩ := QA_use outs (hend g' hf.1 (hE (hall _ (by omega)))) ha (fun p hp => by
    have := (List.all_eq_true.1 houts) p hp
    simp only [Bool.and_eq_true, beq_iff_eq] at this
    have hlt : p.1 < m := by simpa [Nat.blt_eq] using this.1
    obtain ⟨d, v, hd, hv, hfv⟩ := hfacts p.1 hlt (fun q => by rw [q, hde] at this; cases this.2) (hall _ (by omega))
    replace hfv := hfv (.inl ⟨p, hp, rfl⟩)
    rw [this.2] at hd
    obtain rfl := Option.some.inj hd
    exact ⟨v, hv, hfv⟩)
   refine tail_run k1 0 ops.size listed a g'.w hsz (Nat.le_refl _) (fun j o hj ho => ?_) (fun j hj => ⟨fun _ => hj, fun _ => hall j hj⟩) (by omega) (by rw [← hme]; exact hW a henv)
   have := (Array.getElem?_eq_some_iff.1 ho).1
   omega
  | succ fuel ih =>
   intro listed a g' hsz hf ha hfacts hE htail hcl hfuel
   by_cases hpre : ∀ j, j < m → listed.getD j false = true
   ·obtain ⟨env, hW, henv⟩ := QA_use outs (hend g' hf.1 (hE (hpre _ hem))) ha (fun p hp => by
     have := (List.all_eq_true.1 houts) p hp
     simp only [Bool.and_eq_true, beq_iff_eq] at this
     have hlt : p.1 < m := by simpa [Nat.blt_eq] using this.1
     obtain ⟨d, v, hd, hv, hfv⟩ := hfacts p.1 hlt (fun q => by rw [q, hde] at this; cases this.2) (hpre _ hlt)
     replace hfv := hfv (.inl ⟨p, hp, rfl⟩)
     rw [this.2] at hd
     obtain rfl := Option.some.inj hd
     exact ⟨v, hv, hfv⟩)
    refine tail_run k1 (fuel + 1) m listed a g'.w hsz c4 (fun j o hj ho => k2 j o hj ho) (fun j hj => ⟨fun h => ?_, fun h => hpre j h⟩) ?_ (hW a henv)
    ·rcases Nat.lt_or_ge j m with h' | h'
     ·exact h'
     ·rw [htail j h' hj] at h; cases h
    ·have hle : ((List.range ops.size).filter fun i => listed.getD i false).length ≤ m := by
      have hsub : ((List.range ops.size).filter fun i => listed.getD i false).length ≤ ((List.range ops.size).filter fun i => decide (i < m)).length := by
       refine List.Sublist.length_le ?_
       rw [show ((List.range ops.size).filter fun i => listed.getD i false) = ((List.range ops.size).filter fun i => decide (i < m)).filter (fun i => listed.getD i false) from ?_]
       ·exact List.filter_sublist
       ·rw [List.filter_filter]
        refine List.filter_congr fun i hi => ?_
        have hi := List.mem_range.1 hi
        by_cases h : i < m
        ·simp [h]
        ·rw [htail i (by omega) hi]; simp
      have : ((List.range ops.size).filter fun i => decide (i < m)).length = m := by
       have e : ops.size = m + (ops.size - m) := by omega
       rw [e, List.range_add, List.filter_append, List.length_append, List.filter_eq_self.2 (by intro x hx; simpa using hx), List.filter_eq_nil_iff.2 (by
        intro x hx
        obtain ⟨y, _, rfl⟩ := List.mem_map.1 hx
        simp)]
       simp
      omega
     omega
   ·-- something of the first part is not listed: the least such is ready
    have hex : ∃ j, j < m ∧ listed.getD j false = false ∧ ∀ k, k < j → listed.getD k false = true := by
     have : ∃ j, j < m ∧ listed.getD j false = false := by
      apply Classical.byContradiction
      intro hno
      apply hpre
      intro j hj
      cases hc : listed.getD j false with
      | true => rfl
      | false => exact absurd ⟨j, hj, hc⟩ hno
     obtain ⟨j, hj⟩ := this
     induction j using Nat.strongRecOn with
     | _ j ihj =>
      by_cases hk : ∃ k, k < j ∧ listed.getD k false = false
      ·obtain ⟨k, hk1, hk2⟩ := hk
       exact ihj k hk1 ⟨by omega, hk2⟩
      ·refine ⟨j, hj.1, hj.2, fun k hk1 => ?_⟩
       cases hc : listed.getD k false with
       | true => rfl
       | false => exact absurd ⟨k, hk1, hc⟩ hk
    obtain ⟨j0, hj0, hj1, hj2⟩ := hex
    have hready : j0 ∈ Region.ready .any ops listed := by
     rw [ready_iff]
     have hlt : j0 < ops.size := by omega
     refine ⟨by rw [getD_lt (hsz ▸ hlt) true false]; exact hj1, _, Array.getElem?_eq_getElem hlt, fun k hk => hj2 k (k1 j0 _ (Array.getElem?_eq_getElem hlt) k hk)⟩
    refine ⟨fun h0 => (by rw [h0] at hready; cases hready), fun i hi => ?_⟩
    obtain ⟨h0, o, ho, hall⟩ := ready_iff.1 hi
    have hilt : i < ops.size := (Array.getElem?_eq_some_iff.1 ho).1
    rw [getD_lt (hsz ▸ hilt) true false] at h0
    have him : i < m := by
     rcases Nat.lt_or_ge i m with h | h
     ·exact h
     ·have := k4 listed hcl i o h ho hall j0 (by omega); rw [hj1] at this; cases this
    have hstep := hsteps.at (i0 := 0) i o (by rw [List.getElem?_take_of_lt him]; simpa using ho)
    rw [Nat.zero_add] at hstep
    have hFr : (anc.contains i = true ∨ i = e) → Fr0 g.dr g' := by
     intro hi
     refine hf.2 ?_
     cases hle : listed.getD e false with
     | false => rfl
     | true =>
      exfalso
      rcases hi with hi | hi
      ·have := hAnc listed hcl hle i hi
       rw [this] at h0; cases h0
      ·subst hi; rw [hle] at h0; cases h0
    have hneeds : ∀ p ∈ needs ops o, ∃ v, a.tmps[p.2]? = some v ∧ (fct φs p.1).p v g' := by
     intro p hp
     have hp0 := hp
     unfold needs at hp
     obtain ⟨j, hj, hjp⟩ := List.mem_filterMap.1 hp
     cases hdj : dstOf ops j with
     | none => simp [hdj] at hjp
     | some e =>
      simp only [hdj] at hjp
      have hjm : j < m := by have := k1 i o ho j hj; omega
      obtain ⟨d', v, hd', hv, hfv⟩ := hfacts j hjm (fun q => by rw [q, hde] at hdj; cases hdj) (hall j hj)
      rw [hdj] at hd'
      obtain rfl := Option.some.inj hd'
      have hjp2 : ∀ (c : Bool) (q : Nat × Nat), (bif c then some q else none) = some p → q = p := by
       intro c q h
       cases c with
       | true => exact Option.some.inj h
       | false => cases h
      obtain rfl := hjp2 _ _ hjp
      exact ⟨v, hv, hfv (.inr ⟨i, o, him, h0, ho, _, hp0, rfl⟩)⟩
    obtain ⟨env, hk, henv⟩ := QA_use (needs ops o) (hstep g' hf.1 hFr) ha hneeds
    -- what is asked behind the operation
    have hnext : ∀ (a' : Act) (g'' : G) (v : Value), a' = a.put o.dst v → EffM e i g' g'' → (fct φs i).p v g'' → wpAnyIn F 0 P .any ops Q fuel (listed.setIfInBounds i true) a' g''.w := by
     intro a' g'' v he hf' hfv
     have hfr : g.dr.le g'' ∧ ((listed.setIfInBounds i true).getD e false = false → Fr0 g.dr g'') := by
      unfold EffM at hf'; split at hf'
      ·rename_i hie
       refine ⟨hf.1.trans hf', fun hl => ?_⟩
       subst hie
       simp [hsz, hilt] at hl
      ·rename_i hie
       refine ⟨hf.1.trans hf'.le, fun hl => ?_⟩
       refine (hf.2 ?_).trans hf'
       have : (listed.setIfInBounds i true).getD e false = listed.getD e false := by
        simp only [Array.getD_eq_getD_getElem?]
        rw [Array.getElem?_setIfInBounds_ne hie]
       rw [← this]; exact hl
     have hset : ∀ k, k ≠ i → (listed.setIfInBounds i true).getD k false = listed.getD k false := fun k hk => by
      simp only [Array.getD_eq_getD_getElem?]
      rw [Array.getElem?_setIfInBounds_ne (fun e => hk e.symm)]
     have hsetself : (listed.setIfInBounds i true).getD i false = true := by simp [hsz, hilt]
     have hfr0 : Fr N ds l0 a' ∧ (∀ k, k < m → k ≠ e → (listed.setIfInBounds i true).getD k false = true → ∃ d v, dstOf ops k = some d ∧ a'.tmps[d]? = some v ∧ (waits k (listed.setIfInBounds i true) → (fct φs k).p v g'')) := by
      have hold : ∀ k, k < m → k ≠ e → k ≠ i → (listed.setIfInBounds i true).getD k false = true → ∃ d' v', dstOf ops k = some d' ∧ a.tmps[d']? = some v' ∧ (waits k (listed.setIfInBounds i true) → (fct φs k).p v' g'') := by
       intro k hk hke hki hkl
       rw [hset k hki] at hkl
       obtain ⟨d', v', hd', hv', hfv'⟩ := hfacts k hk hke hkl
       refine ⟨d', v', hd', hv', fun hwt => ?_⟩
       have hwt0 : waits k listed := by
        rcases hwt with h | ⟨i2, o2', h1, h2, h3⟩
        ·exact .inl h
        ·refine .inr ⟨i2, o2', h1, ?_, h3⟩
         by_cases h4 : i2 = i
         ·subst h4; rw [hsetself] at h2; cases h2
         ·rw [hset i2 h4] at h2; exact h2
       have hp := hfv' hwt0
       unfold EffM at hf'
       split at hf'
       ·rename_i hie
        rcases SoftL.at hsoft k with h | h
        ·rw [Nat.zero_add] at h
         replace h : own.contains k = true := by
          have hke : (k == e) = false := by simp; exact fun q => hki (q.trans hie.symm)
          simp only [List.contains_cons, hke, Bool.false_or] at h
          exact h
         rcases hwt with ⟨p, hp1, hp2⟩ | ⟨i2, o2', h1, h2, h3, p, hp1, hp2⟩
         ·have := o1 p hp1; rw [hp2, h] at this; cases this
         ·by_cases h4 : i2 = e
          ·rw [h4, ← hie, hsetself] at h2; cases h2
          ·have := o2 i2 o2' h1 h4 h3 p hp1; rw [hp2, h] at this; cases this
        ·exact h _ _ _ hf' hp
       ·exact (fct φs k).mono _ _ _ hf' hp
      by_cases hie : i = e
      ·have hod : o.dst = none := by
        have h := hde
        rw [← hie] at h
        unfold dstOf at h; rw [ho] at h; exact h
       have haa : a' = a := by rw [he, hod]; rfl
       rw [haa]
       exact ⟨ha, fun k hk hke hkl => hold k hk hke (fun q => hke (q.trans hie)) hkl⟩
      ·obtain ⟨d, hd, hdN, hd0, hdne⟩ := k3 i him hie
       have hod : o.dst = some d := by unfold dstOf at hd; rw [ho] at hd; exact hd
       have hput : ∀ t, t ≠ d → a'.tmps[t]? = a.tmps[t]? := fun t ht => by
        rw [he, hod]
        simp only [Act.put]
        rw [Array.getElem?_setIfInBounds_ne (fun e => ht e.symm)]
       have hself : a'.tmps[d]? = some v := by
        rw [he, hod]
        simp only [Act.put]
        rw [Array.getElem?_setIfInBounds_self, if_pos (by rw [ha.size]; exact hdN)]
       refine ⟨⟨by rw [he, hod]; exact ha.defers, by rw [he, hod]; simp [Act.put, ha.size], fun t u hu => ?_⟩, fun k hk hke hkl => ?_⟩
       ·have htd : t ≠ d := fun e => by subst e; rw [hd0] at hu; cases hu
        rw [hput t htd]; exact ha.get t u hu
       ·by_cases hki : k = i
        ·subst hki
         exact ⟨d, v, hd, hself, fun _ => hfv⟩
        ·obtain ⟨d', v', hd', hv', hfv'⟩ := hold k hk hke hki hkl
         obtain ⟨e', he1, he2⟩ := hdne k hk hki hke
         rw [hd'] at he1
         obtain rfl := Option.some.inj he1
         exact ⟨d', v', hd', by rw [hput d' he2]; exact hv', hfv'⟩
     have hE' : (listed.setIfInBounds i true).getD e false = true → ∃ v, (fct φs e).p v g'' := by
      intro hl
      by_cases hie : i = e
      ·subst hie; exact ⟨v, hfv⟩
      ·rw [hset e (fun q => hie q.symm)] at hl
       obtain ⟨v0, hv0⟩ := hE hl
       unfold EffM at hf'
       rw [if_neg hie] at hf'
       exact ⟨v0, (fct φs e).mono _ _ _ hf' hv0⟩
     refine ih _ a' g'' (by simpa using hsz) hfr hfr0.1 hfr0.2 hE' (fun j hj hjs => ?_) (fun k o' hk hko e he => ?_) ?_
     ·rw [hset j (by omega)]
      exact htail j hj hjs
     ·have hle : ∀ x, listed.getD x false = true → (listed.setIfInBounds i true).getD x false = true := fun x hx => by
       by_cases hxi : x = i
       ·subst hxi; exact hsetself
       ·rw [hset x hxi]; exact hx
      by_cases hki : k = i
      ·subst hki
       rw [ho] at hko
       obtain rfl := Option.some.inj hko
       exact hle e (hall e he)
      ·rw [hset k hki] at hk
       exact hle e (hcl k o' hk hko e he)
     ·have hlt : ((List.range ops.size).filter fun k => listed.getD k false).length < ((List.range ops.size).filter fun k => (listed.setIfInBounds i true).getD k false).length := by
       have hsub : List.Sublist ((List.range ops.size).filter fun k => listed.getD k false) ((List.range ops.size).filter fun k => (listed.setIfInBounds i true).getD k false) := by
        have e : ((List.range ops.size).filter fun k => listed.getD k false) = ((List.range ops.size).filter fun k => (listed.setIfInBounds i true).getD k false).filter (fun k => listed.getD k false) := by
         rw [List.filter_filter]
         refine List.filter_congr fun k _ => ?_
         by_cases hki : k = i
         ·subst hki; rw [hsetself]; simp
         ·rw [hset k hki]; simp
        rw [e]
        exact List.filter_sublist
       refine Nat.lt_of_le_of_ne hsub.length_le fun e => ?_
       have := hsub.eq_of_length e
       have hin : i ∈ ((List.range ops.size).filter fun k => (listed.setIfInBounds i true).getD k false) := List.mem_filter.2 ⟨List.mem_range.2 hilt, hsetself⟩
       rw [← this] at hin
       have := (List.mem_filter.1 hin).2
       rw [h0] at this
       cases this
      omega
    unfold wpOpIn
    rw [ho]
    simp only
    cases hg : gdx ops env o.guard with
    | none => rw [hg] at hk; exact hk.elim
    | some b =>
     have hwant : Region.wanted o (yielded ops a.tmps) = b := gdx_spec (l := env) (o := o) hg henv
     rw [hg] at hk
     cases b with
     | true =>
      rw [if_pos hwant]
      exact Oper.wpIn_mono (fun a' w' ⟨v, he, g'', hw, hf', hfv⟩ => hw ▸ hnext a' g'' v he hf' hfv) (hk a henv)
     | false =>
      rw [if_neg (by rw [hwant]; simp)]
      exact ⟨fun f _ => hF f, hnext _ g' undef rfl (by unfold EffM; split; exact G.le.refl _; exact Fr0.refl _) hk⟩
 refine key ops.size _ a g.dr (by simp) ⟨G.le.refl _, fun _ => Fr0.refl _⟩ ha (fun i hi _ hl => ?_) (fun hl => ?_) (fun j _ hj => by simp [hj]) (fun k o hl => ?_) (by omega)
 ·simp only [Array.getD_eq_getD_getElem?, Array.getElem?_replicate] at hl
  split at hl <;> simp at hl
 ·simp only [Array.getD_eq_getD_getElem?, Array.getElem?_replicate] at hl
  split at hl <;> simp at hl
 ·simp only [Array.getD_eq_getD_getElem?, Array.getElem?_replicate] at hl
  split at hl <;> simp at hl
end Go.K
