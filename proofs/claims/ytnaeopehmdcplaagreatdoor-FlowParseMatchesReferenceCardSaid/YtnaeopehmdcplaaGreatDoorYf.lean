/- Arrays, contracts that turn owned things, bits and strings. -/
import Derived.Test.YtnaeopehmdcplaaGreatDoorYe
import Derived.RecoverIn
import Derived.Laws.IdiomStrings

/- An array's literal; a cut up to a place. -/
namespace Go.K
open Go Go.RowKit

variable {F : Fence} {P : Program} {N : Nat} {ds : List Deferred} {l l' : Env} {a : Act} {w : World} {Q : Exit → Act → World → Prop} {ops : Array Oper} {os : List Oper} {o : Oper}
variable {g0 g : G} {L : List Ent} {K : Value → World → Prop}

theorem OpR_buildA {tb : Tb} (htb : tb.ok P) {t n e : Nat} {ti ei : TI} {parts : Array (Nat × Operand)} {vs : List (Nat × Value)} {cells : List Value} (ho : o.op = .build t parts)
  (hp : evs l (parts.toList.map (·.2)) = some (vs.map (·.2))) (hp1 : parts.toList.map (·.1) = vs.map (·.1)) (hi : tl tb t = some ti) (hd : ti.desc = .arr n e) (hj : tl tb e = some ei)
  (hfill : Instr.fill (fun i => some (i * ei.size, ei.size)) ti.zero.cells vs = some cells.toArray) (k : K (.agg cells.toArray) w) : OpR F P N ds o l w Q K := by
 obtain ⟨⟨dd, hu, he⟩, inf, e1, e2, e3, e4⟩ := htb.at hi
 rw [hd] at he
 obtain rfl := KD.of_arr he
 obtain ⟨_, inf', f1, f2, _⟩ := htb.at hj
 refine OpR_value (fun c => ⟨by rw [ho]; simp, by rw [ho]; simp⟩) (fun a ha => ?_) k
 have hvs' : List.map (fun x : Nat × Operand => (x.fst, a.eval x.snd)) parts.toList = vs := by
  have h2 := evs_spec ha hp
  rw [List.map_map] at h2
  have h3 : parts.toList.map (fun p => (p.1, a.eval p.2)) = (parts.toList.map (·.1)).zip (parts.toList.map (fun p => a.eval p.2)) := by rw [List.zip_map']
  have h4 : vs = (vs.map (·.1)).zip (vs.map (·.2)) := by rw [List.zip_map']; simp
  rw [h4, ← hp1, ← h2]
  exact h3
 have hz : (zeroValue t).run P w = .ok ti.zero w := by simp [zeroValue, typeInfo, e1, e4]
 simp only [execOp, ho, Instr.build, Sem.run_bind, hz, Result.andThen_ok, run_underlying hu, sizeOf, typeInfo, run_program, f1, Sem.run_pure, f2, Array.toList_map, hvs', hfill]

end Go.K

/- Panics: a call that panics, a panic, functions that defer, closures that recover; contracts that turn what the caller owns. -/
namespace Go.K
open Go Go.RowKit

variable {F : Fence} {P : Program} {N : Nat} {ds : List Deferred} {l l' : Env} {a : Act} {w : World} {Q : Exit → Act → World → Prop} {ops : Array Oper} {os : List Oper} {o : Oper}
variable {g0 g : G} {L : List Ent} {K : Value → World → Prop} {R : Ending → World → Prop}

/-- A call that returns or panics. -/
theorem OpR_callE {f : FuncId} (hc : Callable P f) (hF : ∀ f, F.fn f) (hdep : F.depth = none) {x : Operand} {args : Array Operand} {ts : Array TypeId} {first captured : Array Value} {vs as : List Value}
  (ho : o.op = .call { callee := .value x, args, argTypes := ts }) (hx : ev l x = some (.func (.func f) first captured)) (ha : evs l args.toList = some vs) (has : first.toList ++ vs ++ captured.toList = as)
  (h : CallsIn F 0 P f as.toArray w fun e w' => (∃ v, e = .returned v ∧ K v w') ∨ ∃ ch, e = .panicked ch ∧ ∀ a, Fr N ds l a → Q (.panic ch) a w') : OpR F P N ds o l w Q K := by
 intro a haa
 have hAs : first ++ vs.toArray ++ captured = as.toArray := by rw [← has]; apply Array.ext'; simp
 rw [← hAs] at h
 unfold Oper.wpIn
 refine ⟨fun f _ => hF f, ?_⟩
 have hargs : args.map a.eval = vs.toArray := by apply Array.ext'; simpa using evs_spec haa ha
 rw [Oper.semAt_eq _ _ _ (fun c e => by rw [ho] at e; cases e)]
 have hrun : (execOp a.eval o).run P w = .ok (.enter f (first ++ vs.toArray ++ captured)) w := by
  simp only [execOp, ho, Sem.run_bind, resolve, haa.ev hx, Deferred.ofValue, Sem.run_pure, Result.andThen_ok, invoke, hargs]
  exact run_callFunc hc _
 rw [hrun]
 refine ⟨fun h => (by rw [hdep] at h; cases h), ?_⟩
 refine CallsIn.mono h fun e w' he => ?_
 rcases he with ⟨v, he, hk⟩ | ⟨ch, he, hq⟩
 ·subst he; exact ⟨v, rfl, hk⟩
 ·subst he; exact hq a haa

/-- What a contract says that turns what the caller owns. -/
def RetS (g : G) (R : G → Value → Prop) : Ending → World → Prop := fun e w' => ∃ g' v, g'.w = w' ∧ e = .returned v ∧ g.le g' ∧ R g' v
/-- A call that panics. -/
def BoomS (g : G) (ch : List PanicEntry) (R : G → Prop) : Ending → World → Prop := fun e w' => ∃ g', g'.w = w' ∧ e = .panicked ch ∧ g.le g' ∧ R g'

theorem OpR_st {R : G → Value → Prop} {f : FuncId} (hc : Callable P f) (hF : ∀ f, F.fn f) (hdep : F.depth = none) {x : Operand} {args : Array Operand} {ts : Array TypeId} {first captured : Array Value} {vs as : List Value}
  (ho : o.op = .call { callee := .value x, args, argTypes := ts }) (hx : ev l x = some (.func (.func f) first captured)) (ha : evs l args.toList = some vs) (has : first.toList ++ vs ++ captured.toList = as)
  (h : CallsIn F 0 P f as.toArray g.w (RetS g R)) (k : ∀ g' v, g.le g' → R g' v → K v g'.w) : OpR F P N ds o l g.w Q K :=
 OpR_call hc hF hdep ho hx ha has (CallsIn.mono h fun _ _ ⟨g', v, hw, he, hf, hr⟩ => ⟨v, he, hw ▸ k g' v hf hr⟩)

theorem OpR_panic {x : Operand} {t : TypeId} {v : Value} (ho : o.op = .panic x) (hx : ev l x = some (.iface t v)) (k : ∀ a, Fr N ds l a → Q (.panic [{ v := .iface t v, recovered := false }]) a w) : OpR F P N ds o l w Q K := by
 intro a ha
 unfold Oper.wpIn
 refine ⟨fun f hf => ?_, ?_⟩
 ·unfold Oper.about at hf
  simp only [ho] at hf
  cases hf
 ·rw [Oper.semAt_eq _ _ _ (fun c e => by rw [ho] at e; cases e)]
  have : (execOp a.eval o).run P w = .halt (.panic (.iface t v)) w := by
   simp only [execOp, ho, ha.ev hx, Sem.run_bind, run_panic_iface]
   rfl
  rw [this]
  exact k a ha

/-! ### A panic on its way out -/

theorem T_tp {J : Act → World → Prop} {ch : List PanicEntry} (h : ∀ a, Fr N ds l a → Q (.panic ch) a w) : ∀ a, Fr N ds l a → Exit.then J Q (.panic ch) a w := h
theorem T_bp {id : Nat} {ch : List PanicEntry} (h : ∀ a, Fr N ds l a → Q (.panic ch) a w) : ∀ a, Fr N ds l a → Exit.inBlock id Q (.panic ch) a w := h
theorem T_gp {ch : List PanicEntry} (h : ∀ a, Fr N ds l a → Q (.panic ch) a w) : ∀ a, Fr N ds l a → Exit.noGoto Q (.panic ch) a w := h
theorem panic0 {fn : Func} {ch : List PanicEntry} (hR : R (.panicked ch) w) (a : Act) (ha : Fr N [] l a) : bodyPost P fn R (.panic ch) a w := ⟨ha.defers, hR⟩
theorem RetS.intro {R : G → Value → Prop} {g' : G} {v : Value} (hle : g.le g') (h : R g' v) : RetS g R (.returned v) g'.w := ⟨g', v, rfl, rfl, hle, h⟩
theorem BoomS.intro {R : G → Prop} {ch : List PanicEntry} {g' : G} (hle : g.le g') (h : R g') : BoomS g ch R (.panicked ch) g'.w := ⟨g', rfl, rfl, hle, h⟩

/-! ### The owned things in another order -/

theorem St.front (hs : St g0 g L) {i : Nat} {e : Ent} (hi : L[i]? = some e) : St g0 g (e :: L.eraseIdx i) := by
 have hlt := (List.getElem?_eq_some_iff.1 hi).1
 have idx : ∀ (j : Nat) x, (e :: L.eraseIdx i)[j]? = some x → ∃ j', L[j']? = some x ∧ j' = (if j = 0 then i else if j - 1 < i then j - 1 else j) := by
  intro j x hj
  cases j with
  | zero => simp only [List.getElem?_cons_zero, Option.some.injEq] at hj; subst hj; exact ⟨i, hi, by simp⟩
  | succ j =>
   rw [List.getElem?_cons_succ, List.getElem?_eraseIdx] at hj
   split at hj
   ·rename_i h; exact ⟨j, hj, by simp [h]⟩
   ·rename_i h; exact ⟨j + 1, hj, by simp [h]⟩
 refine ⟨hs.below, hs.im, fun j x hj => ?_, fun j k x y hjk hj hk b hbx hby => ?_⟩
 ·obtain ⟨j', hj', _⟩ := idx j x hj
  exact hs.own j' x hj'
 ·obtain ⟨j', hj', e1⟩ := idx j x hj
  obtain ⟨k', hk', e2⟩ := idx k y hk
  refine hs.sep j' k' x y ?_ hj' hk' b hbx hby
  rw [e1, e2]
  repeat' split
  all_goals omega
end Go.K

/- More operations by computation: bits, shifts by constants, conversions of integers; strings and bytes; arrays as values; copies. -/
namespace Go.K
open Go Go.RowKit

variable {F : Fence} {P : Program} {N : Nat} {ds : List Deferred} {l l' : Env} {a : Act} {w : World} {Q : Exit → Act → World → Prop} {ops : Array Oper} {os : List Oper} {o : Oper}
variable {g0 g : G} {L : List Ent} {K : Value → World → Prop} {R : Ending → World → Prop}

/-! ### Bits, shifts, conversions of integers -/

def bitAnd (k : IntKind) (a b : Int) : Int := k.wrap (BitVec.ofInt k.bits a &&& BitVec.ofInt k.bits b).toNat
def bitOr (k : IntKind) (a b : Int) : Int := k.wrap (BitVec.ofInt k.bits a ||| BitVec.ofInt k.bits b).toNat
def bitXor (k : IntKind) (a b : Int) : Int := k.wrap (BitVec.ofInt k.bits a ^^^ BitVec.ofInt k.bits b).toNat
def bitClr (k : IntKind) (a b : Int) : Int := k.wrap (BitVec.ofInt k.bits a &&& ~~~ BitVec.ofInt k.bits b).toNat
def bitNot (k : IntKind) (n : Int) : Int := bitXor k (if k.signed then -1 else k.max) n
def shlI (k : IntKind) (a : Int) (n : Nat) : Int := k.wrap (a * 2 ^ min n k.bits)
def shrI (k : IntKind) (a : Int) (n : Nat) : Int := a.fdiv (2 ^ min n k.bits)

def pbit (op : BinOp) (x y : Value) : Option Value :=
 match x, y with
 | .int k a, .int k' b =>
  if k = k' then
   match op with
   | .and => some (.int k (bitAnd k a b))
   | .or => some (.int k (bitOr k a b))
   | .xor => some (.int k (bitXor k a b))
   | .andNot => some (.int k (bitClr k a b))
   | _ => none
  else none
 | _, _ => none
def pshift (op : BinOp) (x y : Value) : Option Value :=
 match x, y with
 | .int k a, .int _ (.ofNat n) =>
  match op with
  | .shl => some (.int k (shlI k a n))
  | .shr => some (.int k (shrI k a n))
  | _ => none
 | _, _ => none
def pconv (d : KD) (x : Value) : Option Value :=
 match d, x with
 | .int k, .int _ n => some (.int k (k.wrap n))
 | _, _ => none

def pev2 (tb : Tb) (l : Env) : Op → Option Value
 | .binOp op _ x y _ =>
  match op with
  | .shl | .shr =>
   match ev l x, ev l y with
   | some a, some b => pshift op a b
   | _, _ => none
  | _ =>
   match ev l x, ev l y with
   | some a, some b => pbit op a b
   | _, _ => none
 | .unOp .xor _ x =>
  match ev l x with
  | some (.int k n) => some (.int k (bitNot k n))
  | _ => none
 | .convert s d x =>
  match tl tb s, tl tb d, ev l x with
  | some _, some i, some v => pconv i.desc v
  | _, _, _ => none
 | _ => none

theorem KD.of_int {d : TypeDesc} {k : IntKind} (h : KD.of d = .int k) : d = .int k := by
 cases d <;> simp only [KD.of, reduceCtorEq, KD.int.injEq] at h
 rw [h]

theorem pbit_run {op : BinOp} {t : TypeId} {x y v : Value} (xo yo : Operand) (h : pbit op x y = some v) : (do eqGuard op t xo yo x y; binOp op t x y : Sem Value).run P w = .ok v w := by
 unfold pbit at h
 split at h
 ·rename_i k a k' b
  split at h
  ·rename_i hk
   subst hk
   have hb : (binOp op t (.int k a) (.int k b)).run P w = .ok v w := by
    split at h <;> simp only [Option.some.injEq, reduceCtorEq] at h <;> subst h <;> simp [binOp, Op.intBits, bitAnd, bitOr, bitXor, bitClr]
   simp only [Sem.run_bind, run_eqGuard_int, Result.andThen_ok]
   exact hb
  ·cases h
 ·cases h
theorem pshift_run {op : BinOp} {t : TypeId} {x y v : Value} (xo yo : Operand) (h : pshift op x y = some v) : (do eqGuard op t xo yo x y; binOp op t x y : Sem Value).run P w = .ok v w := by
 unfold pshift at h
 split at h
 ·rename_i k a k' n
  have hn : ¬ ((Int.ofNat n) < 0) := by have : (Int.ofNat n) = (n : Int) := rfl; omega
  have hb : (binOp op t (.int k a) (.int k' (.ofNat n))).run P w = .ok v w := by
   split at h <;> simp only [Option.some.injEq, reduceCtorEq] at h <;> subst h <;> unfold binOp <;> simp only <;> unfold Op.shift <;> rw [if_neg hn] <;> rfl
  simp only [Sem.run_bind, run_eqGuard_int, Result.andThen_ok]
  exact hb
 ·cases h

theorem OpR_pure2 (tb : Tb) (htb : tb.ok P) {v : Value} {K : Value → World → Prop} (h : pev2 tb l o.op = some v) (k : K v w) : OpR F P N ds o l w Q K := by
 obtain ⟨dst, op, type, pos, after, guard⟩ := o
 simp only at h
 unfold pev2 at h
 split at h
 ·rename_i op t x y ty
  have bits : ∀ {a b : Value}, ev l x = some a → ev l y = some b → pbit op a b = some v → OpR F P N ds ⟨dst, .binOp op t x y ty, type, pos, after, guard⟩ l w Q K := fun hx hy h => by
   refine OpR_value (by simp) (fun a ha => ?_) k
   have := pbit_run (P := P) (w := w) (t := t) x y h
   simp only [Sem.run_bind] at this
   simp only [execOp, ha.ev hx, ha.ev hy, Sem.run_bind]
   generalize Sem.run P (eqGuard op t x y _ _) w = r at *
   cases r with
   | ok u w1 =>
    simp only [Result.andThen_ok] at this ⊢
    rw [this]; rfl
   | halt u w1 => cases this
  have shift : ∀ {a b : Value}, ev l x = some a → ev l y = some b → pshift op a b = some v → OpR F P N ds ⟨dst, .binOp op t x y ty, type, pos, after, guard⟩ l w Q K := fun hx hy h => by
   refine OpR_value (by simp) (fun a ha => ?_) k
   have := pshift_run (P := P) (w := w) (t := t) x y h
   simp only [Sem.run_bind] at this
   simp only [execOp, ha.ev hx, ha.ev hy, Sem.run_bind]
   generalize Sem.run P (eqGuard op t x y _ _) w = r at *
   cases r with
   | ok u w1 =>
    simp only [Result.andThen_ok] at this ⊢
    rw [this]; rfl
   | halt u w1 => cases this
  split at h <;>
   (split at h
    ·rename_i hx hy
     first | exact shift hx hy h | exact bits hx hy h
    ·cases h)
 ·rename_i t x
  split at h
  ·rename_i k' n hx
   simp only [Option.some.injEq] at h
   subst h
   refine OpR_value (by simp) (fun a ha => ?_) k
   simp [execOp, ha.ev hx, Op.unary, Op.intBits, bitNot, bitXor]
  ·cases h
 ·rename_i s d x
  split at h
  ·rename_i i1 i2 v' h1 h2 hx
   unfold pconv at h
   split at h
   ·rename_i kk k' n hd
    simp only [Option.some.injEq] at h
    subst h
    obtain ⟨⟨d1, hu1, _⟩, _⟩ := htb.at h1
    obtain ⟨⟨d2, hu2, he2⟩, _⟩ := htb.at h2
    rw [hd] at he2
    obtain rfl := KD.of_int he2
    refine OpR_value (by simp) (fun a ha => ?_) k
    simp [execOp, ha.ev hx, convert, run_underlying hu1, run_underlying hu2, Conv.intToInt]
   ·cases h
  ·cases h
 ·cases h
theorem P2 {tb : Tb} (htb : tb.ok P) {v : Value} {d : Nat} {op : Op} {ty : TypeId} {pos : String} {af : Array Edge} {gu : Option (Nat × Bool)} (hg : gdx ops l gu = some true) (hd : Nat.blt d N = true) (h : pev2 tb l op = some v) (k : WL F P N ds ops Q os ((d, v) :: l) w) :
  WL F P N ds ops Q (⟨some d, op, ty, pos, af, gu⟩ :: os) l w := WL_o hg hd (OpR_pure2 tb htb h k)

/-! ### Bytes and strings -/

/-- A string of given bytes. -/
def bs (l : List UInt8) : ByteArray := ⟨l.toArray⟩
def byteV (l : List UInt8) : List Value := l.map fun b => .int .u8 (b.toNat : Int)
theorem bs_size (l : List UInt8) : (bs l).size = l.length := by simp [bs, ByteArray.size]
theorem bs_of (s : ByteArray) : s = bs s.data.toList := by simp [bs]
theorem bs_append (x y : List UInt8) : bs x ++ bs y = bs (x ++ y) := by
 apply ByteArray.ext; simp [bs]
theorem bs_extract (x : List UInt8) (a b : Nat) : (bs x).extract a b = bs ((x.take b).drop a) := by
 apply ByteArray.ext
 simp only [bs, ByteArray.data_extract, List.extract_toArray, List.extract_eq_take_drop]
 rw [List.drop_take]
theorem bs_toList (x : List UInt8) : (bs x).toList = x := ByteArray.toList_mk x

instance : El UInt8 where
 k := 1
 pos := by omega
 rc _ cs n := cs = [.int .u8 (n.toNat : Int)]
 len h := by rw [h]; rfl
 mono _ h := h
 one h := by rw [h]; simp [Value.oneCell']
theorem RcL.bytes (g : G) : ∀ l : List UInt8, RcL g (byteV l) l
 | [] => rfl
 | b :: r => ⟨[.int .u8 (b.toNat : Int)], byteV r, rfl, rfl, RcL.bytes g r⟩
theorem RcL.bytes_inv {g : G} : ∀ {l : List UInt8} {cs : List Value}, RcL g cs l → cs = byteV l
 | [], _, h => h
 | b :: r, _, ⟨c1, c2, e, h1, h2⟩ => by rw [e, show c1 = [.int .u8 (b.toNat : Int)] from h1, RcL.bytes_inv h2]; rfl
/-- A string, as an element. -/
structure Str where
 s : List UInt8
instance : El Str where
 k := 1
 pos := by omega
 rc _ cs n := cs = [.string (bs n.s)]
 len h := by rw [h]; rfl
 mono _ h := h
 one h := by rw [h]; simp [Value.oneCell']

/-- 's[i]' of a string. -/
theorem OpR_idxS {tb : Tb} (htb : tb.ok P) {t : Nat} {ti : TI} {x ix : Operand} {s : List UInt8} {k : IntKind} {n : Int} (ho : o.op = .index t x ix) (hx : ev l x = some (.string (bs s))) (hix : ev l ix = some (.int k n))
  (hi : tl tb t = some ti) (hd : ti.desc = .string) (h0 : 0 ≤ n) (hlt : n.toNat < s.length) (kk : K (.int .u8 (s[n.toNat].toNat : Int)) w) : OpR F P N ds o l w Q K := by
 obtain ⟨⟨dd, hu, he⟩, _⟩ := htb.at hi
 rw [hd] at he
 obtain rfl := KD.of_string he
 refine OpR_value (fun c => ⟨by rw [ho]; simp, by rw [ho]; simp⟩) (fun a ha => ?_) kk
 have hg : (bs s)[n.toNat]? = some s[n.toNat] := by
  have h1 : n.toNat < (bs s).size := by rw [bs_size]; exact hlt
  rw [getElem?_pos (bs s) n.toNat h1]
  rfl
 simp [execOp, ho, ha.ev hx, ha.ev hix, Instr.index, asIntOf, run_underlying hu, h0, hg]

theorem OpR_addS {t t' : TypeId} {x y : Operand} {p q : List UInt8} (ho : o.op = .binOp .add t x y t') (hx : ev l x = some (.string (bs p))) (hy : ev l y = some (.string (bs q))) (hl : p.length + q.length ≤ 9223372036854775807) (kk : K (.string (bs (p ++ q))) w) : OpR F P N ds o l w Q K := by
 refine OpR_value (fun c => ⟨by rw [ho]; simp, by rw [ho]; simp⟩) (fun a ha => ?_) kk
 have h : ¬ (((bs p).size + (bs q).size : Nat) : Int) > IntKind.i64.max := by
  rw [bs_size, bs_size]
  have : IntKind.i64.max = 9223372036854775807 := by decide
  omega
 have h' : ¬ (IntKind.i64.max < ((bs p).size : Int) + ((bs q).size : Int)) := by
  have e : (((bs p).size + (bs q).size : Nat) : Int) = ((bs p).size : Int) + ((bs q).size : Int) := by omega
  rw [← e]; exact h
 have h3 : ((bs p).size : Int) + ((bs q).size : Int) ≤ 9223372036854775807 := by rw [bs_size, bs_size]; omega
 simp [execOp, ho, ha.ev hx, ha.ev hy, run_eqGuard_string, binOp, Op.stringOp, h', h3, bs_append]

theorem OpR_eqS {t t' : TypeId} {x y : Operand} {neg : Bool} {p q : List UInt8} (ho : o.op = .binOp (if neg then .neq else .eql) t x y t') (hx : ev l x = some (.string (bs p))) (hy : ev l y = some (.string (bs q))) (kk : K (.bool (neg != (p == q))) w) : OpR F P N ds o l w Q K := by
 refine OpR_value (fun c => ⟨by rw [ho]; simp, by rw [ho]; simp⟩) (fun a ha => ?_) kk
 cases neg <;> simp [execOp, ho, ha.ev hx, ha.ev hy, run_eqGuard_string, binOp, Op.stringOp, bs_toList]

/-- 's[a:b]' of a string. -/
theorem OpR_cutS {tb : Tb} (htb : tb.ok P) {t : Nat} {ti : TI} {x : Operand} {lo hi' : Option Operand} {s : List UInt8} {a b : Nat} (ho : o.op = .slice t x lo hi' none) (hi : tl tb t = some ti) (hd : ti.desc = .string)
  (hx : ev l x = some (.string (bs s))) (hlo : (match lo with | some v => ∃ k, ev l v = some (.int k (a : Int)) | none => a = 0)) (hhi : (match hi' with | some v => ∃ k, ev l v = some (.int k (b : Int)) | none => b = s.length))
  (h1 : a ≤ b) (h2 : b ≤ s.length) (k : K (.string (bs ((s.take b).drop a))) w) : OpR F P N ds o l w Q K := by
 obtain ⟨⟨dd, hu, he⟩, _⟩ := htb.at hi
 rw [hd] at he
 obtain rfl := KD.of_string he
 refine OpR_value (fun c => ⟨by rw [ho]; simp, by rw [ho]; simp⟩) (fun ac ha => ?_) k
 have hr : ∀ (u v : Option Value), (match u with | some v => ∃ k, v = .int k (a : Int) | none => a = 0) → (match v with | some v => ∃ k, v = .int k (b : Int) | none => b = s.length) → (Instr.sliceAt t (.string (bs s)) u v none).run P w = .ok (.string (bs ((s.take b).drop a))) w := by
  intro u v hlo hhi
  have e : ∀ b, b ≤ s.length → (bs s).extract a b = bs ((s.take b).drop a) := fun b _ => bs_extract s a b
  cases u with
  | none =>
   have hlo : a = 0 := hlo
   subst hlo
   cases v with
   | none =>
    have hhi : b = s.length := hhi
    subst hhi
    simp [Instr.sliceAt, run_underlying hu, Instr.slice, Instr.sliceBounds, bs_size, e _ (Nat.le_refl _)]
   | some v =>
    obtain ⟨k, rfl⟩ := hhi
    simp [Instr.sliceAt, run_underlying hu, Instr.slice, Instr.sliceBounds, Instr.sliceBound, asIntOf, bs_size, h2, e _ h2]
  | some u =>
   obtain ⟨k', rfl⟩ := hlo
   cases v with
   | none =>
    have hhi : b = s.length := hhi
    subst hhi
    simp [Instr.sliceAt, run_underlying hu, Instr.slice, Instr.sliceBounds, Instr.sliceBound, asIntOf, bs_size, h1, e _ (Nat.le_refl _)]
   | some v =>
    obtain ⟨k, rfl⟩ := hhi
    simp [Instr.sliceAt, run_underlying hu, Instr.slice, Instr.sliceBounds, Instr.sliceBound, asIntOf, bs_size, h1, h2, e _ h2]
 have := hr (lo.map ac.eval) (hi'.map ac.eval)
  (by cases lo with
   | none => exact hlo
   | some v => obtain ⟨k, hk⟩ := hlo; exact ⟨k, ha.ev hk⟩)
  (by cases hi' with
   | none => exact hhi
   | some v => obtain ⟨k, hk⟩ := hhi; exact ⟨k, ha.ev hk⟩)
 simp [execOp, ho, ha.ev hx, this]

/-- 'string(b)', of bytes. -/
theorem OpR_bytesStr {tb : Tb} (htb : tb.ok P) {s d e : Nat} {si di ei : TI} {x : Operand} {ad : Option Addr} {n c : Nat} {ns : List Int} (ho : o.op = .convert s d x) (hx : ev l x = some (.slice ad n c))
  (hi : tl tb s = some si) (hd : si.desc = .slice e) (hj : tl tb e = some ei) (he : ei.desc = .int .u8) (hk : tl tb d = some di) (hds : di.desc = .string)
  (hsrc : Src w ad n 1 (ns.map (Value.int .u8))) (kk : K (.string (bs (ns.map fun m => UInt8.ofNat m.toNat))) w) : OpR F P N ds o l w Q K := by
 obtain ⟨⟨d1, hu1, h1⟩, _⟩ := htb.at hi
 rw [hd] at h1
 obtain rfl := KD.of_slice h1
 obtain ⟨⟨d2, hu2, h2⟩, _⟩ := htb.at hj
 rw [he] at h2
 obtain rfl := KD.of_int h2
 obtain ⟨⟨d3, hu3, h3⟩, _⟩ := htb.at hk
 rw [hds] at h3
 obtain rfl := KD.of_string h3
 refine OpR_value (fun c => ⟨by rw [ho]; simp, by rw [ho]; simp⟩) (fun a ha => ?_) kk
 have hfold : ∀ (l : List Int) (r : ByteArray), l.foldl (fun r m => r.push (UInt8.ofNat m.toNat)) r = ⟨r.data ++ (l.map fun m => UInt8.ofNat m.toNat).toArray⟩ := by
  intro l
  induction l with
  | nil => intro r; simp
  | cons m l ih => intro r; rw [List.foldl_cons, ih]; simp [ByteArray.push]
 have hrun : (convert s d (.slice ad n c)).run P w = .ok (.string (bs (ns.map fun m => UInt8.ofNat m.toNat))) w := by
  rw [run_convert_bytes_string w s d e ad n c hu1 hu2 hu3]
  obtain ⟨hl, hc⟩ := hsrc
  rw [List.length_map, Nat.mul_one] at hl
  by_cases h0 : n = 0
  ·subst h0
   obtain rfl : ns = [] := List.eq_nil_of_length_eq_zero hl
   cases ad with
   | none => simp [Conv.bytesToString, bs]; rfl
   | some a =>
    have := run_bytesToString (P := P) w a 0 c [] (by simp [loadCells, loadCellsFrom])
    rw [this]; simp [bs]; rfl
  ·obtain ⟨b, p, rfl, hcc⟩ := hc.resolve_left h0
   have hld := run_loadCells_list (P := P) w ⟨b, p, none⟩ (ns.map (Value.int .u8)) (fun j y hy => by rw [Addr.add_lit]; exact hcc j y hy)
   rw [List.length_map, hl] at hld
   rw [run_bytesToString w _ n c ns hld, hfold]
   have : ByteArray.empty.data = #[] := rfl
   rw [this]; simp [bs]
 simp [execOp, ho, ha.ev hx, hrun]

/-! ### Copies -/

/-- What a copy reads. -/
structure CopySrc (P : Program) (w : World) (v : Value) (us : List Value) : Prop where
 len : (Builtin.lenOf v).run P w = .ok us.length w
 fst : ∀ k, k ≤ us.length → (Builtin.firstCells 1 k v).run P w = .ok (us.take k).toArray w
 one : ∀ u ∈ us, u.oneCell' = true
theorem CopySrc.src {ad : Option Addr} {n c : Nat} {us : List Value} (h : Src w ad n 1 us) (h1 : ∀ u ∈ us, u.oneCell' = true) : CopySrc P w (.slice ad n c) us := by
 obtain ⟨hl, h⟩ := h
 rw [Nat.mul_one] at hl
 refine ⟨by simp [Builtin.lenOf, hl], fun k hk => ?_, h1⟩
 rcases h with h0 | ⟨b, p, rfl, hc⟩
 ·obtain rfl : us = [] := List.eq_nil_of_length_eq_zero (by omega)
  obtain rfl : k = 0 := by simpa using hk
  cases ad <;> simp [Builtin.firstCells, loadCells, loadCellsFrom]
 ·have := run_firstCells_some (P := P) w 1 k ⟨b, p, none⟩ n c (us.take k) (by rw [List.length_take]; omega) (fun j u hu => by
   rw [Addr.add_lit]
   have hj : j < k := by have := (List.getElem?_eq_some_iff.1 hu).1; rw [List.length_take] at this; omega
   rw [List.getElem?_take_of_lt hj] at hu
   exact hc j u hu)
  exact this

end Go.K

/- Shifts by numbers that are not constants; what a deferred closure needs. -/
namespace Go.K
open Go Go.RowKit

variable {F : Fence} {P : Program} {N : Nat} {ds : List Deferred} {l l' : Env} {a : Act} {w : World} {Q : Exit → Act → World → Prop} {ops : Array Oper} {os : List Oper} {o : Oper}
variable {g0 g : G} {L : List Ent} {K : Value → World → Prop} {R : Ending → World → Prop}

end Go.K

/- Slices of arrays behind pointers; copies inside an owned block; loads and stores at places that are not constants. -/
namespace Go.K
open Go Go.RowKit

variable {F : Fence} {P : Program} {N : Nat} {ds : List Deferred} {l l' : Env} {a : Act} {w : World} {Q : Exit → Act → World → Prop} {ops : Array Oper} {os : List Oper} {o : Oper}
variable {g0 g : G} {L : List Ent} {K : Value → World → Prop} {R : Ending → World → Prop}

end Go.K

/- Lists of numbers in an owned block: loads, stores, whole stores. -/
namespace Go.K
open Go Go.RowKit

variable {F : Fence} {P : Program} {N : Nat} {ds : List Deferred} {l l' : Env} {a : Act} {w : World} {Q : Exit → Act → World → Prop} {ops : Array Oper} {os : List Oper} {o : Oper}
variable {g0 g : G} {L : List Ent} {K : Value → World → Prop} {R : Ending → World → Prop}

end Go.K
