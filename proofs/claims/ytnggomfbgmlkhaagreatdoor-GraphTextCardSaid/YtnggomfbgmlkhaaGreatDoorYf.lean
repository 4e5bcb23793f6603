/- Arrays, contracts that turn owned things, bits and strings. -/
import Derived.Test.YtnggomfbgmlkhaaGreatDoorYe
import Derived.RecoverIn
import Derived.Laws.IdiomStrings

/- An array's literal; a cut up to a place. -/
namespace Go.K
open Go Go.RowKit

variable {F : Fence} {P : Program} {N : Nat} {ds : List Deferred} {l l' : Env} {a : Act} {w : World} {Q : Exit → Act → World → Prop} {ops : Array Oper} {os : List Oper} {o : Oper}
variable {g0 g : G} {L : List Ent} {K : Value → World → Prop}

end Go.K

/- Panics: a call that panics, a panic, functions that defer, closures that recover; contracts that turn what the caller owns. -/
namespace Go.K
open Go Go.RowKit

variable {F : Fence} {P : Program} {N : Nat} {ds : List Deferred} {l l' : Env} {a : Act} {w : World} {Q : Exit → Act → World → Prop} {ops : Array Oper} {os : List Oper} {o : Oper}
variable {g0 g : G} {L : List Ent} {K : Value → World → Prop} {R : Ending → World → Prop}

/-- A call that returns or panics. -/
theorem OpR_callE {f : FuncId} (hc : Callable P f) (hF : ∀ f, F.fn f) (hdep : F.depth = none) {x : Operand} {args : Array Operand} {ts : Array TypeId} {first captured : Array Value} {vs as : List Value}
  (ho : o.op = .call { callee := .value x, args, argTypes := ts }) (hx : ev l x = some (.func (.func f) first captured)) (ha : evs l args.toList = some vs) (has : first.toList ++ vs ++ captured.toList = as)
  (h : CallsIn F 0 P f as.toArray w fun e w' => (∃ v, e = .returned v ∧ K v w') ∨ ∃ ch, e = .panicked ch ∧ ∀ a, Fr N ds l a → Q (.panic ch) a w') : OpR F P N ds o l w Q K := by
 intro a haa
 have hAs : first ++ vs.toArray ++ captured = as.toArray := by rw [← has]; apply Array.ext'; simp
 rw [← hAs] at h
 unfold Oper.wpIn
 refine ⟨fun f _ => hF f, ?_⟩
 have hargs : args.map a.eval = vs.toArray := by apply Array.ext'; simpa using evs_spec haa ha
 rw [Oper.semAt_eq _ _ _ (fun c e => by rw [ho] at e; cases e)]
 have hrun : (execOp a.eval o).run P w = .ok (.enter f (first ++ vs.toArray ++ captured)) w := by
  simp only [execOp, ho, Sem.run_bind, resolve, haa.ev hx, Deferred.ofValue, Sem.run_pure, Result.andThen_ok, invoke, hargs]
  exact run_callFunc hc _
 rw [hrun]
 refine ⟨fun h => (by rw [hdep] at h; cases h), ?_⟩
 refine CallsIn.mono h fun e w' he => ?_
 rcases he with ⟨v, he, hk⟩ | ⟨ch, he, hq⟩
 ·subst he; exact ⟨v, rfl, hk⟩
 ·subst he; exact hq a haa

/-- What a contract says that turns what the caller owns. -/
def RetS (g : G) (R : G → Value → Prop) : Ending → World → Prop := fun e w' => ∃ g' v, g'.w = w' ∧ e = .returned v ∧ g.le g' ∧ R g' v
/-- A call that panics. -/
def BoomS (g : G) (ch : List PanicEntry) (R : G → Prop) : Ending → World → Prop := fun e w' => ∃ g', g'.w = w' ∧ e = .panicked ch ∧ g.le g' ∧ R g'

theorem OpR_st {R : G → Value → Prop} {f : FuncId} (hc : Callable P f) (hF : ∀ f, F.fn f) (hdep : F.depth = none) {x : Operand} {args : Array Operand} {ts : Array TypeId} {first captured : Array Value} {vs as : List Value}
  (ho : o.op = .call { callee := .value x, args, argTypes := ts }) (hx : ev l x = some (.func (.func f) first captured)) (ha : evs l args.toList = some vs) (has : first.toList ++ vs ++ captured.toList = as)
  (h : CallsIn F 0 P f as.toArray g.w (RetS g R)) (k : ∀ g' v, g.le g' → R g' v → K v g'.w) : OpR F P N ds o l g.w Q K :=
 OpR_call hc hF hdep ho hx ha has (CallsIn.mono h fun _ _ ⟨g', v, hw, he, hf, hr⟩ => ⟨v, he, hw ▸ k g' v hf hr⟩)

theorem OpR_panic {x : Operand} {t : TypeId} {v : Value} (ho : o.op = .panic x) (hx : ev l x = some (.iface t v)) (k : ∀ a, Fr N ds l a → Q (.panic [{ v := .iface t v, recovered := false }]) a w) : OpR F P N ds o l w Q K := by
 intro a ha
 unfold Oper.wpIn
 refine ⟨fun f hf => ?_, ?_⟩
 ·unfold Oper.about at hf
  simp only [ho] at hf
  cases hf
 ·rw [Oper.semAt_eq _ _ _ (fun c e => by rw [ho] at e; cases e)]
  have : (execOp a.eval o).run P w = .halt (.panic (.iface t v)) w := by
   simp only [execOp, ho, ha.ev hx, Sem.run_bind, run_panic_iface]
   rfl
  rw [this]
  exact k a ha

/-! ### A panic on its way out -/

theorem T_tp {J : Act → World → Prop} {ch : List PanicEntry} (h : ∀ a, Fr N ds l a → Q (.panic ch) a w) : ∀ a, Fr N ds l a → Exit.then J Q (.panic ch) a w := h
theorem T_bp {id : Nat} {ch : List PanicEntry} (h : ∀ a, Fr N ds l a → Q (.panic ch) a w) : ∀ a, Fr N ds l a → Exit.inBlock id Q (.panic ch) a w := h
theorem T_gp {ch : List PanicEntry} (h : ∀ a, Fr N ds l a → Q (.panic ch) a w) : ∀ a, Fr N ds l a → Exit.noGoto Q (.panic ch) a w := h
theorem panic0 {fn : Func} {ch : List PanicEntry} (hR : R (.panicked ch) w) (a : Act) (ha : Fr N [] l a) : bodyPost P fn R (.panic ch) a w := ⟨ha.defers, hR⟩
theorem RetS.intro {R : G → Value → Prop} {g' : G} {v : Value} (hle : g.le g') (h : R g' v) : RetS g R (.returned v) g'.w := ⟨g', v, rfl, rfl, hle, h⟩
theorem BoomS.intro {R : G → Prop} {ch : List PanicEntry} {g' : G} (hle : g.le g') (h : R g') : BoomS g ch R (.panicked ch) g'.w := ⟨g', rfl, rfl, hle, h⟩

/-! ### The owned things in another order -/

end Go.K

/- More operations by computation: bits, shifts by constants, conversions of integers; strings and bytes; arrays as values; copies. -/
namespace Go.K
open Go Go.RowKit

variable {F : Fence} {P : Program} {N : Nat} {ds : List Deferred} {l l' : Env} {a : Act} {w : World} {Q : Exit → Act → World → Prop} {ops : Array Oper} {os : List Oper} {o : Oper}
variable {g0 g : G} {L : List Ent} {K : Value → World → Prop} {R : Ending → World → Prop}

/-! ### Bits, shifts, conversions of integers -/

def bitAnd (k : IntKind) (a b : Int) : Int := k.wrap (BitVec.ofInt k.bits a &&& BitVec.ofInt k.bits b).toNat
def bitOr (k : IntKind) (a b : Int) : Int := k.wrap (BitVec.ofInt k.bits a ||| BitVec.ofInt k.bits b).toNat
def bitXor (k : IntKind) (a b : Int) : Int := k.wrap (BitVec.ofInt k.bits a ^^^ BitVec.ofInt k.bits b).toNat
def bitClr (k : IntKind) (a b : Int) : Int := k.wrap (BitVec.ofInt k.bits a &&& ~~~ BitVec.ofInt k.bits b).toNat
def bitNot (k : IntKind) (n : Int) : Int := bitXor k (if k.signed then -1 else k.max) n
def shlI (k : IntKind) (a : Int) (n : Nat) : Int := k.wrap (a * 2 ^ min n k.bits)
def shrI (k : IntKind) (a : Int) (n : Nat) : Int := a.fdiv (2 ^ min n k.bits)

def pbit (op : BinOp) (x y : Value) : Option Value :=
 match x, y with
 | .int k a, .int k' b =>
  if k = k' then
   match op with
   | .and => some (.int k (bitAnd k a b))
   | .or => some (.int k (bitOr k a b))
   | .xor => some (.int k (bitXor k a b))
   | .andNot => some (.int k (bitClr k a b))
   | _ => none
  else none
 | _, _ => none
def pshift (op : BinOp) (x y : Value) : Option Value :=
 match x, y with
 | .int k a, .int _ (.ofNat n) =>
  match op with
  | .shl => some (.int k (shlI k a n))
  | .shr => some (.int k (shrI k a n))
  | _ => none
 | _, _ => none
def pconv (d : KD) (x : Value) : Option Value :=
 match d, x with
 | .int k, .int _ n => some (.int k (k.wrap n))
 | _, _ => none

def pev2 (tb : Tb) (l : Env) : Op → Option Value
 | .binOp op _ x y _ =>
  match op with
  | .shl | .shr =>
   match ev l x, ev l y with
   | some a, some b => pshift op a b
   | _, _ => none
  | _ =>
   match ev l x, ev l y with
   | some a, some b => pbit op a b
   | _, _ => none
 | .unOp .xor _ x =>
  match ev l x with
  | some (.int k n) => some (.int k (bitNot k n))
  | _ => none
 | .convert s d x =>
  match tl tb s, tl tb d, ev l x with
  | some _, some i, some v => pconv i.desc v
  | _, _, _ => none
 | _ => none

theorem KD.of_int {d : TypeDesc} {k : IntKind} (h : KD.of d = .int k) : d = .int k := by
 cases d <;> simp only [KD.of, reduceCtorEq, KD.int.injEq] at h
 rw [h]

theorem pbit_run {op : BinOp} {t : TypeId} {x y v : Value} (xo yo : Operand) (h : pbit op x y = some v) : (do eqGuard op t xo yo x y; binOp op t x y : Sem Value).run P w = .ok v w := by
 unfold pbit at h
 split at h
 ·rename_i k a k' b
  split at h
  ·rename_i hk
   subst hk
   have hb : (binOp op t (.int k a) (.int k b)).run P w = .ok v w := by
    split at h <;> simp only [Option.some.injEq, reduceCtorEq] at h <;> subst h <;> simp [binOp, Op.intBits, bitAnd, bitOr, bitXor, bitClr]
   simp only [Sem.run_bind, run_eqGuard_int, Result.andThen_ok]
   exact hb
  ·cases h
 ·cases h
theorem pshift_run {op : BinOp} {t : TypeId} {x y v : Value} (xo yo : Operand) (h : pshift op x y = some v) : (do eqGuard op t xo yo x y; binOp op t x y : Sem Value).run P w = .ok v w := by
 unfold pshift at h
 split at h
 ·rename_i k a k' n
  have hn : ¬ ((Int.ofNat n) < 0) := by have : (Int.ofNat n) = (n : Int) := rfl; omega
  have hb : (binOp op t (.int k a) (.int k' (.ofNat n))).run P w = .ok v w := by
   split at h <;> simp only [Option.some.injEq, reduceCtorEq] at h <;> subst h <;> unfold binOp <;> simp only <;> unfold Op.shift <;> rw [if_neg hn] <;> rfl
  simp only [Sem.run_bind, run_eqGuard_int, Result.andThen_ok]
  exact hb
 ·cases h

theorem OpR_pure2 (tb : Tb) (htb : tb.ok P) {v : Value} {K : Value → World → Prop} (h : pev2 tb l o.op = some v) (k : K v w) : OpR F P N ds o l w Q K := by
 obtain ⟨dst, op, type, pos, after, guard⟩ := o
 simp only at h
 unfold pev2 at h
 split at h
 ·rename_i op t x y ty
  have bits : ∀ {a b : Value}, ev l x = some a → ev l y = some b → pbit op a b = some v → OpR F P N ds ⟨dst, .binOp op t x y ty, type, pos, after, guard⟩ l w Q K := fun hx hy h => by
   refine OpR_value (by simp) (fun a ha => ?_) k
   have := pbit_run (P := P) (w := w) (t := t) x y h
   simp only [Sem.run_bind] at this
   simp only [execOp, ha.ev hx, ha.ev hy, Sem.run_bind]
   generalize Sem.run P (eqGuard op t x y _ _) w = r at *
   cases r with
   | ok u w1 =>
    simp only [Result.andThen_ok] at this ⊢
    rw [this]; rfl
   | halt u w1 => cases this
  have shift : ∀ {a b : Value}, ev l x = some a → ev l y = some b → pshift op a b = some v → OpR F P N ds ⟨dst, .binOp op t x y ty, type, pos, after, guard⟩ l w Q K := fun hx hy h => by
   refine OpR_value (by simp) (fun a ha => ?_) k
   have := pshift_run (P := P) (w := w) (t := t) x y h
   simp only [Sem.run_bind] at this
   simp only [execOp, ha.ev hx, ha.ev hy, Sem.run_bind]
   generalize Sem.run P (eqGuard op t x y _ _) w = r at *
   cases r with
   | ok u w1 =>
    simp only [Result.andThen_ok] at this ⊢
    rw [this]; rfl
   | halt u w1 => cases this
  split at h <;>
   (split at h
    ·rename_i hx hy
     first | exact shift hx hy h | exact bits hx hy h
    ·cases h)
 ·rename_i t x
  split at h
  ·rename_i k' n hx
   simp only [Option.some.injEq] at h
   subst h
   refine OpR_value (by simp) (fun a ha => ?_) k
   simp [execOp, ha.ev hx, Op.unary, Op.intBits, bitNot, bitXor]
  ·cases h
 ·rename_i s d x
  split at h
  ·rename_i i1 i2 v' h1 h2 hx
   unfold pconv at h
   split at h
   ·rename_i kk k' n hd
    simp only [Option.some.injEq] at h
    subst h
    obtain ⟨⟨d1, hu1, _⟩, _⟩ := htb.at h1
    obtain ⟨⟨d2, hu2, he2⟩, _⟩ := htb.at h2
    rw [hd] at he2
    obtain rfl := KD.of_int he2
    refine OpR_value (by simp) (fun a ha => ?_) k
    simp [execOp, ha.ev hx, convert, run_underlying hu1, run_underlying hu2, Conv.intToInt]
   ·cases h
  ·cases h
 ·cases h
theorem P2 {tb : Tb} (htb : tb.ok P) {v : Value} {d : Nat} {op : Op} {ty : TypeId} {pos : String} {af : Array Edge} {gu : Option (Nat × Bool)} (hg : gdx ops l gu = some true) (hd : Nat.blt d N = true) (h : pev2 tb l op = some v) (k : WL F P N ds ops Q os ((d, v) :: l) w) :
  WL F P N ds ops Q (⟨some d, op, ty, pos, af, gu⟩ :: os) l w := WL_o hg hd (OpR_pure2 tb htb h k)

/-! ### Bytes and strings -/

/-- A string of given bytes. -/
def bs (l : List UInt8) : ByteArray := ⟨l.toArray⟩
def byteV (l : List UInt8) : List Value := l.map fun b => .int .u8 (b.toNat : Int)
theorem bs_size (l : List UInt8) : (bs l).size = l.length := by simp [bs, ByteArray.size]
theorem bs_of (s : ByteArray) : s = bs s.data.toList := by simp [bs]
theorem bs_append (x y : List UInt8) : bs x ++ bs y = bs (x ++ y) := by
 apply ByteArray.ext; simp [bs]
theorem bs_toList (x : List UInt8) : (bs x).toList = x := ByteArray.toList_mk x

instance : El UInt8 where
 k := 1
 pos := by omega
 rc _ cs n := cs = [.int .u8 (n.toNat : Int)]
 len h := by rw [h]; rfl
 mono _ h := h
 one h := by rw [h]; simp [Value.oneCell']
theorem RcL.bytes (g : G) : ∀ l : List UInt8, RcL g (byteV l) l
 | [] => rfl
 | b :: r => ⟨[.int .u8 (b.toNat : Int)], byteV r, rfl, rfl, RcL.bytes g r⟩
theorem RcL.bytes_inv {g : G} : ∀ {l : List UInt8} {cs : List Value}, RcL g cs l → cs = byteV l
 | [], _, h => h
 | b :: r, _, ⟨c1, c2, e, h1, h2⟩ => by rw [e, show c1 = [.int .u8 (b.toNat : Int)] from h1, RcL.bytes_inv h2]; rfl
/-- A string, as an element. -/
structure Str where
 s : List UInt8
instance : El Str where
 k := 1
 pos := by omega
 rc _ cs n := cs = [.string (bs n.s)]
 len h := by rw [h]; rfl
 mono _ h := h
 one h := by rw [h]; simp [Value.oneCell']

theorem OpR_addS {t t' : TypeId} {x y : Operand} {p q : List UInt8} (ho : o.op = .binOp .add t x y t') (hx : ev l x = some (.string (bs p))) (hy : ev l y = some (.string (bs q))) (hl : p.length + q.length ≤ 9223372036854775807) (kk : K (.string (bs (p ++ q))) w) : OpR F P N ds o l w Q K := by
 refine OpR_value (fun c => ⟨by rw [ho]; simp, by rw [ho]; simp⟩) (fun a ha => ?_) kk
 have h : ¬ (((bs p).size + (bs q).size : Nat) : Int) > IntKind.i64.max := by
  rw [bs_size, bs_size]
  have : IntKind.i64.max = 9223372036854775807 := by decide
  omega
 have h' : ¬ (IntKind.i64.max < ((bs p).size : Int) + ((bs q).size : Int)) := by
  have e : (((bs p).size + (bs q).size : Nat) : Int) = ((bs p).size : Int) + ((bs q).size : Int) := by omega
  rw [← e]; exact h
 have h3 : ((bs p).size : Int) + ((bs q).size : Int) ≤ 9223372036854775807 := by rw [bs_size, bs_size]; omega
 simp [execOp, ho, ha.ev hx, ha.ev hy, run_eqGuard_string, binOp, Op.stringOp, h', h3, bs_append]

/-! ### Copies -/

/-- What a copy reads. -/
structure CopySrc (P : Program) (w : World) (v : Value) (us : List Value) : Prop where
 len : (Builtin.lenOf v).run P w = .ok us.length w
 fst : ∀ k, k ≤ us.length → (Builtin.firstCells 1 k v).run P w = .ok (us.take k).toArray w
 one : ∀ u ∈ us, u.oneCell' = true
theorem CopySrc.src {ad : Option Addr} {n c : Nat} {us : List Value} (h : Src w ad n 1 us) (h1 : ∀ u ∈ us, u.oneCell' = true) : CopySrc P w (.slice ad n c) us := by
 obtain ⟨hl, h⟩ := h
 rw [Nat.mul_one] at hl
 refine ⟨by simp [Builtin.lenOf, hl], fun k hk => ?_, h1⟩
 rcases h with h0 | ⟨b, p, rfl, hc⟩
 ·obtain rfl : us = [] := List.eq_nil_of_length_eq_zero (by omega)
  obtain rfl : k = 0 := by simpa using hk
  cases ad <;> simp [Builtin.firstCells, loadCells, loadCellsFrom]
 ·have := run_firstCells_some (P := P) w 1 k ⟨b, p, none⟩ n c (us.take k) (by rw [List.length_take]; omega) (fun j u hu => by
   rw [Addr.add_lit]
   have hj : j < k := by have := (List.getElem?_eq_some_iff.1 hu).1; rw [List.length_take] at this; omega
   rw [List.getElem?_take_of_lt hj] at hu
   exact hc j u hu)
  exact this

end Go.K

/- Shifts by numbers that are not constants; what a deferred closure needs. -/
namespace Go.K
open Go Go.RowKit

variable {F : Fence} {P : Program} {N : Nat} {ds : List Deferred} {l l' : Env} {a : Act} {w : World} {Q : Exit → Act → World → Prop} {ops : Array Oper} {os : List Oper} {o : Oper}
variable {g0 g : G} {L : List Ent} {K : Value → World → Prop} {R : Ending → World → Prop}

end Go.K

/- Slices of arrays behind pointers; copies inside an owned block; loads and stores at places that are not constants. -/
namespace Go.K
open Go Go.RowKit

variable {F : Fence} {P : Program} {N : Nat} {ds : List Deferred} {l l' : Env} {a : Act} {w : World} {Q : Exit → Act → World → Prop} {ops : Array Oper} {os : List Oper} {o : Oper}
variable {g0 g : G} {L : List Ent} {K : Value → World → Prop} {R : Ending → World → Prop}

end Go.K

/- Lists of numbers in an owned block: loads, stores, whole stores. -/
namespace Go.K
open Go Go.RowKit

variable {F : Fence} {P : Program} {N : Nat} {ds : List Deferred} {l l' : Env} {a : Act} {w : World} {Q : Exit → Act → World → Prop} {ops : Array Oper} {os : List Oper} {o : Oper}
variable {g0 g : G} {L : List Ent} {K : Value → World → Prop} {R : Ending → World → Prop}

end Go.K
