/- A frame as a list of known slots, rules for code, operations by computation, memory that is owned or no longer changes. -/
import Derived.RangeFuncNested
import Derived.RangeFuncBound
import Derived.RangeFuncCalls
import Derived.RangeFuncLeaves
import Derived.RangeFuncRecord
import Derived.OrdersIn
import Derived.WalkKit

/- The ground of my walks: a frame as a list of known slots, rules for code, pure operations run by reflection. Over whatever program. -/
namespace Go.K
open Go

/-- What is known of a frame's slots: the first entry of a slot counts. -/
abbrev Env := List (Nat × Value)

def lk : Env → Nat → Option Value
 | [], _ => none
 | (k, v) :: r, t => bif Nat.beq k t then some v else lk r t

theorem lk_cons_same (d : Nat) (v : Value) (l : Env) : lk ((d, v) :: l) d = some v := by simp [lk]
theorem lk_cons_other {d t : Nat} (v : Value) (l : Env) (h : d ≠ t) : lk ((d, v) :: l) t = lk l t := by
 have e : Nat.beq d t = false := by
  cases hb : Nat.beq d t with
  | false => rfl
  | true => exact absurd (Nat.eq_of_beq_eq_true hb) h
 simp [lk, e]

structure Fr (N : Nat) (ds : List Deferred) (l : Env) (a : Act) : Prop where
 defers : a.defers = ds
 size : a.tmps.size = N
 get : ∀ t v, lk l t = some v → a.tmps[t]? = some v

variable {F : Fence} {P : Program} {N : Nat} {ds : List Deferred} {l l' : Env} {a : Act} {w : World}

def ev (l : Env) : Operand → Option Value
 | .tmp t => lk l t
 | .const v => some v
 | .global g => some (.pointer (some ⟨g, 0, none⟩))
 | .func f => some (.func (.func f) #[] #[])

theorem Fr.ev (h : Fr N ds l a) {x : Operand} {v : Value} (hx : ev l x = some v) : a.eval x = v := by
 cases x with
 | tmp t =>
  have := h.get t v hx
  simp only [Act.eval, Array.getD_eq_getD_getElem?, this, Option.getD_some]
 | const c => simp only [K.ev, Option.some.injEq] at hx; exact hx
 | global c => simp only [K.ev, Option.some.injEq] at hx; exact hx
 | func c => simp only [K.ev, Option.some.injEq] at hx; exact hx

/-- The environment behind a result that goes to a slot (or to none). -/
def pt (d : Option Tmp) (v : Value) (l : Env) : Env :=
 match d with
 | some d => (d, v) :: l
 | none => l

def dOk (N : Nat) (d : Option Tmp) : Bool :=
 match d with
 | some d => Nat.blt d N
 | none => true

theorem Fr.put (h : Fr N ds l a) {d : Option Tmp} (hd : dOk N d = true) (v : Value) : Fr N ds (pt d v l) (a.put d v) := by
 cases d with
 | none => exact h
 | some d =>
  have hlt : d < N := by simpa [dOk, Nat.blt_eq] using hd
  refine ⟨h.defers, by simp [Act.put, h.size], fun t u hu => ?_⟩
  simp only [Act.put]
  by_cases e : d = t
  ·subst e
   simp only [pt, lk_cons_same, Option.some.injEq] at hu
   subst hu
   rw [Array.getElem?_setIfInBounds_self, if_pos (by rw [h.size]; exact hlt)]
  ·rw [Array.getElem?_setIfInBounds_ne e]
   simp only [pt, lk_cons_other _ _ e] at hu
   exact h.get t u hu

theorem Fr.sub (h : Fr N ds l a) (hs : ∀ t v, lk l' t = some v → lk l t = some v) : Fr N ds l' a :=
 ⟨h.defers, h.size, fun t v ht => h.get t v (hs t v ht)⟩

/-- Every entry of l' stands in l: asked entry by entry. -/
def subOf : Env → Env → Prop
 | [], _ => True
 | (t, v) :: r, l => lk l t = some v ∧ subOf r l

theorem subOf.spec : ∀ {l' l : Env}, subOf l' l → ∀ t v, lk l' t = some v → lk l t = some v
 | [], _, _, t, v, h => by simp [lk] at h
 | (k, u) :: r, l, hs, t, v, h => by
  by_cases e : k = t
  ·subst e
   rw [lk_cons_same] at h
   exact (Option.some.inj h) ▸ hs.1
  ·rw [lk_cons_other _ _ e] at h
   exact subOf.spec hs.2 t v h

theorem Fr.keep (h : Fr N ds l a) (hs : subOf l' l) : Fr N ds l' a := h.sub hs.spec

/-! ### Code -/

/-- The walk's goal: from whatever frame that the environment describes. -/
def W (F : Fence) (P : Program) (N : Nat) (ds : List Deferred) (c : Code) (Q : Exit → Act → World → Prop) (l : Env) (w : World) : Prop :=
 ∀ a, Fr N ds l a → c.wpIn F 0 P Q a w

def WL (F : Fence) (P : Program) (N : Nat) (ds : List Deferred) (ops : Array Oper) (Q : Exit → Act → World → Prop) (os : List Oper) (l : Env) (w : World) : Prop :=
 ∀ a, Fr N ds l a → wpListIn F 0 P ops Q os a w

variable {Q : Exit → Act → World → Prop} {c x y : Code} {ops : Array Oper} {os : List Oper} {o : Oper}

theorem W_seq (h : W F P N ds x (Exit.then (y.wpIn F 0 P Q) Q) l w) : W F P N ds (.seq x y) Q l w := fun a ha => wpIn_seq (h a ha)
theorem W_block {id : Nat} (h : W F P N ds c (Exit.inBlock id Q) l w) : W F P N ds (.block id c) Q l w := fun a ha => wpIn_block (h a ha)
theorem W_ret (h : ∀ a, Fr N ds l a → Q .ret a w) : W F P N ds .ret Q l w := fun a ha => wpIn_ret (h a ha)
theorem W_skip (h : ∀ a, Fr N ds l a → Q .normal a w) : W F P N ds .skip Q l w := fun a ha => wpIn_skip (h a ha)
theorem W_label {k : Nat} (h : ∀ a, Fr N ds l a → Q .normal a w) : W F P N ds (.label k) Q l w := fun a ha => wpIn_label (h a ha)
theorem W_exit {id : Nat} (h : ∀ a, Fr N ds l a → Q (.exit id) a w) : W F P N ds (.exit id) Q l w := fun a ha => wpIn_exit (h a ha)
theorem W_true {z : Operand} (hz : ev l z = some (.bool true)) (h : W F P N ds x Q l w) : W F P N ds (.cond z x y) Q l w :=
 fun a ha => wpIn_cond_true (ha.ev hz) (h a ha)
theorem W_false {z : Operand} (hz : ev l z = some (.bool false)) (h : W F P N ds y Q l w) : W F P N ds (.cond z x y) Q l w :=
 fun a ha => wpIn_cond_false (ha.ev hz) (h a ha)
theorem W_yes {z : Operand} {b : Bool} (hb : b = true) (hz : ev l z = some (.bool b)) (h : W F P N ds x Q l w) : W F P N ds (.cond z x y) Q l w :=
 W_true (hb ▸ hz) h
theorem W_no {z : Operand} {b : Bool} (hb : b = false) (hz : ev l z = some (.bool b)) (h : W F P N ds y Q l w) : W F P N ds (.cond z x y) Q l w :=
 W_false (hb ▸ hz) h
theorem W_region {id : Nat} (h : WL F P N ds ops Q ops.toList l w) : W F P N ds (.region id ops false) Q l w := fun a ha => wpIn_region_list (h a ha)
/-- A loop, by a number that falls. -/
theorem W_loop (I : Nat → Act → World → Prop) (n : Nat) (h0 : ∀ a, Fr N ds l a → I n a w)
  (step : ∀ n a w, I n a w → c.wpIn F 0 P (Exit.then (fun a' w' => ∃ m, m < n ∧ I m a' w') Q) a w) : W F P N ds (.loop c) Q l w := by
 intro a ha b k cs hro hb hr
 have key : ∀ n a w, I n a w → ∃ e a' w', Q e a' w' ∧ ArrivesIn (Machine.fenced P F) P (lone (b.atR a (.code c :: .inLoop c :: k)) cs w) b k cs e a' w' := by
  intro n
  induction n using Nat.strongRecOn with
  | _ n ih =>
   intro a w hI
   obtain ⟨e, a₁, w₁, hq, harr⟩ := step n a w hI b (.inLoop c :: k) cs hro hb hr
   cases e with
   | normal =>
    obtain ⟨m, hlt, hI₁⟩ := hq
    obtain ⟨e₂, a₂, w₂, hq₂, harr₂⟩ := ih m hlt a₁ w₁ hI₁
    exact ⟨e₂, a₂, w₂, hq₂, .of_steps (StepsIn.trans harr (.one (fenced_calm hb hr rfl) stepR_inLoop)) harr₂⟩
   | exit id => exact ⟨_, a₁, w₁, hq, .pass (x := .inLoop c) rfl (fun _ _ => .inl (by simp)) harr⟩
   | goto l => exact ⟨_, a₁, w₁, hq, .pass (x := .inLoop c) rfl (fun _ _ => .inl (by simp)) harr⟩
   | ret => exact ⟨_, a₁, w₁, hq, .pass (x := .inLoop c) rfl (fun _ _ => .inl (by simp)) harr⟩
   | panic ch => exact ⟨_, a₁, w₁, hq, .pass (x := .inLoop c) rfl (fun _ _ => .inl (by simp)) harr⟩
   | outgrown => exact ⟨_, a₁, w₁, hq, .pass (x := .inLoop c) rfl (fun _ _ => .inl (by simp)) harr⟩
 obtain ⟨e, a', w', hq, harr⟩ := key n a w (h0 a ha)
 exact ⟨e, a', w', hq, .of_steps (.one (fenced_calm hb hr rfl) stepR_loop) harr⟩

/-! ### Operations -/

/-- One operation, run from a frame that the environment describes; K: what is asked of its value and of the world behind it. -/
def OpR (F : Fence) (P : Program) (N : Nat) (ds : List Deferred) (o : Oper) (l : Env) (w : World) (Q : Exit → Act → World → Prop) (K : Value → World → Prop) : Prop :=
 ∀ a, Fr N ds l a → o.wpIn F 0 P a w (fun a' w' => ∃ v, a' = a.put o.dst v ∧ K v w') Q

/-- Is the operation wanted? 'none': not known. -/
def gd (ops : Array Oper) (l : Env) (o : Oper) : Option Bool :=
 match o.guard with
 | none => some true
 | some (j, want) =>
  match (ops[j]?).bind (·.dst) with
  | none => none
  | some d =>
   match lk l d with
   | some (.bool b) => some (b == want)
   | _ => none

theorem gd_spec {ans : Bool} (h : gd ops l o = some ans) (ha : Fr N ds l a) : Region.wanted o (yielded ops a.tmps) = ans := by
 unfold gd at h
 unfold Region.wanted yielded
 cases hg : o.guard with
 | none => simp only [hg, Option.some.injEq] at h; simp [← h]
 | some p =>
  obtain ⟨j, want⟩ := p
  simp only [hg] at h
  cases hd : (ops[j]?).bind (·.dst) with
  | none => simp [hd] at h
  | some d =>
   simp only [hd] at h
   cases hl : lk l d with
   | none => simp [hl] at h
   | some v =>
    have hv := ha.get d v hl
    cases v with
    | bool b =>
     simp only [hl, Option.some.injEq] at h
     simp only [hd, Option.bind_some, hv]
     rw [← h]
     cases b <;> cases want <;> rfl
    | _ => simp [hl] at h

theorem WL_nil (h : ∀ a, Fr N ds l a → Q .normal a w) : WL F P N ds ops Q [] l w := fun a ha => h a ha
/-- A slot's bool has become known. -/
theorem WL_know (t : Nat) {b b' : Bool} (hb : b = b') (hl : lk l t = some (.bool b)) (h : WL F P N ds ops Q os ((t, .bool b') :: l) w) : WL F P N ds ops Q os l w := by
 refine fun a ha => h a (ha.sub fun s v hs => ?_)
 by_cases e : t = s
 ·subst e; rw [lk_cons_same] at hs; rw [hl, hb]; exact hs
 ·rw [lk_cons_other _ _ e] at hs; exact hs
/-- The places of a list of operations at which all ways meet again. -/
theorem WL_cut (J : Act → World → Prop) {o1 o2 : List Oper} (hos : os = o1 ++ o2) (h : WL F P N ds ops (Exit.then J Q) o1 l w)
  (h2 : ∀ a w, J a w → wpListIn F 0 P ops Q o2 a w) : WL F P N ds ops Q os l w := by
 subst hos
 intro a ha
 have key : ∀ (o1 : List Oper) (a : Act) (w : World), wpListIn F 0 P ops (Exit.then J Q) o1 a w → wpListIn F 0 P ops Q (o1 ++ o2) a w := by
  intro o1
  induction o1 with
  | nil => exact fun a w h => h2 a w h
  | cons o o1 ih =>
   intro a w h
   simp only [List.cons_append, wpListIn] at h ⊢
   split
   ·rename_i hw
    simp only [hw, if_true] at h
    have h' := Oper.wpIn_mono (ih · ·) h
    unfold Oper.wpIn at h' ⊢
    refine ⟨h'.1, ?_⟩
    have h' := h'.2
    generalize (o.semAt F.round a.eval).run P w = r at h' ⊢
    have hlet : LetsOut (Exit.then J Q) → LetsOut Q := fun ⟨a, w, h⟩ => ⟨a, w, h⟩
    cases r with
    | ok x w' =>
     cases x <;> simp only [Oper.uponIn] at h' ⊢ <;>
      first
       | exact h'
       | exact ⟨h'.1, CallsIn.mono h'.2 (fun e w'' he => by cases e <;> first | exact he | exact hlet he)⟩
       | exact ⟨h'.1, RoundIn.mono h'.2 (fun e w'' he => by cases e <;> first | exact he | exact hlet he)⟩
    | halt x w' => cases x <;> simp only [Oper.uponIn] at h' ⊢ <;> exact h'
   ·rename_i hw
    simp only [hw] at h
    exact ⟨h.1, ih _ _ h.2⟩
 exact key _ _ _ (h a ha)

/-- An operation that yields a value and leaves the world alone. -/
theorem OpR_value {v : Value} {K : Value → World → Prop} {w' : World} (hnc : ∀ c, o.op ≠ .call c ∧ o.op ≠ .defer c) (h : ∀ a, Fr N ds l a → (execOp a.eval o).run P w = .ok (.value v) w') (k : K v w') :
  OpR F P N ds o l w Q K := by
 intro a ha
 unfold Oper.wpIn
 refine ⟨fun f hf => ?_, ?_⟩
 ·unfold Oper.about at hf
  cases ho : o.op <;> simp only [ho] at hf <;> first | (cases hf; done) | exact absurd ho (hnc _).1
 ·rw [Oper.semAt_eq _ _ _ (fun c => (hnc c).2), h a ha]
  exact ⟨v, rfl, k⟩
theorem OpR_skip {K : Value → World → Prop} {w' : World} (hnc : ∀ c, o.op ≠ .call c ∧ o.op ≠ .defer c) (h : ∀ a, Fr N ds l a → (execOp a.eval o).run P w = .ok .skip w') (k : K undef w') :
  OpR F P N ds o l w Q K := by
 intro a ha
 unfold Oper.wpIn
 refine ⟨fun f hf => ?_, ?_⟩
 ·unfold Oper.about at hf
  cases ho : o.op <;> simp only [ho] at hf <;> first | (cases hf; done) | exact absurd ho (hnc _).1
 ·rw [Oper.semAt_eq _ _ _ (fun c => (hnc c).2), h a ha]
  exact ⟨undef, rfl, k⟩

end Go.K

/- Pure operations by reflection: 'pev' says what an operation yields that neither reads nor writes memory; 'OpR_pure' that it is so. -/
namespace Go.K
open Go

/-- A type's shape, as far as a walk asks. -/
inductive KD where
 | bool | string
 | int (k : IntKind)
 | slice (e : TypeId)
 | arr (n : Nat) (e : TypeId)
 | struct (fs : List (TypeId × Nat))
 | ptr (e : TypeId)
 | map (k e : TypeId)
 | other

def KD.of : TypeDesc → KD
 | .bool => .bool
 | .string => .string
 | .int k => .int k
 | .slice e => .slice e
 | .array n e => .arr n e
 | .struct fs => .struct (fs.toList.map fun f => (f.type, f.offset))
 | .pointer e => .ptr e
 | .map k e => .map k e
 | _ => .other

theorem KD.of_struct {d : TypeDesc} {l : List (TypeId × Nat)} (h : KD.of d = .struct l) : ∃ fs, d = .struct fs ∧ l = fs.toList.map fun f => (f.type, f.offset) := by
 cases d <;> simp only [KD.of, reduceCtorEq, KD.struct.injEq] at h
 exact ⟨_, rfl, h.symm⟩
theorem KD.of_slice {d : TypeDesc} {e : TypeId} (h : KD.of d = .slice e) : d = .slice e := by
 cases d <;> simp only [KD.of, reduceCtorEq, KD.slice.injEq] at h
 rw [h]
theorem KD.of_string {d : TypeDesc} (h : KD.of d = .string) : d = .string := by
 cases d <;> simp only [KD.of, reduceCtorEq] at h
 rfl
theorem KD.of_arr {d : TypeDesc} {n : Nat} {e : TypeId} (h : KD.of d = .arr n e) : d = .array n e := by
 cases d <;> simp only [KD.of, reduceCtorEq, KD.arr.injEq] at h
 rw [h.1, h.2]

/-- What a walk knows of a type. -/
structure TI where
 desc : KD
 size : Nat
 bytes : Nat
 zero : Value

abbrev Tb := List (Nat × TI)

def tl : Tb → Nat → Option TI
 | [], _ => none
 | (k, v) :: r, t => bif Nat.beq k t then some v else tl r t

def TI.fits (P : Program) (t : TypeId) (i : TI) : Prop :=
 (∃ d, P.underlying t = some d ∧ KD.of d = i.desc) ∧ ∃ inf, P.info? t = some inf ∧ inf.size = i.size ∧ inf.bytes = i.bytes ∧ inf.zero = some i.zero

theorem TI.fits_of {P : Program} {t : TypeId} {i : TI} (h1 : (P.underlying t).map KD.of = some i.desc) (h2 : (P.info? t).map (fun j => (j.size, j.bytes, j.zero)) = some (i.size, i.bytes, some i.zero)) : i.fits P t := by
 obtain ⟨d, hd, e⟩ := Option.map_eq_some_iff.1 h1
 obtain ⟨inf, hi, e2⟩ := Option.map_eq_some_iff.1 h2
 simp only [Prod.mk.injEq] at e2
 exact ⟨⟨d, hd, e⟩, inf, hi, e2.1, e2.2.1, e2.2.2⟩

def Tb.ok (P : Program) : Tb → Prop
 | [] => True
 | (t, i) :: r => i.fits P t ∧ Tb.ok P r

theorem Tb.ok.at {P : Program} : ∀ {tb : Tb} (_ : tb.ok P) {t : Nat} {i : TI}, tl tb t = some i → i.fits P t
 | [], _, t, i, h => by simp [tl] at h
 | (k, v) :: r, ho, t, i, h => by
  simp only [tl] at h
  cases hb : Nat.beq k t with
  | true =>
   rw [hb] at h
   simp only [cond_true, Option.some.injEq] at h
   have := Nat.eq_of_beq_eq_true hb
   subst this; subst h
   exact ho.1
  | false =>
   rw [hb] at h
   exact Tb.ok.at ho.2 h

def pbin (op : BinOp) (x y : Value) : Option Value :=
 match x, y with
 | .int k a, .int k' b =>
  if k = k' then
   match op with
   | .add => some (.int k (k.wrap (a + b)))
   | .sub => some (.int k (k.wrap (a - b)))
   | .mul => some (.int k (k.wrap (a * b)))
   | .eql => some (.bool (a == b))
   | .neq => some (.bool (a != b))
   | .lss => some (.bool (decide (a < b)))
   | .leq => some (.bool (decide (a ≤ b)))
   | .gtr => some (.bool (decide (b < a)))
   | .geq => some (.bool (decide (b ≤ a)))
   | _ => none
  else none
 | .string a, .string b =>
  match op with
  | .eql => some (.bool (a.toList == b.toList))
  | .neq => some (.bool (!(a.toList == b.toList)))
  | .lss => some (.bool (Op.bytesLess a.toList b.toList))
  | _ => none
 | _, _ => none

/-- Division by a constant, a shift by a constant. -/
def pdiv (op : BinOp) (x y : Value) : Option Value :=
 match x, y with
 | .int k a, .int k' (.ofNat (n + 1)) =>
  if k = k' then
   match op with
   | .quo => some (.int k (k.wrap (a.tdiv (.ofNat (n + 1)))))
   | .rem => some (.int k (a.tmod (.ofNat (n + 1))))
   | _ => none
  else none
 | _, _ => none

def pun (op : UnOp) (x : Value) : Option Value :=
 match op, x with
 | .not, .bool b => some (.bool (!b))
 | .neg, .int k n => some (.int k (k.wrap (0 - n)))
 | _, _ => none

def ppick (c a b : Option Value) : Option Value :=
 match c with
 | some (.bool true) => a
 | some (.bool false) => b
 | _ => none

def evs (l : Env) : List Operand → Option (List Value)
 | [] => some []
 | x :: r => match ev l x, evs l r with
  | some v, some vs => some (v :: vs)
  | _, _ => none

def pbuiltin (tb : Tb) (b : Builtin) (args : Array Operand) (ts : Array TypeId) (l : Env) : Option Value :=
 match b, args.toList with
 | .len, [x] =>
  match ts.toList with
  | [t] =>
   match tl tb t with
   | some i =>
    match i.desc, ev l x with
    | .slice _, some (.slice _ n _) => some (.int .i64 n)
    | .string, some (.string s) => some (.int .i64 s.size)
    | _, _ => none
   | none => none
  | _ => none
 | .min, [x, y] =>
  match ev l x, ev l y with
  | some (.int k a), some (.int _ b) => some (.int k (if b < a then b else a))
  | _, _ => none
 | .max, [x, y] =>
  match ev l x, ev l y with
  | some (.int k a), some (.int _ b) => some (.int k (if a < b then b else a))
  | _, _ => none
 | _, _ => none

def pev (tb : Tb) (l : Env) : Op → Option Value
 | .move x => ev l x
 | .assign x => ev l x
 | .pick c a b => ppick (ev l c) (ev l a) (ev l b)
 | .binOp op _ x y _ =>
  match op with
  | .quo | .rem =>
   match ev l x, ev l y with
   | some a, some b => pdiv op a b
   | _, _ => none
  | _ =>
   match ev l x, ev l y with
   | some a, some b => pbin op a b
   | _, _ => none
 | .unOp op _ x => (ev l x).bind (pun op)
 | .extract x i =>
  match ev l x with
  | some (.tuple vs) => vs[i]?
  | _ => none
 | .nilCheck x =>
  match ev l x with
  | some (.pointer (some a)) => some (.pointer (some a))
  | _ => none
 | .fieldAddr s x f =>
  match tl tb s with
  | some i =>
   match i.desc with
   | .struct fs =>
    match fs[f]? with
    | some fd =>
     match tl tb fd.1 with
     | some j =>
      match j.size with
      | 0 => none
      | _ + 1 =>
       match ev l x with
       | some (.pointer (some a)) => some (.pointer (some (a.add fd.2)))
       | _ => none
     | none => none
    | none => none
   | _ => none
  | none => none
 | .field s x f =>
  match tl tb s with
  | some i =>
   match i.desc with
   | .struct fs =>
    match fs[f]? with
    | some fd =>
     match tl tb fd.1 with
     | some j =>
      match j.desc with
      | .struct _ => none
      | .arr _ _ => none
      | _ =>
       match ev l x with
       | some (.agg cs) => cs[fd.2]?
       | _ => none
     | none => none
    | none => none
   | _ => none
  | none => none
 | .makeFunc fn first captured =>
  match evs l first.toList, evs l captured.toList with
  | some xs, some ys => some (.func fn xs.toArray ys.toArray)
  | _, _ => none
 | .call { callee := .builtin b, args, argTypes } => pbuiltin tb b args argTypes l
 | _ => none

variable {F : Fence} {P : Program} {N : Nat} {ds : List Deferred} {l : Env} {a : Act} {w : World} {o : Oper} {Q : Exit → Act → World → Prop}

theorem run_eqGuard_int (op : BinOp) (t : TypeId) (x y : Operand) (k k' : IntKind) (m n : Int) : (eqGuard op t x y (.int k m) (.int k' n)).run P w = .ok () w := by
 unfold eqGuard; split <;> rfl
theorem run_eqGuard_string (op : BinOp) (t : TypeId) (x y : Operand) (m n : ByteArray) : (eqGuard op t x y (.string m) (.string n)).run P w = .ok () w := by
 unfold eqGuard; split <;> rfl

theorem pbin_run {op : BinOp} {t : TypeId} {x y v : Value} (xo yo : Operand) (hq : op ≠ .quo ∧ op ≠ .rem) (h : pbin op x y = some v) :
  (do eqGuard op t xo yo x y; binOp op t x y : Sem Value).run P w = .ok v w := by
 unfold pbin at h
 split at h
 ·rename_i k a k' b
  split at h
  ·rename_i hk
   subst hk
   cases op <;> simp_all [run_eqGuard_int, binOp, Op.intArith, Op.intCmp]
  ·cases h
 ·rename_i a b
  cases op <;> simp_all [run_eqGuard_string, binOp, Op.stringOp]
 ·cases h

theorem pdiv_run {op : BinOp} {t : TypeId} {x y v : Value} (xo yo : Operand) (h : pdiv op x y = some v) :
  (do eqGuard op t xo yo x y; binOp op t x y : Sem Value).run P w = .ok v w := by
 unfold pdiv at h
 split at h
 ·rename_i k a k' n
  have hz : ¬ ((Int.ofNat (n + 1)) = 0) := by intro e; cases e
  split at h
  ·rename_i hk
   subst hk
   cases op <;> simp only [reduceCtorEq, Option.some.injEq] at h
   all_goals
    subst h
    simp only [Sem.run_bind, run_eqGuard_int, Result.andThen_ok]
    unfold binOp
    simp only [ne_eq, not_true_eq_false, if_false]
    unfold Op.intDiv
    rw [if_neg hz]
    rfl
  ·cases h
 ·cases h

theorem evs_spec (ha : Fr N ds l a) : ∀ {xs : List Operand} {vs : List Value}, evs l xs = some vs → xs.map a.eval = vs
 | [], vs, h => by simp only [evs, Option.some.injEq] at h; simp [← h]
 | x :: r, vs, h => by
  simp only [evs] at h
  cases hx : ev l x with
  | none => simp [hx] at h
  | some v =>
   cases hr : evs l r with
   | none => simp [hx, hr] at h
   | some us =>
    simp only [hx, hr, Option.some.injEq] at h
    rw [← h, List.map_cons, ha.ev hx, evs_spec ha hr]

theorem pbuiltin_run {tb : Tb} (htb : tb.ok P) {b : Builtin} {args : Array Operand} {ts : Array TypeId} {t : TypeId} {v : Value}
  (ha : Fr N ds l a) (h : pbuiltin tb b args ts l = some v) :
  (do let d ← resolve a.eval { callee := .builtin b, args, argTypes := ts } t; invoke d.target d.args : Sem Next).run P w = .ok (.value v) w := by
 unfold pbuiltin at h
 split at h
 ·rename_i x harg
  have harg : args = #[x] := by apply Array.ext'; simpa using harg
  subst harg
  split at h
  ·rename_i t' hts
   have hts : ts = #[t'] := by apply Array.ext'; simpa using hts
   subst hts
   split at h
   ·rename_i i hi
    split at h
    ·rename_i e y n c hd hx
     simp only [Option.some.injEq] at h
     subst h
     obtain ⟨⟨d, hu, he⟩, _⟩ := htb.at hi
     rw [hd] at he
     obtain rfl := KD.of_slice he
     simp [resolve, invoke, builtin, Builtin.len_, ha.ev hx, run_underlying hu, goInt]
    ·rename_i s hd hx
     simp only [Option.some.injEq] at h
     subst h
     obtain ⟨⟨d, hu, he⟩, _⟩ := htb.at hi
     rw [hd] at he
     obtain rfl := KD.of_string he
     simp [resolve, invoke, builtin, Builtin.len_, ha.ev hx, run_underlying hu, goInt]
    ·cases h
   ·cases h
  ·cases h
 ·rename_i x y harg
  have harg : args = #[x, y] := by apply Array.ext'; simpa using harg
  subst harg
  split at h
  ·rename_i k m k' n hx hy
   simp only [Option.some.injEq] at h
   subst h
   simp [resolve, invoke, builtin, Builtin.min_, Builtin.min2, ha.ev hx, ha.ev hy]
  ·cases h
 ·rename_i x y harg
  have harg : args = #[x, y] := by apply Array.ext'; simpa using harg
  subst harg
  split at h
  ·rename_i k m k' n hx hy
   simp only [Option.some.injEq] at h
   subst h
   simp [resolve, invoke, builtin, Builtin.max_, Builtin.max2, ha.ev hx, ha.ev hy]
  ·cases h
 ·cases h

/-- No call of a function: nothing is led to. -/
theorem about_builtin {b : Builtin} {args : Array Operand} {ts : Array TypeId} (hc : o.op = .call { callee := .builtin b, args, argTypes := ts }) (f : FuncId) (h : o.about P w a.eval = some f) : False := by
 unfold Oper.about at h
 rw [hc] at h
 simp only [resolve, Sem.run_pure] at h
 simp [Target.leads] at h

theorem OpR_builtin {b : Builtin} {args : Array Operand} {ts : Array TypeId} (hc : o.op = .call { callee := .builtin b, args, argTypes := ts }) {v : Value} {w' : World} {K : Value → World → Prop}
  (h : ∀ a, Fr N ds l a → (do let d ← resolve a.eval { callee := .builtin b, args, argTypes := ts } o.type; invoke d.target d.args : Sem Next).run P w = .ok (.value v) w') (k : K v w') : OpR F P N ds o l w Q K := by
 intro a ha
 unfold Oper.wpIn
 refine ⟨fun f hf => (about_builtin hc f hf).elim, ?_⟩
 rw [Oper.semAt_eq _ _ _ (fun c e => by rw [hc] at e; cases e)]
 unfold execOp
 rw [hc]
 rw [h a ha]
 exact ⟨v, rfl, k⟩

theorem field_of {fs : Array Field} {f : Nat} {fd : TypeId × Nat} (h : (fs.toList.map fun f => (f.type, f.offset))[f]? = some fd) : ∃ x, fs[f]? = some x ∧ x.type = fd.1 ∧ x.offset = fd.2 := by
 rw [List.getElem?_map, Option.map_eq_some_iff] at h
 obtain ⟨x, hx, rfl⟩ := h
 exact ⟨x, by simpa using hx, rfl, rfl⟩

theorem run_fieldAt {tb : Tb} (htb : tb.ok P) {s f : Nat} {i j : TI} {fs : List (TypeId × Nat)} {fd : TypeId × Nat} {n : Nat} {ad : Addr} (hi : tl tb s = some i) (hd : i.desc = .struct fs) (hf : fs[f]? = some fd)
  (hj : tl tb fd.1 = some j) (hn : j.size = n + 1) : (Instr.fieldAt s (.pointer (some ad)) f).run P w = .ok (.pointer (some (ad.add fd.2))) w := by
 obtain ⟨⟨d, hu, he⟩, _⟩ := htb.at hi
 rw [hd] at he
 obtain ⟨fs', rfl, rfl⟩ := KD.of_struct he
 obtain ⟨fd', hf, e1, e2⟩ := field_of hf
 rw [← e1] at hj
 rw [← e2]
 obtain ⟨_, inf, h1, h2, _⟩ := htb.at hj
 simp [Instr.fieldAt, run_underlying hu, hf, Instr.sureAddr, fieldPlace, sizeOf, typeInfo, h1, h2, hn]

theorem OpR_pure (tb : Tb) (htb : tb.ok P) {v : Value} {K : Value → World → Prop} (h : pev tb l o.op = some v) (k : K v w) : OpR F P N ds o l w Q K := by
 obtain ⟨dst, op, type, pos, after, guard⟩ := o
 simp only at h
 unfold pev at h
 split at h
 ·exact OpR_value (by simp) (fun a ha => by simp [execOp, ha.ev h]) k
 ·exact OpR_value (by simp) (fun a ha => by simp [execOp, ha.ev h]) k
 ·rename_i c x y
  refine OpR_value (by simp) (fun a ha => ?_) k
  unfold ppick at h
  split at h
  ·rename_i hc; simp [execOp, ha.ev hc, ha.ev h, asBool]
  ·rename_i hc; simp [execOp, ha.ev hc, ha.ev h, asBool]
  ·cases h
 ·rename_i op t x y yt
  refine OpR_value (by simp) (fun a ha => ?_) k
  split at h
  ·split at h
   ·rename_i u v' hx hy
    have := pdiv_run (P := P) (w := w) (t := t) x y h
    simp only [execOp, ha.ev hx, ha.ev hy, Sem.run_bind, Sem.run_pure] at this ⊢
    rw [this]; rfl
   ·cases h
  ·split at h
   ·rename_i u v' hx hy
    have := pdiv_run (P := P) (w := w) (t := t) x y h
    simp only [execOp, ha.ev hx, ha.ev hy, Sem.run_bind, Sem.run_pure] at this ⊢
    rw [this]; rfl
   ·cases h
  ·rename_i n1 n2
   split at h
   ·rename_i u v' hx hy
    have := pbin_run (P := P) (w := w) (t := t) x y ⟨n1, n2⟩ h
    simp only [execOp, ha.ev hx, ha.ev hy, Sem.run_bind, Sem.run_pure] at this ⊢
    rw [this]; rfl
   ·cases h
 ·rename_i op t x
  refine OpR_value (by simp) (fun a ha => ?_) k
  cases hx : ev l x with
  | none => simp [hx] at h
  | some u =>
   simp only [hx, Option.bind_some] at h
   simp only [execOp, ha.ev hx]
   unfold pun at h
   split at h
   ·simp only [Option.some.injEq] at h; subst h; simp [Op.unary]
   ·simp only [Option.some.injEq] at h; subst h; simp [Op.unary, Op.intArith]
   ·cases h
 ·rename_i x i
  refine OpR_value (by simp) (fun a ha => ?_) k
  split at h
  ·rename_i vs hx
   simp [execOp, ha.ev hx, Instr.extract, h]
  ·cases h
 ·rename_i x
  refine OpR_value (by simp) (fun a ha => ?_) k
  split at h
  ·rename_i ad hx
   simp only [Option.some.injEq] at h
   subst h
   simp [execOp, ha.ev hx]
  ·cases h
 ·rename_i s x f
  refine OpR_value (by simp) (fun a ha => ?_) k
  split at h
  ·rename_i i hi
   split at h
   ·rename_i fs hd
    split at h
    ·rename_i fd hf
     split at h
     ·rename_i j hj
      split at h
      ·cases h
      ·rename_i n hn
       split at h
       ·rename_i ad hx
        simp only [Option.some.injEq] at h
        subst h
        simp [execOp, ha.ev hx, run_fieldAt htb hi hd hf hj hn]
       ·cases h
     ·cases h
    ·cases h
   ·cases h
  ·cases h
 ·rename_i s x f
  refine OpR_value (by simp) (fun a ha => ?_) k
  split at h
  ·rename_i i hi
   split at h
   ·rename_i fs hd
    split at h
    ·rename_i fd hf
     split at h
     ·rename_i j hj
      split at h
      ·cases h
      ·cases h
      ·rename_i n1 n2
       split at h
       ·rename_i cs hx
        obtain ⟨⟨d, hu, he⟩, _⟩ := htb.at hi
        rw [hd] at he
        obtain ⟨fs', rfl, rfl⟩ := KD.of_struct he
        obtain ⟨fd', hf, e1, e2⟩ := field_of hf
        obtain ⟨⟨d', hv, he'⟩, _⟩ := htb.at hj
        rw [← e1] at hv
        rw [← e2] at h
        have hag : (isAgg fd'.type).run P w = .ok false w := by
         simp only [isAgg, Sem.run_bind, run_underlying hv, Result.andThen_ok]
         cases d' <;> first | rfl | exact (n1 _ he'.symm).elim | exact (n2 _ _ he'.symm).elim
        simp [execOp, ha.ev hx, Instr.field, run_underlying hu, hf, asAgg, part, hag, h]
       ·cases h
     ·cases h
    ·cases h
   ·cases h
  ·cases h
 ·rename_i fn first captured
  refine OpR_value (by simp) (fun a ha => ?_) k
  split at h
  ·rename_i xs ys hx hy
   simp only [Option.some.injEq] at h
   subst h
   have e1 := evs_spec ha hx
   have e2 := evs_spec ha hy
   have f1 : first.map a.eval = xs.toArray := by apply Array.ext'; simpa using e1
   have f2 : captured.map a.eval = ys.toArray := by apply Array.ext'; simpa using e2
   simp [execOp, Instr.makeFunc, f1, f2]
  ·cases h
 ·exact OpR_builtin rfl (fun a ha => pbuiltin_run htb ha h) k
 ·cases h

end Go.K

/- Memory in my walks: a world with the blocks that no longer change ('im'), and a list of the blocks that the call owns. -/
namespace Go.K
open Go Go.RowKit

structure G where
 w : World
 im : Nat → Prop
 lt : ∀ b, im b → b < w.heap.size

def G.le (g g' : G) : Prop := ∀ b, g.im b → g'.im b ∧ g'.w.heap[b]? = g.w.heap[b]?
theorem G.le.refl (g : G) : g.le g := fun _ h => ⟨h, rfl⟩
theorem G.le.trans {a b c : G} (h : a.le b) (k : b.le c) : a.le c := fun i hi => ⟨(k i (h i hi).1).1, ((k i (h i hi).1).2).trans (h i hi).2⟩

/-- What a call that is done with leaves of the memory that was there: everything. -/
structure Fr0 (g g' : G) : Prop where
 below : Below g.w.heap.size g.w g'.w
 im : ∀ b, b < g.w.heap.size → (g'.im b ↔ g.im b)
theorem Fr0.refl (g : G) : Fr0 g g := ⟨Below.refl _ _, fun _ _ => Iff.rfl⟩
theorem Fr0.trans {a b c : G} (h : Fr0 a b) (k : Fr0 b c) : Fr0 a c :=
 ⟨h.below.trans (k.below.mono h.below.size), fun i hi => (k.im i (Nat.lt_of_lt_of_le hi h.below.size)).trans (h.im i hi)⟩
theorem Fr0.le {g g' : G} (h : Fr0 g g') : g.le g' := fun b hb => ⟨(h.im b (g.lt b hb)).2 hb, h.below.block b (g.lt b hb)⟩

/-- The block that a slice value gives leave to write: none where it has no capacity. -/
def obk : Value → Option Nat
 | .slice (some a) _ c => bif Nat.beq c 0 then none else some a.block
 | _ => none
theorem obk_zero (a : Option Addr) (n : Nat) : obk (.slice a n 0) = none := by cases a <;> rfl
theorem obk_pos {a : Addr} {n c : Nat} (h : c ≠ 0) : obk (.slice (some a) n c) = some a.block := by
 cases c with
 | zero => exact absurd rfl h
 | succ c => rfl
theorem obk_some {v : Value} {b : Nat} (h : obk v = some b) : ∃ a n c, v = .slice (some a) n c ∧ c ≠ 0 ∧ a.block = b := by
 unfold obk at h
 split at h
 ·rename_i a n c
  cases c with
  | zero => simp at h
  | succ c => exact ⟨a, n, c + 1, rfl, by omega, Option.some.inj h⟩
 ·cases h

/-- A block of cells that may be written; behind its last one a mark may stand. -/
def CellsAt (w : World) (b : Nat) (cur : Array Value) (e : TypeId) : Prop := ∃ fz : Nat × Nat, w.heap[b]? = some (.cells cur e fz) ∧ (fz = (0, 0) ∨ cur.size ≤ fz.1)
theorem CellsAt.plain {w : World} {b : Nat} {cur : Array Value} {e : TypeId} (h : w.heap[b]? = some (.cells cur e (0, 0))) : CellsAt w b cur e := ⟨_, h, .inl rfl⟩
theorem CellsAt.lt {w : World} {b : Nat} {cur : Array Value} {e : TypeId} (h : CellsAt w b cur e) : b < w.heap.size := by
 obtain ⟨_, h, _⟩ := h; exact (Array.getElem?_eq_some_iff.1 h).1
theorem CellsAt.of_eq {w w' : World} {b : Nat} {cur : Array Value} {e : TypeId} (h : CellsAt w b cur e) (hb : w'.heap[b]? = w.heap[b]?) : CellsAt w' b cur e := by
 obtain ⟨fz, h, h2⟩ := h; exact ⟨fz, hb.trans h, h2⟩
theorem CellsAt.cell {w : World} {b o : Nat} {cur : Array Value} {e : TypeId} {y : Value} (h : CellsAt w b cur e) (hy : cur[o]? = some y) : w.cell? ⟨b, o, none⟩ = some y := by
 obtain ⟨_, h, _⟩ := h; simp [World.cell?, h, hy]
theorem CellsAt.set {w : World} {b : Nat} {cur cs : Array Value} {e : TypeId} (h : CellsAt w b cur e) (hs : cs.size = cur.size) : CellsAt (w.setRow b cs) b cs e := by
 obtain ⟨fz, h, h2⟩ := h
 exact ⟨fz, setRow_heap _ _ _ _ _ _ h, by rw [hs]; exact h2⟩
theorem run_storeCells_z {P : Program} (b o : Nat) (e : TypeId) : ∀ (us : List Value) (i : Nat) (cur : Array Value) (w : World), CellsAt w b cur e → o + i + us.length ≤ cur.size → (∀ u ∈ us, u.oneCell' = true) →
  (storeCells ⟨b, o, none⟩ us i).run P w = .ok () (w.setRow b (cur.toList.take (o + i) ++ us ++ cur.toList.drop (o + i + us.length)).toArray)
 | [], i, cur, w, ⟨fz, hg, _⟩, _, _ => by
  simp only [storeCells, List.append_nil, List.length_nil, Nat.add_zero, List.take_append_drop, Array.toArray_toList]
  rw [setRow_self w b cur e fz hg]
  rfl
 | u :: rest, i, cur, w, hc, hl, h1 => by
  have hlt : o + i < cur.size := by rw [List.length_cons] at hl; omega
  have ih := run_storeCells_z (P := P) b o e rest (i + 1) (cur.setIfInBounds (o + i) u) (w.setRow b (cur.setIfInBounds (o + i) u)) (hc.set (by simp)) (by rw [List.length_cons] at hl; simp; omega) fun x hx => h1 x (by simp [hx])
  obtain ⟨fz, hg, hz⟩ := hc
  have hfro : w.frozen? ⟨b, o + i, none⟩ = false := by
   rcases hz with rfl | hz
   ·simp [World.frozen?, hg]
   ·simp only [World.frozen?, hg, Bool.and_eq_false_iff, decide_eq_false_iff_not]; left; omega
  have hst : (store ((⟨b, o, none⟩ : Addr).add i) u).run P w = .ok () (w.setRow b (cur.setIfInBounds (o + i) u)) := by
   rw [Addr.add_lit, run_store P w _ u _ (h1 u (by simp)), show w.cell? ⟨b, o + i, none⟩ = some cur[o + i] from by simp [World.cell?, hg, hlt]]
   simp [hfro, setCell_eq_setRow w b (o + i) cur e fz u hg]
  simp only [storeCells, Sem.run_bind, hst, Result.andThen_ok, ih, setRow_setRow]
  congr 3
  have e2 := list_seg_step cur.toList (o + i) u rest (by rw [List.length_cons] at hl; simp; omega)
  simpa [Array.toList_setIfInBounds, Nat.add_assoc] using e2

/-- A slice of the call's own: its first cells are xs; what lies behind them is the call's too. -/
def Row (B : Nat) (e : TypeId) (k : Nat) (v : Value) (n : Nat) (xs : List Value) (w : World) : Prop :=
 xs.length = n * k ∧ ((n = 0 ∧ ∃ a, v = .slice a 0 0) ∨
  ∃ b off cap cur, v = .slice (some ⟨b, off, none⟩) n cap ∧ B ≤ b ∧ CellsAt w b cur e ∧ n ≤ cap ∧ cap ≤ maxLen ∧ cur.size = off + cap * k ∧ (cur.toList.drop off).take (n * k) = xs)

inductive Ent where
 | obj (b : Nat) (o : Obj)
 | row (e : TypeId) (k : Nat) (v : Value) (n : Nat) (xs : List Value)

def Ent.blk : Ent → Option Nat
 | .obj b _ => some b
 | .row _ _ v _ _ => obk v

def Ent.holds (B : Nat) (g : G) : Ent → Prop
 | .obj b o => B ≤ b ∧ g.w.heap[b]? = some o ∧ ¬ g.im b
 | .row e k v n xs => Row B e k v n xs g.w ∧ ∀ b, obk v = some b → ¬ g.im b

theorem Row.lt {B : Nat} {e : TypeId} {k : Nat} {v : Value} {n : Nat} {xs : List Value} {w : World} (h : Row B e k v n xs w) : ∀ b, obk v = some b → B ≤ b ∧ b < w.heap.size := by
 intro b hb
 rcases h.2 with ⟨_, a, rfl⟩ | ⟨b', off, cap, cur, rfl, hB, hh, _⟩
 ·rw [obk_zero] at hb; cases hb
 ·obtain ⟨a, n', c, e1, _, e2⟩ := obk_some hb
  simp only [Value.slice.injEq, Option.some.injEq] at e1
  obtain ⟨rfl, _⟩ := e1
  subst e2
  exact ⟨hB, hh.lt⟩

theorem Ent.holds.lt {B : Nat} {g : G} {e : Ent} (h : e.holds B g) : ∀ b, e.blk = some b → B ≤ b ∧ b < g.w.heap.size ∧ ¬ g.im b := by
 intro b hb
 cases e with
 | obj b' o =>
  simp only [Ent.blk, Option.some.injEq] at hb
  subst hb
  exact ⟨h.1, (Array.getElem?_eq_some_iff.1 h.2.1).1, h.2.2⟩
 | row e k v n xs => exact ⟨(h.1.lt b hb).1, (h.1.lt b hb).2, h.2 b hb⟩

theorem Row.kept {B : Nat} {e : TypeId} {k : Nat} {v : Value} {n : Nat} {xs : List Value} {w w' : World} (h : Row B e k v n xs w) (hb : ∀ b, obk v = some b → w'.heap[b]? = w.heap[b]?) : Row B e k v n xs w' := by
 refine ⟨h.1, ?_⟩
 rcases h.2 with hn | ⟨b, off, cap, cur, rfl, hB, hh, hnc, r⟩
 ·exact .inl hn
 ·by_cases hc : cap = 0
  ·subst hc
   obtain rfl : n = 0 := by omega
   exact .inl ⟨rfl, _, rfl⟩
  ·exact .inr ⟨b, off, cap, cur, rfl, hB, hh.of_eq (hb b (obk_pos hc)), hnc, r⟩

theorem Ent.holds.kept {B : Nat} {g g' : G} {e : Ent} (h : e.holds B g) (hb : ∀ b, e.blk = some b → g'.w.heap[b]? = g.w.heap[b]? ∧ (g'.im b ↔ g.im b)) : e.holds B g' := by
 cases e with
 | obj b o => exact ⟨h.1, (hb b rfl).1.trans h.2.1, fun hi => h.2.2 ((hb b rfl).2.1 hi)⟩
 | row e k v n xs => exact ⟨h.1.kept fun b hb' => (hb b hb').1, fun b hb' hi => h.2 b hb' ((hb b hb').2.1 hi)⟩

/-- The state of a walk: g0: where the call began; g: now; L: what the call owns. -/
structure St (g0 g : G) (L : List Ent) : Prop where
 below : Below g0.w.heap.size g0.w g.w
 im : ∀ b, b < g0.w.heap.size → (g.im b ↔ g0.im b)
 own : ∀ (j : Nat) e, L[j]? = some e → e.holds g0.w.heap.size g
 sep : ∀ (j k : Nat) e e', j ≠ k → L[j]? = some e → L[k]? = some e' → ∀ b, e.blk = some b → e'.blk ≠ some b

theorem St.start (g : G) : St g g [] := ⟨Below.refl _ _, fun _ _ => Iff.rfl, fun _ _ h => by simp at h, fun _ _ _ _ _ h => by simp at h⟩
theorem St.fr0 {g0 g : G} {L : List Ent} (h : St g0 g L) : Fr0 g0 g := ⟨h.below, h.im⟩
theorem St.le {g0 g : G} {L : List Ent} (h : St g0 g L) : g0.le g := h.fr0.le

theorem grown_le {g g' : G} {r : Option Nat} (hg : g.w.grownBy g'.w r) (hr : ∀ b, r = some b → ¬ g.im b) (him : ∀ b, b < g.w.heap.size → (g'.im b ↔ g.im b)) : g.le g' :=
 fun b hb => ⟨(him b (g.lt b hb)).2 hb, hg.block b (g.lt b hb) fun e => hr b e.symm hb⟩

/-- One owned thing becomes another one; only it and new blocks have changed. -/
theorem St.chg {g0 g g' : G} {L : List Ent} (hs : St g0 g L) {i : Nat} {e e' : Ent} (hi : L[i]? = some e) (hg : g.w.grownBy g'.w e.blk) (him : ∀ b, b < g.w.heap.size → (g'.im b ↔ g.im b))
  (he : e'.holds g0.w.heap.size g') (hb : ∀ b, e'.blk = some b → e.blk = some b ∨ g.w.heap.size ≤ b) : St g0 g' (L.set i e') ∧ g.le g' := by
 have hlt := (hs.own i e hi).lt
 have hsz := hs.below.size
 refine ⟨⟨⟨hg.os.trans hs.below.os, hg.tape.trans hs.below.tape, hg.output.trans hs.below.output, Nat.le_trans hsz hg.size, fun k hk => ?_⟩, fun b hb' => ?_, ?_, ?_⟩, ?_⟩
 ·exact (hg.block k (by omega) fun h => by have := (hlt k h.symm).1; omega).trans (hs.below.block k hk)
 ·exact (him b (by omega)).trans (hs.im b hb')
 ·intro j x hj
  rw [List.getElem?_set] at hj
  split at hj
  ·split at hj
   ·simp only [Option.some.injEq] at hj; exact hj ▸ he
   ·simp at hj
  ·rename_i hne
   have hx := hs.own j x hj
   refine hx.kept fun b hb' => ?_
   have h1 := hx.lt b hb'
   exact ⟨hg.block b h1.2.1 fun h => hs.sep j i x e (fun q => hne q.symm) hj hi b hb' h.symm, him b h1.2.1⟩
 ·intro j k x y hjk hj hk b hbx hby
  rw [List.getElem?_set] at hj hk
  split at hj <;> split at hk
  ·omega
  ·split at hj
   ·simp only [Option.some.injEq] at hj
    subst hj
    rename_i _ hne _
    rcases hb b hbx with h | h
    ·exact hs.sep i k e y (by assumption) hi hk b h hby
    ·have := ((hs.own k y hk).lt b hby).2.1; omega
   ·simp at hj
  ·split at hk
   ·simp only [Option.some.injEq] at hk
    subst hk
    rcases hb b hby with h | h
    ·exact hs.sep j i x e (by rename_i hne _ _; exact fun q => hne q.symm) hj hi b hbx h
    ·have := ((hs.own j x hj).lt b hbx).2.1; omega
   ·simp at hk
  ·exact hs.sep j k x y hjk hj hk b hbx hby
 ·exact grown_le hg (fun b h => (hlt b h).2.2) him

/-- Something new is owned; nothing else has changed but new blocks. -/
theorem St.add {g0 g g' : G} {L : List Ent} (hs : St g0 g L) {e' : Ent} (hg : g.w.grownBy g'.w none) (him : ∀ b, b < g.w.heap.size → (g'.im b ↔ g.im b))
  (he : e'.holds g0.w.heap.size g') (hb : ∀ b, e'.blk = some b → g.w.heap.size ≤ b) : St g0 g' (e' :: L) ∧ g.le g' := by
 have hsz := hs.below.size
 refine ⟨⟨⟨hg.os.trans hs.below.os, hg.tape.trans hs.below.tape, hg.output.trans hs.below.output, Nat.le_trans hsz hg.size, fun k hk => ?_⟩, fun b hb' => ?_, ?_, ?_⟩, ?_⟩
 ·exact (hg.block k (by omega) (by simp)).trans (hs.below.block k hk)
 ·exact (him b (by omega)).trans (hs.im b hb')
 ·intro j x hj
  cases j with
  | zero => simp only [List.getElem?_cons_zero, Option.some.injEq] at hj; exact hj ▸ he
  | succ j =>
   simp only [List.getElem?_cons_succ] at hj
   have hx := hs.own j x hj
   exact hx.kept fun b hb' => ⟨hg.block b (hx.lt b hb').2.1 (by simp), him b (hx.lt b hb').2.1⟩
 ·intro j k x y hjk hj hk b hbx hby
  cases j with
  | zero =>
   cases k with
   | zero => omega
   | succ k =>
    simp only [List.getElem?_cons_zero, Option.some.injEq, List.getElem?_cons_succ] at hj hk
    subst hj
    have := hb b hbx; have := ((hs.own k y hk).lt b hby).2.1; omega
  | succ j =>
   cases k with
   | zero =>
    simp only [List.getElem?_cons_zero, Option.some.injEq, List.getElem?_cons_succ] at hj hk
    subst hk
    have := hb b hby; have := ((hs.own j x hj).lt b hbx).2.1; omega
   | succ k =>
    simp only [List.getElem?_cons_succ] at hj hk
    exact hs.sep j k x y (by omega) hj hk b hbx hby
 ·exact grown_le hg (by simp) him

/-- Behind a call that keeps all that was there. -/
theorem St.call {g0 g g' : G} {L : List Ent} (hs : St g0 g L) (h : Fr0 g g') : St g0 g' L :=
 ⟨hs.below.trans (h.below.mono hs.below.size), fun b hb => (h.im b (Nat.lt_of_lt_of_le hb hs.below.size)).trans (hs.im b hb),
  fun j e he => (hs.own j e he).kept fun b hb => ⟨h.below.block b ((hs.own j e he).lt b hb).2.1, h.im b ((hs.own j e he).lt b hb).2.1⟩, hs.sep⟩

def G.dr (g : G) : G := ⟨g.w.drew, g.im, g.lt⟩
theorem St.dr {g0 g : G} {L : List Ent} (hs : St g0 g L) : St g0 g.dr L := ⟨hs.below.drew, hs.im, fun j e he => (hs.own j e he).kept fun _ _ => ⟨rfl, Iff.rfl⟩, hs.sep⟩
theorem G.le_dr (g : G) : g.le g.dr := fun _ h => ⟨h, rfl⟩
theorem Fr0.dr (g : G) : Fr0 g g.dr := ⟨(Below.refl _ _).drew, fun _ _ => Iff.rfl⟩

/-- An owned thing is let go: its block changes no more. -/
def G.fz (g : G) (r : Option Nat) (h : ∀ b, r = some b → b < g.w.heap.size) : G := ⟨g.w, fun b => g.im b ∨ r = some b, fun b hb => hb.elim (g.lt b) (h b)⟩
theorem G.le_fz (g : G) (r : Option Nat) (h : ∀ b, r = some b → b < g.w.heap.size) : g.le (g.fz r h) := fun _ hb => ⟨.inl hb, rfl⟩
theorem St.fz {g0 g : G} {L : List Ent} (hs : St g0 g L) {i : Nat} {e : Ent} (hi : L[i]? = some e) :
  St g0 (g.fz e.blk fun b hb => ((hs.own i e hi).lt b hb).2.1) (L.eraseIdx i) := by
 have hlt := (hs.own i e hi).lt
 have idx : ∀ (j : Nat) x, (L.eraseIdx i)[j]? = some x → ∃ j', j' ≠ i ∧ L[j']? = some x ∧ j' = (if j < i then j else j + 1) := by
  intro j x hj
  rw [List.getElem?_eraseIdx] at hj
  split at hj
  ·rename_i h; exact ⟨j, by omega, hj, by rw [if_pos h]⟩
  ·rename_i h; exact ⟨j + 1, by omega, hj, by rw [if_neg h]⟩
 refine ⟨hs.below, fun b hb => ⟨fun h => ?_, fun h => .inl ((hs.im b hb).2 h)⟩, ?_, ?_⟩
 ·rcases h with h | h
  ·exact (hs.im b hb).1 h
  ·have := (hlt b h).1; omega
 ·intro j x hj
  obtain ⟨j', hne, hj', _⟩ := idx j x hj
  refine (hs.own j' x hj').kept fun b hb => ⟨rfl, ⟨fun h => ?_, .inl⟩⟩
  rcases h with h | h
  ·exact h
  ·exact (hs.sep j' i x e hne hj' hi b hb h).elim
 ·intro j k x y hjk hj hk b hbx hby
  obtain ⟨j', _, hj', e1⟩ := idx j x hj
  obtain ⟨k', _, hk', e2⟩ := idx k y hk
  refine hs.sep j' k' x y ?_ hj' hk' b hbx hby
  rw [e1, e2]
  split <;> split <;> omega

theorem St.drop {g0 g : G} {L : List Ent} (hs : St g0 g L) (i : Nat) : St g0 g (L.eraseIdx i) := by
 have idx : ∀ (j : Nat) x, (L.eraseIdx i)[j]? = some x → ∃ j', L[j']? = some x ∧ j' = (if j < i then j else j + 1) := by
  intro j x hj
  rw [List.getElem?_eraseIdx] at hj
  split at hj
  ·rename_i h; exact ⟨j, hj, by rw [if_pos h]⟩
  ·rename_i h; exact ⟨j + 1, hj, by rw [if_neg h]⟩
 refine ⟨hs.below, hs.im, fun j x hj => ?_, fun j k x y hjk hj hk b hbx hby => ?_⟩
 ·obtain ⟨j', hj', _⟩ := idx j x hj
  exact hs.own j' x hj'
 ·obtain ⟨j', hj', e1⟩ := idx j x hj
  obtain ⟨k', hk', e2⟩ := idx k y hk
  refine hs.sep j' k' x y ?_ hj' hk' b hbx hby
  rw [e1, e2]
  split <;> split <;> omega

/-- The owned things in another order, or fewer. -/
theorem St.re {g0 g : G} {L L' : List Ent} (hs : St g0 g L) (is : List Nat) (hn : is.Nodup) (h : is.map (fun i => L[i]?) = L'.map some) : St g0 g L' := by
 have idx : ∀ (j : Nat) x, L'[j]? = some x → ∃ i, is[j]? = some i ∧ L[i]? = some x := by
  intro j x hj
  have : (is.map fun i => L[i]?)[j]? = some (some x) := by rw [h, List.getElem?_map, hj]; rfl
  rw [List.getElem?_map, Option.map_eq_some_iff] at this
  exact this
 refine ⟨hs.below, hs.im, fun j x hj => ?_, fun j k x y hjk hj hk b hbx hby => ?_⟩
 ·obtain ⟨i, _, hi⟩ := idx j x hj
  exact hs.own i x hi
 ·obtain ⟨i, hi, hi'⟩ := idx j x hj
  obtain ⟨i2, hi2, hi2'⟩ := idx k y hk
  refine hs.sep i i2 x y (fun e => hjk ?_) hi' hi2' b hbx hby
  subst e
  exact (List.getElem?_inj (List.getElem?_eq_some_iff.1 hi).1 hn).1 (hi.trans hi2.symm)

/-! ### What lies in memory that no longer changes -/

class El (α : Type) where
 k : Nat
 pos : 0 < k
 rc : G → List Value → α → Prop
 len : ∀ {g cs x}, rc g cs x → cs.length = k
 mono : ∀ {g g' : G} {cs x}, g.le g' → rc g cs x → rc g' cs x
 one : ∀ {g cs x}, rc g cs x → ∀ c ∈ cs, c.oneCell' = true

def RcL {α : Type} [El α] (g : G) : List Value → List α → Prop
 | cs, [] => cs = []
 | cs, x :: xs => ∃ c1 c2, cs = c1 ++ c2 ∧ El.rc g c1 x ∧ RcL g c2 xs

theorem RcL.mono {α : Type} [El α] {g g' : G} (hle : g.le g') : ∀ {xs : List α} {cs}, RcL g cs xs → RcL g' cs xs
 | [], _, h => h
 | _ :: _, _, ⟨c1, c2, e, h1, h2⟩ => ⟨c1, c2, e, El.mono hle h1, RcL.mono hle h2⟩
theorem RcL.len {α : Type} [El α] {g : G} : ∀ {xs : List α} {cs}, RcL g cs xs → cs.length = xs.length * El.k α
 | [], _, h => by simp [show _ = [] from h]
 | _ :: xs, _, ⟨c1, c2, e, h1, h2⟩ => by rw [e, List.length_append, El.len h1, RcL.len h2, List.length_cons, Nat.add_mul]; omega
theorem RcL.one {α : Type} [El α] {g : G} : ∀ {xs : List α} {cs}, RcL g cs xs → ∀ c ∈ cs, c.oneCell' = true
 | [], _, h, c, hc => by rw [show _ = [] from h] at hc; cases hc
 | _ :: xs, _, ⟨c1, c2, e, h1, h2⟩, c, hc => by
  rw [e] at hc
  rcases List.mem_append.1 hc with h | h
  ·exact El.one h1 c h
  ·exact RcL.one h2 c h
theorem RcL.app {α : Type} [El α] {g : G} {ys : List α} {ds} (hy : RcL g ds ys) : ∀ {xs : List α} {cs}, RcL g cs xs → RcL g (cs ++ ds) (xs ++ ys)
 | [], _, h => by rw [show _ = [] from h]; exact hy
 | _ :: _, _, ⟨c1, c2, e, h1, h2⟩ => ⟨c1, c2 ++ ds, by rw [e, List.append_assoc], h1, RcL.app hy h2⟩
theorem RcL.at {α : Type} [El α] {g : G} : ∀ {xs : List α} {cs}, RcL g cs xs → ∀ {i : Nat} {x}, xs[i]? = some x → ∃ ys, El.rc g ys x ∧ (∀ (j : Nat) y, ys[j]? = some y → cs[i * El.k α + j]? = some y) ∧ ys.length = El.k α
 | [], _, _, i, x, hi => by simp at hi
 | y :: xs, _, ⟨c1, c2, e, h1, h2⟩, 0, x, hi => by
  simp only [List.getElem?_cons_zero, Option.some.injEq] at hi
  subst hi
  refine ⟨c1, h1, fun j z hz => ?_, El.len h1⟩
  rw [e, Nat.zero_mul, Nat.zero_add, List.getElem?_append_left (List.getElem?_eq_some_iff.1 hz).1]
  exact hz
 | y :: xs, _, ⟨c1, c2, e, h1, h2⟩, i + 1, x, hi => by
  simp only [List.getElem?_cons_succ] at hi
  obtain ⟨ys, hr, hc, hl⟩ := RcL.at h2 hi
  refine ⟨ys, hr, fun j z hz => ?_, hl⟩
  have := hc j z hz
  rw [e, List.getElem?_append_right (by rw [El.len h1, Nat.add_mul]; omega), El.len h1]
  rw [← this]
  congr 1
  rw [Nat.add_mul]
  omega
theorem RcL.drop {α : Type} [El α] {g : G} : ∀ {xs : List α} {cs}, RcL g cs xs → ∀ i, RcL g (cs.drop (i * El.k α)) (xs.drop i)
 | _, _, h, 0 => by simpa using h
 | [], _, h, i + 1 => by rw [show _ = [] from h]; simp [RcL]
 | _ :: xs, _, ⟨c1, c2, e, h1, h2⟩, i + 1 => by
  have := RcL.drop h2 i
  rw [e, List.drop_append]
  have hl := El.len h1
  rw [List.drop_of_length_le (by rw [hl, Nat.add_mul]; omega), hl, List.nil_append, List.drop_succ_cons]
  rw [show (i + 1) * El.k α - El.k α = i * El.k α from by rw [Nat.add_mul]; omega]
  exact this
theorem RcL.take {α : Type} [El α] {g : G} : ∀ {xs : List α} {cs}, RcL g cs xs → ∀ i, RcL g (cs.take (i * El.k α)) (xs.take i)
 | _, _, h, 0 => by simp [RcL]
 | [], _, h, i + 1 => by rw [show _ = [] from h]; simp [RcL]
 | _ :: xs, _, ⟨c1, c2, e, h1, h2⟩, i + 1 => by
  have := RcL.take h2 i
  have hl := El.len h1
  refine ⟨c1, c2.take (i * El.k α), ?_, h1, this⟩
  rw [e, List.take_append, List.take_of_length_le (by rw [hl, Nat.add_mul]; omega), hl]
  rw [show (i + 1) * El.k α - El.k α = i * El.k α from by rw [Nat.add_mul]; omega]

/-- A slice whose elements no longer change. -/
def Rs {α : Type} [El α] (g : G) (v : Value) (xs : List α) : Prop :=
 ∃ a n c, v = .slice a n c ∧ n = xs.length ∧ (n ≤ c ∧ c ≤ maxLen) ∧ (n = 0 ∨ ∃ b o cells, a = some ⟨b, o, none⟩ ∧ g.im b ∧ RcL g cells xs ∧ ∀ (j : Nat) y, cells[j]? = some y → g.w.cell? ⟨b, o + j, none⟩ = some y)

theorem cell_le {g g' : G} (hle : g.le g') {b o : Nat} {y : Value} (hb : g.im b) (h : g.w.cell? ⟨b, o, none⟩ = some y) : g'.w.cell? ⟨b, o, none⟩ = some y :=
 (World.cell?_of_block (a := ⟨b, o, none⟩) (hle b hb).2).trans h

theorem Rs.mono {α : Type} [El α] {g g' : G} {v : Value} {xs : List α} (hle : g.le g') (h : Rs g v xs) : Rs g' v xs := by
 obtain ⟨a, n, c, e, hn, hc, h⟩ := h
 refine ⟨a, n, c, e, hn, hc, ?_⟩
 rcases h with h | ⟨b, o, cells, ha, hb, hr, hcell⟩
 ·exact .inl h
 ·exact .inr ⟨b, o, cells, ha, (hle b hb).1, hr.mono hle, fun j y hy => cell_le hle hb (hcell j y hy)⟩
theorem Rs.nil {α : Type} [El α] (g : G) : Rs g (.slice none 0 0) ([] : List α) := ⟨none, 0, 0, rfl, rfl, ⟨Nat.le_refl _, Nat.zero_le _⟩, .inl rfl⟩
theorem Rs.isSlice {α : Type} [El α] {g : G} {v : Value} {xs : List α} (h : Rs g v xs) : ∃ a c, v = .slice a xs.length c := by
 obtain ⟨a, n, c, e, rfl, _⟩ := h; exact ⟨a, c, e⟩
theorem Rs.len_le {α : Type} [El α] {g : G} {v : Value} {xs : List α} (h : Rs g v xs) : xs.length ≤ maxLen := by
 obtain ⟨a, n, c, e, rfl, hc, _⟩ := h; exact Nat.le_trans hc.1 hc.2
theorem Rs.cap_le {α : Type} [El α] {g : G} {a : Option Addr} {n c : Nat} {xs : List α} (h : Rs g (.slice a n c) xs) : n = xs.length ∧ n ≤ c ∧ c ≤ maxLen := by
 obtain ⟨a, n, c, e, rfl, hc, _⟩ := h
 simp only [Value.slice.injEq] at e
 obtain ⟨_, rfl, rfl⟩ := e
 exact ⟨rfl, hc⟩

instance : El Int where
 k := 1
 pos := by omega
 rc _ cs n := cs = [.int .i64 n]
 len h := by rw [h]; rfl
 mono _ h := h
 one h := by rw [h]; simp [Value.oneCell']
instance : El Bool where
 k := 1
 pos := by omega
 rc _ cs n := cs = [.bool n]
 len h := by rw [h]; rfl
 mono _ h := h
 one h := by rw [h]; simp [Value.oneCell']
instance {α : Type} [El α] : El (List α) where
 k := 1
 pos := by omega
 rc g cs xs := ∃ v, cs = [v] ∧ Rs g v xs
 len h := by obtain ⟨v, rfl, _⟩ := h; rfl
 mono hle h := by obtain ⟨v, rfl, hr⟩ := h; exact ⟨v, rfl, hr.mono hle⟩
 one h := by obtain ⟨v, rfl, hr⟩ := h; obtain ⟨a, c, rfl⟩ := hr.isSlice; simp [Value.oneCell']

/-- What is owned, let go, reads as a slice. -/
theorem Row.rs {α : Type} [El α] {B : Nat} {e : TypeId} {v : Value} {n : Nat} {cells : List Value} {g g' : G} {xs : List α} (h : Row B e (El.k α) v n cells g.w) (hr : RcL g cells xs) (hle : g.le g')
  (hw : ∀ b, obk v = some b → g'.im b ∧ g'.w.heap[b]? = g.w.heap[b]?) : Rs g' v xs := by
 have hl := hr.len
 have hn : n = xs.length := by
  have := h.1
  have hp := El.pos (α := α)
  rw [hl] at this
  exact (Nat.eq_of_mul_eq_mul_right hp this).symm
 rcases h.2 with ⟨h0, a, rfl⟩ | ⟨b, off, cap, cur, rfl, hB, hh, hnc, hcm, hcs, htake⟩
 ·exact ⟨a, 0, 0, rfl, by omega, ⟨Nat.le_refl _, Nat.zero_le _⟩, .inl rfl⟩
 ·by_cases hc : cap = 0
  ·exact ⟨_, _, _, rfl, hn, ⟨hnc, hcm⟩, .inl (by omega)⟩
  have hw' := hw b (obk_pos hc)
  refine ⟨_, _, _, rfl, hn, ⟨hnc, hcm⟩, .inr ⟨b, off, cells, rfl, hw'.1, hr.mono hle, fun j y hy => ?_⟩⟩
  have hj : j < cells.length := (List.getElem?_eq_some_iff.1 hy).1
  have : cur[off + j]? = some y := by
   rw [← htake, List.getElem?_take_of_lt (by rw [hl] at hj; rw [hn]; exact hj), List.getElem?_drop, Array.getElem?_toList] at hy
   exact hy
  exact (hh.of_eq hw'.2).cell this

end Go.K

/- What the operations on memory do, in my walks' words. -/
namespace Go.K
open Go Go.RowKit

variable {F : Fence} {P : Program} {N : Nat} {ds : List Deferred} {l l' : Env} {a : Act} {w : World} {Q : Exit → Act → World → Prop} {ops : Array Oper} {os : List Oper} {o : Oper}
variable {g0 g : G} {L : List Ent} {K : Value → World → Prop}

/-! ### Steps of a list of operations, the operation taken apart -/

def gdx (ops : Array Oper) (l : Env) (gu : Option (Nat × Bool)) : Option Bool :=
 match gu with
 | none => some true
 | some (j, want) =>
  match (ops[j]?).bind (·.dst) with
  | none => none
  | some d =>
   match lk l d with
   | some (.bool b) => some (b == want)
   | some (.tuple _) => some false
   | _ => none

theorem gdx_spec {o : Oper} {ans : Bool} (h : gdx ops l o.guard = some ans) (ha : Fr N ds l a) : Region.wanted o (yielded ops a.tmps) = ans := by
 unfold gdx at h
 unfold Region.wanted yielded
 cases hg : o.guard with
 | none => simp only [hg, Option.some.injEq] at h; simp [← h]
 | some p =>
  obtain ⟨j, want⟩ := p
  simp only [hg] at h
  cases hd : (ops[j]?).bind (·.dst) with
  | none => simp [hd] at h
  | some d =>
   simp only [hd] at h
   cases hl : lk l d with
   | none => simp [hl] at h
   | some v =>
    have hv := ha.get d v hl
    cases v with
    | bool b =>
     simp only [hl, Option.some.injEq] at h
     simp only [hd, Option.bind_some, hv]
     rw [← h]
     cases b <;> cases want <;> rfl
    | tuple vs =>
     simp only [hl, Option.some.injEq] at h
     simp only [hd, Option.bind_some, hv]
     rw [← h]
     rfl
    | _ => simp [hl] at h

theorem WL_opx {o : Oper} (hg : gdx ops l o.guard = some true) (hd : dOk N o.dst = true)
  (h : OpR F P N ds o l w Q (fun v w' => WL F P N ds ops Q os (pt o.dst v l) w')) : WL F P N ds ops Q (o :: os) l w := by
 intro a ha
 simp only [wpListIn, gdx_spec hg ha, if_true]
 exact Oper.wpIn_mono (fun a' w' ⟨v, he, hk⟩ => he ▸ hk _ (ha.put hd v)) (h a ha)
theorem WL_skipx {o : Oper} (hF : ∀ f, F.fn f) (hg : gdx ops l o.guard = some false) (hd : dOk N o.dst = true)
  (k : WL F P N ds ops Q os (pt o.dst undef l) w) : WL F P N ds ops Q (o :: os) l w := by
 intro a ha
 simp only [wpListIn, gdx_spec hg ha]
 exact ⟨fun f _ => hF f, k _ (ha.put hd undef)⟩

variable {d : Nat} {op : Op} {ty : TypeId} {pos : String} {af : Array Edge} {gu : Option (Nat × Bool)}

theorem WL_o (hg : gdx ops l gu = some true) (hd : Nat.blt d N = true) (h : OpR F P N ds ⟨some d, op, ty, pos, af, gu⟩ l w Q (fun v w' => WL F P N ds ops Q os ((d, v) :: l) w')) :
  WL F P N ds ops Q (⟨some d, op, ty, pos, af, gu⟩ :: os) l w := WL_opx (o := ⟨some d, op, ty, pos, af, gu⟩) hg hd h
theorem WL_n (hg : gdx ops l gu = some true) (h : OpR F P N ds ⟨none, op, ty, pos, af, gu⟩ l w Q (fun _ w' => WL F P N ds ops Q os l w')) :
  WL F P N ds ops Q (⟨none, op, ty, pos, af, gu⟩ :: os) l w := WL_opx (o := ⟨none, op, ty, pos, af, gu⟩) hg rfl h
/-- A pure operation. -/
theorem P1 {tb : Tb} (htb : tb.ok P) {v : Value} (hg : gdx ops l gu = some true) (hd : Nat.blt d N = true) (h : pev tb l op = some v) (k : WL F P N ds ops Q os ((d, v) :: l) w) :
  WL F P N ds ops Q (⟨some d, op, ty, pos, af, gu⟩ :: os) l w := WL_o hg hd (OpR_pure tb htb h k)
/-- An operation that is not wanted. -/
theorem S1 (hF : ∀ f, F.fn f) (hg : gdx ops l gu = some false) (hd : Nat.blt d N = true) (k : WL F P N ds ops Q os ((d, undef) :: l) w) :
  WL F P N ds ops Q (⟨some d, op, ty, pos, af, gu⟩ :: os) l w := WL_skipx (o := ⟨some d, op, ty, pos, af, gu⟩) hF hg hd k
/-! ### Allocation -/

theorem grown_alloc (w : World) (o : Obj) (r : Option Nat) : w.grownBy (w.alloc o) r := World.grownBy_alloc w o r

def G.al (g : G) (o : Obj) : G := ⟨g.w.alloc o, g.im, fun b h => by have := g.lt b h; simp; omega⟩

theorem St.al (hs : St g0 g L) (o : Obj) : St g0 (g.al o) (.obj g.w.heap.size o :: L) ∧ g.le (g.al o) :=
 hs.add (g' := g.al o) (grown_alloc _ _ _) (fun _ _ => Iff.rfl) ⟨hs.below.size, World.alloc_heap_new g.w o, fun h => by have := g.lt _ h; omega⟩ (fun b hb => by simp only [Ent.blk, Option.some.injEq] at hb; omega)

theorem OpR_box {T : TypeId} {x : Operand} {v : Value} {cs : List Value} (ho : o.op = .box T x) (hs : St g0 g L) (hx : ev l x = some v) (hcs : v.cells = cs.toArray)
  (k : ∀ b g', St g0 g' (.obj b (.cells cs.toArray T (0, 0)) :: L) → g.le g' → K (.pointer (some ⟨b, 0, none⟩)) g'.w) : OpR F P N ds o l g.w Q K := by
 refine OpR_value (w' := (g.al (.cells cs.toArray T)).w) (fun c => ⟨by rw [ho]; simp, by rw [ho]; simp⟩) (fun a ha => ?_) (k _ _ (hs.al _).1 (hs.al _).2)
 simp [execOp, ho, ha.ev hx, Instr.box, newVar, newRow, hcs]; rfl

theorem OpR_alloc {tb : Tb} (htb : tb.ok P) {T : TypeId} {i : TI} {cs : List Value} (ho : o.op = .alloc T) (hs : St g0 g L) (hi : tl tb T = some i) (hcs : i.zero.cells = cs.toArray)
  (k : ∀ b g', St g0 g' (.obj b (.cells cs.toArray T (0, 0)) :: L) → g.le g' → K (.pointer (some ⟨b, 0, none⟩)) g'.w) : OpR F P N ds o l g.w Q K := by
 obtain ⟨_, inf, h1, _, _, h4⟩ := htb.at hi
 refine OpR_value (w' := (g.al (.cells cs.toArray T)).w) (fun c => ⟨by rw [ho]; simp, by rw [ho]; simp⟩) (fun a ha => ?_) (k _ _ (hs.al _).1 (hs.al _).2)
 simp [execOp, ho, Instr.alloc, newVar, newRow, zeroValue, typeInfo, h1, h4, hcs]; rfl

/-! ### Loads -/

def aggK : KD → Bool
 | .struct _ => true
 | .arr _ _ => true
 | _ => false

theorem run_isAgg {tb : Tb} (htb : tb.ok P) {t : Nat} {i : TI} (hi : tl tb t = some i) : (isAgg t).run P w = .ok (aggK i.desc) w := by
 obtain ⟨⟨d, hu, he⟩, _⟩ := htb.at hi
 rw [← he]
 simp only [isAgg, Sem.run_bind, run_underlying hu, Result.andThen_ok]
 cases d <;> rfl

/-- What a load of a variable of type t yields out of the cells cs, from place off on. -/
def ldl (tb : Tb) (t : Nat) (cs : List Value) (off : Nat) : Option Value :=
 match tl tb t with
 | some i => bif aggK i.desc then (bif Nat.ble (off + i.size) cs.length then some (.agg ((cs.drop off).take i.size).toArray) else none) else cs[off]?
 | none => none

theorem run_loadVar {tb : Tb} (htb : tb.ok P) {t : Nat} {cs : List Value} {off b o : Nat} {v : Value} (hv : ldl tb t cs off = some v)
  (hc : ∀ (j : Nat) y, cs[j]? = some y → w.cell? ⟨b, o + j, none⟩ = some y) : (loadVar t ⟨b, o + off, none⟩).run P w = .ok v w := by
 unfold ldl at hv
 cases hi : tl tb t with
 | none => simp [hi] at hv
 | some i =>
  simp only [hi] at hv
  obtain ⟨_, inf, h1, h2, _⟩ := htb.at hi
  simp only [loadVar, Sem.run_bind, run_isAgg htb hi, Result.andThen_ok]
  cases hag : aggK i.desc with
  | true =>
   simp only [hag, cond_true] at hv
   cases hle : Nat.ble (off + i.size) cs.length with
   | false => simp [hle] at hv
   | true =>
    have hle' : off + i.size ≤ cs.length := Nat.le_of_ble_eq_true hle
    simp only [hle, cond_true, Option.some.injEq] at hv
    subst hv
    have := run_loadCells_list (P := P) w ⟨b, o + off, none⟩ ((cs.drop off).take i.size) (fun j y hy => by
     have hj : j < i.size := by have := (List.getElem?_eq_some_iff.1 hy).1; simp at this; omega
     rw [List.getElem?_take_of_lt hj, List.getElem?_drop] at hy
     have := hc (off + j) y hy
     simpa [Addr.add_lit, Nat.add_assoc] using this)
    rw [List.length_take, List.length_drop, Nat.min_eq_left (by omega)] at this
    simp [sizeOf, typeInfo, h1, h2, this]
  | false =>
   simp only [hag, cond_false] at hv
   simp [hc off v hv]

theorem OpR_load {tb : Tb} (htb : tb.ok P) {t : Nat} {x : Operand} {cs : List Value} {off b p : Nat} {v : Value} (ho : o.op = .load t x) (hx : ev l x = some (.pointer (some ⟨b, p + off, none⟩)))
  (hc : ∀ (j : Nat) y, cs[j]? = some y → w.cell? ⟨b, p + j, none⟩ = some y) (hv : ldl tb t cs off = some v) (k : K v w) : OpR F P N ds o l w Q K := by
 refine OpR_value (fun c => ⟨by rw [ho]; simp, by rw [ho]; simp⟩) (fun a ha => ?_) k
 simp [execOp, ho, ha.ev hx, Instr.loadAt, Instr.sureAddr, run_loadVar htb hv hc]

theorem obj_cells {b : Nat} {cs : List Value} {T : TypeId} {fz : Nat × Nat} (h : w.heap[b]? = some (.cells cs.toArray T fz)) (j : Nat) (y : Value) (hy : cs[j]? = some y) : w.cell? ⟨b, 0 + j, none⟩ = some y := by
 simp [World.cell?, h, hy]

/-- A load out of an owned block. -/
theorem OpR_loadO {tb : Tb} (htb : tb.ok P) (i : Nat) {t : Nat} {x : Operand} {cs : List Value} {off b : Nat} {T : TypeId} {fz : Nat × Nat} {v : Value} (ho : o.op = .load t x) (hs : St g0 g L)
  (hi : L[i]? = some (.obj b (.cells cs.toArray T fz))) (hx : ev l x = some (.pointer (some ⟨b, off, none⟩)))
  (hv : ldl tb t cs off = some v) (k : K v g.w) : OpR F P N ds o l g.w Q K := by
 have hh := (hs.own i _ hi).2.1
 rw [show off = 0 + off from (Nat.zero_add off).symm] at hx
 exact OpR_load htb ho hx (obj_cells hh) hv k

/-- The cells of an element of a slice that no longer changes. -/
def EP (g : G) (b o : Nat) (ys : List Value) : Prop := g.im b ∧ ∀ (j : Nat) y, ys[j]? = some y → g.w.cell? ⟨b, o + j, none⟩ = some y
theorem EP.mono {g g' : G} {b p : Nat} {ys : List Value} (h : EP g b p ys) (hle : g.le g') : EP g' b p ys := ⟨(hle b h.1).1, fun j y hy => cell_le hle h.1 (h.2 j y hy)⟩

theorem OpR_loadE {tb : Tb} (htb : tb.ok P) (off : Nat) {t : Nat} {x : Operand} {ys : List Value} {b p : Nat} {v : Value} (ho : o.op = .load t x) (he : EP g b p ys)
  (hx : ev l x = some (.pointer (some ⟨b, p + off, none⟩))) (hv : ldl tb t ys off = some v) (k : K v g.w) : OpR F P N ds o l g.w Q K :=
 OpR_load htb ho hx he.2 hv k

/-! ### Stores -/

def spl (cs : List Value) (off : Nat) (us : List Value) : List Value := cs.take off ++ us ++ cs.drop (off + us.length)

theorem run_storeVar {tb : Tb} (htb : tb.ok P) {t : Nat} {i : TI} {us cs : List Value} {off b : Nat} {T : TypeId} {v : Value} (hi : tl tb t = some i) (hu : v.cells = us.toArray) (hl : us.length = i.size)
  (h1 : ∀ u ∈ us, u.oneCell' = true) (hh : CellsAt w b cs.toArray T) (hfit : off + us.length ≤ cs.length) :
  (storeVar t ⟨b, off, none⟩ v).run P w = .ok () (w.setRow b (spl cs off us).toArray) := by
 obtain ⟨_, inf, e1, e2, _⟩ := htb.at hi
 have hst := run_storeCells_z (P := P) b off T us 0 cs.toArray w hh (by simpa using hfit) h1
 simp only [Nat.add_zero] at hst
 simp [storeVar, sizeOf, typeInfo, e1, e2, hu, hl, hst, spl]

theorem setRow_grown (w : World) (b : Nat) (cs : Array Value) : w.grownBy (w.setRow b cs) (some b) := by
 refine ⟨rfl, rfl, rfl, by simp [World.setRow], fun k _ hk => ?_⟩
 simp only [World.setRow, Array.getElem?_modify]
 rw [if_neg (fun e => hk (congrArg some e.symm))]

def G.sr (g : G) (b : Nat) (cs : Array Value) : G := ⟨g.w.setRow b cs, g.im, fun x h => by have := g.lt x h; simpa [World.setRow] using this⟩

theorem St.sr {i b : Nat} {cs cs' : Array Value} {T : TypeId} {fz : Nat × Nat} (hs : St g0 g L) (hi : L[i]? = some (.obj b (.cells cs T fz))) :
  St g0 (g.sr b cs') (L.set i (.obj b (.cells cs' T fz))) ∧ g.le (g.sr b cs') :=
 hs.chg hi (setRow_grown _ _ _) (fun _ _ => Iff.rfl) ⟨(hs.own i _ hi).1, setRow_heap _ _ _ _ _ _ (hs.own i _ hi).2.1, (hs.own i _ hi).2.2⟩ (fun _ hb' => .inl hb')

/-- A store into an owned block. -/
theorem OpR_storeO {tb : Tb} (htb : tb.ok P) (i : Nat) {t : Nat} {ti : TI} {x y : Operand} {cs us cs' : List Value} {off b : Nat} {T : TypeId} {v : Value} (ho : o.op = .store t x y) (hs : St g0 g L)
  (hi : L[i]? = some (.obj b (.cells cs.toArray T (0, 0)))) (hx : ev l x = some (.pointer (some ⟨b, off, none⟩))) (hy : ev l y = some v)
  (ht : tl tb t = some ti) (hu : v.cells = us.toArray) (hl : us.length = ti.size) (h1 : us.all Value.oneCell' = true) (hfit : Nat.ble (off + us.length) cs.length = true) (hcs : spl cs off us = cs')
  (k : ∀ g', St g0 g' (L.set i (.obj b (.cells cs'.toArray T (0, 0)))) → g.le g' → K undef g'.w) : OpR F P N ds o l g.w Q K := by
 subst hcs
 have hst := hs.sr (cs' := (spl cs off us).toArray) hi
 refine OpR_skip (w' := (g.sr b (spl cs off us).toArray).w) (fun c => ⟨by rw [ho]; simp, by rw [ho]; simp⟩) (fun a ha => ?_) (k _ hst.1 hst.2)
 have := run_storeVar (P := P) (w := g.w) htb ht hu hl (by simpa using h1) (.plain (hs.own i _ hi).2.1) (Nat.le_of_ble_eq_true hfit)
 simp [execOp, ho, ha.ev hx, ha.ev hy, Instr.storeAt, Instr.sureAddr, this, G.sr]

/-! ### Elements of slices -/

/-- Go's index into a list. -/
def geti {α : Type} (xs : List α) (i : Int) : Option α := if i < 0 then none else xs[i.toNat]?
theorem geti_spec {α : Type} {xs : List α} {i : Int} {x : α} (h : geti xs i = some x) : 0 ≤ i ∧ i.toNat < xs.length ∧ xs[i.toNat]? = some x := by
 unfold geti at h
 split at h
 ·cases h
 ·exact ⟨by omega, (List.getElem?_eq_some_iff.1 h).1, h⟩

theorem geti_of {α : Type} {xs : List α} {n : Int} {j : Nat} (h : n = j) (hj : j < xs.length) : geti xs n = some xs[j] := by
 subst h
 have : ¬ ((j : Int) < 0) := by omega
 simp [geti, this, hj]

theorem run_indexAt {tb : Tb} (htb : tb.ok P) {t e : Nat} {i j : TI} {kk : IntKind} {n c : Nat} {x : Int} {b off : Nat} (hi : tl tb t = some i) (hd : i.desc = .slice e) (hj : tl tb e = some j)
  (h0 : 0 ≤ x) (hn : x.toNat < n) : (Instr.indexAt t (.slice (some ⟨b, off, none⟩) n c) (.int kk x)).run P w = .ok (.pointer (some ⟨b, off + x.toNat * j.size, none⟩)) w := by
 obtain ⟨⟨dd, hu, he⟩, _⟩ := htb.at hi
 rw [hd] at he
 obtain rfl := KD.of_slice he
 obtain ⟨_, inf, h1, h2, _⟩ := htb.at hj
 have hn' : x < (n : Int) := by omega
 simp [Instr.indexAt, asIntOf, run_underlying hu, h0, hn', sizeOf, typeInfo, h1, h2, Addr.add_lit]

/-- 'xs[i]', an element of a slice that no longer changes. -/
theorem OpR_idx {α : Type} [El α] {tb : Tb} (htb : tb.ok P) {t e : Nat} {i j : TI} {x ix : Operand} {v : Value} {xs : List α} {kk : IntKind} {n : Int} {y : α} (ho : o.op = .indexAddr t x ix) (hr : Rs g v xs) (hy : geti xs n = some y)
  (hx : ev l x = some v) (hix : ev l ix = some (.int kk n)) (hi : tl tb t = some i) (hd : i.desc = .slice e) (hj : tl tb e = some j) (hk : j.size = El.k α)
  (k : ∀ b p ys, EP g b p ys → El.rc g ys y → K (.pointer (some ⟨b, p, none⟩)) g.w) : OpR F P N ds o l g.w Q K := by
 obtain ⟨h0, hlt, hget⟩ := geti_spec hy
 obtain ⟨ad, m, c, rfl, rfl, hmc, h⟩ := hr
 rcases h with h | ⟨b, p, cells, rfl, hb, hc, hcell⟩
 ·omega
 ·obtain ⟨ys, hrc, hys, _⟩ := hc.at hget
  refine OpR_value (fun c => ⟨by rw [ho]; simp, by rw [ho]; simp⟩) (fun a ha => ?_) (k b (p + n.toNat * El.k α) ys ⟨hb, fun q u hu => ?_⟩ hrc)
  ·simp only [execOp, ho, ha.ev hx, ha.ev hix, Sem.run_bind, run_indexAt htb hi hd hj h0 hlt, Result.andThen_ok, hk]; rfl
  ·rw [Nat.add_assoc]; exact hcell _ _ (hys q u hu)

/-- 'v[i]', a place of a slice of the call's own. -/
theorem OpR_idxR {tb : Tb} (htb : tb.ok P) {t e : Nat} {i j : TI} {x ix : Operand} {ad : Option Addr} {m c : Nat} {kk : IntKind} {n : Int} {B k0 q : Nat} {xs : List Value} (ho : o.op = .indexAddr t x ix) (hr : Row B e k0 (.slice ad m c) q xs g.w)
  (h0 : 0 ≤ n) (hlt : n.toNat < m) (hx : ev l x = some (.slice ad m c)) (hix : ev l ix = some (.int kk n)) (hi : tl tb t = some i) (hd : i.desc = .slice e) (hj : tl tb e = some j) (hk : j.size = k0)
  (k : ∀ b p, ad = some ⟨b, p, none⟩ → K (.pointer (some ⟨b, p + n.toNat * k0, none⟩)) g.w) : OpR F P N ds o l g.w Q K := by
 rcases hr.2 with ⟨_, a, hv⟩ | ⟨b, p, cap, cur, hv, _⟩
 ·simp only [Value.slice.injEq] at hv; omega
 ·simp only [Value.slice.injEq] at hv
  obtain ⟨rfl, rfl, rfl⟩ := hv
  refine OpR_value (fun c => ⟨by rw [ho]; simp, by rw [ho]; simp⟩) (fun a ha => ?_) (k b p rfl)
  simp only [execOp, ho, ha.ev hx, ha.ev hix, Sem.run_bind, run_indexAt htb hi hd hj h0 hlt, Result.andThen_ok, hk]; rfl

theorem Row.cell {B : Nat} {e : TypeId} {k b p m cap n : Nat} {xs : List Value} (h : Row B e k (.slice (some ⟨b, p, none⟩) m cap) n xs w) (j : Nat) (y : Value) (hy : xs[j]? = some y) : w.cell? ⟨b, p + j, none⟩ = some y := by
 rcases h.2 with ⟨h0, _⟩ | ⟨b', p', cap', cur, hv, _, hh, _, _, _, ht⟩
 ·have := h.1
  rw [h0, Nat.zero_mul] at this
  rw [List.eq_nil_of_length_eq_zero this] at hy
  simp at hy
 ·simp only [Value.slice.injEq, Option.some.injEq, Addr.mk.injEq, and_true] at hv
  obtain ⟨⟨rfl, rfl⟩, rfl, rfl⟩ := hv
  have : cur[p + j]? = some y := by
   rw [← ht] at hy
   have hlt : j < m * k := by have := (List.getElem?_eq_some_iff.1 hy).1; simp at this; omega
   rw [List.getElem?_take_of_lt hlt, List.getElem?_drop, Array.getElem?_toList] at hy
   exact hy
  exact hh.cell this

/-- A load out of a slice of the call's own. -/
theorem OpR_loadR {tb : Tb} (htb : tb.ok P) (off : Nat) {B : Nat} {e : TypeId} {k0 b p m cap n : Nat} {xs : List Value} {t : Nat} {x : Operand} {v : Value} (ho : o.op = .load t x) (hr : Row B e k0 (.slice (some ⟨b, p, none⟩) m cap) n xs g.w)
  (hx : ev l x = some (.pointer (some ⟨b, p + off, none⟩))) (hv : ldl tb t xs off = some v) (k : K v g.w) : OpR F P N ds o l g.w Q K :=
 OpR_load htb ho hx hr.cell hv k

end Go.K

/- append, make, literals of slices, cuts of slices, stores into slices of the call's own, calls. -/
namespace Go.K
open Go Go.RowKit

variable {F : Fence} {P : Program} {N : Nat} {ds : List Deferred} {l l' : Env} {a : Act} {w : World} {Q : Exit → Act → World → Prop} {ops : Array Oper} {os : List Oper} {o : Oper}
variable {g0 g : G} {L : List Ent} {K : Value → World → Prop}

/-- The cells that a slice value shows. -/
def Src (w : World) (ad : Option Addr) (m k : Nat) (news : List Value) : Prop :=
 news.length = m * k ∧ (m = 0 ∨ ∃ b p, ad = some ⟨b, p, none⟩ ∧ ∀ (j : Nat) u, news[j]? = some u → w.cell? ⟨b, p + j, none⟩ = some u)

theorem Row.of_own {B : Nat} {e : TypeId} {k : Nat} {v : Value} {n : Nat} {xs : List Value} (h : w.ownsRow B e k v n xs) : Row B e k v n xs w := by
 refine ⟨h.1, ?_⟩
 rcases h.2 with ⟨rfl, h0⟩ | ⟨g, cap, cur, rfl, hB, hh, hc, hm, hs, ht⟩
 ·exact .inl ⟨h0, none, rfl⟩
 ·exact .inr ⟨g, 0, cap, cur, rfl, hB, .plain hh, hc, hm, by omega, by simpa using ht⟩

theorem grownBy_refl (w : World) (r : Option Nat) : w.grownBy w r := ⟨rfl, rfl, rfl, Nat.le_refl _, fun _ _ _ => rfl⟩

theorem run_append_row {tb : Tb} (htb : tb.ok P) {t e ty : Nat} {ti ei : TI} {k : Nat} (hi : tl tb t = some ti) (hd : ti.desc = .slice e) (hj : tl tb e = some ei) (hk : ei.size = k) (hpos : 0 < k) (hz : ei.zero.cells.size = k)
  {B n m c : Nat} {v : Value} {xs news : List Value} {ad : Option Addr} (hr : Row B e k v n xs w) (hB : B ≤ w.heap.size) (hsrc : Src w ad m k news) (h1 : ∀ u ∈ news, u.oneCell' = true) (hb : (n + m) * ei.bytes ≤ 140737488355328) (h63 : n + m ≤ maxLen) :
  ∃ v' w', (Builtin.append_ #[t, t] ty #[v, .slice ad m c]).run P w = .ok v' w' ∧ Row B e k v' (n + m) (xs ++ news) w' ∧ w.grownBy w' (obk v) ∧ (∀ b, obk v' = some b → obk v = some b ∨ w.heap.size ≤ b) := by
 obtain ⟨⟨dd, hu, he⟩, _⟩ := htb.at hi
 rw [hd] at he
 obtain rfl := KD.of_slice he
 obtain ⟨_, inf, e1, e2, e3, e4⟩ := htb.at hj
 have hsz : inf.size = k := by rw [e2, hk]
 by_cases hm : m = 0
 ·subst hm
  have hnews : news = [] := List.eq_nil_of_length_eq_zero (by simpa using hsrc.1)
  subst hnews
  refine ⟨v, w, ?_, by simpa using hr, grownBy_refl _ _, fun b hb => .inl hb⟩
  have hfc : (Builtin.firstCells inf.size 0 (.slice ad 0 c)).run P w = .ok #[] w := by
   cases ad <;> simp [Builtin.firstCells, loadCells, loadCellsFrom]
  rcases hr.2 with ⟨rfl, a', rfl⟩ | ⟨b, p, cap, cur, rfl, _, _, hnc, _⟩
  ·cases a' <;> simp [Builtin.append_, run_underlying hu, sizeOf, typeInfo, e1, Builtin.lenOf, hfc, storeCells]
  ·simp [Builtin.append_, run_underlying hu, sizeOf, typeInfo, e1, Builtin.lenOf, hfc, hnc, storeCells]
 ·obtain ⟨hl, h⟩ := hsrc
  obtain ⟨b', p', rfl, hcell⟩ := h.resolve_left hm
  have hnews : ∀ j u, news[j]? = some u → w.cell? ((⟨b', p', none⟩ : Addr).add j) = some u := fun j u hu => by
   have := hcell j u hu
   simpa [Addr.add_lit] using this
  rcases hr.2 with ⟨rfl, a', rfl⟩ | ⟨b, p, cap, cur, rfl, hBb, hh, hnc, hcm, hcs, ht⟩
  ·have hxs : xs = [] := List.eq_nil_of_length_eq_zero (by simpa using hr.1)
   subst hxs
   cases a' with
   | none =>
    obtain ⟨v', w', hrun, hown, hg, _⟩ := run_append_own (P := P) w w.heap.size t ty e inf ei.zero k ei.bytes hu e1 e4 hsz e3 hz hpos (.slice none 0 0) 0 [] (World.ownsRow_nil _ _ _ _) ⟨b', p', none⟩ m c news hl hnews h1 h63 hb (Nat.le_refl _)
    have hR := Row.of_own hown
    refine ⟨v', w', hrun, ?_, hg, fun b hb => .inr (hR.lt b hb).1⟩
    refine ⟨by simpa using hR.1, ?_⟩
    rcases hR.2 with hx | ⟨b, p, cap, cur, rfl, h1, hx⟩
    ·exact .inl (by simpa using hx)
    ·exact .inr ⟨b, p, cap, cur, rfl, by omega, by simpa using hx⟩
   | some a' =>
    obtain ⟨v', w', hrun, hown, hg⟩ := run_append_arg_grows (P := P) w t ty e inf ei.zero k ei.bytes hu e1 e4 hsz e3 hz hpos a' 0 0 [] (by simp) (by simp) ⟨b', p', none⟩ m c news hl hnews (by omega) h63 hb
    have hR := Row.of_own hown
    refine ⟨v', w', hrun, ?_, by rw [obk_zero]; exact hg, fun b hb => .inr (hR.lt b hb).1⟩
    refine ⟨by simpa using hR.1, ?_⟩
    rcases hR.2 with hx | ⟨b, p, cap, cur, rfl, h1, hx⟩
    ·exact .inl (by simpa using hx)
    ·exact .inr ⟨b, p, cap, cur, rfl, by omega, by simpa using hx⟩
  ·have hxl := hr.1
   by_cases hroom : n + m ≤ cap
   ·have hc0 : cap ≠ 0 := by omega
    have hfc := run_firstCells_some (P := P) w k m ⟨b', p', none⟩ m c news hl hnews
    have hfit : p + n * k + 0 + news.length ≤ cur.size := by
     rw [hcs, hl, Nat.add_zero, Nat.add_assoc, ← Nat.add_mul]
     exact Nat.add_le_add_left (Nat.mul_le_mul_right k hroom) p
    have hst := run_storeCells_z (P := P) b (p + n * k) e news 0 cur w hh hfit h1
    simp only [Nat.add_zero] at hst
    have hsz' : (cur.toList.take (p + n * k) ++ news ++ cur.toList.drop (p + n * k + news.length)).toArray.size = cur.size := by
     simp only [List.size_toArray, List.length_append, List.length_take, List.length_drop, Array.length_toList]
     omega
    refine ⟨.slice (some ⟨b, p, none⟩) (n + m) cap, w.setRow b (cur.toList.take (p + n * k) ++ news ++ cur.toList.drop (p + n * k + news.length)).toArray, ?_, ⟨?_, .inr ⟨b, p, cap, _, rfl, hBb, hh.set hsz', hroom, hcm, hsz'.trans hcs, ?_⟩⟩, ?_, ?_⟩
    ·simp [Builtin.append_, run_underlying hu, sizeOf, typeInfo, e1, Builtin.lenOf, hroom, hfc, Addr.add_lit, hsz, hst]
    ·rw [List.length_append, hxl, hl, Nat.add_mul]
    ·have h2 : p + n * k + news.length ≤ cur.toList.length := by simpa using hfit
     have hlt : (cur.toList.take (p + n * k)).length = p + n * k := by rw [List.length_take]; omega
     have hdt : (cur.toList.take (p + n * k)).drop p = xs := by
      rw [← ht, List.drop_take]; congr 1; omega
     rw [List.append_assoc, List.drop_append_of_le_length (by rw [hlt]; omega), hdt, Nat.add_mul, ← hl, ← List.append_assoc]
     rw [List.take_append_of_le_length (by rw [List.length_append, hxl]; exact Nat.le_refl _)]
     rw [List.take_of_length_le (by rw [List.length_append, hxl]; exact Nat.le_refl _)]
    ·rw [obk_pos hc0]; exact setRow_grown _ _ _
    ·intro x hx
     left
     rw [obk_pos hc0] at hx ⊢
     exact hx
   ·have holds : ∀ j u, xs[j]? = some u → w.cell? ((⟨b, p, none⟩ : Addr).add j) = some u := fun j u hu => by
     have := hr.cell j u hu
     simpa [Addr.add_lit] using this
    obtain ⟨v', w', hrun, hown, hg⟩ := run_append_arg_grows (P := P) w t ty e inf ei.zero k ei.bytes hu e1 e4 hsz e3 hz hpos ⟨b, p, none⟩ n cap xs hxl holds ⟨b', p', none⟩ m c news hl hnews (by omega) h63 hb
    have hR := Row.of_own hown
    refine ⟨v', w', hrun, ⟨hR.1, ?_⟩, ⟨hg.os, hg.tape, hg.output, hg.size, fun q hq _ => hg.block q hq (by simp)⟩, fun b hb => .inr (hR.lt b hb).1⟩
    rcases hR.2 with hx | ⟨b, p, cap, cur, rfl, h1, hx⟩
    ·exact .inl hx
    ·exact .inr ⟨b, p, cap, cur, rfl, by omega, hx⟩

theorem Row.form {B : Nat} {e : TypeId} {k : Nat} {v : Value} {n : Nat} {xs : List Value} (h : Row B e k v n xs w) : ∃ a c, v = .slice a n c := by
 rcases h.2 with ⟨rfl, a, rfl⟩ | ⟨b, p, cap, cur, rfl, _⟩
 ·exact ⟨a, 0, rfl⟩
 ·exact ⟨_, _, rfl⟩

/-- 'append(s, x...)', s the call's own. -/
theorem OpR_append {tb : Tb} (htb : tb.ok P) (i : Nat) {t e : Nat} {ti ei : TI} {k : Nat} {s x : Operand} {n m c : Nat} {v : Value} {xs news : List Value} {ad : Option Addr}
  (ho : o.op = .call { callee := .builtin .append, args := #[s, x], argTypes := #[t, t] }) (hs : St g0 g L) (hL : L[i]? = some (.row e k v n xs)) (hv : ev l s = some v) (hx : ev l x = some (.slice ad m c))
  (hi : tl tb t = some ti) (hd : ti.desc = .slice e) (hj : tl tb e = some ei) (hk : ei.size = k) (hpos : 0 < k) (hz : ei.zero.cells.size = k)
  (hsrc : Src g.w ad m k news) (h1 : ∀ u ∈ news, u.oneCell' = true) (hb : (n + m) * ei.bytes ≤ 140737488355328) (h63 : n + m ≤ maxLen)
  (kk : ∀ a' c' g', St g0 g' (L.set i (.row e k (.slice a' (n + m) c') (n + m) (xs ++ news))) → g.le g' → K (.slice a' (n + m) c') g'.w) : OpR F P N ds o l g.w Q K := by
 have hown := hs.own i _ hL
 obtain ⟨v', w', hrun, hR, hg, hblk⟩ := run_append_row (ty := o.type) htb hi hd hj hk hpos hz hown.1 hs.below.size hsrc h1 hb h63 (c := c)
 obtain ⟨a', c', rfl⟩ := hR.form
 let g' : G := ⟨w', g.im, fun b h => Nat.lt_of_lt_of_le (g.lt b h) hg.size⟩
 have hst := hs.chg (g' := g') (e' := .row e k (.slice a' (n + m) c') (n + m) (xs ++ news)) hL hg (fun _ _ => Iff.rfl)
  ⟨hR, fun b hb hi => by
   rcases hblk b hb with h | h
   ·exact hown.2 b h hi
   ·have := g.lt b hi; omega⟩ hblk
 refine OpR_builtin ho (w' := w') (fun a ha => ?_) (kk a' c' g' hst.1 hst.2)
 simp [resolve, invoke, builtin, ha.ev hv, ha.ev hx, hrun]

theorem Src.of_rs {α : Type} [El α] {ad : Option Addr} {m c : Nat} {xs : List α} (h : Rs g (.slice ad m c) xs) : m = xs.length ∧ ∃ news, RcL g news xs ∧ Src g.w ad m (El.k α) news := by
 obtain ⟨a, n, c', e, rfl, _, h⟩ := h
 simp only [Value.slice.injEq] at e
 obtain ⟨rfl, rfl, rfl⟩ := e
 refine ⟨rfl, ?_⟩
 rcases h with h | ⟨b, p, cells, rfl, hb, hr, hc⟩
 ·have : xs = [] := List.eq_nil_of_length_eq_zero h
  subst this
  exact ⟨[], rfl, by simp, .inl rfl⟩
 ·exact ⟨cells, hr, hr.len, .inr ⟨b, p, rfl, hc⟩⟩

theorem Src.of_row {B : Nat} {e : TypeId} {k m c n : Nat} {ad : Option Addr} {xs : List Value} (h : Row B e k (.slice ad m c) n xs w) : m = n ∧ Src w ad m k xs := by
 rcases h.2 with ⟨rfl, a, e1⟩ | ⟨b, p, cap, cur, e1, _⟩
 ·simp only [Value.slice.injEq] at e1
  obtain ⟨rfl, rfl, rfl⟩ := e1
  exact ⟨rfl, by simpa using h.1, .inl rfl⟩
 ·simp only [Value.slice.injEq] at e1
  obtain ⟨rfl, rfl, rfl⟩ := e1
  exact ⟨rfl, h.1, .inr ⟨b, p, rfl, fun j u hu => h.cell j u hu⟩⟩

theorem Row.nil (B : Nat) (e : TypeId) (k : Nat) (a : Option Addr) (w : World) : Row B e k (.slice a 0 0) 0 [] w := ⟨by simp, .inl ⟨rfl, a, rfl⟩⟩

/-- A slice without capacity is owned by whoever wants to. -/
theorem St.nilrow (hs : St g0 g L) (e : TypeId) (k : Nat) (a : Option Addr) : St g0 g (.row e k (.slice a 0 0) 0 [] :: L) :=
 (hs.add (g' := g) (e' := .row e k (.slice a 0 0) 0 []) (grownBy_refl _ _) (fun _ _ => Iff.rfl) ⟨Row.nil _ _ _ _ _, fun b hb => by rw [obk_zero] at hb; cases hb⟩ (fun b hb => by simp only [Ent.blk, obk_zero] at hb; cases hb)).1

/-! ### make -/

theorem made_list (z : Array Value) (n : Nat) (_hz : 0 < z.size) : (madeCells z (n * z.size)).toList = (List.replicate n z.toList).flatten := by
 have key : ∀ (k : Nat) (m : Nat), k = z.size → ((List.range k).map (fun i => z[(m * z.size + i) % z.size]!)) = z.toList := by
  intro k m hk
  subst hk
  apply List.ext_getElem?
  intro j
  rw [List.getElem?_map]
  by_cases hj : j < z.size
  ·rw [List.getElem?_range hj]
   have : (m * z.size + j) % z.size = j := by
    rw [Nat.mul_comm, Nat.mul_add_mod]; exact Nat.mod_eq_of_lt hj
   rw [Option.map_some, this, getElem!_pos z j hj, Array.getElem?_toList, Array.getElem?_eq_getElem hj]
  ·rw [List.getElem?_eq_none (by simpa using hj), List.getElem?_eq_none (by simpa using hj)]
   rfl
 induction n with
 | zero => simp [madeCells]
 | succ n ih =>
  rw [Nat.add_mul, Nat.one_mul]
  simp only [madeCells, Array.toList_map, Array.toList_range] at ih ⊢
  rw [List.range_add, List.map_append, ih, List.map_map, List.replicate_succ', List.flatten_concat]
  congr 1
  exact key z.size n rfl

theorem RcL.replicate {α : Type} [El α] {cs : List Value} {x : α} (h : El.rc g cs x) : ∀ n, RcL g (List.replicate n cs).flatten (List.replicate n x)
 | 0 => rfl
 | n + 1 => ⟨cs, (List.replicate n cs).flatten, by simp [List.replicate_succ], h, RcL.replicate h n⟩

/-- 'make([]T, n)'. -/
theorem OpR_make {tb : Tb} (htb : tb.ok P) {t e : Nat} {ti ei : TI} {k : Nat} {x y : Operand} {kl kc : IntKind} {n : Nat} (ho : o.op = .makeSlice t x y) (hs : St g0 g L)
  (hx : ev l x = some (.int kl (n : Int))) (hy : ev l y = some (.int kc (n : Int))) (hi : tl tb t = some ti) (hd : ti.desc = .slice e) (hj : tl tb e = some ei) (hk : ei.size = k) (hpos : 0 < k) (hz : ei.zero.cells.size = k)
  (hb : ei.bytes * n ≤ 281474976710656) (h63 : n ≤ maxLen)
  (kk : ∀ b g', St g0 g' (.row e k (.slice (some ⟨b, 0, none⟩) n n) n (List.replicate n ei.zero.cells.toList).flatten :: L) → g.le g' → K (.slice (some ⟨b, 0, none⟩) n n) g'.w) : OpR F P N ds o l g.w Q K := by
 obtain ⟨⟨dd, hu, he⟩, _⟩ := htb.at hi
 rw [hd] at he
 obtain rfl := KD.of_slice he
 obtain ⟨_, inf, e1, e2, e3, e4⟩ := htb.at hj
 have hsz : inf.size = k := by rw [e2, hk]
 obtain ⟨w', hrun, hown, hg⟩ := run_make_full (P := P) g.w g0.w.heap.size t e inf ei.zero k hu e1 e4 hsz kl kc n (by rw [e3]; exact hb) h63 hs.below.size
 have hml : (madeCells ei.zero.cells (n * k)).toList = (List.replicate n ei.zero.cells.toList).flatten := by rw [← hz]; exact made_list _ _ (by omega)
 rw [hml] at hown
 let g' : G := ⟨w', g.im, fun b h => Nat.lt_of_lt_of_le (g.lt b h) hg.size⟩
 have hst := hs.add (g' := g') (e' := .row e k (.slice (some ⟨g.w.heap.size, 0, none⟩) n n) n (List.replicate n ei.zero.cells.toList).flatten) hg (fun _ _ => Iff.rfl)
  ⟨Row.of_own hown, fun b hb hi => by
   obtain ⟨a, n', c, e5, _, e6⟩ := obk_some hb
   simp only [Value.slice.injEq, Option.some.injEq] at e5
   obtain ⟨rfl, _⟩ := e5
   have := g.lt b hi
   simp only at e6
   omega⟩
  (fun b hb => by
   obtain ⟨a, n', c, e5, _, e6⟩ := obk_some (v := .slice (some ⟨g.w.heap.size, 0, none⟩) n n) hb
   simp only [Value.slice.injEq, Option.some.injEq] at e5
   obtain ⟨rfl, _⟩ := e5
   simp only at e6
   omega)
 refine OpR_value (w' := w') (fun c => ⟨by rw [ho]; simp, by rw [ho]; simp⟩) (fun a ha => ?_) (kk _ g' hst.1 hst.2)
 simp [execOp, ho, ha.ev hx, ha.ev hy, hrun]

/-! ### A slice's literal -/

theorem OpR_lit {tb : Tb} (htb : tb.ok P) {t e len : Nat} {ti ei : TI} {k : Nat} {parts : Array (Nat × Operand)} {vs : List (Nat × Value)} {cells : List Value} (ho : o.op = .buildSlice t len parts) (hs : St g0 g L)
  (hp : evs l (parts.toList.map (·.2)) = some (vs.map (·.2))) (hp1 : parts.toList.map (·.1) = vs.map (·.1)) (hi : tl tb t = some ti) (hd : ti.desc = .slice e) (hj : tl tb e = some ei) (hk : ei.size = k) (hpos : 0 < k)
  (hlen : len * k ≤ 16777216) (hfill : Instr.fill (fun i => some (i * k, k)) ((Array.range (len * k)).map (ei.zero.cells[· % ei.zero.cells.size]!)) vs = some cells.toArray) (hcl : cells.length = len * k)
  (kk : ∀ b g', St g0 g' (.row e k (.slice (some ⟨b, 0, none⟩) len len) len cells :: L) → g.le g' → K (.slice (some ⟨b, 0, none⟩) len len) g'.w) : OpR F P N ds o l g.w Q K := by
 obtain ⟨⟨dd, hu, he⟩, _⟩ := htb.at hi
 rw [hd] at he
 obtain rfl := KD.of_slice he
 obtain ⟨_, inf, e1, e2, e3, e4⟩ := htb.at hj
 have hsz : inf.size = k := by rw [e2, hk]
 have hm : len ≤ maxLen := by
  have := Nat.le_trans (Nat.le_mul_of_pos_right len hpos) hlen
  unfold maxLen; omega
 have hR : Row g0.w.heap.size e k (.slice (some ⟨g.w.heap.size, 0, none⟩) len len) len cells (g.al (.cells cells.toArray e)).w :=
  ⟨hcl, .inr ⟨_, 0, len, cells.toArray, rfl, hs.below.size, .plain (World.alloc_heap_new g.w _), Nat.le_refl _, hm, by simpa using hcl, by simp [← hcl]⟩⟩
 have hst := hs.add (g' := g.al (.cells cells.toArray e)) (e' := .row e k (.slice (some ⟨g.w.heap.size, 0, none⟩) len len) len cells) (grown_alloc _ _ _) (fun _ _ => Iff.rfl)
  ⟨hR, fun b hb hi => by
   obtain ⟨a, n', c, e5, _, e6⟩ := obk_some hb
   simp only [Value.slice.injEq, Option.some.injEq] at e5
   obtain ⟨rfl, _⟩ := e5
   have := g.lt b hi
   simp only at e6
   omega⟩
  (fun b hb => by
   obtain ⟨a, n', c, e5, _, e6⟩ := obk_some (v := .slice (some ⟨g.w.heap.size, 0, none⟩) len len) hb
   simp only [Value.slice.injEq, Option.some.injEq] at e5
   obtain ⟨rfl, _⟩ := e5
   simp only at e6
   omega)
 refine OpR_value (w' := (g.al (.cells cells.toArray e)).w) (fun c => ⟨by rw [ho]; simp, by rw [ho]; simp⟩) (fun a ha => ?_) (kk _ _ hst.1 hst.2)
 have hvs : (parts.map fun (i, x) => (i, a.eval x)).toList = vs := by
  have h2 := evs_spec ha hp
  simp only [Array.toList_map]
  rw [List.map_map] at h2
  have h3 : parts.toList.map (fun p => (p.1, a.eval p.2)) = (parts.toList.map (·.1)).zip (parts.toList.map (fun p => a.eval p.2)) := by
   rw [List.zip_map']
  have h4 : vs = (vs.map (·.1)).zip (vs.map (·.2)) := by rw [List.zip_map']; simp
  rw [h4, ← hp1, ← h2]
  exact h3
 have hn : ¬ (2 ^ 24 < len * k) := by omega
 have hz0 : len * k = 0 → ((Array.range (len * k)).map (ei.zero.cells[· % ei.zero.cells.size]!)) = #[] := fun h0 => by rw [h0]; simp
 have hcl0 : len * k = 0 → cells = [] := fun h0 => List.eq_nil_of_length_eq_zero (by rw [hcl, h0])
 have hvs' : List.map (fun x : Nat × Operand => (x.fst, a.eval x.snd)) parts.toList = vs := by rw [← hvs]; simp
 by_cases h0 : len * k = 0
 ·rw [hz0 h0] at hfill
  have hr0 : Array.map (fun _ : Nat => (default : Value)) (Array.range 0) = #[] := by simp
  simp only [execOp, ho]
  simp [Instr.buildSlice, run_underlying hu, sizeOf, typeInfo, e1, hsz, h0, newRow]
  rw [hr0, hvs', hfill]
  simp
  rfl
 ·simp [execOp, ho, Instr.buildSlice, run_underlying hu, sizeOf, typeInfo, e1, e4, hsz, h0, hn, newRow, zeroValue]
  rw [hvs', hfill]
  simp
  rfl

/-! ### Cuts -/

theorem run_cut {tb : Tb} (htb : tb.ok P) {t e : Nat} {ti ei : TI} (hi : tl tb t = some ti) (hd : ti.desc = .slice e) (hj : tl tb e = some ei) {ad : Option Addr} {n c : Nat} {lo hi' : Option Value} {a b : Nat}
  (hlo : (match lo with | some v => ∃ k, v = .int k (a : Int) | none => a = 0)) (hhi : (match hi' with | some v => ∃ k, v = .int k (b : Int) | none => b = n)) (h1 : a ≤ b) (h2 : b ≤ c) :
  (Instr.sliceAt t (.slice ad n c) lo hi' none).run P w = .ok (.slice (if c = a then ad else ad.map (·.add (a * ei.size))) (b - a) (c - a)) w := by
 obtain ⟨⟨dd, hu, he⟩, _⟩ := htb.at hi
 rw [hd] at he
 obtain rfl := KD.of_slice he
 obtain ⟨_, inf, e1, e2, _⟩ := htb.at hj
 have hb1 : (0 : Int) ≤ b ∧ (b : Int) ≤ c := by omega
 have ha1 : (0 : Int) ≤ a ∧ (a : Int) ≤ b := by omega
 cases lo with
 | none =>
  have hlo : a = 0 := hlo
  subst hlo
  cases hi' with
  | none =>
   have hhi : b = n := hhi
   subst hhi
   simp [Instr.sliceAt, run_underlying hu, Instr.slice, Instr.sliceBounds, sizeOf, typeInfo, e1]
  | some v =>
   obtain ⟨k, rfl⟩ := hhi
   simp [Instr.sliceAt, run_underlying hu, Instr.slice, Instr.sliceBounds, Instr.sliceBound, asIntOf, sizeOf, typeInfo, e1, h2]
 | some u =>
  obtain ⟨k', rfl⟩ := hlo
  cases hi' with
  | none =>
   have hhi : b = n := hhi
   subst hhi
   simp [Instr.sliceAt, run_underlying hu, Instr.slice, Instr.sliceBounds, Instr.sliceBound, asIntOf, sizeOf, typeInfo, e1, e2, h1]
  | some v =>
   obtain ⟨k, rfl⟩ := hhi
   simp [Instr.sliceAt, run_underlying hu, Instr.slice, Instr.sliceBounds, Instr.sliceBound, asIntOf, sizeOf, typeInfo, e1, e2, h1, h2]

/-- A cut of a slice that no longer changes. -/
theorem Rs.cut {α : Type} [El α] {ad : Option Addr} {n c a b : Nat} {xs : List α} (h : Rs g (.slice ad n c) xs) (h1 : a ≤ b) (h2 : b ≤ xs.length) :
  Rs g (.slice (if c = a then ad else ad.map (·.add (a * El.k α))) (b - a) (c - a)) ((xs.take b).drop a) := by
 obtain ⟨ad', n', c', e, rfl, hnc, h⟩ := h
 simp only [Value.slice.injEq] at e
 obtain ⟨rfl, rfl, rfl⟩ := e
 refine ⟨_, _, _, rfl, by simp; omega, ⟨by omega, by omega⟩, ?_⟩
 by_cases hab : b - a = 0
 ·exact .inl hab
 ·right
  rcases h with h | ⟨bb, p, cells, rfl, hb, hr, hc⟩
  ·omega
  ·have hca : ¬ c = a := by omega
   rw [if_neg hca]
   refine ⟨bb, p + a * El.k α, (cells.take (b * El.k α)).drop (a * El.k α), by simp [Addr.add_lit], hb, (hr.take b).drop a, fun j y hy => ?_⟩
   rw [List.getElem?_drop] at hy
   have hlt := (List.getElem?_eq_some_iff.1 hy).1
   rw [List.length_take] at hlt
   rw [List.getElem?_take_of_lt (by omega)] at hy
   have := hc _ _ hy
   rw [Nat.add_assoc]
   exact this

theorem OpR_cut {tb : Tb} (htb : tb.ok P) {t e : Nat} {ti ei : TI} {x : Operand} {lo hi' : Option Operand} (ho : o.op = .slice t x lo hi' none) (hi : tl tb t = some ti) (hd : ti.desc = .slice e) (hj : tl tb e = some ei)
  {ad : Option Addr} {n c a b : Nat} (hx : ev l x = some (.slice ad n c)) (hlo : (match lo with | some v => ∃ k, ev l v = some (.int k (a : Int)) | none => a = 0)) (hhi : (match hi' with | some v => ∃ k, ev l v = some (.int k (b : Int)) | none => b = n))
  (h1 : a ≤ b) (h2 : b ≤ c) (k : K (.slice (if c = a then ad else ad.map (·.add (a * ei.size))) (b - a) (c - a)) w) : OpR F P N ds o l w Q K := by
 refine OpR_value (fun c => ⟨by rw [ho]; simp, by rw [ho]; simp⟩) (fun ac ha => ?_) k
 have hr := run_cut (P := P) (w := w) htb hi hd hj (ad := ad) (n := n) (c := c) (lo := lo.map ac.eval) (hi' := hi'.map ac.eval) (a := a) (b := b)
  (by cases lo with
   | none => exact hlo
   | some v => obtain ⟨k, hk⟩ := hlo; exact ⟨k, ha.ev hk⟩)
  (by cases hi' with
   | none => exact hhi
   | some v => obtain ⟨k, hk⟩ := hhi; exact ⟨k, ha.ev hk⟩) h1 h2
 simp [execOp, ho, ha.ev hx, hr]

/-- A cut of a slice of the call's own, from a place on: what is in front is given up. -/
theorem Row.cutFrom {B : Nat} {e : TypeId} {k n c a : Nat} {ad : Option Addr} {xs : List Value} (h : Row B e k (.slice ad n c) n xs w) (h1 : a ≤ n) :
  Row B e k (.slice (if c = a then ad else ad.map (·.add (a * k))) (n - a) (c - a)) (n - a) (xs.drop (a * k)) w := by
 refine ⟨by rw [List.length_drop, h.1, Nat.sub_mul], ?_⟩
 rcases h.2 with ⟨rfl, a', e1⟩ | ⟨b, p, cap, cur, e1, hB, hh, hnc, hcm, hcs, ht⟩
 ·simp only [Value.slice.injEq] at e1
  obtain ⟨rfl, _, rfl⟩ := e1
  obtain rfl : a = 0 := by omega
  exact .inl ⟨rfl, ad, by simp⟩
 ·simp only [Value.slice.injEq] at e1
  obtain ⟨rfl, _, rfl⟩ := e1
  by_cases hca : c = a
  ·exact .inl ⟨by omega, _, by rw [show n - a = 0 from by omega, show c - a = 0 from by omega]⟩
  ·rw [if_neg hca]
   refine .inr ⟨b, p + a * k, c - a, cur, by simp [Addr.add_lit], hB, hh, by omega, by omega, ?_, ?_⟩
   ·rw [hcs, Nat.add_assoc, ← Nat.add_mul]; congr 2; omega
   ·rw [← ht, List.drop_take, List.drop_drop, Nat.sub_mul]

/-! ### Stores into a slice of the call's own -/

theorem Row.store {B : Nat} {e : TypeId} {k b p m cap n : Nat} {xs us : List Value} {off : Nat} (h : Row B e k (.slice (some ⟨b, p, none⟩) m cap) n xs w) (hfit : off + us.length ≤ xs.length) (h0 : 0 < us.length) :
  ∃ cur cur' : List Value, CellsAt w b cur.toArray e ∧ p + off + us.length ≤ cur.length ∧ Row B e k (.slice (some ⟨b, p, none⟩) m cap) n (spl xs off us) (w.setRow b (spl cur (p + off) us).toArray) ∧ cap ≠ 0 ∧ cur = cur' := by
 rcases h.2 with ⟨h0', _⟩ | ⟨b', p', cap', cur, hv, hB, hh, hnc, hcm, hcs, ht⟩
 ·have := h.1; rw [h0', Nat.zero_mul] at this; omega
 ·simp only [Value.slice.injEq, Option.some.injEq, Addr.mk.injEq, and_true] at hv
  obtain ⟨⟨rfl, rfl⟩, rfl, rfl⟩ := hv
  have hl : cur.toList.length = p + cap * k := by simpa using hcs
  have hxl := h.1
  have hmc : m * k ≤ cap * k := Nat.mul_le_mul_right k hnc
  have hcap : cap ≠ 0 := by
   intro h; subst h; simp at hmc; omega
  have hsz' : (spl cur.toList (p + off) us).toArray.size = cur.size := by
   simp only [spl, List.size_toArray, List.length_append, List.length_take, List.length_drop]; omega
  refine ⟨cur.toList, cur.toList, by simpa using hh, by omega, ⟨?_, .inr ⟨b, p, cap, _, rfl, hB, hh.set hsz', hnc, hcm, hsz'.trans hcs, ?_⟩⟩, hcap, rfl⟩
  ·simp only [spl, List.length_append, List.length_take, List.length_drop]; omega
  ·apply List.ext_getElem?
   intro j
   rw [← ht]
   simp only [spl]
   by_cases hj : j < m * k
   ·rw [List.getElem?_take_of_lt hj, List.getElem?_drop]
    by_cases h1 : j < off
    ·rw [List.append_assoc, List.getElem?_append_left (by rw [List.length_take]; omega), List.getElem?_take_of_lt (by omega),
      List.append_assoc, List.getElem?_append_left (by rw [List.length_take, List.length_take, List.length_drop]; omega), List.getElem?_take_of_lt h1, List.getElem?_take_of_lt hj, List.getElem?_drop]
    ·by_cases h2 : j < off + us.length
     ·rw [List.append_assoc, List.getElem?_append_right (by rw [List.length_take]; omega), List.getElem?_append_left (by rw [List.length_take]; omega),
       List.append_assoc, List.getElem?_append_right (by rw [List.length_take, List.length_take, List.length_drop]; omega), List.getElem?_append_left (by rw [List.length_take, List.length_take, List.length_drop]; omega)]
      congr 1
      rw [List.length_take, List.length_take, List.length_take, List.length_drop]; omega
     ·rw [List.getElem?_append_right (by rw [List.length_append, List.length_take]; omega), List.getElem?_drop,
       List.getElem?_append_right (by rw [List.length_append, List.length_take, List.length_take, List.length_drop]; omega), List.getElem?_drop]
      simp only [List.length_append, List.length_take, List.length_drop]
      rw [List.getElem?_take_of_lt (by omega), List.getElem?_drop]
      congr 1
      omega
   ·rw [List.getElem?_eq_none (by rw [List.length_take]; omega), List.getElem?_eq_none (by
     simp only [List.length_append, List.length_take, List.length_drop]; omega)]

theorem OpR_storeR {tb : Tb} (htb : tb.ok P) (i : Nat) (off : Nat) {t : Nat} {ti : TI} {x y : Operand} {e : TypeId} {k b p m cap n : Nat} {xs us xs' : List Value} {v : Value} (ho : o.op = .store t x y) (hs : St g0 g L)
  (hi : L[i]? = some (.row e k (.slice (some ⟨b, p, none⟩) m cap) n xs)) (hx : ev l x = some (.pointer (some ⟨b, p + off, none⟩))) (hy : ev l y = some v)
  (ht : tl tb t = some ti) (hu : v.cells = us.toArray) (hl : us.length = ti.size) (h1 : us.all Value.oneCell' = true) (h0 : 0 < us.length) (hfit : off + us.length ≤ xs.length) (hcs : spl xs off us = xs')
  (kk : ∀ g', St g0 g' (L.set i (.row e k (.slice (some ⟨b, p, none⟩) m cap) n xs')) → g.le g' → K undef g'.w) : OpR F P N ds o l g.w Q K := by
 subst hcs
 have hown := hs.own i _ hi
 obtain ⟨cur, _, hh, hfit', hR, hcap, _⟩ := hown.1.store hfit h0
 have hst := hs.chg (g' := g.sr b (spl cur (p + off) us).toArray) (e' := .row e k (.slice (some ⟨b, p, none⟩) m cap) n (spl xs off us)) hi
  (by simp only [Ent.blk, obk_pos hcap]; exact setRow_grown _ _ _) (fun _ _ => Iff.rfl) ⟨hR, hown.2⟩ (fun b' hb' => .inl hb')
 refine OpR_skip (w' := (g.sr b (spl cur (p + off) us).toArray).w) (fun c => ⟨by rw [ho]; simp, by rw [ho]; simp⟩) (fun a ha => ?_) (kk _ hst.1 hst.2)
 have := run_storeVar (P := P) (w := g.w) htb ht hu hl (by simpa using h1) hh hfit'
 simp [execOp, ho, ha.ev hx, ha.ev hy, Instr.storeAt, Instr.sureAddr, this, G.sr]

/-! ### Calls -/

def Callable (P : Program) (f : FuncId) : Prop := (P.funcs[f]?).map (fun fn => (fn.name == "runtime.NumGoroutine", fn.body.isNone)) = some (false, false)

theorem run_callFunc {f : FuncId} (h : Callable P f) (args : Array Value) : (callFunc f args).run P w = .ok (.enter f args) w := by
 obtain ⟨fn, hf, e⟩ := Option.map_eq_some_iff.1 h
 simp only [Prod.mk.injEq] at e
 have h1 : fn.name ≠ "runtime.NumGoroutine" := by simpa using e.1
 have h2 : fn.body ≠ none := by
  intro h
  rw [h] at e
  simp at e
 simp [callFunc, hf, h1, h2]

/-- A call of a function value that a contract is known of. -/
theorem OpR_call {f : FuncId} (hc : Callable P f) (hF : ∀ f, F.fn f) (hdep : F.depth = none) {x : Operand} {args : Array Operand} {ts : Array TypeId} {first captured : Array Value} {vs as : List Value}
  (ho : o.op = .call { callee := .value x, args, argTypes := ts }) (hx : ev l x = some (.func (.func f) first captured)) (ha : evs l args.toList = some vs) (has : first.toList ++ vs ++ captured.toList = as)
  (h : CallsIn F 0 P f as.toArray w fun e w' => ∃ v, e = .returned v ∧ K v w') : OpR F P N ds o l w Q K := by
 intro a haa
 have hAs : first ++ vs.toArray ++ captured = as.toArray := by rw [← has]; apply Array.ext'; simp
 rw [← hAs] at h
 unfold Oper.wpIn
 refine ⟨fun f _ => hF f, ?_⟩
 have hargs : args.map a.eval = vs.toArray := by apply Array.ext'; simpa using evs_spec haa ha
 rw [Oper.semAt_eq _ _ _ (fun c e => by rw [ho] at e; cases e)]
 have hrun : (execOp a.eval o).run P w = .ok (.enter f (first ++ vs.toArray ++ captured)) w := by
  simp only [execOp, ho, Sem.run_bind, resolve, haa.ev hx, Deferred.ofValue, Sem.run_pure, Result.andThen_ok, invoke, hargs]
  exact run_callFunc hc _
 rw [hrun]
 refine ⟨fun h => (by rw [hdep] at h; cases h), ?_⟩
 refine CallsIn.mono h fun e w' ⟨v, he, hk⟩ => ?_
 subst he
 exact ⟨v, rfl, hk⟩

end Go.K
