/- Parts of the proof, from: The ground of my walks: a frame as a list of known slots, rules for code, pure operations run by reflection. Over whatever program. -/
import Derived.RangeFuncNested
import Derived.RangeFuncBound
import Derived.RangeFuncCalls
import Derived.RangeFuncLeaves
import Derived.RangeFuncRecord
import Derived.OrdersIn
import Derived.WalkKit
import Derived.Test.YtgehbndkogohpaaGreatDoorProg
import Derived.KernelRfl
namespace Go.K
open Go
abbrev Env:=List (Nat×Value)
def lk:Env→Nat→Option Value
 |[],_=>none
 |(k,v)::r,t=>bif Nat.beq k t then some v else lk r t
theorem cJ(d:Nat)(v:Value)(l:Env):lk ((d,v)::l) d=some v:=by simp[lk]
theorem bX{d t:Nat}(v:Value)(l:Env)(h:d≠t):lk ((d,v)::l) t=lk l t:=by
 have e:Nat.beq d t=false:=by
  cases hb:Nat.beq d t with
  |false=>rfl
  |true=>exact absurd (Nat.eq_of_beq_eq_true hb) h
 simp[lk,e]
structure Fr(N:Nat)(ds:List Deferred)(l:Env)(a:Act):Prop where
 defers:a.defers=ds
 size:a.tmps.size=N
 get: ∀t v,lk l t=some v→a.tmps[t]? =some v
variable {F:Fence} {P:Program} {N:Nat} {ds:List Deferred} {l l':Env} {a:Act} {w:World}
def ev(l:Env):Operand→Option Value
 | .tmp t=>lk l t
 | .const v=>some v
 | .global g=>some (.pointer (some ⟨g,0,none⟩))
 | .func f=>some (.func (.func f) #[] #[])
theorem Fr.ev(h:Fr N ds l a){x:Operand}{v:Value}(hx:ev l x=some v):a.eval x=v:=by
 cases x with
 |tmp t=>
  have:=h.get t v hx;simp only[Act.eval,Array.getD_eq_getD_getElem?,this,Option.getD_some]
 |const c=>simp only[K.ev,Option.some.injEq]at hx;exact hx
 |global c=>simp only[K.ev,Option.some.injEq]at hx;exact hx
 |func c=>simp only[K.ev,Option.some.injEq]at hx;exact hx
def pt(d:Option Tmp)(v:Value)(l:Env):Env:=
 match d with
 |some d=>(d,v)::l
 |none=>l
def MJ(N:Nat)(d:Option Tmp):Bool:=
 match d with
 |some d=>Nat.blt d N
 |none=>true
theorem Fr.put(h:Fr N ds l a){d:Option Tmp}(hd:MJ N d=true)(v:Value):Fr N ds (pt d v l) (a.put d v):=by
 cases d with
 |none=>exact h
 |some d=>
  have bC:d<N:=by simpa [MJ,Nat.blt_eq]using hd
  refine⟨h.defers,by simp[Act.put,h.size],fun t u hu=>?_⟩;simp only[Act.put];by_cases e:d=t
  ·subst e;simp only[pt,cJ,Option.some.injEq]at hu;subst hu;rw[Array.getElem?_setIfInBounds_self,if_pos (by rw[h.size];exact bC)]
  rw[Array.getElem?_setIfInBounds_ne e];simp only[pt,bX _ _ e]at hu;exact h.get t u hu
theorem Fr.sub(h:Fr N ds l a)(hs: ∀t v,lk l' t=some v→lk l t=some v):Fr N ds l' a:=
 ⟨h.defers,h.size,fun t v ht=>h.get t v (hs t v ht)⟩
def wQ:Env→Env→Prop
 |[],_=>True
 |(t,v)::r,l=>lk l t=some v∧wQ r l
theorem wQ.spec: ∀{l' l:Env},wQ l' l→ ∀t v,lk l' t=some v→lk l t=some v
 |[],_,_,t,v,h=>by simp[lk]at h
 |(k,u)::r,l,hs,t,v,h=>by
  by_cases e:k=t
  ·subst e;rw[cJ]at h;exact(Option.some.inj h)▸hs.1
  rw[bX _ _ e]at h;exact wQ.spec hs.2 t v h
theorem Fr.keep(h:Fr N ds l a)(hs:wQ l' l):Fr N ds l' a:=h.sub hs.spec
def W(F:Fence)(P:Program)(N:Nat)(ds:List Deferred)(c:Code)(Q:Exit→Act→World→Prop)(l:Env)(w:World):Prop:=
 ∀a,Fr N ds l a→c.wpIn F 0 P Q a w
def WL(F:Fence)(P:Program)(N:Nat)(ds:List Deferred)(ops:Array Oper)(Q:Exit→Act→World→Prop)(os:List Oper)(l:Env)(w:World):Prop:=
 ∀a,Fr N ds l a→wpListIn F 0 P ops Q os a w
variable {Q:Exit→Act→World→Prop} {c x y:Code} {ops:Array Oper} {os:List Oper} {o:Oper}
theorem aD(h:W F P N ds x (Exit.then (y.wpIn F 0 P Q) Q) l w):W F P N ds (.seq x y) Q l w:=fun a ha=>wpIn_seq (h a ha)
theorem aG{id:Nat}(h:W F P N ds c (Exit.inBlock id Q) l w):W F P N ds (.block id c) Q l w:=fun a ha=>wpIn_block (h a ha)
theorem aI(h: ∀a,Fr N ds l a→Q .ret a w):W F P N ds .ret Q l w:=fun a ha=>wpIn_ret (h a ha)
theorem aF(h: ∀a,Fr N ds l a→Q .normal a w):W F P N ds .skip Q l w:=fun a ha=>wpIn_skip (h a ha)
theorem Il{k:Nat}(h: ∀a,Fr N ds l a→Q .normal a w):W F P N ds (.label k) Q l w:=fun a ha=>wpIn_label (h a ha)
theorem bF{id:Nat}(h: ∀a,Fr N ds l a→Q (.exit id) a w):W F P N ds (.exit id) Q l w:=fun a ha=>wpIn_exit (h a ha)
theorem Ly{z:Operand}(hz:ev l z=some (.bool true))(h:W F P N ds x Q l w):W F P N ds (.cond z x y) Q l w:=
 fun a ha=>wpIn_cond_true (ha.ev hz) (h a ha)
theorem Iu{z:Operand}(hz:ev l z=some (.bool false))(h:W F P N ds y Q l w):W F P N ds (.cond z x y) Q l w:=
 fun a ha=>wpIn_cond_false (ha.ev hz) (h a ha)
theorem aM{z:Operand}{b:Bool}(hb:b=true)(hz:ev l z=some (.bool b))(h:W F P N ds x Q l w):W F P N ds (.cond z x y) Q l w:=
 Ly (hb▸hz) h
theorem aV{z:Operand}{b:Bool}(hb:b=false)(hz:ev l z=some (.bool b))(h:W F P N ds y Q l w):W F P N ds (.cond z x y) Q l w:=
 Iu (hb▸hz) h
theorem aA{id:Nat}(h:WL F P N ds ops Q ops.toList l w):W F P N ds (.region id ops false) Q l w:=fun a ha=>wpIn_region_list (h a ha)
theorem pP(hs:wQ l' l)(h:W F P N ds c Q l' w):W F P N ds c Q l w:=fun a ha=>h a (ha.keep hs)
theorem bM(I:Nat→Act→World→Prop)(n:Nat)(h0: ∀a,Fr N ds l a→I n a w)
  (step: ∀n a w,I n a w→c.wpIn F 0 P (Exit.then (fun a' w'=> ∃m,m<n∧I m a' w') Q) a w):W F P N ds (.loop c) Q l w:=by
 intro a ha b k cs Lb hb hr;have key: ∀n a w,I n a w→ ∃e a' w',Q e a' w'∧ArrivesIn (Machine.fenced P F) P (lone (b.atR a (.code c:: .inLoop c::k)) cs w) b k cs e a' w':=by
  intro n
  induction n using Nat.strongRecOn with
  |_ n ih=>
   intro a w hI;obtain⟨e,a₁,w₁,hq,pV⟩:=step n a w hI b (.inLoop c::k) cs Lb hb hr;cases e with
   |normal=>
    obtain⟨m,bC,Xd⟩:=hq;obtain⟨e₂,a₂,w₂,Xe,P3⟩:=ih m bC a₁ w₁ Xd;exact⟨e₂,a₂,w₂,Xe,.of_steps (StepsIn.trans pV (.one (fenced_calm hb hr rfl) stepR_inLoop)) P3⟩
   |exit id=>exact⟨_,a₁,w₁,hq,.pass (x:=.inLoop c) rfl (fun _ _=> .inl (by simp)) pV⟩
   |goto l=>exact⟨_,a₁,w₁,hq,.pass (x:=.inLoop c) rfl (fun _ _=> .inl (by simp)) pV⟩
   |ret=>exact⟨_,a₁,w₁,hq,.pass (x:=.inLoop c) rfl (fun _ _=> .inl (by simp)) pV⟩
   |panic ch=>exact⟨_,a₁,w₁,hq,.pass (x:=.inLoop c) rfl (fun _ _=> .inl (by simp)) pV⟩
   |outgrown=>exact⟨_,a₁,w₁,hq,.pass (x:=.inLoop c) rfl (fun _ _=> .inl (by simp)) pV⟩
 obtain⟨e,a',w',hq,pV⟩:=key n a w (h0 a ha);exact⟨e,a',w',hq,.of_steps (.one (fenced_calm hb hr rfl) stepR_loop) pV⟩
def cD(F:Fence)(P:Program)(N:Nat)(ds:List Deferred)(o:Oper)(l:Env)(w:World)(Q:Exit→Act→World→Prop)(K:Value→World→Prop):Prop:=
 ∀a,Fr N ds l a→o.wpIn F 0 P a w (fun a' w'=> ∃v,a'=a.put o.dst v∧K v w') Q
def gd(ops:Array Oper)(l:Env)(o:Oper):Option Bool:=
 match o.guard with
 |none=>some true
 |some (j,want)=>
  match(ops[j]?).bind (·.dst)with
  |none=>none
  |some d=>
   match lk l d with
   |some (.bool b)=>some (b==want)
   |_=>none
theorem Iv{P4:Bool}(h:gd ops l o=some P4)(ha:Fr N ds l a):Region.wanted o (yielded ops a.tmps)=P4:=by
 unfold gd at h;unfold Region.wanted yielded;cases hg:o.guard with
 |none=>simp only[hg,Option.some.injEq]at h;simp[←h]
 |some p=>
  obtain⟨j,want⟩:=p;simp only[hg]at h;cases hd:(ops[j]?).bind (·.dst)with
  |none=>simp[hd]at h
  |some d=>
   simp only[hd]at h;cases hl:lk l d with
   |none=>simp[hl]at h
   |some v=>
    have hv:=ha.get d v hl;cases v with
    |bool b=>
     simp only[hl,Option.some.injEq]at h;simp only[hd,Option.bind_some,hv];rw[←h];cases b<;>cases want<;>rfl
    |_=>simp[hl]at h
theorem aE(h: ∀a,Fr N ds l a→Q .normal a w):WL F P N ds ops Q [] l w:=fun a ha=>h a ha
theorem cO(t:Nat){b b':Bool}(hb:b=b')(hl:lk l t=some (.bool b))(h:WL F P N ds ops Q os ((t,.bool b')::l) w):WL F P N ds ops Q os l w:=by
 refine fun a ha=>h a (ha.sub fun s v hs=>?_);by_cases e:t=s
 ·subst e;rw[cJ]at hs;rw[hl,hb];exact hs
 rw[bX _ _ e]at hs;exact hs
theorem Lz(J:Act→World→Prop){o1 o2:List Oper}(Ra:os=o1++o2)(h:WL F P N ds ops (Exit.then J Q) o1 l w)
  (h2: ∀a w,J a w→wpListIn F 0 P ops Q o2 a w):WL F P N ds ops Q os l w:=by
 subst Ra;intro a ha;have key: ∀(o1:List Oper) (a:Act) (w:World),wpListIn F 0 P ops (Exit.then J Q) o1 a w→wpListIn F 0 P ops Q (o1++o2) a w:=by
  intro o1
  induction o1 with
  |nil=>exact fun a w h=>h2 a w h
  |cons o o1 ih=>
   intro a w h;simp only[List.cons_append,wpListIn]at h⊢;split
   ·rename_i hw;simp only[hw,if_true]at h;have h':=Oper.wpIn_mono (ih · ·) h;unfold Oper.wpIn at h'⊢;refine⟨h'.1,?_⟩;have h':=h'.2;generalize(o.semAt F.round a.eval).run P w=r at h'⊢;have P5:LetsOut (Exit.then J Q)→LetsOut Q:=fun⟨a,w,h⟩=>⟨a,w,h⟩
    cases r with
    |ok x w'=>
     cases x<;>simp only[Oper.uponIn]at h'⊢ <;>
      first
       |exact h'
       |exact⟨h'.1,CallsIn.mono h'.2 (fun e LA he=>by cases e<;>first|exact he|exact P5 he)⟩
       |exact⟨h'.1,RoundIn.mono h'.2 (fun e LA he=>by cases e<;>first|exact he|exact P5 he)⟩
    |halt x w'=>cases x<;>simp only[Oper.uponIn]at h'⊢ <;>exact h'
   rename_i hw;simp only[hw]at h;exact⟨h.1,ih _ _ h.2⟩
 exact key _ _ _ (h a ha)
theorem bO{v:Value}{K:Value→World→Prop}{w':World}(o7: ∀c,o.op≠ .call c∧o.op≠ .defer c)(h: ∀a,Fr N ds l a→(execOp a.eval o).run P w= .ok (.value v) w')(k:K v w'):
  cD F P N ds o l w Q K:=by
 intro a ha;unfold Oper.wpIn;refine⟨fun f hf=>?_,?_⟩
 ·unfold Oper.about at hf;cases ho:o.op<;>simp only[ho]at hf<;>first|(cases hf;done)|exact absurd ho (o7 _).1
 rw[Oper.semAt_eq _ _ _ (fun c=>(o7 c).2),h a ha];exact⟨v,rfl,k⟩
theorem qO{K:Value→World→Prop}{w':World}(o7: ∀c,o.op≠ .call c∧o.op≠ .defer c)(h: ∀a,Fr N ds l a→(execOp a.eval o).run P w= .ok .skip w')(k:K undef w'):
  cD F P N ds o l w Q K:=by
 intro a ha;unfold Oper.wpIn;refine⟨fun f hf=>?_,?_⟩
 ·unfold Oper.about at hf;cases ho:o.op<;>simp only[ho]at hf<;>first|(cases hf;done)|exact absurd ho (o7 _).1
 rw[Oper.semAt_eq _ _ _ (fun c=>(o7 c).2),h a ha];exact⟨undef,rfl,k⟩
end Go.K
namespace Go.K
open Go
inductive KD where
 |bool|string
 |int (k:IntKind)
 |slice (e:TypeId)
 |arr (n:Nat) (e:TypeId)
 |struct (fs:List (TypeId×Nat))
 |ptr (e:TypeId)
 |map (k e:TypeId)
 |other
def KD.of:TypeDesc→KD
 | .bool=> .bool
 | .string=> .string
 | .int k=> .int k
 | .slice e=> .slice e
 | .array n e=> .arr n e
 | .struct fs=> .struct (fs.toList.map fun f=>(f.type,f.offset))
 | .pointer e=> .ptr e
 | .map k e=> .map k e
 |_=> .other
theorem KD.of_struct{d:TypeDesc}{l:List (TypeId×Nat)}(h:KD.of d= .struct l): ∃fs,d= .struct fs∧l=fs.toList.map fun f=>(f.type,f.offset):=by cases d<;>simp only[KD.of,reduceCtorEq,KD.struct.injEq]at h;exact⟨_,rfl,h.symm⟩
theorem KD.of_slice{d:TypeDesc}{e:TypeId}(h:KD.of d= .slice e):d= .slice e:=by cases d<;>simp only[KD.of,reduceCtorEq,KD.slice.injEq]at h;rw[h]
theorem KD.of_string{d:TypeDesc}(h:KD.of d= .string):d= .string:=by cases d<;>simp only[KD.of,reduceCtorEq]at h;rfl
theorem KD.A8{d:TypeDesc}{n:Nat}{e:TypeId}(h:KD.of d= .arr n e):d= .array n e:=by cases d<;>simp only[KD.of,reduceCtorEq,KD.arr.injEq]at h;rw[h.1,h.2]
structure TI where
 desc:KD
 size:Nat
 bytes:Nat
 zero:Value
abbrev Tb:=List (Nat×TI)
def tl:Tb→Nat→Option TI
 |[],_=>none
 |(k,v)::r,t=>bif Nat.beq k t then some v else tl r t
def TI.fits(P:Program)(t:TypeId)(i:TI):Prop:=
 (∃d,P.underlying t=some d∧KD.of d=i.desc)∧ ∃inf,P.info? t=some inf∧inf.size=i.size∧inf.bytes=i.bytes∧inf.zero=some i.zero
theorem TI.IC{P:Program}{t:TypeId}{i:TI}(h1:(P.underlying t).map KD.of=some i.desc)(h2:(P.info? t).map (fun j=>(j.size,j.bytes,j.zero))=some (i.size,i.bytes,some i.zero)):i.fits P t:=by obtain⟨d,hd,e⟩:=Option.map_eq_some_iff.1 h1;obtain⟨inf,hi,e2⟩:=Option.map_eq_some_iff.1 h2;simp only[Prod.mk.injEq]at e2;exact⟨⟨d,hd,e⟩,inf,hi,e2.1,e2.2.1,e2.2.2⟩
def Tb.ok(P:Program):Tb→Prop
 |[]=>True
 |(t,i)::r=>i.fits P t∧Tb.ok P r
theorem Tb.ok.at{P:Program}: ∀{tb:Tb} (_:tb.ok P) {t:Nat} {i:TI},tl tb t=some i→i.fits P t
 |[],_,t,i,h=>by simp[tl]at h
 |(k,v)::r,ho,t,i,h=>by
  simp only[tl]at h;cases hb:Nat.beq k t with
  |true=>
   rw[hb]at h;simp only[cond_true,Option.some.injEq]at h;have:=Nat.eq_of_beq_eq_true hb;subst this;subst h;exact ho.1
  |false=>
   rw[hb]at h;exact Tb.ok.at ho.2 h
def LH(op:BinOp)(x y:Value):Option Value:=
 match x,y with
 | .int k a,.int k' b=>
  if k=k' then
   match op with
   | .add=>some (.int k (k.wrap (a+b)))
   | .sub=>some (.int k (k.wrap (a-b)))
   | .mul=>some (.int k (k.wrap (a*b)))
   | .eql=>some (.bool (a==b))
   | .neq=>some (.bool (a !=b))
   | .lss=>some (.bool (decide (a<b)))
   | .leq=>some (.bool (decide (a≤b)))
   | .gtr=>some (.bool (decide (b<a)))
   | .geq=>some (.bool (decide (b≤a)))
   |_=>none
  else none
 | .string a,.string b=>
  match op with
  | .eql=>some (.bool (a.toList==b.toList))
  | .neq=>some (.bool (!(a.toList==b.toList)))
  | .lss=>some (.bool (Op.bytesLess a.toList b.toList))
  |_=>none
 |_,_=>none
def LI(op:BinOp)(x y:Value):Option Value:=
 match x,y with
 | .int k a,.int k' (.ofNat (n+1))=>
  if k=k' then
   match op with
   | .quo=>some (.int k (k.wrap (a.tdiv (.ofNat (n+1)))))
   | .rem=>some (.int k (a.tmod (.ofNat (n+1))))
   |_=>none
  else none
 |_,_=>none
def U4(op:UnOp)(x:Value):Option Value:=
 match op,x with
 | .not,.bool b=>some (.bool (!b))
 | .neg,.int k n=>some (.int k (k.wrap (0-n)))
 |_,_=>none
def J_(c a b:Option Value):Option Value:=
 match c with
 |some (.bool true)=>a
 |some (.bool false)=>b
 |_=>none
def sY(l:Env):List Operand→Option (List Value)
 |[]=>some []
 |x::r=>match ev l x,sY l r with
  |some v,some vs=>some (v::vs)
  |_,_=>none
def uM(tb:Tb)(b:Builtin)(args:Array Operand)(ts:Array TypeId)(l:Env):Option Value:=
 match b,args.toList with
 | .len,[x]=>
  match ts.toList with
  |[t]=>
   match tl tb t with
   |some i=>
    match i.desc,ev l x with
    | .slice _,some (.slice _ n _)=>some (.int .i64 n)
    | .string,some (.string s)=>some (.int .i64 s.size)
    |_,_=>none
   |none=>none
  |_=>none
 | .min,[x,y]=>
  match ev l x,ev l y with
  |some (.int k a),some (.int _ b)=>some (.int k (if b<a then b else a))
  |_,_=>none
 | .max,[x,y]=>
  match ev l x,ev l y with
  |some (.int k a),some (.int _ b)=>some (.int k (if a<b then b else a))
  |_,_=>none
 |_,_=>none
def Tz(tb:Tb)(l:Env):Op→Option Value
 | .move x=>ev l x
 | .assign x=>ev l x
 | .pick c a b=>J_ (ev l c) (ev l a) (ev l b)
 | .binOp op _ x y _=>
  match op with
  | .quo| .rem=>
   match ev l x,ev l y with
   |some a,some b=>LI op a b
   |_,_=>none
  |_=>
   match ev l x,ev l y with
   |some a,some b=>LH op a b
   |_,_=>none
 | .unOp op _ x=>(ev l x).bind (U4 op)
 | .extract x i=>
  match ev l x with
  |some (.tuple vs)=>vs[i]?
  |_=>none
 | .nilCheck x=>
  match ev l x with
  |some (.pointer (some a))=>some (.pointer (some a))
  |_=>none
 | .fieldAddr s x f=>
  match tl tb s with
  |some i=>
   match i.desc with
   | .struct fs=>
    match fs[f]? with
    |some fd=>
     match tl tb fd.1 with
     |some j=>
      match j.size with
      |0=>none
      |_+1=>
       match ev l x with
       |some (.pointer (some a))=>some (.pointer (some (a.add fd.2)))
       |_=>none
     |none=>none
    |none=>none
   |_=>none
  |none=>none
 | .field s x f=>
  match tl tb s with
  |some i=>
   match i.desc with
   | .struct fs=>
    match fs[f]? with
    |some fd=>
     match tl tb fd.1 with
     |some j=>
      match j.desc with
      | .struct _=>none
      | .arr _ _=>none
      |_=>
       match ev l x with
       |some (.agg cs)=>cs[fd.2]?
       |_=>none
     |none=>none
    |none=>none
   |_=>none
  |none=>none
 | .makeFunc fn first captured=>
  match sY l first.toList,sY l captured.toList with
  |some xs,some ys=>some (.func fn xs.toArray ys.toArray)
  |_,_=>none
 | .call {callee:=.builtin b,args,argTypes}=>uM tb b args argTypes l
 |_=>none
variable {F:Fence} {P:Program} {N:Nat} {ds:List Deferred} {l:Env} {a:Act} {w:World} {o:Oper} {Q:Exit→Act→World→Prop}
theorem gF(op:BinOp)(t:TypeId)(x y:Operand)(k k':IntKind)(m n:Int):(eqGuard op t x y (.int k m) (.int k' n)).run P w= .ok () w:=by unfold eqGuard;split<;>rfl
theorem kZ(op:BinOp)(t:TypeId)(x y:Operand)(m n:ByteArray):(eqGuard op t x y (.string m) (.string n)).run P w= .ok () w:=by unfold eqGuard;split<;>rfl
theorem Gc{op:BinOp}{t:TypeId}{x y v:Value}(xo yo:Operand)(hq:op≠ .quo∧op≠ .rem)(h:LH op x y=some v):
  (do eqGuard op t xo yo x y;binOp op t x y:Sem Value).run P w= .ok v w:=by
 unfold LH at h;split at h
 ·rename_i k a k' b;split at h
  ·rename_i hk;subst hk;cases op<;>simp_all [gF,binOp,Op.intArith,Op.intCmp]
  cases h
 ·rename_i a b;cases op<;>simp_all [kZ,binOp,Op.stringOp]
 cases h
theorem zR{op:BinOp}{t:TypeId}{x y v:Value}(xo yo:Operand)(h:LI op x y=some v):
  (do eqGuard op t xo yo x y;binOp op t x y:Sem Value).run P w= .ok v w:=by
 unfold LI at h;split at h
 ·rename_i k a k' n;have hz: ¬((Int.ofNat (n+1))=0):=by intro e;cases e
  split at h
  ·rename_i hk;subst hk;cases op<;>simp only[reduceCtorEq,Option.some.injEq]at h
   all_goals
    subst h;simp only[Sem.run_bind,gF,Result.andThen_ok];unfold binOp;simp only[ne_eq,not_true_eq_false,if_false];unfold Op.intDiv;rw[if_neg hz];rfl
  cases h
 cases h
theorem iH(ha:Fr N ds l a): ∀{xs:List Operand} {vs:List Value},sY l xs=some vs→xs.map a.eval=vs
 |[],vs,h=>by simp only[sY,Option.some.injEq]at h;simp[←h]
 |x::r,vs,h=>by
  simp only[sY]at h;cases hx:ev l x with
  |none=>simp[hx]at h
  |some v=>
   cases hr:sY l r with
   |none=>simp[hx,hr]at h
   |some us=>
    simp only[hx,hr,Option.some.injEq]at h;rw[←h,List.map_cons,ha.ev hx,iH ha hr]
theorem yd{tb:Tb}(dq:tb.ok P){b:Builtin}{args:Array Operand}{ts:Array TypeId}{t:TypeId}{v:Value}
  (ha:Fr N ds l a) (h:uM tb b args ts l=some v):
  (do let d←resolve a.eval {callee:=.builtin b,args,argTypes:=ts} t;invoke d.target d.args:Sem Next).run P w= .ok (.value v) w:=by
 unfold uM at h;split at h
 ·rename_i x uN;have uN:args=#[x]:=by apply Array.ext';simpa using uN
  subst uN;split at h
  ·rename_i t' TA;have TA:ts=#[t']:=by apply Array.ext';simpa using TA
   subst TA;split at h
   ·rename_i i hi;split at h
    ·rename_i e y n c hd hx;simp only[Option.some.injEq]at h;subst h;obtain⟨⟨d,hu,he⟩,_⟩:=dq.at hi;rw[hd]at he;obtain rfl:=KD.of_slice he;simp[resolve,invoke,builtin,Builtin.len_,ha.ev hx,run_underlying hu,goInt]
    ·rename_i s hd hx;simp only[Option.some.injEq]at h;subst h;obtain⟨⟨d,hu,he⟩,_⟩:=dq.at hi;rw[hd]at he;obtain rfl:=KD.of_string he;simp[resolve,invoke,builtin,Builtin.len_,ha.ev hx,run_underlying hu,goInt]
    cases h
   cases h
  cases h
 ·rename_i x y uN;have uN:args=#[x,y]:=by apply Array.ext';simpa using uN
  subst uN;split at h
  ·rename_i k m k' n hx hy;simp only[Option.some.injEq]at h;subst h;simp[resolve,invoke,builtin,Builtin.min_,Builtin.min2,ha.ev hx,ha.ev hy]
  cases h
 ·rename_i x y uN;have uN:args=#[x,y]:=by apply Array.ext';simpa using uN
  subst uN;split at h
  ·rename_i k m k' n hx hy;simp only[Option.some.injEq]at h;subst h;simp[resolve,invoke,builtin,Builtin.max_,Builtin.max2,ha.ev hx,ha.ev hy]
  cases h
 cases h
theorem vM{b:Builtin}{args:Array Operand}{ts:Array TypeId}(hc:o.op= .call {callee:=.builtin b,args,argTypes:=ts})(f:FuncId)(h:o.about P w a.eval=some f):False:=by unfold Oper.about at h;rw[hc]at h;simp only[resolve,Sem.run_pure]at h;simp[Target.leads]at h
theorem eZ{b:Builtin}{args:Array Operand}{ts:Array TypeId}(hc:o.op= .call {callee:=.builtin b,args,argTypes:=ts}){v:Value}{w':World}{K:Value→World→Prop}
  (h: ∀a,Fr N ds l a→(do let d←resolve a.eval {callee:=.builtin b,args,argTypes:=ts} o.type;invoke d.target d.args:Sem Next).run P w= .ok (.value v) w') (k:K v w'):cD F P N ds o l w Q K:=by
 intro a ha;unfold Oper.wpIn;refine⟨fun f hf=>(vM hc f hf).elim,?_⟩;rw[Oper.semAt_eq _ _ _ (fun c e=>by rw[hc]at e;cases e)];unfold execOp;rw[hc];rw[h a ha];exact⟨v,rfl,k⟩
theorem zS{fs:Array Field}{f:Nat}{fd:TypeId×Nat}(h:(fs.toList.map fun f=>(f.type,f.offset))[f]? =some fd): ∃x,fs[f]? =some x∧x.type=fd.1∧x.offset=fd.2:=by rw[List.getElem?_map,Option.map_eq_some_iff]at h;obtain⟨x,hx,rfl⟩:=h;exact⟨x,by simpa using hx,rfl,rfl⟩
theorem zT{tb:Tb}(dq:tb.ok P){s f:Nat}{i j:TI}{fs:List (TypeId×Nat)}{fd:TypeId×Nat}{n:Nat}{ad:Addr}(hi:tl tb s=some i)(hd:i.desc= .struct fs)(hf:fs[f]? =some fd)
  (hj:tl tb fd.1=some j) (hn:j.size=n+1):(Instr.fieldAt s (.pointer (some ad)) f).run P w= .ok (.pointer (some (ad.add fd.2))) w:=by
 obtain⟨⟨d,hu,he⟩,_⟩:=dq.at hi;rw[hd]at he;obtain⟨Rc,rfl,rfl⟩:=KD.of_struct he;obtain⟨U5,hf,e1,e2⟩:=zS hf;rw[←e1]at hj;rw[←e2];obtain⟨_,inf,h1,h2,_⟩:=dq.at hj;simp[Instr.fieldAt,run_underlying hu,hf,Instr.sureAddr,fieldPlace,sizeOf,typeInfo,h1,h2,hn]
theorem aN(tb:Tb)(dq:tb.ok P){v:Value}{K:Value→World→Prop}(h:Tz tb l o.op=some v)(k:K v w):cD F P N ds o l w Q K:=by
 obtain⟨dst,op,type,pos,after,guard⟩:=o;simp only at h;unfold Tz at h;split at h
 ·exact bO (by simp) (fun a ha=>by simp[execOp,ha.ev h]) k
 ·exact bO (by simp) (fun a ha=>by simp[execOp,ha.ev h]) k
 ·rename_i c x y;refine bO (by simp) (fun a ha=>?_) k;unfold J_ at h;split at h
  ·rename_i hc;simp[execOp,ha.ev hc,ha.ev h,asBool]
  ·rename_i hc;simp[execOp,ha.ev hc,ha.ev h,asBool]
  cases h
 ·rename_i op t x y yt;refine bO (by simp) (fun a ha=>?_) k;split at h
  ·split at h
   ·rename_i u v' hx hy;have:=zR (P:=P) (w:=w) (t:=t) x y h;simp only[execOp,ha.ev hx,ha.ev hy,Sem.run_bind,Sem.run_pure]at this⊢;rw[this];rfl
   cases h
  ·split at h
   ·rename_i u v' hx hy;have:=zR (P:=P) (w:=w) (t:=t) x y h;simp only[execOp,ha.ev hx,ha.ev hy,Sem.run_bind,Sem.run_pure]at this⊢;rw[this];rfl
   cases h
  rename_i n1 n2;split at h
  ·rename_i u v' hx hy;have:=Gc (P:=P) (w:=w) (t:=t) x y ⟨n1,n2⟩ h;simp only[execOp,ha.ev hx,ha.ev hy,Sem.run_bind,Sem.run_pure]at this⊢;rw[this];rfl
  cases h
 ·rename_i op t x;refine bO (by simp) (fun a ha=>?_) k;cases hx:ev l x with
  |none=>simp[hx]at h
  |some u=>
   simp only[hx,Option.bind_some]at h;simp only[execOp,ha.ev hx];unfold U4 at h;split at h
   ·simp only[Option.some.injEq]at h;subst h;simp[Op.unary]
   ·simp only[Option.some.injEq]at h;subst h;simp[Op.unary,Op.intArith]
   cases h
 ·rename_i x i;refine bO (by simp) (fun a ha=>?_) k;split at h
  ·rename_i vs hx;simp[execOp,ha.ev hx,Instr.extract,h]
  cases h
 ·rename_i x;refine bO (by simp) (fun a ha=>?_) k;split at h
  ·rename_i ad hx;simp only[Option.some.injEq]at h;subst h;simp[execOp,ha.ev hx]
  cases h
 ·rename_i s x f;refine bO (by simp) (fun a ha=>?_) k;split at h
  ·rename_i i hi;split at h
   ·rename_i fs hd;split at h
    ·rename_i fd hf;split at h
     ·rename_i j hj;split at h
      ·cases h
      rename_i n hn;split at h
      ·rename_i ad hx;simp only[Option.some.injEq]at h;subst h;simp[execOp,ha.ev hx,zT dq hi hd hf hj hn]
      cases h
     cases h
    cases h
   cases h
  cases h
 ·rename_i s x f;refine bO (by simp) (fun a ha=>?_) k;split at h
  ·rename_i i hi;split at h
   ·rename_i fs hd;split at h
    ·rename_i fd hf;split at h
     ·rename_i j hj;split at h
      ·cases h
      ·cases h
      rename_i n1 n2;split at h
      ·rename_i cs hx;obtain⟨⟨d,hu,he⟩,_⟩:=dq.at hi;rw[hd]at he;obtain⟨Rc,rfl,rfl⟩:=KD.of_struct he;obtain⟨U5,hf,e1,e2⟩:=zS hf;obtain⟨⟨d',hv,Kp⟩,_⟩:=dq.at hj;rw[←e1]at hv;rw[←e2]at h;have Re:(isAgg U5.type).run P w= .ok false w:=by simp only[isAgg,Sem.run_bind,run_underlying hv,Result.andThen_ok];cases d'<;>first|rfl|exact(n1 _ Kp.symm).elim|exact(n2 _ _ Kp.symm).elim
       simp[execOp,ha.ev hx,Instr.field,run_underlying hu,hf,asAgg,part,Re,h]
      cases h
     cases h
    cases h
   cases h
  cases h
 ·rename_i fn first captured
  refine bO (by simp) (fun a ha=>?_) k;split at h
  ·rename_i xs ys hx hy;simp only[Option.some.injEq]at h;subst h;have e1:=iH ha hx;have e2:=iH ha hy;have f1:first.map a.eval=xs.toArray:=by apply Array.ext';simpa using e1
   have f2:captured.map a.eval=ys.toArray:=by apply Array.ext';simpa using e2
   simp[execOp,Instr.makeFunc,f1,f2]
  cases h
 ·exact eZ rfl (fun a ha=>yd dq ha h) k
 cases h
end Go.K
namespace Go.Proofs.YtgehbndkogohpaaGreatDoor
open Go Go.K
set_option maxRecDepth 100000
def T:Tb:=[(3,⟨.int .i64,1,8,.int .i64 0⟩),(4,⟨.bool,1,1,.bool false⟩),(43,⟨.slice 3,1,24,.slice none 0 0⟩),(9,⟨.string,1,16,.string ByteArray.empty⟩),(34,⟨.struct [(3,0),(3,1),(3,2),(3,3),(4,4),(3,5),(3,6),(3,7),(3,8),(3,9),(3,10),(3,11),(3,12),(3,13),(3,14),(3,15),(3,16),(3,17),(9,18)],19,160,.agg #[.int .i64 0,.int .i64 0,.int .i64 0,.int .i64 0,.bool false,.int .i64 0,.int .i64 0,.int .i64 0,.int .i64 0,.int .i64 0,.int .i64 0,.int .i64 0,.int .i64 0,.int .i64 0,.int .i64 0,.int .i64 0,.int .i64 0,.int .i64 0,.string ByteArray.empty]⟩),(1,⟨.other,1,8,.nilFunc⟩),(24,⟨.slice 34,1,24,.slice none 0 0⟩),(28,⟨.struct [(3,0),(3,1),(25,2),(26,3)],4,64,.agg #[.int .i64 0,.int .i64 0,.slice none 0 0,.slice none 0 0]⟩),(2,⟨.int .i64,1,8,.int .i64 0⟩),(60,⟨.struct [(3,0),(43,1),(3,2),(3,3),(43,4),(3,5),(3,6)],7,88,.agg #[.int .i64 0,.slice none 0 0,.int .i64 0,.int .i64 0,.slice none 0 0,.int .i64 0,.int .i64 0]⟩),(36,⟨.struct [(24,0),(24,1),(24,2),(24,3),(24,4),(24,5),(24,6),(24,7),(24,8),(24,9),(24,10)],11,264,.agg #[.slice none 0 0,.slice none 0 0,.slice none 0 0,.slice none 0 0,.slice none 0 0,.slice none 0 0,.slice none 0 0,.slice none 0 0,.slice none 0 0,.slice none 0 0,.slice none 0 0]⟩),(263,⟨.slice 9,1,24,.slice none 0 0⟩),(154,⟨.slice 224,1,24,.slice none 0 0⟩),(241,⟨.slice 243,1,24,.slice none 0 0⟩),(25,⟨.slice 60,1,24,.slice none 0 0⟩),(224,⟨.struct [(222,0),(3,1),(3,2)],3,24,.agg #[.nilFunc,.int .i64 0,.int .i64 0]⟩),(58,⟨.struct [(3,0),(3,1),(3,2)],3,24,.agg #[.int .i64 0,.int .i64 0,.int .i64 0]⟩),(243,⟨.struct [(3,0),(3,1),(3,2),(3,3),(4,4),(3,5),(3,6),(3,7),(3,8),(3,9),(3,10),(3,11),(3,12),(3,13),(3,14),(3,15),(3,16),(3,17),(9,18)],19,160,.agg #[.int .i64 0,.int .i64 0,.int .i64 0,.int .i64 0,.bool false,.int .i64 0,.int .i64 0,.int .i64 0,.int .i64 0,.int .i64 0,.int .i64 0,.int .i64 0,.int .i64 0,.int .i64 0,.int .i64 0,.int .i64 0,.int .i64 0,.int .i64 0,.string ByteArray.empty]⟩),(26,⟨.slice 58,1,24,.slice none 0 0⟩),(39,⟨.struct [(3,0),(3,1),(3,2),(3,3),(3,4),(3,5),(3,6)],7,56,.agg #[.int .i64 0,.int .i64 0,.int .i64 0,.int .i64 0,.int .i64 0,.int .i64 0,.int .i64 0]⟩),(5,⟨.int .u8,1,1,.int .u8 0⟩),(96,⟨.struct [(28,0),(4,4),(24,5)],6,96,.agg #[.int .i64 0,.int .i64 0,.slice none 0 0,.slice none 0 0,.bool false,.slice none 0 0]⟩),(71,⟨.struct [(3,0),(3,1),(3,2),(69,3),(26,4)],5,72,.agg #[.int .i64 0,.int .i64 0,.int .i64 0,.slice none 0 0,.slice none 0 0]⟩),(174,⟨.int .u64,1,8,.int .u64 0⟩),(64,⟨.struct [(3,0),(3,1),(62,2),(62,4)],6,48,.agg #[.int .i64 0,.int .i64 0,.int .i64 0,.int .i64 0,.int .i64 0,.int .i64 0]⟩),(50,⟨.int .i64,1,8,.int .i64 0⟩),(54,⟨.struct [(3,0),(43,1)],2,32,.agg #[.int .i64 0,.slice none 0 0]⟩),(104,⟨.struct [(34,0),(85,19)],20,168,.agg #[.int .i64 0,.int .i64 0,.int .i64 0,.int .i64 0,.bool false,.int .i64 0,.int .i64 0,.int .i64 0,.int .i64 0,.int .i64 0,.int .i64 0,.int .i64 0,.int .i64 0,.int .i64 0,.int .i64 0,.int .i64 0,.int .i64 0,.int .i64 0,.string ByteArray.empty,.pointer none]⟩),(110,⟨.other,1,8,.nilFunc⟩),(226,⟨.ptr 34,1,8,.pointer none⟩),(115,⟨.slice 5,1,24,.slice none 0 0⟩),(129,⟨.slice 4,1,24,.slice none 0 0⟩),(282,⟨.struct [(3,0),(43,1)],2,32,.agg #[.int .i64 0,.slice none 0 0]⟩),(85,⟨.ptr 36,1,8,.pointer none⟩),(114,⟨.ptr 117,1,8,.pointer none⟩),(73,⟨.arr 6 3,6,48,.agg #[.int .i64 0,.int .i64 0,.int .i64 0,.int .i64 0,.int .i64 0,.int .i64 0]⟩),(207,⟨.slice 3,1,24,.slice none 0 0⟩),(69,⟨.slice 64,1,24,.slice none 0 0⟩),(156,⟨.struct [(154,0),(154,1),(92,2),(4,3)],4,64,.agg #[.slice none 0 0,.slice none 0 0,.nilFunc,.bool false]⟩),(278,⟨.ptr 282,1,8,.pointer none⟩),(62,⟨.struct [(3,0),(3,1)],2,16,.agg #[.int .i64 0,.int .i64 0]⟩),(164,⟨.other,1,8,.nilFunc⟩),(225,⟨.ptr 3,1,8,.pointer none⟩),(279,⟨.slice 278,1,24,.slice none 0 0⟩),(246,⟨.other,1,8,.nilFunc⟩),(117,⟨.struct [(114,0),(115,1)],2,32,.agg #[.pointer none,.slice none 0 0]⟩),(32,⟨.other,1,8,.nilFunc⟩),(185,⟨.struct [(3,0),(3,1),(3,2)],3,24,.agg #[.int .i64 0,.int .i64 0,.int .i64 0]⟩),(161,⟨.arr 2 3,2,16,.agg #[.int .i64 0,.int .i64 0]⟩),(22,⟨.slice 73,1,24,.slice none 0 0⟩),(84,⟨.struct [(81,0),(82,1)],2,16,.agg #[.nilFunc,.nilFunc]⟩),(92,⟨.other,1,8,.nilFunc⟩),(106,⟨.other,1,8,.nilFunc⟩),(201,⟨.slice 43,1,24,.slice none 0 0⟩),(80,⟨.ptr 24,1,8,.pointer none⟩),(119,⟨.other,1,16,.nilIface⟩),(261,⟨.int .u64,1,8,.int .u64 0⟩),(169,⟨.map 3 3,1,8,.map none⟩),(6,⟨.int .u8,1,1,.int .u8 0⟩),(101,⟨.other,1,8,.nilFunc⟩),(295,⟨.slice 154,1,24,.slice none 0 0⟩),(267,⟨.ptr 28,1,8,.pointer none⟩),(116,⟨.struct [(114,0),(115,1)],2,32,.agg #[.pointer none,.slice none 0 0]⟩),(78,⟨.map 3 84,1,8,.map none⟩),(148,⟨.ptr 150,1,8,.pointer none⟩),(157,⟨.map 3 156,1,8,.map none⟩),(222,⟨.other,1,8,.nilFunc⟩),(99,⟨.map 3 107,1,8,.map none⟩),(111,⟨.other,1,8,.nilFunc⟩),(7,⟨.struct [(2,0),(3,1),(4,2),(6,3)],4,24,.agg #[.int .i64 0,.int .i64 0,.bool false,.int .u8 0]⟩),(66,⟨.struct [(43,0),(43,1),(3,2),(3,3),(3,4)],5,72,.agg #[.slice none 0 0,.slice none 0 0,.int .i64 0,.int .i64 0,.int .i64 0]⟩),(236,⟨.struct [(3,0),(23,1)],2,16,.agg #[.int .i64 0,.nilFunc]⟩),(187,⟨.slice 185,1,24,.slice none 0 0⟩),(105,⟨.other,1,8,.nilFunc⟩),(10,⟨.string,1,16,.string ByteArray.empty⟩),(8,⟨.struct [(2,0),(3,1),(4,2),(6,3)],4,24,.agg #[.int .i64 0,.int .i64 0,.bool false,.int .u8 0]⟩),(74,⟨.map 9 34,1,8,.map none⟩),(20,⟨.other,1,16,.nilIface⟩),(109,⟨.other,1,8,.nilFunc⟩),(150,⟨.struct [(117,0)],2,32,.agg #[.pointer none,.slice none 0 0]⟩),(209,⟨.other,1,8,.nilFunc⟩),(299,⟨.arr 4 3,4,32,.agg #[.int .i64 0,.int .i64 0,.int .i64 0,.int .i64 0]⟩),(82,⟨.other,1,8,.nilFunc⟩),(108,⟨.other,1,8,.nilFunc⟩),(23,⟨.other,1,8,.nilFunc⟩),(112,⟨.other,1,8,.nilFunc⟩),(192,⟨.other,1,8,.nilFunc⟩),(239,⟨.slice 236,1,24,.slice none 0 0⟩),(13,⟨.struct [(9,0),(12,1)],2,24,.agg #[.string ByteArray.empty,.int .u64 0]⟩),(14,⟨.struct [(9,0),(12,1)],2,24,.agg #[.string ByteArray.empty,.int .u64 0]⟩),(103,⟨.struct [(34,0),(85,19)],20,168,.agg #[.int .i64 0,.int .i64 0,.int .i64 0,.int .i64 0,.bool false,.int .i64 0,.int .i64 0,.int .i64 0,.int .i64 0,.int .i64 0,.int .i64 0,.int .i64 0,.int .i64 0,.int .i64 0,.int .i64 0,.int .i64 0,.int .i64 0,.int .i64 0,.string ByteArray.empty,.pointer none]⟩),(199,⟨.other,1,8,.nilFunc⟩),(11,⟨.string,1,16,.string ByteArray.empty⟩),(211,⟨.other,1,8,.nilFunc⟩),(269,⟨.other,1,8,.nilFunc⟩),(313,⟨.other,1,8,.nilFunc⟩),(15,⟨.ptr 371,1,8,.pointer none⟩),(18,⟨.struct [(17,0)],1,8,.agg #[.pointer none]⟩),(97,⟨.other,1,8,.nilFunc⟩),(118,⟨.other,1,16,.nilIface⟩),(12,⟨.int .u64,1,8,.int .u64 0⟩),(17,⟨.ptr 382,1,8,.pointer none⟩),(46,⟨.other,1,8,.nilFunc⟩),(98,⟨.other,1,8,.nilFunc⟩),(107,⟨.struct [],0,0,.agg #[]⟩),(140,⟨.struct [(3,0),(3,1)],2,16,.agg #[.int .i64 0,.int .i64 0]⟩),(315,⟨.other,1,8,.nilFunc⟩),(81,⟨.other,1,8,.nilFunc⟩),(100,⟨.other,1,8,.nilFunc⟩),(102,⟨.other,1,8,.nilFunc⟩),(123,⟨.other,1,8,.nilFunc⟩),(240,⟨.other,1,8,.nilFunc⟩),(244,⟨.other,1,8,.nilFunc⟩),(249,⟨.other,1,8,.nilFunc⟩),(250,⟨.other,1,8,.nilFunc⟩),(293,⟨.other,1,8,.nilFunc⟩),(316,⟨.ptr 207,1,8,.pointer none⟩),(341,⟨.struct [],0,0,.agg #[]⟩),(44,⟨.other,1,8,.nilFunc⟩),(45,⟨.other,1,8,.nilFunc⟩),(138,⟨.slice 220,1,24,.slice none 0 0⟩),(182,⟨.other,1,8,.nilFunc⟩),(196,⟨.ptr 5,1,8,.pointer none⟩),(320,⟨.other,1,8,.nilFunc⟩),(16,⟨.ptr 374,1,8,.pointer none⟩),(35,⟨.struct [(24,0),(24,1),(24,2),(24,3),(24,4),(24,5),(24,6),(24,7),(24,8),(24,9),(24,10)],11,264,.agg #[.slice none 0 0,.slice none 0 0,.slice none 0 0,.slice none 0 0,.slice none 0 0,.slice none 0 0,.slice none 0 0,.slice none 0 0,.slice none 0 0,.slice none 0 0,.slice none 0 0]⟩),(65,⟨.struct [(43,0),(43,1),(3,2),(3,3),(3,4)],5,72,.agg #[.slice none 0 0,.slice none 0 0,.int .i64 0,.int .i64 0,.int .i64 0]⟩),(121,⟨.other,1,8,.nilFunc⟩),(131,⟨.other,1,8,.nilFunc⟩),(133,⟨.other,1,8,.nilFunc⟩),(136,⟨.other,1,8,.nilFunc⟩),(147,⟨.other,1,8,.nilFunc⟩),(159,⟨.other,1,8,.nilFunc⟩),(186,⟨.slice 185,1,24,.slice none 0 0⟩),(188,⟨.other,1,8,.nilFunc⟩),(189,⟨.other,1,8,.nilFunc⟩),(190,⟨.other,1,8,.nilFunc⟩),(193,⟨.other,1,8,.nilFunc⟩),(194,⟨.other,1,8,.nilFunc⟩),(195,⟨.other,1,8,.nilFunc⟩),(215,⟨.other,1,8,.nilFunc⟩),(230,⟨.other,1,8,.nilFunc⟩),(232,⟨.other,1,8,.nilFunc⟩),(251,⟨.other,1,8,.nilFunc⟩),(260,⟨.other,1,8,.nilFunc⟩),(271,⟨.other,1,8,.nilFunc⟩),(274,⟨.other,1,8,.nilFunc⟩),(292,⟨.other,1,8,.nilFunc⟩),(220,⟨.struct [(3,0),(3,1),(3,2),(3,3)],4,32,.agg #[.int .i64 0,.int .i64 0,.int .i64 0,.int .i64 0]⟩),(371,⟨.struct [(17,0),(17,1),(17,2),(9,3)],4,40,.agg #[.pointer none,.pointer none,.pointer none,.string ByteArray.empty]⟩),(374,⟨.struct [(372,0)],0,0,.agg #[]⟩),(382,⟨.struct [(12,0),(12,1),(259,2),(376,3),(5,4),(5,5),(377,6),(378,7),(196,8),(379,9),(380,10)],11,48,.agg #[.int .u64 0,.int .u64 0,.int .u32 0,.int .u8 0,.int .u8 0,.int .u8 0,.int .u8 0,.nilFunc,.pointer none,.int .i32 0,.int .i32 0]⟩)]
theorem T.ok:Tb.ok Tryz.prog T:=by repeat (first|exact trivial|refine⟨TI.IC (by kernel_rfl) (by kernel_rfl),?_⟩)
end Go.Proofs.YtgehbndkogohpaaGreatDoor
namespace Go.K
open Go Go.RowKit
structure G where
 w:World
 im:Nat→Prop
 lt: ∀b,im b→b<w.heap.size
def G.le(g g':G):Prop:=∀b,g.im b→g'.im b∧g'.w.heap[b]? =g.w.heap[b]?
theorem G.le.refl(g:G):g.le g:=fun _ h=>⟨h,rfl⟩
theorem G.le.trans{a b c:G}(h:a.le b)(k:b.le c):a.le c:=fun i hi=>⟨(k i (h i hi).1).1,((k i (h i hi).1).2).trans (h i hi).2⟩
structure a_(g g':G):Prop where
 below:Below g.w.heap.size g.w g'.w
 im: ∀b,b<g.w.heap.size→(g'.im b↔g.im b)
theorem a_.refl(g:G):a_ g g:=⟨Below.refl _ _,fun _ _=>Iff.rfl⟩
theorem a_.trans{a b c:G}(h:a_ a b)(k:a_ b c):a_ a c:=
 ⟨h.below.trans (k.below.mono h.below.size),fun i hi=>(k.im i (Nat.lt_of_lt_of_le hi h.below.size)).trans (h.im i hi)⟩
theorem a_.le{g g':G}(h:a_ g g'):g.le g':=fun b hb=>⟨(h.im b (g.lt b hb)).2 hb,h.below.block b (g.lt b hb)⟩
def qi:Value→Option Nat
 | .slice (some a) _ c=>bif Nat.beq c 0 then none else some a.block
 |_=>none
theorem j6(a:Option Addr)(n:Nat):qi (.slice a n 0)=none:=by cases a<;>rfl
theorem jw{a:Addr}{n c:Nat}(h:c≠0):qi (.slice (some a) n c)=some a.block:=by
 cases c with
 |zero=>exact absurd rfl h
 |succ c=>rfl
theorem jz{v:Value}{b:Nat}(h:qi v=some b): ∃a n c,v= .slice (some a) n c∧c≠0∧a.block=b:=by
 unfold qi at h;split at h
 ·rename_i a n c;cases c with
  |zero=>simp at h
  |succ c=>exact⟨a,n,c+1,rfl,by omega,Option.some.inj h⟩
 cases h
def fh(w:World)(b:Nat)(cur:Array Value)(e:TypeId):Prop:=∃fz:Nat×Nat,w.heap[b]? =some (.cells cur e fz)∧(fz=(0,0)∨cur.size≤fz.1)
theorem fh.plain{w:World}{b:Nat}{cur:Array Value}{e:TypeId}(h:w.heap[b]? =some (.cells cur e (0,0))):fh w b cur e:=⟨_,h,.inl rfl⟩
theorem fh.lt{w:World}{b:Nat}{cur:Array Value}{e:TypeId}(h:fh w b cur e):b<w.heap.size:=by obtain⟨_,h,_⟩:=h;exact(Array.getElem?_eq_some_iff.1 h).1
theorem fh.of_eq{w w':World}{b:Nat}{cur:Array Value}{e:TypeId}(h:fh w b cur e)(hb:w'.heap[b]? =w.heap[b]?):fh w' b cur e:=by obtain⟨fz,h,h2⟩:=h;exact⟨fz,hb.trans h,h2⟩
theorem fh.cell{w:World}{b o:Nat}{cur:Array Value}{e:TypeId}{y:Value}(h:fh w b cur e)(hy:cur[o]? =some y):w.cell? ⟨b,o,none⟩=some y:=by obtain⟨_,h,_⟩:=h;simp[World.cell?,h,hy]
theorem fh.set{w:World}{b:Nat}{cur cs:Array Value}{e:TypeId}(h:fh w b cur e)(hs:cs.size=cur.size):fh (w.setRow b cs) b cs e:=by obtain⟨fz,h,h2⟩:=h;exact⟨fz,setRow_heap _ _ _ _ _ _ h,by rw[hs];exact h2⟩
theorem hZ{P:Program}(b o:Nat)(e:TypeId): ∀(us:List Value) (i:Nat) (cur:Array Value) (w:World),fh w b cur e→o+i+us.length≤cur.size→(∀u∈us,u.oneCell'=true)→
  (storeCells ⟨b,o,none⟩ us i).run P w= .ok () (w.setRow b (cur.toList.take (o+i)++us++cur.toList.drop (o+i+us.length)).toArray)
 |[],i,cur,w,⟨fz,hg,_⟩,_,_=>by simp only[storeCells,List.append_nil,List.length_nil,Nat.add_zero,List.take_append_drop,Array.toArray_toList];rw[setRow_self w b cur e fz hg];rfl
 |u::rest,i,cur,w,hc,hl,h1=>by
  have bC:o+i<cur.size:=by rw[List.length_cons]at hl;omega
  have ih:=hZ (P:=P) b o e rest (i+1) (cur.setIfInBounds (o+i) u) (w.setRow b (cur.setIfInBounds (o+i) u)) (hc.set (by simp)) (by rw[List.length_cons]at hl;simp;omega) fun x hx=>h1 x (by simp[hx]);obtain⟨fz,hg,hz⟩:=hc;have TD:w.frozen? ⟨b,o+i,none⟩=false:=by
   rcases hz with rfl|hz
   ·simp[World.frozen?,hg]
   simp only[World.frozen?,hg,Bool.and_eq_false_iff,decide_eq_false_iff_not];left;omega
  have dH:(store ((⟨b,o,none⟩:Addr).add i) u).run P w= .ok () (w.setRow b (cur.setIfInBounds (o+i) u)):=by rw[Addr.add_lit,run_store P w _ u _ (h1 u (by simp)),show w.cell? ⟨b,o+i,none⟩=some cur[o+i]from by simp[World.cell?,hg,bC]];simp[TD,setCell_eq_setRow w b (o+i) cur e fz u hg]
  simp only[storeCells,Sem.run_bind,dH,Result.andThen_ok,ih,setRow_setRow];congr 3;have e2:=list_seg_step cur.toList (o+i) u rest (by rw[List.length_cons]at hl;simp;omega);simpa [Array.toList_setIfInBounds,Nat.add_assoc]using e2
def Row(B:Nat)(e:TypeId)(k:Nat)(v:Value)(n:Nat)(xs:List Value)(w:World):Prop:=
 xs.length=n*k∧((n=0∧ ∃a,v= .slice a 0 0)∨
  ∃b off cap cur,v= .slice (some ⟨b,off,none⟩) n cap∧B≤b∧fh w b cur e∧n≤cap∧cap≤maxLen∧cur.size=off+cap*k∧(cur.toList.drop off).take (n*k)=xs)
inductive cS where
 |obj (b:Nat) (o:Obj)
 |row (e:TypeId) (k:Nat) (v:Value) (n:Nat) (xs:List Value)
def cS.s5:cS→Option Nat
 | .obj b _=>some b
 | .row _ _ v _ _=>qi v
def cS.holds(B:Nat)(g:G):cS→Prop
 | .obj b o=>B≤b∧g.w.heap[b]? =some o∧ ¬g.im b
 | .row e k v n xs=>Row B e k v n xs g.w∧ ∀b,qi v=some b→ ¬g.im b
theorem Row.lt{B:Nat}{e:TypeId}{k:Nat}{v:Value}{n:Nat}{xs:List Value}{w:World}(h:Row B e k v n xs w): ∀b,qi v=some b→B≤b∧b<w.heap.size:=by
 intro b hb;rcases h.2 with⟨_,a,rfl⟩|⟨b',off,cap,cur,rfl,hB,hh,_⟩
 ·rw[j6]at hb;cases hb
 obtain⟨a,n',c,e1,_,e2⟩:=jz hb;simp only[Value.slice.injEq,Option.some.injEq]at e1;obtain⟨rfl,_⟩:=e1;subst e2;exact⟨hB,hh.lt⟩
theorem cS.holds.lt{B:Nat}{g:G}{e:cS}(h:e.holds B g): ∀b,e.s5=some b→B≤b∧b<g.w.heap.size∧ ¬g.im b:=by
 intro b hb;cases e with
 |obj b' o=>
  simp only[cS.s5,Option.some.injEq]at hb;subst hb;exact⟨h.1,(Array.getElem?_eq_some_iff.1 h.2.1).1,h.2.2⟩
 |row e k v n xs=>exact⟨(h.1.lt b hb).1,(h.1.lt b hb).2,h.2 b hb⟩
theorem Row.kept{B:Nat}{e:TypeId}{k:Nat}{v:Value}{n:Nat}{xs:List Value}{w w':World}(h:Row B e k v n xs w)(hb: ∀b,qi v=some b→w'.heap[b]? =w.heap[b]?):Row B e k v n xs w':=by
 refine⟨h.1,?_⟩;rcases h.2 with hn|⟨b,off,cap,cur,rfl,hB,hh,o7,r⟩
 ·exact .inl hn
 by_cases hc:cap=0
 ·subst hc;obtain rfl:n=0:=by omega
  exact .inl ⟨rfl,_,rfl⟩
 exact .inr ⟨b,off,cap,cur,rfl,hB,hh.of_eq (hb b (jw hc)),o7,r⟩
theorem cS.holds.kept{B:Nat}{g g':G}{e:cS}(h:e.holds B g)(hb: ∀b,e.s5=some b→g'.w.heap[b]? =g.w.heap[b]? ∧(g'.im b↔g.im b)):e.holds B g':=by
 cases e with
 |obj b o=>exact⟨h.1,(hb b rfl).1.trans h.2.1,fun hi=>h.2.2 ((hb b rfl).2.1 hi)⟩
 |row e k v n xs=>exact⟨h.1.kept fun b sZ=>(hb b sZ).1,fun b sZ hi=>h.2 b sZ ((hb b sZ).2.1 hi)⟩
structure St(g0 g:G)(L:List cS):Prop where
 below:Below g0.w.heap.size g0.w g.w
 im: ∀b,b<g0.w.heap.size→(g.im b↔g0.im b)
 own: ∀(j:Nat) e,L[j]? =some e→e.holds g0.w.heap.size g
 sep: ∀(j k:Nat) e e',j≠k→L[j]? =some e→L[k]? =some e'→ ∀b,e.s5=some b→e'.s5≠some b
theorem St.start(g:G):St g g []:=⟨Below.refl _ _,fun _ _=>Iff.rfl,fun _ _ h=>by simp at h,fun _ _ _ _ _ h=>by simp at h⟩
theorem St.nC{g0 g:G}{L:List cS}(h:St g0 g L):a_ g0 g:=⟨h.below,h.im⟩
theorem St.le{g0 g:G}{L:List cS}(h:St g0 g L):g0.le g:=h.nC.le
theorem zW{g g':G}{r:Option Nat}(hg:g.w.grownBy g'.w r)(hr: ∀b,r=some b→ ¬g.im b)(oa: ∀b,b<g.w.heap.size→(g'.im b↔g.im b)):g.le g':=
 fun b hb=>⟨(oa b (g.lt b hb)).2 hb,hg.block b (g.lt b hb) fun e=>hr b e.symm hb⟩
theorem St.Hn{g0 g g':G}{L:List cS}(hs:St g0 g L){i:Nat}{e e':cS}(hi:L[i]? =some e)(hg:g.w.grownBy g'.w e.s5)(oa: ∀b,b<g.w.heap.size→(g'.im b↔g.im b))
  (he:e'.holds g0.w.heap.size g') (hb: ∀b,e'.s5=some b→e.s5=some b∨g.w.heap.size≤b):St g0 g' (L.set i e')∧g.le g':=by
 have bC:=(hs.own i e hi).lt;have cP:=hs.below.size;refine⟨⟨⟨hg.os.trans hs.below.os,hg.tape.trans hs.below.tape,hg.output.trans hs.below.output,Nat.le_trans cP hg.size,fun k hk=>?_⟩,fun b sZ=>?_,?_,?_⟩,?_⟩
 ·exact(hg.block k (by omega) fun h=>by have:=(bC k h.symm).1;omega).trans (hs.below.block k hk)
 ·exact(oa b (by omega)).trans (hs.im b sZ)
 ·intro j x hj;rw[List.getElem?_set]at hj;split at hj
  ·split at hj
   ·simp only[Option.some.injEq]at hj;exact hj▸he
   simp at hj
  rename_i fB;have hx:=hs.own j x hj;refine hx.kept fun b sZ=>?_;have h1:=hx.lt b sZ;exact⟨hg.block b h1.2.1 fun h=>hs.sep j i x e (fun q=>fB q.symm) hj hi b sZ h.symm,oa b h1.2.1⟩
 ·intro j k x y Ci hj hk b wS tD;rw[List.getElem?_set]at hj hk;split at hj<;>split at hk
  ·omega
  ·split at hj
   ·simp only[Option.some.injEq]at hj;subst hj;rename_i _ fB _;rcases hb b wS with h|h
    ·exact hs.sep i k e y (by assumption) hi hk b h tD
    have:=((hs.own k y hk).lt b tD).2.1;omega
   simp at hj
  ·split at hk
   ·simp only[Option.some.injEq]at hk;subst hk;rcases hb b tD with h|h
    ·exact hs.sep j i x e (by rename_i fB _ _;exact fun q=>fB q.symm) hj hi b wS h
    have:=((hs.own j x hj).lt b wS).2.1;omega
   simp at hk
  exact hs.sep j k x y Ci hj hk b wS tD
 exact zW hg (fun b h=>(bC b h).2.2) oa
theorem St.add{g0 g g':G}{L:List cS}(hs:St g0 g L){e':cS}(hg:g.w.grownBy g'.w none)(oa: ∀b,b<g.w.heap.size→(g'.im b↔g.im b))
  (he:e'.holds g0.w.heap.size g') (hb: ∀b,e'.s5=some b→g.w.heap.size≤b):St g0 g' (e'::L)∧g.le g':=by
 have cP:=hs.below.size;refine⟨⟨⟨hg.os.trans hs.below.os,hg.tape.trans hs.below.tape,hg.output.trans hs.below.output,Nat.le_trans cP hg.size,fun k hk=>?_⟩,fun b sZ=>?_,?_,?_⟩,?_⟩
 ·exact(hg.block k (by omega) (by simp)).trans (hs.below.block k hk)
 ·exact(oa b (by omega)).trans (hs.im b sZ)
 ·intro j x hj;cases j with
  |zero=>simp only[List.getElem?_cons_zero,Option.some.injEq]at hj;exact hj▸he
  |succ j=>
   simp only[List.getElem?_cons_succ]at hj;have hx:=hs.own j x hj;exact hx.kept fun b sZ=>⟨hg.block b (hx.lt b sZ).2.1 (by simp),oa b (hx.lt b sZ).2.1⟩
 ·intro j k x y Ci hj hk b wS tD;cases j with
  |zero=>
   cases k with
   |zero=>omega
   |succ k=>
    simp only[List.getElem?_cons_zero,Option.some.injEq,List.getElem?_cons_succ]at hj hk;subst hj;have:=hb b wS;have:=((hs.own k y hk).lt b tD).2.1;omega
  |succ j=>
   cases k with
   |zero=>
    simp only[List.getElem?_cons_zero,Option.some.injEq,List.getElem?_cons_succ]at hj hk;subst hk;have:=hb b tD;have:=((hs.own j x hj).lt b wS).2.1;omega
   |succ k=>
    simp only[List.getElem?_cons_succ]at hj hk;exact hs.sep j k x y (by omega) hj hk b wS tD
 exact zW hg (by simp) oa
theorem St.call{g0 g g':G}{L:List cS}(hs:St g0 g L)(h:a_ g g'):St g0 g' L:=
 ⟨hs.below.trans (h.below.mono hs.below.size),fun b hb=>(h.im b (Nat.lt_of_lt_of_le hb hs.below.size)).trans (hs.im b hb),
  fun j e he=>(hs.own j e he).kept fun b hb=>⟨h.below.block b ((hs.own j e he).lt b hb).2.1,h.im b ((hs.own j e he).lt b hb).2.1⟩,hs.sep⟩
def G.dr(g:G):G:=⟨g.w.drew,g.im,g.lt⟩
theorem St.dr{g0 g:G}{L:List cS}(hs:St g0 g L):St g0 g.dr L:=⟨hs.below.drew,hs.im,fun j e he=>(hs.own j e he).kept fun _ _=>⟨rfl,Iff.rfl⟩,hs.sep⟩
theorem G.bu(g:G):g.le g.dr:=fun _ h=>⟨h,rfl⟩
theorem a_.dr(g:G):a_ g g.dr:=⟨(Below.refl _ _).drew,fun _ _=>Iff.rfl⟩
def G.fz(g:G)(r:Option Nat)(h: ∀b,r=some b→b<g.w.heap.size):G:=⟨g.w,fun b=>g.im b∨r=some b,fun b hb=>hb.elim (g.lt b) (h b)⟩
theorem G.qt(g:G)(r:Option Nat)(h: ∀b,r=some b→b<g.w.heap.size):g.le (g.fz r h):=fun _ hb=>⟨.inl hb,rfl⟩
theorem St.fz{g0 g:G}{L:List cS}(hs:St g0 g L){i:Nat}{e:cS}(hi:L[i]? =some e):
  St g0 (g.fz e.s5 fun b hb=>((hs.own i e hi).lt b hb).2.1) (L.eraseIdx i):=by
 have bC:=(hs.own i e hi).lt;have idx: ∀(j:Nat) x,(L.eraseIdx i)[j]? =some x→ ∃j',j'≠i∧L[j']? =some x∧j'=(if j<i then j else j+1):=by
  intro j x hj;rw[List.getElem?_eraseIdx]at hj;split at hj
  ·rename_i h;exact⟨j,by omega,hj,by rw[if_pos h]⟩
  rename_i h;exact⟨j+1,by omega,hj,by rw[if_neg h]⟩
 refine⟨hs.below,fun b hb=>⟨fun h=>?_,fun h=> .inl ((hs.im b hb).2 h)⟩,?_,?_⟩
 ·rcases h with h|h
  ·exact(hs.im b hb).1 h
  have:=(bC b h).1;omega
 ·intro j x hj;obtain⟨j',fB,vu,_⟩:=idx j x hj;refine(hs.own j' x vu).kept fun b hb=>⟨rfl,⟨fun h=>?_,.inl⟩⟩
  rcases h with h|h
  ·exact h
  exact(hs.sep j' i x e fB vu hi b hb h).elim
 intro j k x y Ci hj hk b wS tD;obtain⟨j',_,vu,e1⟩:=idx j x hj;obtain⟨k',_,Hd,e2⟩:=idx k y hk;refine hs.sep j' k' x y ?_ vu Hd b wS tD;rw[e1,e2];split<;>split<;>omega
theorem St.drop{g0 g:G}{L:List cS}(hs:St g0 g L)(i:Nat):St g0 g (L.eraseIdx i):=by
 have idx: ∀(j:Nat) x,(L.eraseIdx i)[j]? =some x→ ∃j',L[j']? =some x∧j'=(if j<i then j else j+1):=by
  intro j x hj;rw[List.getElem?_eraseIdx]at hj;split at hj
  ·rename_i h;exact⟨j,hj,by rw[if_pos h]⟩
  rename_i h;exact⟨j+1,hj,by rw[if_neg h]⟩
 refine⟨hs.below,hs.im,fun j x hj=>?_,fun j k x y Ci hj hk b wS tD=>?_⟩
 ·obtain⟨j',vu,_⟩:=idx j x hj;exact hs.own j' x vu
 obtain⟨j',vu,e1⟩:=idx j x hj;obtain⟨k',Hd,e2⟩:=idx k y hk;refine hs.sep j' k' x y ?_ vu Hd b wS tD;rw[e1,e2];split<;>split<;>omega
theorem St.re{g0 g:G}{L L':List cS}(hs:St g0 g L)(is:List Nat)(hn:is.Nodup)(h:is.map (fun i=>L[i]?)=L'.map some):St g0 g L':=by
 have idx: ∀(j:Nat) x,L'[j]? =some x→ ∃i,is[j]? =some i∧L[i]? =some x:=by
  intro j x hj;have:(is.map fun i=>L[i]?)[j]? =some (some x):=by rw[h,List.getElem?_map,hj];rfl
  rw[List.getElem?_map,Option.map_eq_some_iff]at this;exact this
 refine⟨hs.below,hs.im,fun j x hj=>?_,fun j k x y Ci hj hk b wS tD=>?_⟩
 ·obtain⟨i,_,hi⟩:=idx j x hj;exact hs.own i x hi
 obtain⟨i,hi,hi'⟩:=idx j x hj;obtain⟨i2,Xq,TE⟩:=idx k y hk;refine hs.sep i i2 x y (fun e=>Ci ?_) hi' TE b wS tD;subst e;exact(List.getElem?_inj (List.getElem?_eq_some_iff.1 hi).1 hn).1 (hi.trans Xq.symm)
class El(α:Type) where
 k:Nat
 pos:0<k
 rc:G→List Value→α→Prop
 len: ∀{g cs x},rc g cs x→cs.length=k
 mono: ∀{g g':G} {cs x},g.le g'→rc g cs x→rc g' cs x
 one: ∀{g cs x},rc g cs x→ ∀c∈cs,c.oneCell'=true
def cG{α:Type}[El α](g:G):List Value→List α→Prop
 |cs,[]=>cs=[]
 |cs,x::xs=> ∃c1 c2,cs=c1++c2∧El.rc g c1 x∧cG g c2 xs
theorem cG.mono{α:Type}[El α]{g g':G}(hle:g.le g'): ∀{xs:List α} {cs},cG g cs xs→cG g' cs xs
 |[],_,h=>h
 |_::_,_,⟨c1,c2,e,h1,h2⟩=>⟨c1,c2,e,El.mono hle h1,cG.mono hle h2⟩
theorem cG.len{α:Type}[El α]{g:G}: ∀{xs:List α} {cs},cG g cs xs→cs.length=xs.length*El.k α
 |[],_,h=>by simp[show _=[]from h]
 |_::xs,_,⟨c1,c2,e,h1,h2⟩=>by rw[e,List.length_append,El.len h1,cG.len h2,List.length_cons,Nat.add_mul];omega
theorem cG.one{α:Type}[El α]{g:G}: ∀{xs:List α} {cs},cG g cs xs→ ∀c∈cs,c.oneCell'=true
 |[],_,h,c,hc=>by rw[show _=[]from h]at hc;cases hc
 |_::xs,_,⟨c1,c2,e,h1,h2⟩,c,hc=>by
  rw[e]at hc;rcases List.mem_append.1 hc with h|h
  ·exact El.one h1 c h
  exact cG.one h2 c h
theorem cG.app{α:Type}[El α]{g:G}{ys:List α}{ds}(hy:cG g ds ys): ∀{xs:List α} {cs},cG g cs xs→cG g (cs++ds) (xs++ys)
 |[],_,h=>by rw[show _=[]from h];exact hy
 |_::_,_,⟨c1,c2,e,h1,h2⟩=>⟨c1,c2++ds,by rw[e,List.append_assoc],h1,cG.app hy h2⟩
theorem cG.at{α:Type}[El α]{g:G}: ∀{xs:List α} {cs},cG g cs xs→ ∀{i:Nat} {x},xs[i]? =some x→ ∃ys,El.rc g ys x∧(∀(j:Nat) y,ys[j]? =some y→cs[i*El.k α+j]? =some y)∧ys.length=El.k α
 |[],_,_,i,x,hi=>by simp at hi
 |y::xs,_,⟨c1,c2,e,h1,h2⟩,0,x,hi=>by simp only[List.getElem?_cons_zero,Option.some.injEq]at hi;subst hi;refine⟨c1,h1,fun j z hz=>?_,El.len h1⟩;rw[e,Nat.zero_mul,Nat.zero_add,List.getElem?_append_left (List.getElem?_eq_some_iff.1 hz).1];exact hz
 |y::xs,_,⟨c1,c2,e,h1,h2⟩,i+1,x,hi=>by simp only[List.getElem?_cons_succ]at hi;obtain⟨ys,hr,hc,hl⟩:=cG.at h2 hi;refine⟨ys,hr,fun j z hz=>?_,hl⟩;have:=hc j z hz;rw[e,List.getElem?_append_right (by rw[El.len h1,Nat.add_mul];omega),El.len h1];rw[←this];congr 1;rw[Nat.add_mul];omega
theorem cG.drop{α:Type}[El α]{g:G}: ∀{xs:List α} {cs},cG g cs xs→ ∀i,cG g (cs.drop (i*El.k α)) (xs.drop i)
 |_,_,h,0=>by simpa using h
 |[],_,h,i+1=>by rw[show _=[]from h];simp[cG]
 |_::xs,_,⟨c1,c2,e,h1,h2⟩,i+1=>by have:=cG.drop h2 i;rw[e,List.drop_append];have hl:=El.len h1;rw[List.drop_of_length_le (by rw[hl,Nat.add_mul];omega),hl,List.nil_append,List.drop_succ_cons];rw[show(i+1)*El.k α-El.k α=i*El.k α from by rw[Nat.add_mul];omega];exact this
theorem cG.take{α:Type}[El α]{g:G}: ∀{xs:List α} {cs},cG g cs xs→ ∀i,cG g (cs.take (i*El.k α)) (xs.take i)
 |_,_,h,0=>by simp[cG]
 |[],_,h,i+1=>by rw[show _=[]from h];simp[cG]
 |_::xs,_,⟨c1,c2,e,h1,h2⟩,i+1=>by have:=cG.take h2 i;have hl:=El.len h1;refine⟨c1,c2.take (i*El.k α),?_,h1,this⟩;rw[e,List.take_append,List.take_of_length_le (by rw[hl,Nat.add_mul];omega),hl];rw[show(i+1)*El.k α-El.k α=i*El.k α from by rw[Nat.add_mul];omega]
def Rs{α:Type}[El α](g:G)(v:Value)(xs:List α):Prop:=
 ∃a n c,v= .slice a n c∧n=xs.length∧(n≤c∧c≤maxLen)∧(n=0∨ ∃b o cells,a=some ⟨b,o,none⟩∧g.im b∧cG g cells xs∧ ∀(j:Nat) y,cells[j]? =some y→g.w.cell? ⟨b,o+j,none⟩=some y)
theorem CK{g g':G}(hle:g.le g'){b o:Nat}{y:Value}(hb:g.im b)(h:g.w.cell? ⟨b,o,none⟩=some y):g'.w.cell? ⟨b,o,none⟩=some y:=
 (World.cell?_of_block (a:=⟨b,o,none⟩) (hle b hb).2).trans h
theorem Rs.mono{α:Type}[El α]{g g':G}{v:Value}{xs:List α}(hle:g.le g')(h:Rs g v xs):Rs g' v xs:=by
 obtain⟨a,n,c,e,hn,hc,h⟩:=h;refine⟨a,n,c,e,hn,hc,?_⟩;rcases h with h|⟨b,o,cells,ha,hb,hr,zX⟩
 ·exact .inl h
 exact .inr ⟨b,o,cells,ha,(hle b hb).1,hr.mono hle,fun j y hy=>CK hle hb (zX j y hy)⟩
theorem Rs.nil{α:Type}[El α](g:G):Rs g (.slice none 0 0) ([]:List α):=⟨none,0,0,rfl,rfl,⟨Nat.le_refl _,Nat.zero_le _⟩,.inl rfl⟩
theorem Rs.isSlice{α:Type}[El α]{g:G}{v:Value}{xs:List α}(h:Rs g v xs): ∃a c,v= .slice a xs.length c:=by obtain⟨a,n,c,e,rfl,_⟩:=h;exact⟨a,c,e⟩
theorem Rs.dJ{α:Type}[El α]{g:G}{v:Value}{xs:List α}(h:Rs g v xs):xs.length≤maxLen:=by obtain⟨a,n,c,e,rfl,hc,_⟩:=h;exact Nat.le_trans hc.1 hc.2
theorem Rs.Be{α:Type}[El α]{g:G}{a:Option Addr}{n c:Nat}{xs:List α}(h:Rs g (.slice a n c) xs):n=xs.length∧n≤c∧c≤maxLen:=by obtain⟨a,n,c,e,rfl,hc,_⟩:=h;simp only[Value.slice.injEq]at e;obtain⟨_,rfl,rfl⟩:=e;exact⟨rfl,hc⟩
instance:El Int where
 k:=1
 pos:=by omega
 rc _ cs n:=cs=[.int .i64 n]
 len h:=by rw[h];rfl
 mono _ h:=h
 one h:=by rw[h];simp[Value.oneCell']
instance:El Bool where
 k:=1
 pos:=by omega
 rc _ cs n:=cs=[.bool n]
 len h:=by rw[h];rfl
 mono _ h:=h
 one h:=by rw[h];simp[Value.oneCell']
instance{α:Type}[El α]:El (List α) where
 k:=1
 pos:=by omega
 rc g cs xs:=∃v,cs=[v]∧Rs g v xs
 len h:=by obtain⟨v,rfl,_⟩:=h;rfl
 mono hle h:=by obtain⟨v,rfl,hr⟩:=h;exact⟨v,rfl,hr.mono hle⟩
 one h:=by obtain⟨v,rfl,hr⟩:=h;obtain⟨a,c,rfl⟩:=hr.isSlice;simp[Value.oneCell']
theorem Row.rs{α:Type}[El α]{B:Nat}{e:TypeId}{v:Value}{n:Nat}{cells:List Value}{g g':G}{xs:List α}(h:Row B e (El.k α) v n cells g.w)(hr:cG g cells xs)(hle:g.le g')
  (hw: ∀b,qi v=some b→g'.im b∧g'.w.heap[b]? =g.w.heap[b]?):Rs g' v xs:=by
 have hl:=hr.len;have hn:n=xs.length:=by have:=h.1;have hp:=El.pos (α:=α);rw[hl]at this;exact(Nat.eq_of_mul_eq_mul_right hp this).symm
 rcases h.2 with⟨h0,a,rfl⟩|⟨b,off,cap,cur,rfl,hB,hh,o7,sB,nY,Qg⟩
 ·exact⟨a,0,0,rfl,by omega,⟨Nat.le_refl _,Nat.zero_le _⟩,.inl rfl⟩
 by_cases hc:cap=0
 ·exact⟨_,_,_,rfl,hn,⟨o7,sB⟩,.inl (by omega)⟩
 have MF:=hw b (jw hc);refine⟨_,_,_,rfl,hn,⟨o7,sB⟩,.inr ⟨b,off,cells,rfl,MF.1,hr.mono hle,fun j y hy=>?_⟩⟩;have hj:j<cells.length:=(List.getElem?_eq_some_iff.1 hy).1;have:cur[off+j]? =some y:=by rw[←Qg,List.getElem?_take_of_lt (by rw[hl]at hj;rw[hn];exact hj),List.getElem?_drop,Array.getElem?_toList]at hy;exact hy
 exact(hh.of_eq MF.2).cell this
end Go.K
namespace Go.K
open Go Go.RowKit
variable {F:Fence} {P:Program} {N:Nat} {ds:List Deferred} {l l':Env} {a:Act} {w:World} {Q:Exit→Act→World→Prop} {ops:Array Oper} {os:List Oper} {o:Oper}
variable {g0 g:G} {L:List cS} {K:Value→World→Prop}
def mx(ops:Array Oper)(l:Env)(gu:Option (Nat×Bool)):Option Bool:=
 match gu with
 |none=>some true
 |some (j,want)=>
  match(ops[j]?).bind (·.dst)with
  |none=>none
  |some d=>
   match lk l d with
   |some (.bool b)=>some (b==want)
   |some (.tuple _)=>some false
   |_=>none
theorem jy{o:Oper}{P4:Bool}(h:mx ops l o.guard=some P4)(ha:Fr N ds l a):Region.wanted o (yielded ops a.tmps)=P4:=by
 unfold mx at h;unfold Region.wanted yielded;cases hg:o.guard with
 |none=>simp only[hg,Option.some.injEq]at h;simp[←h]
 |some p=>
  obtain⟨j,want⟩:=p;simp only[hg]at h;cases hd:(ops[j]?).bind (·.dst)with
  |none=>simp[hd]at h
  |some d=>
   simp only[hd]at h;cases hl:lk l d with
   |none=>simp[hl]at h
   |some v=>
    have hv:=ha.get d v hl;cases v with
    |bool b=>
     simp only[hl,Option.some.injEq]at h;simp only[hd,Option.bind_some,hv];rw[←h];cases b<;>cases want<;>rfl
    |tuple vs=>
     simp only[hl,Option.some.injEq]at h;simp only[hd,Option.bind_some,hv];rw[←h];rfl
    |_=>simp[hl]at h
theorem uS{o:Oper}(hg:mx ops l o.guard=some true)(hd:MJ N o.dst=true)
  (h:cD F P N ds o l w Q (fun v w'=>WL F P N ds ops Q os (pt o.dst v l) w')):WL F P N ds ops Q (o::os) l w:=by
 intro a ha;simp only[wpListIn,jy hg ha,if_true];exact Oper.wpIn_mono (fun a' w' ⟨v,he,hk⟩=>he▸hk _ (ha.put hd v)) (h a ha)
theorem qS{o:Oper}(hF: ∀f,F.fn f)(hg:mx ops l o.guard=some false)(hd:MJ N o.dst=true)
  (k:WL F P N ds ops Q os (pt o.dst undef l) w):WL F P N ds ops Q (o::os) l w:=by
 intro a ha;simp only[wpListIn,jy hg ha];exact⟨fun f _=>hF f,k _ (ha.put hd undef)⟩
variable {d:Nat} {op:Op} {ty:TypeId} {pos:String} {af:Array Edge} {gu:Option (Nat×Bool)}
theorem ak(hg:mx ops l gu=some true)(hd:Nat.blt d N=true)(h:cD F P N ds ⟨some d,op,ty,pos,af,gu⟩ l w Q (fun v w'=>WL F P N ds ops Q os ((d,v)::l) w')):
  WL F P N ds ops Q (⟨some d,op,ty,pos,af,gu⟩::os) l w:=uS (o:=⟨some d,op,ty,pos,af,gu⟩) hg hd h
theorem bA(hg:mx ops l gu=some true)(h:cD F P N ds ⟨none,op,ty,pos,af,gu⟩ l w Q (fun _ w'=>WL F P N ds ops Q os l w')):
  WL F P N ds ops Q (⟨none,op,ty,pos,af,gu⟩::os) l w:=uS (o:=⟨none,op,ty,pos,af,gu⟩) hg rfl h
theorem oh(w:World)(o:Obj)(r:Option Nat):w.grownBy (w.alloc o) r:=World.grownBy_alloc w o r
def G.al(g:G)(o:Obj):G:=⟨g.w.alloc o,g.im,fun b h=>by have:=g.lt b h;simp;omega⟩
theorem St.al(hs:St g0 g L)(o:Obj):St g0 (g.al o) (.obj g.w.heap.size o::L)∧g.le (g.al o):=
 hs.add (g':=g.al o) (oh _ _ _) (fun _ _=>Iff.rfl) ⟨hs.below.size,World.alloc_heap_new g.w o,fun h=>by have:=g.lt _ h;omega⟩ (fun b hb=>by simp only[cS.s5,Option.some.injEq]at hb;omega)
theorem aO{T:TypeId}{x:Operand}{v:Value}{cs:List Value}(ho:o.op= .box T x)(hs:St g0 g L)(hx:ev l x=some v)(nY:v.cells=cs.toArray)
  (k: ∀b g',St g0 g' (.obj b (.cells cs.toArray T (0,0))::L)→g.le g'→K (.pointer (some ⟨b,0,none⟩)) g'.w):cD F P N ds o l g.w Q K:=by
 refine bO (w':=(g.al (.cells cs.toArray T)).w) (fun c=>⟨by rw[ho];simp,by rw[ho];simp⟩) (fun a ha=>?_) (k _ _ (hs.al _).1 (hs.al _).2);simp[execOp,ho,ha.ev hx,Instr.box,newVar,newRow,nY];rfl
theorem aK{tb:Tb}(dq:tb.ok P){T:TypeId}{i:TI}{cs:List Value}(ho:o.op= .alloc T)(hs:St g0 g L)(hi:tl tb T=some i)(nY:i.zero.cells=cs.toArray)
  (k: ∀b g',St g0 g' (.obj b (.cells cs.toArray T (0,0))::L)→g.le g'→K (.pointer (some ⟨b,0,none⟩)) g'.w):cD F P N ds o l g.w Q K:=by
 obtain⟨_,inf,h1,_,_,h4⟩:=dq.at hi;refine bO (w':=(g.al (.cells cs.toArray T)).w) (fun c=>⟨by rw[ho];simp,by rw[ho];simp⟩) (fun a ha=>?_) (k _ _ (hs.al _).1 (hs.al _).2);simp[execOp,ho,Instr.alloc,newVar,newRow,zeroValue,typeInfo,h1,h4,nY];rfl
def sX:KD→Bool
 | .struct _=>true
 | .arr _ _=>true
 |_=>false
theorem iX{tb:Tb}(dq:tb.ok P){t:Nat}{i:TI}(hi:tl tb t=some i):(isAgg t).run P w= .ok (sX i.desc) w:=by obtain⟨⟨d,hu,he⟩,_⟩:=dq.at hi;rw[←he];simp only[isAgg,Sem.run_bind,run_underlying hu,Result.andThen_ok];cases d<;>rfl
def vj(tb:Tb)(t:Nat)(cs:List Value)(off:Nat):Option Value:=
 match tl tb t with
 |some i=>bif sX i.desc then(bif Nat.ble (off+i.size) cs.length then some (.agg ((cs.drop off).take i.size).toArray)else none)else cs[off]?
 |none=>none
theorem gm{tb:Tb}(dq:tb.ok P){t:Nat}{cs:List Value}{off b o:Nat}{v:Value}(hv:vj tb t cs off=some v)
  (hc: ∀(j:Nat) y,cs[j]? =some y→w.cell? ⟨b,o+j,none⟩=some y):(loadVar t ⟨b,o+off,none⟩).run P w= .ok v w:=by
 unfold vj at hv;cases hi:tl tb t with
 |none=>simp[hi]at hv
 |some i=>
  simp only[hi]at hv;obtain⟨_,inf,h1,h2,_⟩:=dq.at hi;simp only[loadVar,Sem.run_bind,iX dq hi,Result.andThen_ok];cases Re:sX i.desc with
  |true=>
   simp only[Re,cond_true]at hv;cases hle:Nat.ble (off+i.size) cs.length with
   |false=>simp[hle]at hv
   |true=>
    have fw:off+i.size≤cs.length:=Nat.le_of_ble_eq_true hle;simp only[hle,cond_true,Option.some.injEq]at hv;subst hv;have:=run_loadCells_list (P:=P) w ⟨b,o+off,none⟩ ((cs.drop off).take i.size) (fun j y hy=>by
     have hj:j<i.size:=by have:=(List.getElem?_eq_some_iff.1 hy).1;simp at this;omega
     rw[List.getElem?_take_of_lt hj,List.getElem?_drop]at hy;have:=hc (off+j) y hy;simpa [Addr.add_lit,Nat.add_assoc]using this)
    rw[List.length_take,List.length_drop,Nat.min_eq_left (by omega)]at this;simp[sizeOf,typeInfo,h1,h2,this]
  |false=>
   simp only[Re,cond_false]at hv;simp[hc off v hv]
theorem uT{tb:Tb}(dq:tb.ok P){t:Nat}{x:Operand}{cs:List Value}{off b p:Nat}{v:Value}(ho:o.op= .load t x)(hx:ev l x=some (.pointer (some ⟨b,p+off,none⟩)))
  (hc: ∀(j:Nat) y,cs[j]? =some y→w.cell? ⟨b,p+j,none⟩=some y) (hv:vj tb t cs off=some v) (k:K v w):cD F P N ds o l w Q K:=by
 refine bO (fun c=>⟨by rw[ho];simp,by rw[ho];simp⟩) (fun a ha=>?_) k;simp[execOp,ho,ha.ev hx,Instr.loadAt,Instr.sureAddr,gm dq hv hc]
theorem je{b:Nat}{cs:List Value}{T:TypeId}{fz:Nat×Nat}(h:w.heap[b]? =some (.cells cs.toArray T fz))(j:Nat)(y:Value)(hy:cs[j]? =some y):w.cell? ⟨b,0+j,none⟩=some y:=by simp[World.cell?,h,hy]
theorem e_{tb:Tb}(dq:tb.ok P)(i:Nat){t:Nat}{x:Operand}{cs:List Value}{off b:Nat}{T:TypeId}{fz:Nat×Nat}{v:Value}(ho:o.op= .load t x)(hs:St g0 g L)
  (hi:L[i]? =some (.obj b (.cells cs.toArray T fz))) (hx:ev l x=some (.pointer (some ⟨b,off,none⟩)))
  (hv:vj tb t cs off=some v) (k:K v g.w):cD F P N ds o l g.w Q K:=by
 have hh:=(hs.own i _ hi).2.1;rw[show off=0+off from(Nat.zero_add off).symm]at hx;exact uT dq ho hx (je hh) hv k
def EP(g:G)(b o:Nat)(ys:List Value):Prop:=g.im b∧ ∀(j:Nat) y,ys[j]? =some y→g.w.cell? ⟨b,o+j,none⟩=some y
theorem EP.mono{g g':G}{b p:Nat}{ys:List Value}(h:EP g b p ys)(hle:g.le g'):EP g' b p ys:=⟨(hle b h.1).1,fun j y hy=>CK hle h.1 (h.2 j y hy)⟩
theorem bJ{tb:Tb}(dq:tb.ok P)(off:Nat){t:Nat}{x:Operand}{ys:List Value}{b p:Nat}{v:Value}(ho:o.op= .load t x)(he:EP g b p ys)
  (hx:ev l x=some (.pointer (some ⟨b,p+off,none⟩))) (hv:vj tb t ys off=some v) (k:K v g.w):cD F P N ds o l g.w Q K:=
 uT dq ho hx he.2 hv k
def lh(cs:List Value)(off:Nat)(us:List Value):List Value:=cs.take off++us++cs.drop (off+us.length)
theorem qT{tb:Tb}(dq:tb.ok P){t:Nat}{i:TI}{us cs:List Value}{off b:Nat}{T:TypeId}{v:Value}(hi:tl tb t=some i)(hu:v.cells=us.toArray)(hl:us.length=i.size)
  (h1: ∀u∈us,u.oneCell'=true) (hh:fh w b cs.toArray T) (jh:off+us.length≤cs.length):
  (storeVar t ⟨b,off,none⟩ v).run P w= .ok () (w.setRow b (lh cs off us).toArray):=by
 obtain⟨_,inf,e1,e2,_⟩:=dq.at hi;have dH:=hZ (P:=P) b off T us 0 cs.toArray w hh (by simpa using jh) h1;simp only[Nat.add_zero]at dH;simp[storeVar,sizeOf,typeInfo,e1,e2,hu,hl,dH,lh]
theorem kG(w:World)(b:Nat)(cs:Array Value):w.grownBy (w.setRow b cs) (some b):=by refine⟨rfl,rfl,rfl,by simp[World.setRow],fun k _ hk=>?_⟩;simp only[World.setRow,Array.getElem?_modify];rw[if_neg (fun e=>hk (congrArg some e.symm))]
def G.sr(g:G)(b:Nat)(cs:Array Value):G:=⟨g.w.setRow b cs,g.im,fun x h=>by have:=g.lt x h;simpa [World.setRow]using this⟩
theorem St.sr{i b:Nat}{cs cs':Array Value}{T:TypeId}{fz:Nat×Nat}(hs:St g0 g L)(hi:L[i]? =some (.obj b (.cells cs T fz))):
  St g0 (g.sr b cs') (L.set i (.obj b (.cells cs' T fz)))∧g.le (g.sr b cs'):=
 hs.Hn hi (kG _ _ _) (fun _ _=>Iff.rfl) ⟨(hs.own i _ hi).1,setRow_heap _ _ _ _ _ _ (hs.own i _ hi).2.1,(hs.own i _ hi).2.2⟩ (fun _ sZ=> .inl sZ)
theorem az{tb:Tb}(dq:tb.ok P)(i:Nat){t:Nat}{ti:TI}{x y:Operand}{cs us cs':List Value}{off b:Nat}{T:TypeId}{v:Value}(ho:o.op= .store t x y)(hs:St g0 g L)
  (hi:L[i]? =some (.obj b (.cells cs.toArray T (0,0)))) (hx:ev l x=some (.pointer (some ⟨b,off,none⟩))) (hy:ev l y=some v)
  (ht:tl tb t=some ti) (hu:v.cells=us.toArray) (hl:us.length=ti.size) (h1:us.all Value.oneCell'=true) (jh:Nat.ble (off+us.length) cs.length=true) (nY:lh cs off us=cs')
  (k: ∀g',St g0 g' (L.set i (.obj b (.cells cs'.toArray T (0,0))))→g.le g'→K undef g'.w):cD F P N ds o l g.w Q K:=by
 subst nY;have dH:=hs.sr (cs':=(lh cs off us).toArray) hi;refine qO (w':=(g.sr b (lh cs off us).toArray).w) (fun c=>⟨by rw[ho];simp,by rw[ho];simp⟩) (fun a ha=>?_) (k _ dH.1 dH.2);have:=qT (P:=P) (w:=g.w) dq ht hu hl (by simpa using h1) (.plain (hs.own i _ hi).2.1) (Nat.le_of_ble_eq_true jh);simp[execOp,ho,ha.ev hx,ha.ev hy,Instr.storeAt,Instr.sureAddr,this,G.sr]
def dS{α:Type}(xs:List α)(i:Int):Option α:=if i<0 then none else xs[i.toNat]?
theorem rR{α:Type}{xs:List α}{i:Int}{x:α}(h:dS xs i=some x):0≤i∧i.toNat<xs.length∧xs[i.toNat]? =some x:=by
 unfold dS at h;split at h
 ·cases h
 exact⟨by omega,(List.getElem?_eq_some_iff.1 h).1,h⟩
theorem cZ{α:Type}{xs:List α}{n:Int}{j:Nat}(h:n=j)(hj:j<xs.length):dS xs n=some xs[j]:=by
 subst h;have: ¬((j:Int)<0):=by omega
 simp[dS,this,hj]
theorem oi{tb:Tb}(dq:tb.ok P){t e:Nat}{i j:TI}{kk:IntKind}{n c:Nat}{x:Int}{b off:Nat}(hi:tl tb t=some i)(hd:i.desc= .slice e)(hj:tl tb e=some j)
  (h0:0≤x) (hn:x.toNat<n):(Instr.indexAt t (.slice (some ⟨b,off,none⟩) n c) (.int kk x)).run P w= .ok (.pointer (some ⟨b,off+x.toNat*j.size,none⟩)) w:=by
 obtain⟨⟨dd,hu,he⟩,_⟩:=dq.at hi;rw[hd]at he;obtain rfl:=KD.of_slice he;obtain⟨_,inf,h1,h2,_⟩:=dq.at hj;have Xs:x<(n:Int):=by omega
 simp[Instr.indexAt,asIntOf,run_underlying hu,h0,Xs,sizeOf,typeInfo,h1,h2,Addr.add_lit]
theorem aW{α:Type}[El α]{tb:Tb}(dq:tb.ok P){t e:Nat}{i j:TI}{x ix:Operand}{v:Value}{xs:List α}{kk:IntKind}{n:Int}{y:α}(ho:o.op= .indexAddr t x ix)(hr:Rs g v xs)(hy:dS xs n=some y)
  (hx:ev l x=some v) (IH:ev l ix=some (.int kk n)) (hi:tl tb t=some i) (hd:i.desc= .slice e) (hj:tl tb e=some j) (hk:j.size=El.k α)
  (k: ∀b p ys,EP g b p ys→El.rc g ys y→K (.pointer (some ⟨b,p,none⟩)) g.w):cD F P N ds o l g.w Q K:=by
 obtain⟨h0,bC,r9⟩:=rR hy;obtain⟨ad,m,c,rfl,rfl,U8,h⟩:=hr;rcases h with h|⟨b,p,cells,rfl,hb,hc,zX⟩
 ·omega
 obtain⟨ys,d_,JT,_⟩:=hc.at r9;refine bO (fun c=>⟨by rw[ho];simp,by rw[ho];simp⟩) (fun a ha=>?_) (k b (p+n.toNat*El.k α) ys ⟨hb,fun q u hu=>?_⟩ d_)
 ·simp only[execOp,ho,ha.ev hx,ha.ev IH,Sem.run_bind,oi dq hi hd hj h0 bC,Result.andThen_ok,hk];rfl
 rw[Nat.add_assoc];exact zX _ _ (JT q u hu)
theorem dC{tb:Tb}(dq:tb.ok P){t e:Nat}{i j:TI}{x ix:Operand}{ad:Option Addr}{m c:Nat}{kk:IntKind}{n:Int}{B k0 q:Nat}{xs:List Value}(ho:o.op= .indexAddr t x ix)(hr:Row B e k0 (.slice ad m c) q xs g.w)
  (h0:0≤n) (bC:n.toNat<m) (hx:ev l x=some (.slice ad m c)) (IH:ev l ix=some (.int kk n)) (hi:tl tb t=some i) (hd:i.desc= .slice e) (hj:tl tb e=some j) (hk:j.size=k0)
  (k: ∀b p,ad=some ⟨b,p,none⟩→K (.pointer (some ⟨b,p+n.toNat*k0,none⟩)) g.w):cD F P N ds o l g.w Q K:=by
 rcases hr.2 with⟨_,a,hv⟩|⟨b,p,cap,cur,hv,_⟩
 ·simp only[Value.slice.injEq]at hv;omega
 simp only[Value.slice.injEq]at hv;obtain⟨rfl,rfl,rfl⟩:=hv;refine bO (fun c=>⟨by rw[ho];simp,by rw[ho];simp⟩) (fun a ha=>?_) (k b p rfl);simp only[execOp,ho,ha.ev hx,ha.ev IH,Sem.run_bind,oi dq hi hd hj h0 bC,Result.andThen_ok,hk];rfl
theorem Row.cell{B:Nat}{e:TypeId}{k b p m cap n:Nat}{xs:List Value}(h:Row B e k (.slice (some ⟨b,p,none⟩) m cap) n xs w)(j:Nat)(y:Value)(hy:xs[j]? =some y):w.cell? ⟨b,p+j,none⟩=some y:=by
 rcases h.2 with⟨h0,_⟩|⟨b',p',TL,cur,hv,_,hh,_,_,_,ht⟩
 ·have:=h.1;rw[h0,Nat.zero_mul]at this;rw[List.eq_nil_of_length_eq_zero this]at hy;simp at hy
 simp only[Value.slice.injEq,Option.some.injEq,Addr.mk.injEq,and_true]at hv;obtain⟨⟨rfl,rfl⟩,rfl,rfl⟩:=hv;have:cur[p+j]? =some y:=by
  rw[←ht]at hy;have bC:j<m*k:=by have:=(List.getElem?_eq_some_iff.1 hy).1;simp at this;omega
  rw[List.getElem?_take_of_lt bC,List.getElem?_drop,Array.getElem?_toList]at hy;exact hy
 exact hh.cell this
theorem dL{tb:Tb}(dq:tb.ok P)(off:Nat){B:Nat}{e:TypeId}{k0 b p m cap n:Nat}{xs:List Value}{t:Nat}{x:Operand}{v:Value}(ho:o.op= .load t x)(hr:Row B e k0 (.slice (some ⟨b,p,none⟩) m cap) n xs g.w)
  (hx:ev l x=some (.pointer (some ⟨b,p+off,none⟩))) (hv:vj tb t xs off=some v) (k:K v g.w):cD F P N ds o l g.w Q K:=
 uT dq ho hx hr.cell hv k
end Go.K
namespace Go.K
open Go Go.RowKit
variable {F:Fence} {P:Program} {N:Nat} {ds:List Deferred} {l l':Env} {a:Act} {w:World} {Q:Exit→Act→World→Prop} {ops:Array Oper} {os:List Oper} {o:Oper}
variable {g0 g:G} {L:List cS} {K:Value→World→Prop}
def Src(w:World)(ad:Option Addr)(m k:Nat)(news:List Value):Prop:=
 news.length=m*k∧(m=0∨ ∃b p,ad=some ⟨b,p,none⟩∧ ∀(j:Nat) u,news[j]? =some u→w.cell? ⟨b,p+j,none⟩=some u)
theorem Row.r8{B:Nat}{e:TypeId}{k:Nat}{v:Value}{n:Nat}{xs:List Value}(h:w.ownsRow B e k v n xs):Row B e k v n xs w:=by
 refine⟨h.1,?_⟩;rcases h.2 with⟨rfl,h0⟩|⟨g,cap,cur,rfl,hB,hh,hc,hm,hs,ht⟩
 ·exact .inl ⟨h0,none,rfl⟩
 exact .inr ⟨g,0,cap,cur,rfl,hB,.plain hh,hc,hm,by omega,by simpa using ht⟩
theorem jx(w:World)(r:Option Nat):w.grownBy w r:=⟨rfl,rfl,rfl,Nat.le_refl _,fun _ _ _=>rfl⟩
theorem IG{B:Nat}{e:TypeId}{k:Nat}{v:Value}{n:Nat}{xs:List Value}(h:w.ownsRow B e k v n xs)(b:Nat)(hb:qi v=some b):B≤b:=((Row.r8 h).lt b hb).1
theorem uX{tb:Tb}(dq:tb.ok P){t e ty:Nat}{ti ei:TI}{k:Nat}(hi:tl tb t=some ti)(hd:ti.desc= .slice e)(hj:tl tb e=some ei)(hk:ei.size=k)(nA:0<k)(hz:ei.zero.cells.size=k)
  {B n m c:Nat} {v:Value} {xs news:List Value} {ad:Option Addr} (hr:Row B e k v n xs w) (hB:B≤w.heap.size) (g_:Src w ad m k news) (h1: ∀u∈news,u.oneCell'=true) (hb:(n+m)*ei.bytes≤140737488355328) (Ca:n+m≤maxLen):
  ∃v' w',(Builtin.append_ #[t,t] ty #[v,.slice ad m c]).run P w= .ok v' w'∧Row B e k v' (n+m) (xs++news) w'∧w.grownBy w' (qi v)∧(∀b,qi v'=some b→qi v=some b∨w.heap.size≤b):=by
 obtain⟨⟨dd,hu,he⟩,_⟩:=dq.at hi;rw[hd]at he;obtain rfl:=KD.of_slice he;obtain⟨_,inf,e1,e2,e3,e4⟩:=dq.at hj;have cP:inf.size=k:=by rw[e2,hk]
 by_cases hm:m=0
 ·subst hm;have w3:news=[]:=List.eq_nil_of_length_eq_zero (by simpa using g_.1);subst w3;refine⟨v,w,?_,by simpa using hr,jx _ _,fun b hb=> .inl hb⟩;have Ri:(Builtin.firstCells inf.size 0 (.slice ad 0 c)).run P w= .ok #[] w:=by cases ad<;>simp[Builtin.firstCells,loadCells,loadCellsFrom]
  rcases hr.2 with⟨rfl,a',rfl⟩|⟨b,p,cap,cur,rfl,_,_,o7,_⟩
  ·cases a'<;>simp[Builtin.append_,run_underlying hu,sizeOf,typeInfo,e1,Builtin.lenOf,Ri,storeCells]
  simp[Builtin.append_,run_underlying hu,sizeOf,typeInfo,e1,Builtin.lenOf,Ri,o7,storeCells]
 obtain⟨hl,h⟩:=g_;obtain⟨b',p',rfl,zX⟩:=h.resolve_left hm;have w3: ∀j u,news[j]? =some u→w.cell? ((⟨b',p',none⟩:Addr).add j)=some u:=fun j u hu=>by have:=zX j u hu;simpa [Addr.add_lit]using this
 rcases hr.2 with⟨rfl,a',rfl⟩|⟨b,p,cap,cur,rfl,Xx,hh,o7,sB,nY,ht⟩
 ·have jf:xs=[]:=List.eq_nil_of_length_eq_zero (by simpa using hr.1);subst jf;cases a' with
  |none=>
   obtain⟨v',w',iU,dT,hg,_⟩:=run_append_own (P:=P) w w.heap.size t ty e inf ei.zero k ei.bytes hu e1 e4 cP e3 hz nA (.slice none 0 0) 0 [] (World.ownsRow_nil _ _ _ _) ⟨b',p',none⟩ m c news hl w3 h1 Ca hb (Nat.le_refl _);have hR:=Row.r8 dT;refine⟨v',w',iU,?_,hg,fun b hb=> .inr (hR.lt b hb).1⟩;refine⟨by simpa using hR.1,?_⟩;rcases hR.2 with hx|⟨b,p,cap,cur,rfl,h1,hx⟩
   ·exact .inl (by simpa using hx)
   exact .inr ⟨b,p,cap,cur,rfl,by omega,by simpa using hx⟩
  |some a'=>
   obtain⟨v',w',iU,dT,hg⟩:=run_append_arg_grows (P:=P) w t ty e inf ei.zero k ei.bytes hu e1 e4 cP e3 hz nA a' 0 0 [] (by simp) (by simp) ⟨b',p',none⟩ m c news hl w3 (by omega) Ca hb;have hR:=Row.r8 dT;refine⟨v',w',iU,?_,by rw[j6];exact hg,fun b hb=> .inr (hR.lt b hb).1⟩;refine⟨by simpa using hR.1,?_⟩;rcases hR.2 with hx|⟨b,p,cap,cur,rfl,h1,hx⟩
   ·exact .inl (by simpa using hx)
   exact .inr ⟨b,p,cap,cur,rfl,by omega,by simpa using hx⟩
 have lX:=hr.1;by_cases wX:n+m≤cap
 ·have DF:cap≠0:=by omega
  have Ri:=run_firstCells_some (P:=P) w k m ⟨b',p',none⟩ m c news hl w3;have jh:p+n*k+0+news.length≤cur.size:=by rw[nY,hl,Nat.add_zero,Nat.add_assoc,←Nat.add_mul];exact Nat.add_le_add_left (Nat.mul_le_mul_right k wX) p
  have dH:=hZ (P:=P) b (p+n*k) e news 0 cur w hh jh h1;simp only[Nat.add_zero]at dH;have Gp:(cur.toList.take (p+n*k)++news++cur.toList.drop (p+n*k+news.length)).toArray.size=cur.size:=by simp only[List.size_toArray,List.length_append,List.length_take,List.length_drop,Array.length_toList];omega
  refine⟨.slice (some ⟨b,p,none⟩) (n+m) cap,w.setRow b (cur.toList.take (p+n*k)++news++cur.toList.drop (p+n*k+news.length)).toArray,?_,⟨?_,.inr ⟨b,p,cap,_,rfl,Xx,hh.set Gp,wX,sB,Gp.trans nY,?_⟩⟩,?_,?_⟩
  ·simp[Builtin.append_,run_underlying hu,sizeOf,typeInfo,e1,Builtin.lenOf,wX,Ri,Addr.add_lit,cP,dH]
  ·rw[List.length_append,lX,hl,Nat.add_mul]
  ·have h2:p+n*k+news.length≤cur.toList.length:=by simpa using jh
   have bC:(cur.toList.take (p+n*k)).length=p+n*k:=by rw[List.length_take];omega
   have Xy:(cur.toList.take (p+n*k)).drop p=xs:=by rw[←ht,List.drop_take];congr 1;omega
   rw[List.append_assoc,List.drop_append_of_le_length (by rw[bC];omega),Xy,Nat.add_mul,←hl,←List.append_assoc];rw[List.take_append_of_le_length (by rw[List.length_append,lX];exact Nat.le_refl _)];rw[List.take_of_length_le (by rw[List.length_append,lX];exact Nat.le_refl _)]
  ·rw[jw DF];exact kG _ _ _
  intro x hx;left;rw[jw DF]at hx⊢;exact hx
 have holds: ∀j u,xs[j]? =some u→w.cell? ((⟨b,p,none⟩:Addr).add j)=some u:=fun j u hu=>by have:=hr.cell j u hu;simpa [Addr.add_lit]using this
 obtain⟨v',w',iU,dT,hg⟩:=run_append_arg_grows (P:=P) w t ty e inf ei.zero k ei.bytes hu e1 e4 cP e3 hz nA ⟨b,p,none⟩ n cap xs lX holds ⟨b',p',none⟩ m c news hl w3 (by omega) Ca hb;have hR:=Row.r8 dT;refine⟨v',w',iU,⟨hR.1,?_⟩,⟨hg.os,hg.tape,hg.output,hg.size,fun q hq _=>hg.block q hq (by simp)⟩,fun b hb=> .inr (hR.lt b hb).1⟩;rcases hR.2 with hx|⟨b,p,cap,cur,rfl,h1,hx⟩
 ·exact .inl hx
 exact .inr ⟨b,p,cap,cur,rfl,by omega,hx⟩
theorem Row.form{B:Nat}{e:TypeId}{k:Nat}{v:Value}{n:Nat}{xs:List Value}(h:Row B e k v n xs w): ∃a c,v= .slice a n c:=by
 rcases h.2 with⟨rfl,a,rfl⟩|⟨b,p,cap,cur,rfl,_⟩
 ·exact⟨a,0,rfl⟩
 exact⟨_,_,rfl⟩
theorem cd{tb:Tb}(dq:tb.ok P)(i:Nat){t e:Nat}{ti ei:TI}{k:Nat}{s x:Operand}{n m c:Nat}{v:Value}{xs news:List Value}{ad:Option Addr}
  (ho:o.op= .call {callee:=.builtin .append,args:=#[s,x],argTypes:=#[t,t]}) (hs:St g0 g L) (hL:L[i]? =some (.row e k v n xs)) (hv:ev l s=some v) (hx:ev l x=some (.slice ad m c))
  (hi:tl tb t=some ti) (hd:ti.desc= .slice e) (hj:tl tb e=some ei) (hk:ei.size=k) (nA:0<k) (hz:ei.zero.cells.size=k)
  (g_:Src g.w ad m k news) (h1: ∀u∈news,u.oneCell'=true) (hb:(n+m)*ei.bytes≤140737488355328) (Ca:n+m≤maxLen)
  (kk: ∀a' c' g',St g0 g' (L.set i (.row e k (.slice a' (n+m) c') (n+m) (xs++news)))→g.le g'→K (.slice a' (n+m) c') g'.w):cD F P N ds o l g.w Q K:=by
 have dT:=hs.own i _ hL;obtain⟨v',w',iU,hR,hg,A_⟩:=uX (ty:=o.type) dq hi hd hj hk nA hz dT.1 hs.below.size g_ h1 hb Ca (c:=c);obtain⟨a',c',rfl⟩:=hR.form;let g':G:=⟨w',g.im,fun b h=>Nat.lt_of_lt_of_le (g.lt b h) hg.size⟩
 have dH:=hs.Hn (g':=g') (e':=.row e k (.slice a' (n+m) c') (n+m) (xs++news)) hL hg (fun _ _=>Iff.rfl)
  ⟨hR,fun b hb hi=>by
   rcases A_ b hb with h|h
   ·exact dT.2 b h hi
   have:=g.lt b hi;omega⟩ A_
 refine eZ ho (w':=w') (fun a ha=>?_) (kk a' c' g' dH.1 dH.2);simp[resolve,invoke,builtin,ha.ev hv,ha.ev hx,iU]
theorem Src.lq{α:Type}[El α]{ad:Option Addr}{m c:Nat}{xs:List α}(h:Rs g (.slice ad m c) xs):m=xs.length∧ ∃news,cG g news xs∧Src g.w ad m (El.k α) news:=by
 obtain⟨a,n,c',e,rfl,_,h⟩:=h;simp only[Value.slice.injEq]at e;obtain⟨rfl,rfl,rfl⟩:=e;refine⟨rfl,?_⟩;rcases h with h|⟨b,p,cells,rfl,hb,hr,hc⟩
 ·have:xs=[]:=List.eq_nil_of_length_eq_zero h;subst this;exact⟨[],rfl,by simp,.inl rfl⟩
 exact⟨cells,hr,hr.len,.inr ⟨b,p,rfl,hc⟩⟩
theorem Src.fL{B:Nat}{e:TypeId}{k m c n:Nat}{ad:Option Addr}{xs:List Value}(h:Row B e k (.slice ad m c) n xs w):m=n∧Src w ad m k xs:=by
 rcases h.2 with⟨rfl,a,e1⟩|⟨b,p,cap,cur,e1,_⟩
 ·simp only[Value.slice.injEq]at e1;obtain⟨rfl,rfl,rfl⟩:=e1;exact⟨rfl,by simpa using h.1,.inl rfl⟩
 simp only[Value.slice.injEq]at e1;obtain⟨rfl,rfl,rfl⟩:=e1;exact⟨rfl,h.1,.inr ⟨b,p,rfl,fun j u hu=>h.cell j u hu⟩⟩
theorem Row.nil(B:Nat)(e:TypeId)(k:Nat)(a:Option Addr)(w:World):Row B e k (.slice a 0 0) 0 [] w:=⟨by simp,.inl ⟨rfl,a,rfl⟩⟩
theorem St.iN(hs:St g0 g L)(e:TypeId)(k:Nat)(a:Option Addr):St g0 g (.row e k (.slice a 0 0) 0 []::L):=
 (hs.add (g':=g) (e':=.row e k (.slice a 0 0) 0 []) (jx _ _) (fun _ _=>Iff.rfl) ⟨Row.nil _ _ _ _ _,fun b hb=>by rw[j6]at hb;cases hb⟩ (fun b hb=>by simp only[cS.s5,j6]at hb;cases hb)).1
theorem wT(z:Array Value)(n:Nat)(_hz:0<z.size):(madeCells z (n*z.size)).toList=(List.replicate n z.toList).flatten:=by
 have key: ∀(k:Nat) (m:Nat),k=z.size→((List.range k).map (fun i=>z[(m*z.size+i) % z.size]!))=z.toList:=by
  intro k m hk;subst hk;apply List.ext_getElem?;intro j;rw[List.getElem?_map];by_cases hj:j<z.size
  ·rw[List.getElem?_range hj];have:(m*z.size+j) % z.size=j:=by rw[Nat.mul_comm,Nat.mul_add_mod];exact Nat.mod_eq_of_lt hj
   rw[Option.map_some,this,getElem!_pos z j hj,Array.getElem?_toList,Array.getElem?_eq_getElem hj]
  rw[List.getElem?_eq_none (by simpa using hj),List.getElem?_eq_none (by simpa using hj)];rfl
 induction n with
 |zero=>simp[madeCells]
 |succ n ih=>
  rw[Nat.add_mul,Nat.one_mul];simp only[madeCells,Array.toList_map,Array.toList_range]at ih⊢;rw[List.range_add,List.map_append,ih,List.map_map,List.replicate_succ',List.flatten_concat];congr 1;exact key z.size n rfl
theorem cG.replicate{α:Type}[El α]{cs:List Value}{x:α}(h:El.rc g cs x): ∀n,cG g (List.replicate n cs).flatten (List.replicate n x)
 |0=>rfl
 |n+1=>⟨cs,(List.replicate n cs).flatten,by simp[List.replicate_succ],h,cG.replicate h n⟩
theorem qJ{tb:Tb}(dq:tb.ok P){t e:Nat}{ti ei:TI}{k:Nat}{x y:Operand}{kl kc:IntKind}{n:Nat}(ho:o.op= .makeSlice t x y)(hs:St g0 g L)
  (hx:ev l x=some (.int kl (n:Int))) (hy:ev l y=some (.int kc (n:Int))) (hi:tl tb t=some ti) (hd:ti.desc= .slice e) (hj:tl tb e=some ei) (hk:ei.size=k) (nA:0<k) (hz:ei.zero.cells.size=k)
  (hb:ei.bytes*n≤281474976710656) (Ca:n≤maxLen)
  (kk: ∀b g',St g0 g' (.row e k (.slice (some ⟨b,0,none⟩) n n) n (List.replicate n ei.zero.cells.toList).flatten::L)→g.le g'→K (.slice (some ⟨b,0,none⟩) n n) g'.w):cD F P N ds o l g.w Q K:=by
 obtain⟨⟨dd,hu,he⟩,_⟩:=dq.at hi;rw[hd]at he;obtain rfl:=KD.of_slice he;obtain⟨_,inf,e1,e2,e3,e4⟩:=dq.at hj;have cP:inf.size=k:=by rw[e2,hk]
 obtain⟨w',iU,dT,hg⟩:=run_make_full (P:=P) g.w g0.w.heap.size t e inf ei.zero k hu e1 e4 cP kl kc n (by rw[e3];exact hb) Ca hs.below.size;have HT:(madeCells ei.zero.cells (n*k)).toList=(List.replicate n ei.zero.cells.toList).flatten:=by rw[←hz];exact wT _ _ (by omega)
 rw[HT]at dT;let g':G:=⟨w',g.im,fun b h=>Nat.lt_of_lt_of_le (g.lt b h) hg.size⟩
 have dH:=hs.add (g':=g') (e':=.row e k (.slice (some ⟨g.w.heap.size,0,none⟩) n n) n (List.replicate n ei.zero.cells.toList).flatten) hg (fun _ _=>Iff.rfl)
  ⟨Row.r8 dT,fun b hb hi=>by obtain⟨a,n',c,e5,_,e6⟩:=jz hb;simp only[Value.slice.injEq,Option.some.injEq]at e5;obtain⟨rfl,_⟩:=e5;have:=g.lt b hi;simp only at e6;omega⟩
  (fun b hb=>by obtain⟨a,n',c,e5,_,e6⟩:=jz (v:=.slice (some ⟨g.w.heap.size,0,none⟩) n n) hb;simp only[Value.slice.injEq,Option.some.injEq]at e5;obtain⟨rfl,_⟩:=e5;simp only at e6;omega)
 refine bO (w':=w') (fun c=>⟨by rw[ho];simp,by rw[ho];simp⟩) (fun a ha=>?_) (kk _ g' dH.1 dH.2);simp[execOp,ho,ha.ev hx,ha.ev hy,iU]
theorem bD{tb:Tb}(dq:tb.ok P){t e len:Nat}{ti ei:TI}{k:Nat}{parts:Array (Nat×Operand)}{vs:List (Nat×Value)}{cells:List Value}(ho:o.op= .buildSlice t len parts)(hs:St g0 g L)
  (hp:sY l (parts.toList.map (·.2))=some (vs.map (·.2))) (o9:parts.toList.map (·.1)=vs.map (·.1)) (hi:tl tb t=some ti) (hd:ti.desc= .slice e) (hj:tl tb e=some ei) (hk:ei.size=k) (nA:0<k)
  (hlen:len*k≤16777216) (nM:Instr.fill (fun i=>some (i*k,k)) ((Array.range (len*k)).map (ei.zero.cells[· % ei.zero.cells.size]!)) vs=some cells.toArray) (fr:cells.length=len*k)
  (kk: ∀b g',St g0 g' (.row e k (.slice (some ⟨b,0,none⟩) len len) len cells::L)→g.le g'→K (.slice (some ⟨b,0,none⟩) len len) g'.w):cD F P N ds o l g.w Q K:=by
 obtain⟨⟨dd,hu,he⟩,_⟩:=dq.at hi;rw[hd]at he;obtain rfl:=KD.of_slice he;obtain⟨_,inf,e1,e2,e3,e4⟩:=dq.at hj;have cP:inf.size=k:=by rw[e2,hk]
 have hm:len≤maxLen:=by have:=Nat.le_trans (Nat.le_mul_of_pos_right len nA) hlen;unfold maxLen;omega
 have hR:Row g0.w.heap.size e k (.slice (some ⟨g.w.heap.size,0,none⟩) len len) len cells (g.al (.cells cells.toArray e)).w:=
  ⟨fr,.inr ⟨_,0,len,cells.toArray,rfl,hs.below.size,.plain (World.alloc_heap_new g.w _),Nat.le_refl _,hm,by simpa using fr,by simp[←fr]⟩⟩
 have dH:=hs.add (g':=g.al (.cells cells.toArray e)) (e':=.row e k (.slice (some ⟨g.w.heap.size,0,none⟩) len len) len cells) (oh _ _ _) (fun _ _=>Iff.rfl)
  ⟨hR,fun b hb hi=>by obtain⟨a,n',c,e5,_,e6⟩:=jz hb;simp only[Value.slice.injEq,Option.some.injEq]at e5;obtain⟨rfl,_⟩:=e5;have:=g.lt b hi;simp only at e6;omega⟩
  (fun b hb=>by obtain⟨a,n',c,e5,_,e6⟩:=jz (v:=.slice (some ⟨g.w.heap.size,0,none⟩) len len) hb;simp only[Value.slice.injEq,Option.some.injEq]at e5;obtain⟨rfl,_⟩:=e5;simp only at e6;omega)
 refine bO (w':=(g.al (.cells cells.toArray e)).w) (fun c=>⟨by rw[ho];simp,by rw[ho];simp⟩) (fun a ha=>?_) (kk _ _ dH.1 dH.2);have TM:(parts.map fun(i,x)=>(i,a.eval x)).toList=vs:=by
  have h2:=iH ha hp;simp only[Array.toList_map];rw[List.map_map]at h2;have h3:parts.toList.map (fun p=>(p.1,a.eval p.2))=(parts.toList.map (·.1)).zip (parts.toList.map (fun p=>a.eval p.2)):=by rw[List.zip_map']
  have h4:vs=(vs.map (·.1)).zip (vs.map (·.2)):=by rw[List.zip_map'];simp
  rw[h4,←o9,←h2];exact h3
 have hn: ¬(2^24<len*k):=by omega
 have Tr:len*k=0→((Array.range (len*k)).map (ei.zero.cells[· % ei.zero.cells.size]!))=#[]:=fun h0=>by rw[h0];simp
 have Xz:len*k=0→cells=[]:=fun h0=>List.eq_nil_of_length_eq_zero (by rw[fr,h0]);have DP:List.map (fun x:Nat×Operand=>(x.fst,a.eval x.snd)) parts.toList=vs:=by rw[←TM];simp
 by_cases h0:len*k=0
 ·rw[Tr h0]at nM;have KH:Array.map (fun _:Nat=>(default:Value)) (Array.range 0)=#[]:=by simp
  simp only[execOp,ho];simp[Instr.buildSlice,run_underlying hu,sizeOf,typeInfo,e1,cP,h0,newRow];rw[KH,DP,nM];simp;rfl
 simp[execOp,ho,Instr.buildSlice,run_underlying hu,sizeOf,typeInfo,e1,e4,cP,h0,hn,newRow,zeroValue];rw[DP,nM];simp;rfl
theorem IM{tb:Tb}(dq:tb.ok P){t e:Nat}{ti ei:TI}(hi:tl tb t=some ti)(hd:ti.desc= .slice e)(hj:tl tb e=some ei){ad:Option Addr}{n c:Nat}{lo hi':Option Value}{a b:Nat}
  (zg:(match lo with|some v=> ∃k,v= .int k (a:Int)|none=>a=0)) (AG:(match hi' with|some v=> ∃k,v= .int k (b:Int)|none=>b=n)) (h1:a≤b) (h2:b≤c):
  (Instr.sliceAt t (.slice ad n c) lo hi' none).run P w= .ok (.slice (if c=a then ad else ad.map (·.add (a*ei.size))) (b-a) (c-a)) w:=by
 obtain⟨⟨dd,hu,he⟩,_⟩:=dq.at hi;rw[hd]at he;obtain rfl:=KD.of_slice he;obtain⟨_,inf,e1,e2,_⟩:=dq.at hj;have Zs:(0:Int)≤b∧(b:Int)≤c:=by omega
 have Zt:(0:Int)≤a∧(a:Int)≤b:=by omega
 cases lo with
 |none=>
  have zg:a=0:=zg;subst zg;cases hi' with
  |none=>
   have AG:b=n:=AG;subst AG;simp[Instr.sliceAt,run_underlying hu,Instr.slice,Instr.sliceBounds,sizeOf,typeInfo,e1]
  |some v=>
   obtain⟨k,rfl⟩:=AG;simp[Instr.sliceAt,run_underlying hu,Instr.slice,Instr.sliceBounds,Instr.sliceBound,asIntOf,sizeOf,typeInfo,e1,h2]
 |some u=>
  obtain⟨k',rfl⟩:=zg;cases hi' with
  |none=>
   have AG:b=n:=AG;subst AG;simp[Instr.sliceAt,run_underlying hu,Instr.slice,Instr.sliceBounds,Instr.sliceBound,asIntOf,sizeOf,typeInfo,e1,e2,h1]
  |some v=>
   obtain⟨k,rfl⟩:=AG;simp[Instr.sliceAt,run_underlying hu,Instr.slice,Instr.sliceBounds,Instr.sliceBound,asIntOf,sizeOf,typeInfo,e1,e2,h1,h2]
theorem Rs.cut{α:Type}[El α]{ad:Option Addr}{n c a b:Nat}{xs:List α}(h:Rs g (.slice ad n c) xs)(h1:a≤b)(h2:b≤xs.length):
  Rs g (.slice (if c=a then ad else ad.map (·.add (a*El.k α))) (b-a) (c-a)) ((xs.take b).drop a):=by
 obtain⟨TU,n',c',e,rfl,o7,h⟩:=h;simp only[Value.slice.injEq]at e;obtain⟨rfl,rfl,rfl⟩:=e;refine⟨_,_,_,rfl,by simp;omega,⟨by omega,by omega⟩,?_⟩;by_cases XC:b-a=0
 ·exact .inl XC
 right;rcases h with h|⟨bb,p,cells,rfl,hb,hr,hc⟩
 ·omega
 have TV: ¬c=a:=by omega
 rw[if_neg TV];refine⟨bb,p+a*El.k α,(cells.take (b*El.k α)).drop (a*El.k α),by simp[Addr.add_lit],hb,(hr.take b).drop a,fun j y hy=>?_⟩;rw[List.getElem?_drop]at hy;have bC:=(List.getElem?_eq_some_iff.1 hy).1;rw[List.length_take]at bC;rw[List.getElem?_take_of_lt (by omega)]at hy;have:=hc _ _ hy;rw[Nat.add_assoc];exact this
theorem kF{tb:Tb}(dq:tb.ok P){t e:Nat}{ti ei:TI}{x:Operand}{lo hi':Option Operand}(ho:o.op= .slice t x lo hi' none)(hi:tl tb t=some ti)(hd:ti.desc= .slice e)(hj:tl tb e=some ei)
  {ad:Option Addr} {n c a b:Nat} (hx:ev l x=some (.slice ad n c)) (zg:(match lo with|some v=> ∃k,ev l v=some (.int k (a:Int))|none=>a=0)) (AG:(match hi' with|some v=> ∃k,ev l v=some (.int k (b:Int))|none=>b=n))
  (h1:a≤b) (h2:b≤c) (k:K (.slice (if c=a then ad else ad.map (·.add (a*ei.size))) (b-a) (c-a)) w):cD F P N ds o l w Q K:=by
 refine bO (fun c=>⟨by rw[ho];simp,by rw[ho];simp⟩) (fun ac ha=>?_) k;have hr:=IM (P:=P) (w:=w) dq hi hd hj (ad:=ad) (n:=n) (c:=c) (lo:=lo.map ac.eval) (hi':=hi'.map ac.eval) (a:=a) (b:=b)
  (by cases lo with
   |none=>exact zg
   |some v=>obtain⟨k,hk⟩:=zg;exact⟨k,ha.ev hk⟩)
  (by cases hi' with
   |none=>exact AG
   |some v=>obtain⟨k,hk⟩:=AG;exact⟨k,ha.ev hk⟩) h1 h2
 simp[execOp,ho,ha.ev hx,hr]
theorem Row.cutFrom{B:Nat}{e:TypeId}{k n c a:Nat}{ad:Option Addr}{xs:List Value}(h:Row B e k (.slice ad n c) n xs w)(h1:a≤n):
  Row B e k (.slice (if c=a then ad else ad.map (·.add (a*k))) (n-a) (c-a)) (n-a) (xs.drop (a*k)) w:=by
 refine⟨by rw[List.length_drop,h.1,Nat.sub_mul],?_⟩;rcases h.2 with⟨rfl,a',e1⟩|⟨b,p,cap,cur,e1,hB,hh,o7,sB,nY,ht⟩
 ·simp only[Value.slice.injEq]at e1;obtain⟨rfl,_,rfl⟩:=e1;obtain rfl:a=0:=by omega
  exact .inl ⟨rfl,ad,by simp⟩
 simp only[Value.slice.injEq]at e1;obtain⟨rfl,_,rfl⟩:=e1;by_cases TV:c=a
 ·exact .inl ⟨by omega,_,by rw[show n-a=0 from by omega,show c-a=0 from by omega]⟩
 rw[if_neg TV];refine .inr ⟨b,p+a*k,c-a,cur,by simp[Addr.add_lit],hB,hh,by omega,by omega,?_,?_⟩
 ·rw[nY,Nat.add_assoc,←Nat.add_mul];congr 2;omega
 rw[←ht,List.drop_take,List.drop_drop,Nat.sub_mul]
theorem Row.store{B:Nat}{e:TypeId}{k b p m cap n:Nat}{xs us:List Value}{off:Nat}(h:Row B e k (.slice (some ⟨b,p,none⟩) m cap) n xs w)(jh:off+us.length≤xs.length)(h0:0<us.length):
  ∃cur TW:List Value,fh w b cur.toArray e∧p+off+us.length≤cur.length∧Row B e k (.slice (some ⟨b,p,none⟩) m cap) n (lh xs off us) (w.setRow b (lh cur (p+off) us).toArray)∧cap≠0∧cur=TW:=by
 rcases h.2 with⟨XD,_⟩|⟨b',p',TL,cur,hv,hB,hh,o7,sB,nY,ht⟩
 ·have:=h.1;rw[XD,Nat.zero_mul]at this;omega
 simp only[Value.slice.injEq,Option.some.injEq,Addr.mk.injEq,and_true]at hv;obtain⟨⟨rfl,rfl⟩,rfl,rfl⟩:=hv;have hl:cur.toList.length=p+cap*k:=by simpa using nY
 have lX:=h.1;have U8:m*k≤cap*k:=Nat.mul_le_mul_right k o7;have rP:cap≠0:=by intro h;subst h;simp at U8;omega
 have Gp:(lh cur.toList (p+off) us).toArray.size=cur.size:=by simp only[lh,List.size_toArray,List.length_append,List.length_take,List.length_drop];omega
 refine⟨cur.toList,cur.toList,by simpa using hh,by omega,⟨?_,.inr ⟨b,p,cap,_,rfl,hB,hh.set Gp,o7,sB,Gp.trans nY,?_⟩⟩,rP,rfl⟩
 ·simp only[lh,List.length_append,List.length_take,List.length_drop];omega
 apply List.ext_getElem?;intro j;rw[←ht];simp only[lh];by_cases hj:j<m*k
 ·rw[List.getElem?_take_of_lt hj,List.getElem?_drop];by_cases h1:j<off
  ·rw[List.append_assoc,List.getElem?_append_left (by rw[List.length_take];omega),List.getElem?_take_of_lt (by omega),
    List.append_assoc,List.getElem?_append_left (by rw[List.length_take,List.length_take,List.length_drop];omega),List.getElem?_take_of_lt h1,List.getElem?_take_of_lt hj,List.getElem?_drop]
  by_cases h2:j<off+us.length
  ·rw[List.append_assoc,List.getElem?_append_right (by rw[List.length_take];omega),List.getElem?_append_left (by rw[List.length_take];omega),
    List.append_assoc,List.getElem?_append_right (by rw[List.length_take,List.length_take,List.length_drop];omega),List.getElem?_append_left (by rw[List.length_take,List.length_take,List.length_drop];omega)]
   congr 1;rw[List.length_take,List.length_take,List.length_take,List.length_drop];omega
  rw[List.getElem?_append_right (by rw[List.length_append,List.length_take];omega),List.getElem?_drop,
   List.getElem?_append_right (by rw[List.length_append,List.length_take,List.length_take,List.length_drop];omega),List.getElem?_drop]
  simp only[List.length_append,List.length_take,List.length_drop];rw[List.getElem?_take_of_lt (by omega),List.getElem?_drop];congr 1;omega
 rw[List.getElem?_eq_none (by rw[List.length_take];omega),List.getElem?_eq_none (by simp only[List.length_append,List.length_take,List.length_drop];omega)]
theorem gT{tb:Tb}(dq:tb.ok P)(i:Nat)(off:Nat){t:Nat}{ti:TI}{x y:Operand}{e:TypeId}{k b p m cap n:Nat}{xs us xs':List Value}{v:Value}(ho:o.op= .store t x y)(hs:St g0 g L)
  (hi:L[i]? =some (.row e k (.slice (some ⟨b,p,none⟩) m cap) n xs)) (hx:ev l x=some (.pointer (some ⟨b,p+off,none⟩))) (hy:ev l y=some v)
  (ht:tl tb t=some ti) (hu:v.cells=us.toArray) (hl:us.length=ti.size) (h1:us.all Value.oneCell'=true) (h0:0<us.length) (jh:off+us.length≤xs.length) (nY:lh xs off us=xs')
  (kk: ∀g',St g0 g' (L.set i (.row e k (.slice (some ⟨b,p,none⟩) m cap) n xs'))→g.le g'→K undef g'.w):cD F P N ds o l g.w Q K:=by
 subst nY;have dT:=hs.own i _ hi;obtain⟨cur,_,hh,F8,hR,rP,_⟩:=dT.1.store jh h0;have dH:=hs.Hn (g':=g.sr b (lh cur (p+off) us).toArray) (e':=.row e k (.slice (some ⟨b,p,none⟩) m cap) n (lh xs off us)) hi
  (by simp only[cS.s5,jw rP];exact kG _ _ _) (fun _ _=>Iff.rfl) ⟨hR,dT.2⟩ (fun b' sZ=> .inl sZ)
 refine qO (w':=(g.sr b (lh cur (p+off) us).toArray).w) (fun c=>⟨by rw[ho];simp,by rw[ho];simp⟩) (fun a ha=>?_) (kk _ dH.1 dH.2);have:=qT (P:=P) (w:=g.w) dq ht hu hl (by simpa using h1) hh F8;simp[execOp,ho,ha.ev hx,ha.ev hy,Instr.storeAt,Instr.sureAddr,this,G.sr]
def ag(P:Program)(f:FuncId):Prop:=(P.funcs[f]?).map (fun fn=>(fn.name== "runtime.NumGoroutine",fn.body.isNone))=some (false,false)
theorem h_{f:FuncId}(h:ag P f)(args:Array Value):(callFunc f args).run P w= .ok (.enter f args) w:=by
 obtain⟨fn,hf,e⟩:=Option.map_eq_some_iff.1 h;simp only[Prod.mk.injEq]at e;have h1:fn.name≠ "runtime.NumGoroutine":=by simpa using e.1
 have h2:fn.body≠none:=by intro h;rw[h]at e;simp at e
 simp[callFunc,hf,h1,h2]
theorem n5{f:FuncId}(hc:ag P f)(hF: ∀f,F.fn f)(uL:F.depth=none){x:Operand}{args:Array Operand}{ts:Array TypeId}{first captured:Array Value}{vs aa:List Value}
  (ho:o.op= .call {callee:=.value x,args,argTypes:=ts}) (hx:ev l x=some (.func (.func f) first captured)) (ha:sY l args.toList=some vs) (has:first.toList++vs++captured.toList=aa)
  (h:CallsIn F 0 P f aa.toArray w fun e w'=> ∃v,e= .returned v∧K v w'):cD F P N ds o l w Q K:=by
 intro a Ep;have TC:first++vs.toArray++captured=aa.toArray:=by rw[←has];apply Array.ext';simp
 rw[←TC]at h;unfold Oper.wpIn;refine⟨fun f _=>hF f,?_⟩;have pk:args.map a.eval=vs.toArray:=by apply Array.ext';simpa using iH Ep ha
 rw[Oper.semAt_eq _ _ _ (fun c e=>by rw[ho]at e;cases e)];have iU:(execOp a.eval o).run P w= .ok (.enter f (first++vs.toArray++captured)) w:=by simp only[execOp,ho,Sem.run_bind,resolve,Ep.ev hx,Deferred.ofValue,Sem.run_pure,Result.andThen_ok,invoke,pk];exact h_ hc _
 rw[iU];refine⟨fun h=>(by rw[uL]at h;cases h),?_⟩;refine CallsIn.mono h fun e w' ⟨v,he,hk⟩=>?_;subst he;exact⟨v,rfl,hk⟩
end Go.K
