/- Parts of the proof, from: Short names of values. -/
import Derived.RangeFuncNested
import Derived.RangeFuncBound
import Derived.RangeFuncCalls
import Derived.RangeFuncLeaves
import Derived.RangeFuncRecord
import Derived.OrdersIn
import Derived.WalkKit
namespace Go.K
open Go
abbrev vI (n:Int):Value:=.int .i64 n
abbrev vA (b:Nat):Option Addr:=some ⟨b,0,none⟩
abbrev vP (b:Nat):Value:=.pointer (some ⟨b,0,none⟩)
end Go.K
namespace Go.K
open Go
abbrev Env:=List (Nat×Value)
def lk:Env→Nat→Option Value
 |[],_=>none
 |(k,v)::r,t=>bif Nat.beq k t then some v else lk r t
theorem cZ(d:Nat)(v:Value)(l:Env):lk ((d,v)::l) d=some v:=by simp[lk]
theorem cq{d t:Nat}(v:Value)(l:Env)(h:d≠t):lk ((d,v)::l) t=lk l t:=by
 have e:Nat.beq d t=false:=by
  cases hb:Nat.beq d t with
  |false=>rfl
  |true=>exact absurd (Nat.eq_of_beq_eq_true hb) h
 simp[lk,e]
structure Fr(N:Nat)(ds:List Deferred)(l:Env)(a:Act):Prop where
 defers:a.defers=ds
 size:a.tmps.size=N
 get: ∀t v,lk l t=some v→a.tmps[t]? =some v
variable {F:Fence} {P:Program} {N:Nat} {ds:List Deferred} {l l':Env} {a:Act} {w:World}
def ev(l:Env):Operand→Option Value
 | .tmp t=>lk l t
 | .const v=>some v
 | .global g=>some (vP g)
 | .func f=>some (.func (.func f) #[] #[])
theorem Fr.ev(h:Fr N ds l a){x:Operand}{v:Value}(hx:ev l x=some v):a.eval x=v:=by
 cases x with
 |tmp t=>
  have:=h.get t v hx;simp only[Act.eval,Array.getD_eq_getD_getElem?,this,Option.getD_some]
 |const c=>simp only[K.ev,Option.some.injEq]at hx;exact hx
 |global c=>simp only[K.ev,Option.some.injEq]at hx;exact hx
 |func c=>simp only[K.ev,Option.some.injEq]at hx;exact hx
def pt(d:Option Tmp)(v:Value)(l:Env):Env:=
 match d with
 |some d=>(d,v)::l
 |none=>l
def Qp(N:Nat)(d:Option Tmp):Bool:=
 match d with
 |some d=>Nat.blt d N
 |none=>true
theorem Fr.put(h:Fr N ds l a){d:Option Tmp}(hd:Qp N d=true)(v:Value):Fr N ds (pt d v l) (a.put d v):=by
 cases d with
 |none=>exact h
 |some d=>
  have bt:d<N:=by simpa [Qp,Nat.blt_eq]using hd
  refine⟨h.defers,by simp[Act.put,h.size],fun t u hu=>?_⟩;simp only[Act.put];by_cases e:d=t
  ·subst e;simp only[pt,cZ,Option.some.injEq]at hu;subst hu;rw[Array.getElem?_setIfInBounds_self,if_pos (by rw[h.size];exact bt)]
  rw[Array.getElem?_setIfInBounds_ne e];simp only[pt,cq _ _ e]at hu;exact h.get t u hu
theorem Fr.sub(h:Fr N ds l a)(hs: ∀t v,lk l' t=some v→lk l t=some v):Fr N ds l' a:=
 ⟨h.defers,h.size,fun t v ht=>h.get t v (hs t v ht)⟩
def zv:Env→Env→Prop
 |[],_=>True
 |(t,v)::r,l=>lk l t=some v∧zv r l
theorem zv.spec: ∀{l' l:Env},zv l' l→ ∀t v,lk l' t=some v→lk l t=some v
 |[],_,_,t,v,h=>by simp[lk]at h
 |(k,u)::r,l,hs,t,v,h=>by
  by_cases e:k=t
  ·subst e;rw[cZ]at h;exact(Option.some.inj h)▸hs.1
  rw[cq _ _ e]at h;exact zv.spec hs.2 t v h
theorem Fr.keep(h:Fr N ds l a)(hs:zv l' l):Fr N ds l' a:=h.sub hs.spec
def W(F:Fence)(P:Program)(N:Nat)(ds:List Deferred)(c:Code)(Q:Exit→Act→World→Prop)(l:Env)(w:World):Prop:=
 ∀a,Fr N ds l a→c.wpIn F 0 P Q a w
def WL(F:Fence)(P:Program)(N:Nat)(ds:List Deferred)(ops:Array Oper)(Q:Exit→Act→World→Prop)(os:List Oper)(l:Env)(w:World):Prop:=
 ∀a,Fr N ds l a→wpListIn F 0 P ops Q os a w
variable {Q:Exit→Act→World→Prop} {c x y:Code} {ops:Array Oper} {os:List Oper} {o:Oper}
theorem az(h:W F P N ds x (Exit.then (y.wpIn F 0 P Q) Q) l w):W F P N ds (.seq x y) Q l w:=fun a ha=>wpIn_seq (h a ha)
theorem aI{id:Nat}(h:W F P N ds c (Exit.inBlock id Q) l w):W F P N ds (.block id c) Q l w:=fun a ha=>wpIn_block (h a ha)
theorem aG(h: ∀a,Fr N ds l a→Q .ret a w):W F P N ds .ret Q l w:=fun a ha=>wpIn_ret (h a ha)
theorem aF(h: ∀a,Fr N ds l a→Q .normal a w):W F P N ds .skip Q l w:=fun a ha=>wpIn_skip (h a ha)
theorem LI{k:Nat}(h: ∀a,Fr N ds l a→Q .normal a w):W F P N ds (.label k) Q l w:=fun a ha=>wpIn_label (h a ha)
theorem bc{id:Nat}(h: ∀a,Fr N ds l a→Q (.exit id) a w):W F P N ds (.exit id) Q l w:=fun a ha=>wpIn_exit (h a ha)
theorem O7{z:Operand}(hz:ev l z=some (.bool true))(h:W F P N ds x Q l w):W F P N ds (.cond z x y) Q l w:=
 fun a ha=>wpIn_cond_true (ha.ev hz) (h a ha)
theorem LQ{z:Operand}(hz:ev l z=some (.bool false))(h:W F P N ds y Q l w):W F P N ds (.cond z x y) Q l w:=
 fun a ha=>wpIn_cond_false (ha.ev hz) (h a ha)
theorem aJ{z:Operand}{b:Bool}(hb:b=true)(hz:ev l z=some (.bool b))(h:W F P N ds x Q l w):W F P N ds (.cond z x y) Q l w:=
 O7 (hb▸hz) h
theorem aQ{z:Operand}{b:Bool}(hb:b=false)(hz:ev l z=some (.bool b))(h:W F P N ds y Q l w):W F P N ds (.cond z x y) Q l w:=
 LQ (hb▸hz) h
theorem an{id:Nat}(h:WL F P N ds ops Q ops.toList l w):W F P N ds (.region id ops false) Q l w:=fun a ha=>wpIn_region_list (h a ha)
theorem rR(hs:zv l' l)(h:W F P N ds c Q l' w):W F P N ds c Q l w:=fun a ha=>h a (ha.keep hs)
theorem bK(I:Nat→Act→World→Prop)(n:Nat)(h0: ∀a,Fr N ds l a→I n a w)
  (step: ∀n a w,I n a w→c.wpIn F 0 P (Exit.then (fun a' w'=> ∃m,m<n∧I m a' w') Q) a w):W F P N ds (.loop c) Q l w:=by
 intro a ha b k cs TN hb hr;have key: ∀n a w,I n a w→ ∃e a' w',Q e a' w'∧ArrivesIn (Machine.fenced P F) P (lone (b.atR a (.code c:: .inLoop c::k)) cs w) b k cs e a' w':=by
  intro n
  induction n using Nat.strongRecOn with
  |_ n ih=>
   intro a w hI;obtain⟨e,a₁,w₁,hq,rX⟩:=step n a w hI b (.inLoop c::k) cs TN hb hr;cases e with
   |normal=>
    obtain⟨m,bt,Rz⟩:=hq;obtain⟨e₂,a₂,w₂,RA,TO⟩:=ih m bt a₁ w₁ Rz;exact⟨e₂,a₂,w₂,RA,.of_steps (StepsIn.trans rX (.one (fenced_calm hb hr rfl) stepR_inLoop)) TO⟩
   |exit id=>exact⟨_,a₁,w₁,hq,.pass (x:=.inLoop c) rfl (fun _ _=> .inl (by simp)) rX⟩
   |goto l=>exact⟨_,a₁,w₁,hq,.pass (x:=.inLoop c) rfl (fun _ _=> .inl (by simp)) rX⟩
   |ret=>exact⟨_,a₁,w₁,hq,.pass (x:=.inLoop c) rfl (fun _ _=> .inl (by simp)) rX⟩
   |panic ch=>exact⟨_,a₁,w₁,hq,.pass (x:=.inLoop c) rfl (fun _ _=> .inl (by simp)) rX⟩
   |outgrown=>exact⟨_,a₁,w₁,hq,.pass (x:=.inLoop c) rfl (fun _ _=> .inl (by simp)) rX⟩
 obtain⟨e,a',w',hq,rX⟩:=key n a w (h0 a ha);exact⟨e,a',w',hq,.of_steps (.one (fenced_calm hb hr rfl) stepR_loop) rX⟩
def cS(F:Fence)(P:Program)(N:Nat)(ds:List Deferred)(o:Oper)(l:Env)(w:World)(Q:Exit→Act→World→Prop)(K:Value→World→Prop):Prop:=
 ∀a,Fr N ds l a→o.wpIn F 0 P a w (fun a' w'=> ∃v,a'=a.put o.dst v∧K v w') Q
def gd(ops:Array Oper)(l:Env)(o:Oper):Option Bool:=
 match o.guard with
 |none=>some true
 |some (j,want)=>
  match(ops[j]?).bind (·.dst)with
  |none=>none
  |some d=>
   match lk l d with
   |some (.bool b)=>some (b==want)
   |_=>none
theorem LR{TP:Bool}(h:gd ops l o=some TP)(ha:Fr N ds l a):Region.wanted o (yielded ops a.tmps)=TP:=by
 unfold gd at h;unfold Region.wanted yielded;cases hg:o.guard with
 |none=>simp only[hg,Option.some.injEq]at h;simp[←h]
 |some p=>
  obtain⟨j,want⟩:=p;simp only[hg]at h;cases hd:(ops[j]?).bind (·.dst)with
  |none=>simp[hd]at h
  |some d=>
   simp only[hd]at h;cases hl:lk l d with
   |none=>simp[hl]at h
   |some v=>
    have hv:=ha.get d v hl;cases v with
    |bool b=>
     simp only[hl,Option.some.injEq]at h;simp only[hd,Option.bind_some,hv];rw[←h];cases b<;>cases want<;>rfl
    |_=>simp[hl]at h
theorem aA(h: ∀a,Fr N ds l a→Q .normal a w):WL F P N ds ops Q [] l w:=fun a ha=>h a ha
theorem bM(t:Nat){b b':Bool}(hb:b=b')(hl:lk l t=some (.bool b))(h:WL F P N ds ops Q os ((t,.bool b')::l) w):WL F P N ds ops Q os l w:=by
 refine fun a ha=>h a (ha.sub fun s v hs=>?_);by_cases e:t=s
 ·subst e;rw[cZ]at hs;rw[hl,hb];exact hs
 rw[cq _ _ e]at hs;exact hs
theorem O8(J:Act→World→Prop){o1 o2:List Oper}(U_:os=o1++o2)(h:WL F P N ds ops (Exit.then J Q) o1 l w)
  (h2: ∀a w,J a w→wpListIn F 0 P ops Q o2 a w):WL F P N ds ops Q os l w:=by
 subst U_;intro a ha;have key: ∀(o1:List Oper) (a:Act) (w:World),wpListIn F 0 P ops (Exit.then J Q) o1 a w→wpListIn F 0 P ops Q (o1++o2) a w:=by
  intro o1
  induction o1 with
  |nil=>exact fun a w h=>h2 a w h
  |cons o o1 ih=>
   intro a w h;simp only[List.cons_append,wpListIn]at h⊢;split
   ·rename_i hw;simp only[hw,if_true]at h;have h':=Oper.wpIn_mono (ih · ·) h;unfold Oper.wpIn at h'⊢;refine⟨h'.1,?_⟩;have h':=h'.2;generalize(o.semAt F.round a.eval).run P w=r at h'⊢;have TQ:LetsOut (Exit.then J Q)→LetsOut Q:=fun⟨a,w,h⟩=>⟨a,w,h⟩
    cases r with
    |ok x w'=>
     cases x<;>simp only[Oper.uponIn]at h'⊢ <;>
      first
       |exact h'
       |exact⟨h'.1,CallsIn.mono h'.2 (fun e O9 he=>by cases e<;>first|exact he|exact TQ he)⟩
       |exact⟨h'.1,RoundIn.mono h'.2 (fun e O9 he=>by cases e<;>first|exact he|exact TQ he)⟩
    |halt x w'=>cases x<;>simp only[Oper.uponIn]at h'⊢ <;>exact h'
   rename_i hw;simp only[hw]at h;exact⟨h.1,ih _ _ h.2⟩
 exact key _ _ _ (h a ha)
theorem bX{v:Value}{K:Value→World→Prop}{w':World}(pU: ∀c,o.op≠ .call c∧o.op≠ .defer c)(h: ∀a,Fr N ds l a→(execOp a.eval o).run P w= .ok (.value v) w')(k:K v w'):
  cS F P N ds o l w Q K:=by
 intro a ha;unfold Oper.wpIn;refine⟨fun f hf=>?_,?_⟩
 ·unfold Oper.about at hf;cases ho:o.op<;>simp only[ho]at hf<;>first|(cases hf;done)|exact absurd ho (pU _).1
 rw[Oper.semAt_eq _ _ _ (fun c=>(pU c).2),h a ha];exact⟨v,rfl,k⟩
theorem s_{K:Value→World→Prop}{w':World}(pU: ∀c,o.op≠ .call c∧o.op≠ .defer c)(h: ∀a,Fr N ds l a→(execOp a.eval o).run P w= .ok .skip w')(k:K undef w'):
  cS F P N ds o l w Q K:=by
 intro a ha;unfold Oper.wpIn;refine⟨fun f hf=>?_,?_⟩
 ·unfold Oper.about at hf;cases ho:o.op<;>simp only[ho]at hf<;>first|(cases hf;done)|exact absurd ho (pU _).1
 rw[Oper.semAt_eq _ _ _ (fun c=>(pU c).2),h a ha];exact⟨undef,rfl,k⟩
end Go.K
namespace Go.K
open Go
inductive KD where
 |bool|string
 |int (k:IntKind)
 |slice (e:TypeId)
 |arr (n:Nat) (e:TypeId)
 |struct (fs:List (TypeId×Nat))
 |ptr (e:TypeId)
 |map (k e:TypeId)
 |other
def KD.of:TypeDesc→KD
 | .bool=> .bool
 | .string=> .string
 | .int k=> .int k
 | .slice e=> .slice e
 | .array n e=> .arr n e
 | .struct fs=> .struct (fs.toList.map fun f=>(f.type,f.offset))
 | .pointer e=> .ptr e
 | .map k e=> .map k e
 |_=> .other
theorem KD.of_struct{d:TypeDesc}{l:List (TypeId×Nat)}(h:KD.of d= .struct l): ∃fs,d= .struct fs∧l=fs.toList.map fun f=>(f.type,f.offset):=by cases d<;>simp only[KD.of,reduceCtorEq,KD.struct.injEq]at h;exact⟨_,rfl,h.symm⟩
theorem KD.of_slice{d:TypeDesc}{e:TypeId}(h:KD.of d= .slice e):d= .slice e:=by cases d<;>simp only[KD.of,reduceCtorEq,KD.slice.injEq]at h;rw[h]
theorem KD.of_string{d:TypeDesc}(h:KD.of d= .string):d= .string:=by cases d<;>simp only[KD.of,reduceCtorEq]at h;rfl
theorem KD.DC{d:TypeDesc}{n:Nat}{e:TypeId}(h:KD.of d= .arr n e):d= .array n e:=by cases d<;>simp only[KD.of,reduceCtorEq,KD.arr.injEq]at h;rw[h.1,h.2]
structure TI where
 desc:KD
 size:Nat
 bytes:Nat
 zero:Value
abbrev Tb:=List (Nat×TI)
def tl:Tb→Nat→Option TI
 |[],_=>none
 |(k,v)::r,t=>bif Nat.beq k t then some v else tl r t
def TI.fits(P:Program)(t:TypeId)(i:TI):Prop:=
 (∃d,P.underlying t=some d∧KD.of d=i.desc)∧ ∃inf,P.info? t=some inf∧inf.size=i.size∧inf.bytes=i.bytes∧inf.zero=some i.zero
theorem TI.LW{P:Program}{t:TypeId}{i:TI}(h1:(P.underlying t).map KD.of=some i.desc)(h2:(P.info? t).map (fun j=>(j.size,j.bytes,j.zero))=some (i.size,i.bytes,some i.zero)):i.fits P t:=by obtain⟨d,hd,e⟩:=Option.map_eq_some_iff.1 h1;obtain⟨inf,hi,e2⟩:=Option.map_eq_some_iff.1 h2;simp only[Prod.mk.injEq]at e2;exact⟨⟨d,hd,e⟩,inf,hi,e2.1,e2.2.1,e2.2.2⟩
def Tb.ok(P:Program):Tb→Prop
 |[]=>True
 |(t,i)::r=>i.fits P t∧Tb.ok P r
theorem Tb.ok.at{P:Program}: ∀{tb:Tb} (_:tb.ok P) {t:Nat} {i:TI},tl tb t=some i→i.fits P t
 |[],_,t,i,h=>by simp[tl]at h
 |(k,v)::r,ho,t,i,h=>by
  simp only[tl]at h;cases hb:Nat.beq k t with
  |true=>
   rw[hb]at h;simp only[cond_true,Option.some.injEq]at h;have:=Nat.eq_of_beq_eq_true hb;subst this;subst h;exact ho.1
  |false=>
   rw[hb]at h;exact Tb.ok.at ho.2 h
def Pc(op:BinOp)(x y:Value):Option Value:=
 match x,y with
 | .int k a,.int k' b=>
  if k=k' then
   match op with
   | .add=>some (.int k (k.wrap (a+b)))
   | .sub=>some (.int k (k.wrap (a-b)))
   | .mul=>some (.int k (k.wrap (a*b)))
   | .eql=>some (.bool (a==b))
   | .neq=>some (.bool (a !=b))
   | .lss=>some (.bool (decide (a<b)))
   | .leq=>some (.bool (decide (a≤b)))
   | .gtr=>some (.bool (decide (b<a)))
   | .geq=>some (.bool (decide (b≤a)))
   |_=>none
  else none
 | .string a,.string b=>
  match op with
  | .eql=>some (.bool (a.toList==b.toList))
  | .neq=>some (.bool (!(a.toList==b.toList)))
  | .lss=>some (.bool (Op.bytesLess a.toList b.toList))
  |_=>none
 |_,_=>none
def Pd(op:BinOp)(x y:Value):Option Value:=
 match x,y with
 | .int k a,.int k' (.ofNat (n+1))=>
  if k=k' then
   match op with
   | .quo=>some (.int k (k.wrap (a.tdiv (.ofNat (n+1)))))
   | .rem=>some (.int k (a.tmod (.ofNat (n+1))))
   |_=>none
  else none
 |_,_=>none
def Zt(op:UnOp)(x:Value):Option Value:=
 match op,x with
 | .not,.bool b=>some (.bool (!b))
 | .neg,.int k n=>some (.int k (k.wrap (0-n)))
 |_,_=>none
def Nw(c a b:Option Value):Option Value:=
 match c with
 |some (.bool true)=>a
 |some (.bool false)=>b
 |_=>none
def vF(l:Env):List Operand→Option (List Value)
 |[]=>some []
 |x::r=>match ev l x,vF l r with
  |some v,some vs=>some (v::vs)
  |_,_=>none
def xA(tb:Tb)(b:Builtin)(args:Array Operand)(ts:Array TypeId)(l:Env):Option Value:=
 match b,args.toList with
 | .len,[x]=>
  match ts.toList with
  |[t]=>
   match tl tb t with
   |some i=>
    match i.desc,ev l x with
    | .slice _,some (.slice _ n _)=>some (vI n)
    | .string,some (.string s)=>some (vI s.size)
    |_,_=>none
   |none=>none
  |_=>none
 | .min,[x,y]=>
  match ev l x,ev l y with
  |some (.int k a),some (.int _ b)=>some (.int k (if b<a then b else a))
  |_,_=>none
 | .max,[x,y]=>
  match ev l x,ev l y with
  |some (.int k a),some (.int _ b)=>some (.int k (if a<b then b else a))
  |_,_=>none
 |_,_=>none
def Xx(tb:Tb)(l:Env):Op→Option Value
 | .move x=>ev l x
 | .assign x=>ev l x
 | .pick c a b=>Nw (ev l c) (ev l a) (ev l b)
 | .binOp op _ x y _=>
  match op with
  | .quo| .rem=>
   match ev l x,ev l y with
   |some a,some b=>Pd op a b
   |_,_=>none
  |_=>
   match ev l x,ev l y with
   |some a,some b=>Pc op a b
   |_,_=>none
 | .unOp op _ x=>(ev l x).bind (Zt op)
 | .extract x i=>
  match ev l x with
  |some (.tuple vs)=>vs[i]?
  |_=>none
 | .nilCheck x=>
  match ev l x with
  |some (.pointer (some a))=>some (.pointer (some a))
  |_=>none
 | .fieldAddr s x f=>
  match tl tb s with
  |some i=>
   match i.desc with
   | .struct fs=>
    match fs[f]? with
    |some fd=>
     match tl tb fd.1 with
     |some j=>
      match j.size with
      |0=>none
      |_+1=>
       match ev l x with
       |some (.pointer (some a))=>some (.pointer (some (a.add fd.2)))
       |_=>none
     |none=>none
    |none=>none
   |_=>none
  |none=>none
 | .field s x f=>
  match tl tb s with
  |some i=>
   match i.desc with
   | .struct fs=>
    match fs[f]? with
    |some fd=>
     match tl tb fd.1 with
     |some j=>
      match j.desc with
      | .struct _=>none
      | .arr _ _=>none
      |_=>
       match ev l x with
       |some (.agg cs)=>cs[fd.2]?
       |_=>none
     |none=>none
    |none=>none
   |_=>none
  |none=>none
 | .makeFunc fn first captured=>
  match vF l first.toList,vF l captured.toList with
  |some xs,some ys=>some (.func fn xs.toArray ys.toArray)
  |_,_=>none
 | .call {callee:=.builtin b,args,argTypes}=>xA tb b args argTypes l
 |_=>none
variable {F:Fence} {P:Program} {N:Nat} {ds:List Deferred} {l:Env} {a:Act} {w:World} {o:Oper} {Q:Exit→Act→World→Prop}
theorem jl(op:BinOp)(t:TypeId)(x y:Operand)(k k':IntKind)(m n:Int):(eqGuard op t x y (.int k m) (.int k' n)).run P w= .ok () w:=by unfold eqGuard;split<;>rfl
theorem ju(op:BinOp)(t:TypeId)(x y:Operand)(m n:ByteArray):(eqGuard op t x y (.string m) (.string n)).run P w= .ok () w:=by unfold eqGuard;split<;>rfl
theorem Ja{op:BinOp}{t:TypeId}{x y v:Value}(xo yo:Operand)(hq:op≠ .quo∧op≠ .rem)(h:Pc op x y=some v):
  (do eqGuard op t xo yo x y;binOp op t x y:Sem Value).run P w= .ok v w:=by
 unfold Pc at h;split at h
 ·rename_i k a k' b;split at h
  ·rename_i hk;subst hk;cases op<;>simp_all [jl,binOp,Op.intArith,Op.intCmp]
  cases h
 ·rename_i a b;cases op<;>simp_all [ju,binOp,Op.stringOp]
 cases h
theorem Cg{op:BinOp}{t:TypeId}{x y v:Value}(xo yo:Operand)(h:Pd op x y=some v):
  (do eqGuard op t xo yo x y;binOp op t x y:Sem Value).run P w= .ok v w:=by
 unfold Pd at h;split at h
 ·rename_i k a k' n;have hz: ¬((Int.ofNat (n+1))=0):=by intro e;cases e
  split at h
  ·rename_i hk;subst hk;cases op<;>simp only[reduceCtorEq,Option.some.injEq]at h
   all_goals
    subst h;simp only[Sem.run_bind,jl,Result.andThen_ok];unfold binOp;simp only[ne_eq,not_true_eq_false,if_false];unfold Op.intDiv;rw[if_neg hz];rfl
  cases h
 cases h
theorem jh(ha:Fr N ds l a): ∀{xs:List Operand} {vs:List Value},vF l xs=some vs→xs.map a.eval=vs
 |[],vs,h=>by simp only[vF,Option.some.injEq]at h;simp[←h]
 |x::r,vs,h=>by
  simp only[vF]at h;cases hx:ev l x with
  |none=>simp[hx]at h
  |some v=>
   cases hr:vF l r with
   |none=>simp[hx,hr]at h
   |some us=>
    simp only[hx,hr,Option.some.injEq]at h;rw[←h,List.map_cons,ha.ev hx,jh ha hr]
theorem AT{tb:Tb}(dE:tb.ok P){b:Builtin}{args:Array Operand}{ts:Array TypeId}{t:TypeId}{v:Value}
  (ha:Fr N ds l a) (h:xA tb b args ts l=some v):
  (do let d←resolve a.eval {callee:=.builtin b,args,argTypes:=ts} t;invoke d.target d.args:Sem Next).run P w= .ok (.value v) w:=by
 unfold xA at h;split at h
 ·rename_i x xB;have xB:args=#[x]:=by apply Array.ext';simpa using xB
  subst xB;split at h
  ·rename_i t' G7;have G7:ts=#[t']:=by apply Array.ext';simpa using G7
   subst G7;split at h
   ·rename_i i hi;split at h
    ·rename_i e y n c hd hx;simp only[Option.some.injEq]at h;subst h;obtain⟨⟨d,hu,he⟩,_⟩:=dE.at hi;rw[hd]at he;obtain rfl:=KD.of_slice he;simp[resolve,invoke,builtin,Builtin.len_,ha.ev hx,run_underlying hu,goInt]
    ·rename_i s hd hx;simp only[Option.some.injEq]at h;subst h;obtain⟨⟨d,hu,he⟩,_⟩:=dE.at hi;rw[hd]at he;obtain rfl:=KD.of_string he;simp[resolve,invoke,builtin,Builtin.len_,ha.ev hx,run_underlying hu,goInt]
    cases h
   cases h
  cases h
 ·rename_i x y xB;have xB:args=#[x,y]:=by apply Array.ext';simpa using xB
  subst xB;split at h
  ·rename_i k m k' n hx hy;simp only[Option.some.injEq]at h;subst h;simp[resolve,invoke,builtin,Builtin.min_,Builtin.min2,ha.ev hx,ha.ev hy]
  cases h
 ·rename_i x y xB;have xB:args=#[x,y]:=by apply Array.ext';simpa using xB
  subst xB;split at h
  ·rename_i k m k' n hx hy;simp only[Option.some.injEq]at h;subst h;simp[resolve,invoke,builtin,Builtin.max_,Builtin.max2,ha.ev hx,ha.ev hy]
  cases h
 cases h
theorem yN{b:Builtin}{args:Array Operand}{ts:Array TypeId}(hc:o.op= .call {callee:=.builtin b,args,argTypes:=ts})(f:FuncId)(h:o.about P w a.eval=some f):False:=by unfold Oper.about at h;rw[hc]at h;simp only[resolve,Sem.run_pure]at h;simp[Target.leads]at h
theorem fZ{b:Builtin}{args:Array Operand}{ts:Array TypeId}(hc:o.op= .call {callee:=.builtin b,args,argTypes:=ts}){v:Value}{w':World}{K:Value→World→Prop}
  (h: ∀a,Fr N ds l a→(do let d←resolve a.eval {callee:=.builtin b,args,argTypes:=ts} o.type;invoke d.target d.args:Sem Next).run P w= .ok (.value v) w') (k:K v w'):cS F P N ds o l w Q K:=by
 intro a ha;unfold Oper.wpIn;refine⟨fun f hf=>(yN hc f hf).elim,?_⟩;rw[Oper.semAt_eq _ _ _ (fun c e=>by rw[hc]at e;cases e)];unfold execOp;rw[hc];rw[h a ha];exact⟨v,rfl,k⟩
theorem Ch{fs:Array Field}{f:Nat}{fd:TypeId×Nat}(h:(fs.toList.map fun f=>(f.type,f.offset))[f]? =some fd): ∃x,fs[f]? =some x∧x.type=fd.1∧x.offset=fd.2:=by rw[List.getElem?_map,Option.map_eq_some_iff]at h;obtain⟨x,hx,rfl⟩:=h;exact⟨x,by simpa using hx,rfl,rfl⟩
theorem Ci{tb:Tb}(dE:tb.ok P){s f:Nat}{i j:TI}{fs:List (TypeId×Nat)}{fd:TypeId×Nat}{n:Nat}{ad:Addr}(hi:tl tb s=some i)(hd:i.desc= .struct fs)(hf:fs[f]? =some fd)
  (hj:tl tb fd.1=some j) (hn:j.size=n+1):(Instr.fieldAt s (.pointer (some ad)) f).run P w= .ok (.pointer (some (ad.add fd.2))) w:=by
 obtain⟨⟨d,hu,he⟩,_⟩:=dE.at hi;rw[hd]at he;obtain⟨Vc,rfl,rfl⟩:=KD.of_struct he;obtain⟨Zu,hf,e1,e2⟩:=Ch hf;rw[←e1]at hj;rw[←e2];obtain⟨_,inf,h1,h2,_⟩:=dE.at hj;simp[Instr.fieldAt,run_underlying hu,hf,Instr.sureAddr,fieldPlace,sizeOf,typeInfo,h1,h2,hn]
theorem aE(tb:Tb)(dE:tb.ok P){v:Value}{K:Value→World→Prop}(h:Xx tb l o.op=some v)(k:K v w):cS F P N ds o l w Q K:=by
 obtain⟨dst,op,type,pos,after,guard⟩:=o;simp only at h;unfold Xx at h;split at h
 ·exact bX (by simp) (fun a ha=>by simp[execOp,ha.ev h]) k
 ·exact bX (by simp) (fun a ha=>by simp[execOp,ha.ev h]) k
 ·rename_i c x y;refine bX (by simp) (fun a ha=>?_) k;unfold Nw at h;split at h
  ·rename_i hc;simp[execOp,ha.ev hc,ha.ev h,asBool]
  ·rename_i hc;simp[execOp,ha.ev hc,ha.ev h,asBool]
  cases h
 ·rename_i op t x y yt;refine bX (by simp) (fun a ha=>?_) k;split at h
  ·split at h
   ·rename_i u v' hx hy;have:=Cg (P:=P) (w:=w) (t:=t) x y h;simp only[execOp,ha.ev hx,ha.ev hy,Sem.run_bind,Sem.run_pure]at this⊢;rw[this];rfl
   cases h
  ·split at h
   ·rename_i u v' hx hy;have:=Cg (P:=P) (w:=w) (t:=t) x y h;simp only[execOp,ha.ev hx,ha.ev hy,Sem.run_bind,Sem.run_pure]at this⊢;rw[this];rfl
   cases h
  rename_i n1 n2;split at h
  ·rename_i u v' hx hy;have:=Ja (P:=P) (w:=w) (t:=t) x y ⟨n1,n2⟩ h;simp only[execOp,ha.ev hx,ha.ev hy,Sem.run_bind,Sem.run_pure]at this⊢;rw[this];rfl
  cases h
 ·rename_i op t x;refine bX (by simp) (fun a ha=>?_) k;cases hx:ev l x with
  |none=>simp[hx]at h
  |some u=>
   simp only[hx,Option.bind_some]at h;simp only[execOp,ha.ev hx];unfold Zt at h;split at h
   ·simp only[Option.some.injEq]at h;subst h;simp[Op.unary]
   ·simp only[Option.some.injEq]at h;subst h;simp[Op.unary,Op.intArith]
   cases h
 ·rename_i x i;refine bX (by simp) (fun a ha=>?_) k;split at h
  ·rename_i vs hx;simp[execOp,ha.ev hx,Instr.extract,h]
  cases h
 ·rename_i x;refine bX (by simp) (fun a ha=>?_) k;split at h
  ·rename_i ad hx;simp only[Option.some.injEq]at h;subst h;simp[execOp,ha.ev hx]
  cases h
 ·rename_i s x f;refine bX (by simp) (fun a ha=>?_) k;split at h
  ·rename_i i hi;split at h
   ·rename_i fs hd;split at h
    ·rename_i fd hf;split at h
     ·rename_i j hj;split at h
      ·cases h
      rename_i n hn;split at h
      ·rename_i ad hx;simp only[Option.some.injEq]at h;subst h;simp[execOp,ha.ev hx,Ci dE hi hd hf hj hn]
      cases h
     cases h
    cases h
   cases h
  cases h
 ·rename_i s x f;refine bX (by simp) (fun a ha=>?_) k;split at h
  ·rename_i i hi;split at h
   ·rename_i fs hd;split at h
    ·rename_i fd hf;split at h
     ·rename_i j hj;split at h
      ·cases h
      ·cases h
      rename_i n1 n2;split at h
      ·rename_i cs hx;obtain⟨⟨d,hu,he⟩,_⟩:=dE.at hi;rw[hd]at he;obtain⟨Vc,rfl,rfl⟩:=KD.of_struct he;obtain⟨Zu,hf,e1,e2⟩:=Ch hf;obtain⟨⟨d',hv,FF⟩,_⟩:=dE.at hj;rw[←e1]at hv;rw[←e2]at h;have Vd:(isAgg Zu.type).run P w= .ok false w:=by simp only[isAgg,Sem.run_bind,run_underlying hv,Result.andThen_ok];cases d'<;>first|rfl|exact(n1 _ FF.symm).elim|exact(n2 _ _ FF.symm).elim
       simp[execOp,ha.ev hx,Instr.field,run_underlying hu,hf,asAgg,part,Vd,h]
      cases h
     cases h
    cases h
   cases h
  cases h
 ·rename_i fn first captured
  refine bX (by simp) (fun a ha=>?_) k;split at h
  ·rename_i xs ys hx hy;simp only[Option.some.injEq]at h;subst h;have e1:=jh ha hx;have e2:=jh ha hy;have f1:first.map a.eval=xs.toArray:=by apply Array.ext';simpa using e1
   have f2:captured.map a.eval=ys.toArray:=by apply Array.ext';simpa using e2
   simp[execOp,Instr.makeFunc,f1,f2]
  cases h
 ·exact fZ rfl (fun a ha=>AT dE ha h) k
 cases h
end Go.K
namespace Go.K
open Go Go.RowKit
structure G where
 w:World
 im:Nat→Prop
 lt: ∀b,im b→b<w.heap.size
def G.le(g g':G):Prop:=∀b,g.im b→g'.im b∧g'.w.heap[b]? =g.w.heap[b]?
theorem G.le.refl(g:G):g.le g:=fun _ h=>⟨h,rfl⟩
theorem G.le.trans{a b c:G}(h:a.le b)(k:b.le c):a.le c:=fun i hi=>⟨(k i (h i hi).1).1,((k i (h i hi).1).2).trans (h i hi).2⟩
structure a_(g g':G):Prop where
 below:Below g.w.heap.size g.w g'.w
 im: ∀b,b<g.w.heap.size→(g'.im b↔g.im b)
theorem a_.refl(g:G):a_ g g:=⟨Below.refl _ _,fun _ _=>Iff.rfl⟩
theorem a_.trans{a b c:G}(h:a_ a b)(k:a_ b c):a_ a c:=
 ⟨h.below.trans (k.below.mono h.below.size),fun i hi=>(k.im i (Nat.lt_of_lt_of_le hi h.below.size)).trans (h.im i hi)⟩
theorem a_.le{g g':G}(h:a_ g g'):g.le g':=fun b hb=>⟨(h.im b (g.lt b hb)).2 hb,h.below.block b (g.lt b hb)⟩
def sA:Value→Option Nat
 | .slice (some a) _ c=>bif Nat.beq c 0 then none else some a.block
 |_=>none
theorem kT(a:Option Addr)(n:Nat):sA (.slice a n 0)=none:=by cases a<;>rfl
theorem jU{a:Addr}{n c:Nat}(h:c≠0):sA (.slice (some a) n c)=some a.block:=by
 cases c with
 |zero=>exact absurd rfl h
 |succ c=>rfl
theorem lV{v:Value}{b:Nat}(h:sA v=some b): ∃a n c,v= .slice (some a) n c∧c≠0∧a.block=b:=by
 unfold sA at h;split at h
 ·rename_i a n c;cases c with
  |zero=>simp at h
  |succ c=>exact⟨a,n,c+1,rfl,by omega,Option.some.inj h⟩
 cases h
def gg(w:World)(b:Nat)(cur:Array Value)(e:TypeId):Prop:=∃fz:Nat×Nat,w.heap[b]? =some (.cells cur e fz)∧(fz=(0,0)∨cur.size≤fz.1)
theorem gg.plain{w:World}{b:Nat}{cur:Array Value}{e:TypeId}(h:w.heap[b]? =some (.cells cur e (0,0))):gg w b cur e:=⟨_,h,.inl rfl⟩
theorem gg.lt{w:World}{b:Nat}{cur:Array Value}{e:TypeId}(h:gg w b cur e):b<w.heap.size:=by obtain⟨_,h,_⟩:=h;exact(Array.getElem?_eq_some_iff.1 h).1
theorem gg.of_eq{w w':World}{b:Nat}{cur:Array Value}{e:TypeId}(h:gg w b cur e)(hb:w'.heap[b]? =w.heap[b]?):gg w' b cur e:=by obtain⟨fz,h,h2⟩:=h;exact⟨fz,hb.trans h,h2⟩
theorem gg.cell{w:World}{b o:Nat}{cur:Array Value}{e:TypeId}{y:Value}(h:gg w b cur e)(hy:cur[o]? =some y):w.cell? ⟨b,o,none⟩=some y:=by obtain⟨_,h,_⟩:=h;simp[World.cell?,h,hy]
theorem gg.set{w:World}{b:Nat}{cur cs:Array Value}{e:TypeId}(h:gg w b cur e)(hs:cs.size=cur.size):gg (w.setRow b cs) b cs e:=by obtain⟨fz,h,h2⟩:=h;exact⟨fz,setRow_heap _ _ _ _ _ _ h,by rw[hs];exact h2⟩
theorem iN{P:Program}(b o:Nat)(e:TypeId): ∀(us:List Value) (i:Nat) (cur:Array Value) (w:World),gg w b cur e→o+i+us.length≤cur.size→(∀u∈us,u.oneCell'=true)→
  (storeCells ⟨b,o,none⟩ us i).run P w= .ok () (w.setRow b (cur.toList.take (o+i)++us++cur.toList.drop (o+i+us.length)).toArray)
 |[],i,cur,w,⟨fz,hg,_⟩,_,_=>by simp only[storeCells,List.append_nil,List.length_nil,Nat.add_zero,List.take_append_drop,Array.toArray_toList];rw[setRow_self w b cur e fz hg];rfl
 |u::rest,i,cur,w,hc,hl,h1=>by
  have bt:o+i<cur.size:=by rw[List.length_cons]at hl;omega
  have ih:=iN (P:=P) b o e rest (i+1) (cur.setIfInBounds (o+i) u) (w.setRow b (cur.setIfInBounds (o+i) u)) (hc.set (by simp)) (by rw[List.length_cons]at hl;simp;omega) fun x hx=>h1 x (by simp[hx]);obtain⟨fz,hg,hz⟩:=hc;have XC:w.frozen? ⟨b,o+i,none⟩=false:=by
   rcases hz with rfl|hz
   ·simp[World.frozen?,hg]
   simp only[World.frozen?,hg,Bool.and_eq_false_iff,decide_eq_false_iff_not];left;omega
  have dI:(store ((⟨b,o,none⟩:Addr).add i) u).run P w= .ok () (w.setRow b (cur.setIfInBounds (o+i) u)):=by rw[Addr.add_lit,run_store P w _ u _ (h1 u (by simp)),show w.cell? ⟨b,o+i,none⟩=some cur[o+i]from by simp[World.cell?,hg,bt]];simp[XC,setCell_eq_setRow w b (o+i) cur e fz u hg]
  simp only[storeCells,Sem.run_bind,dI,Result.andThen_ok,ih,setRow_setRow];congr 3;have e2:=list_seg_step cur.toList (o+i) u rest (by rw[List.length_cons]at hl;simp;omega);simpa [Array.toList_setIfInBounds,Nat.add_assoc]using e2
def Row(B:Nat)(e:TypeId)(k:Nat)(v:Value)(n:Nat)(xs:List Value)(w:World):Prop:=
 xs.length=n*k∧((n=0∧ ∃a,v= .slice a 0 0)∨
  ∃b off cap cur,v= .slice (some ⟨b,off,none⟩) n cap∧B≤b∧gg w b cur e∧n≤cap∧cap≤maxLen∧cur.size=off+cap*k∧(cur.toList.drop off).take (n*k)=xs)
inductive df where
 |obj (b:Nat) (o:Obj)
 |row (e:TypeId) (k:Nat) (v:Value) (n:Nat) (xs:List Value)
def df.vJ:df→Option Nat
 | .obj b _=>some b
 | .row _ _ v _ _=>sA v
def df.holds(B:Nat)(g:G):df→Prop
 | .obj b o=>B≤b∧g.w.heap[b]? =some o∧ ¬g.im b
 | .row e k v n xs=>Row B e k v n xs g.w∧ ∀b,sA v=some b→ ¬g.im b
theorem Row.lt{B:Nat}{e:TypeId}{k:Nat}{v:Value}{n:Nat}{xs:List Value}{w:World}(h:Row B e k v n xs w): ∀b,sA v=some b→B≤b∧b<w.heap.size:=by
 intro b hb;rcases h.2 with⟨_,a,rfl⟩|⟨b',off,cap,cur,rfl,hB,hh,_⟩
 ·rw[kT]at hb;cases hb
 obtain⟨a,n',c,e1,_,e2⟩:=lV hb;simp only[Value.slice.injEq,Option.some.injEq]at e1;obtain⟨rfl,_⟩:=e1;subst e2;exact⟨hB,hh.lt⟩
theorem df.holds.lt{B:Nat}{g:G}{e:df}(h:e.holds B g): ∀b,e.vJ=some b→B≤b∧b<g.w.heap.size∧ ¬g.im b:=by
 intro b hb;cases e with
 |obj b' o=>
  simp only[df.vJ,Option.some.injEq]at hb;subst hb;exact⟨h.1,(Array.getElem?_eq_some_iff.1 h.2.1).1,h.2.2⟩
 |row e k v n xs=>exact⟨(h.1.lt b hb).1,(h.1.lt b hb).2,h.2 b hb⟩
theorem Row.kept{B:Nat}{e:TypeId}{k:Nat}{v:Value}{n:Nat}{xs:List Value}{w w':World}(h:Row B e k v n xs w)(hb: ∀b,sA v=some b→w'.heap[b]? =w.heap[b]?):Row B e k v n xs w':=by
 refine⟨h.1,?_⟩;rcases h.2 with hn|⟨b,off,cap,cur,rfl,hB,hh,pU,r⟩
 ·exact .inl hn
 by_cases hc:cap=0
 ·subst hc;obtain rfl:n=0:=by omega
  exact .inl ⟨rfl,_,rfl⟩
 exact .inr ⟨b,off,cap,cur,rfl,hB,hh.of_eq (hb b (jU hc)),pU,r⟩
theorem df.holds.kept{B:Nat}{g g':G}{e:df}(h:e.holds B g)(hb: ∀b,e.vJ=some b→g'.w.heap[b]? =g.w.heap[b]? ∧(g'.im b↔g.im b)):e.holds B g':=by
 cases e with
 |obj b o=>exact⟨h.1,(hb b rfl).1.trans h.2.1,fun hi=>h.2.2 ((hb b rfl).2.1 hi)⟩
 |row e k v n xs=>exact⟨h.1.kept fun b vH=>(hb b vH).1,fun b vH hi=>h.2 b vH ((hb b vH).2.1 hi)⟩
structure St(g0 g:G)(L:List df):Prop where
 below:Below g0.w.heap.size g0.w g.w
 im: ∀b,b<g0.w.heap.size→(g.im b↔g0.im b)
 own: ∀(j:Nat) e,L[j]? =some e→e.holds g0.w.heap.size g
 sep: ∀(j k:Nat) e e',j≠k→L[j]? =some e→L[k]? =some e'→ ∀b,e.vJ=some b→e'.vJ≠some b
theorem St.start(g:G):St g g []:=⟨Below.refl _ _,fun _ _=>Iff.rfl,fun _ _ h=>by simp at h,fun _ _ _ _ _ h=>by simp at h⟩
theorem St.rh{g0 g:G}{L:List df}(h:St g0 g L):a_ g0 g:=⟨h.below,h.im⟩
theorem St.le{g0 g:G}{L:List df}(h:St g0 g L):g0.le g:=h.rh.le
theorem Cm{g g':G}{r:Option Nat}(hg:g.w.grownBy g'.w r)(hr: ∀b,r=some b→ ¬g.im b)(p7: ∀b,b<g.w.heap.size→(g'.im b↔g.im b)):g.le g':=
 fun b hb=>⟨(p7 b (g.lt b hb)).2 hb,hg.block b (g.lt b hb) fun e=>hr b e.symm hb⟩
theorem St.Kp{g0 g g':G}{L:List df}(hs:St g0 g L){i:Nat}{e e':df}(hi:L[i]? =some e)(hg:g.w.grownBy g'.w e.vJ)(p7: ∀b,b<g.w.heap.size→(g'.im b↔g.im b))
  (he:e'.holds g0.w.heap.size g') (hb: ∀b,e'.vJ=some b→e.vJ=some b∨g.w.heap.size≤b):St g0 g' (L.set i e')∧g.le g':=by
 have bt:=(hs.own i e hi).lt;have cK:=hs.below.size;refine⟨⟨⟨hg.os.trans hs.below.os,hg.tape.trans hs.below.tape,hg.output.trans hs.below.output,Nat.le_trans cK hg.size,fun k hk=>?_⟩,fun b vH=>?_,?_,?_⟩,?_⟩
 ·exact(hg.block k (by omega) fun h=>by have:=(bt k h.symm).1;omega).trans (hs.below.block k hk)
 ·exact(p7 b (by omega)).trans (hs.im b vH)
 ·intro j x hj;rw[List.getElem?_set]at hj;split at hj
  ·split at hj
   ·simp only[Option.some.injEq]at hj;exact hj▸he
   simp at hj
  rename_i eO;have hx:=hs.own j x hj;refine hx.kept fun b vH=>?_;have h1:=hx.lt b vH;exact⟨hg.block b h1.2.1 fun h=>hs.sep j i x e (fun q=>eO q.symm) hj hi b vH h.symm,p7 b h1.2.1⟩
 ·intro j k x y Ey hj hk b Bo yl;rw[List.getElem?_set]at hj hk;split at hj<;>split at hk
  ·omega
  ·split at hj
   ·simp only[Option.some.injEq]at hj;subst hj;rename_i _ eO _;rcases hb b Bo with h|h
    ·exact hs.sep i k e y (by assumption) hi hk b h yl
    have:=((hs.own k y hk).lt b yl).2.1;omega
   simp at hj
  ·split at hk
   ·simp only[Option.some.injEq]at hk;subst hk;rcases hb b yl with h|h
    ·exact hs.sep j i x e (by rename_i eO _ _;exact fun q=>eO q.symm) hj hi b Bo h
    have:=((hs.own j x hj).lt b Bo).2.1;omega
   simp at hk
  exact hs.sep j k x y Ey hj hk b Bo yl
 exact Cm hg (fun b h=>(bt b h).2.2) p7
theorem St.add{g0 g g':G}{L:List df}(hs:St g0 g L){e':df}(hg:g.w.grownBy g'.w none)(p7: ∀b,b<g.w.heap.size→(g'.im b↔g.im b))
  (he:e'.holds g0.w.heap.size g') (hb: ∀b,e'.vJ=some b→g.w.heap.size≤b):St g0 g' (e'::L)∧g.le g':=by
 have cK:=hs.below.size;refine⟨⟨⟨hg.os.trans hs.below.os,hg.tape.trans hs.below.tape,hg.output.trans hs.below.output,Nat.le_trans cK hg.size,fun k hk=>?_⟩,fun b vH=>?_,?_,?_⟩,?_⟩
 ·exact(hg.block k (by omega) (by simp)).trans (hs.below.block k hk)
 ·exact(p7 b (by omega)).trans (hs.im b vH)
 ·intro j x hj;cases j with
  |zero=>simp only[List.getElem?_cons_zero,Option.some.injEq]at hj;exact hj▸he
  |succ j=>
   simp only[List.getElem?_cons_succ]at hj;have hx:=hs.own j x hj;exact hx.kept fun b vH=>⟨hg.block b (hx.lt b vH).2.1 (by simp),p7 b (hx.lt b vH).2.1⟩
 ·intro j k x y Ey hj hk b Bo yl;cases j with
  |zero=>
   cases k with
   |zero=>omega
   |succ k=>
    simp only[List.getElem?_cons_zero,Option.some.injEq,List.getElem?_cons_succ]at hj hk;subst hj;have:=hb b Bo;have:=((hs.own k y hk).lt b yl).2.1;omega
  |succ j=>
   cases k with
   |zero=>
    simp only[List.getElem?_cons_zero,Option.some.injEq,List.getElem?_cons_succ]at hj hk;subst hk;have:=hb b yl;have:=((hs.own j x hj).lt b Bo).2.1;omega
   |succ k=>
    simp only[List.getElem?_cons_succ]at hj hk;exact hs.sep j k x y (by omega) hj hk b Bo yl
 exact Cm hg (by simp) p7
theorem St.call{g0 g g':G}{L:List df}(hs:St g0 g L)(h:a_ g g'):St g0 g' L:=
 ⟨hs.below.trans (h.below.mono hs.below.size),fun b hb=>(h.im b (Nat.lt_of_lt_of_le hb hs.below.size)).trans (hs.im b hb),
  fun j e he=>(hs.own j e he).kept fun b hb=>⟨h.below.block b ((hs.own j e he).lt b hb).2.1,h.im b ((hs.own j e he).lt b hb).2.1⟩,hs.sep⟩
def G.dr(g:G):G:=⟨g.w.drew,g.im,g.lt⟩
theorem St.dr{g0 g:G}{L:List df}(hs:St g0 g L):St g0 g.dr L:=⟨hs.below.drew,hs.im,fun j e he=>(hs.own j e he).kept fun _ _=>⟨rfl,Iff.rfl⟩,hs.sep⟩
theorem G.bI(g:G):g.le g.dr:=fun _ h=>⟨h,rfl⟩
theorem a_.dr(g:G):a_ g g.dr:=⟨(Below.refl _ _).drew,fun _ _=>Iff.rfl⟩
def G.fz(g:G)(r:Option Nat)(h: ∀b,r=some b→b<g.w.heap.size):G:=⟨g.w,fun b=>g.im b∨r=some b,fun b hb=>hb.elim (g.lt b) (h b)⟩
theorem G.sQ(g:G)(r:Option Nat)(h: ∀b,r=some b→b<g.w.heap.size):g.le (g.fz r h):=fun _ hb=>⟨.inl hb,rfl⟩
theorem St.fz{g0 g:G}{L:List df}(hs:St g0 g L){i:Nat}{e:df}(hi:L[i]? =some e):
  St g0 (g.fz e.vJ fun b hb=>((hs.own i e hi).lt b hb).2.1) (L.eraseIdx i):=by
 have bt:=(hs.own i e hi).lt;have idx: ∀(j:Nat) x,(L.eraseIdx i)[j]? =some x→ ∃j',j'≠i∧L[j']? =some x∧j'=(if j<i then j else j+1):=by
  intro j x hj;rw[List.getElem?_eraseIdx]at hj;split at hj
  ·rename_i h;exact⟨j,by omega,hj,by rw[if_pos h]⟩
  rename_i h;exact⟨j+1,by omega,hj,by rw[if_neg h]⟩
 refine⟨hs.below,fun b hb=>⟨fun h=>?_,fun h=> .inl ((hs.im b hb).2 h)⟩,?_,?_⟩
 ·rcases h with h|h
  ·exact(hs.im b hb).1 h
  have:=(bt b h).1;omega
 ·intro j x hj;obtain⟨j',eO,AA,_⟩:=idx j x hj;refine(hs.own j' x AA).kept fun b hb=>⟨rfl,⟨fun h=>?_,.inl⟩⟩
  rcases h with h|h
  ·exact h
  exact(hs.sep j' i x e eO AA hi b hb h).elim
 intro j k x y Ey hj hk b Bo yl;obtain⟨j',_,AA,e1⟩:=idx j x hj;obtain⟨k',_,Ki,e2⟩:=idx k y hk;refine hs.sep j' k' x y ?_ AA Ki b Bo yl;rw[e1,e2];split<;>split<;>omega
theorem St.drop{g0 g:G}{L:List df}(hs:St g0 g L)(i:Nat):St g0 g (L.eraseIdx i):=by
 have idx: ∀(j:Nat) x,(L.eraseIdx i)[j]? =some x→ ∃j',L[j']? =some x∧j'=(if j<i then j else j+1):=by
  intro j x hj;rw[List.getElem?_eraseIdx]at hj;split at hj
  ·rename_i h;exact⟨j,hj,by rw[if_pos h]⟩
  rename_i h;exact⟨j+1,hj,by rw[if_neg h]⟩
 refine⟨hs.below,hs.im,fun j x hj=>?_,fun j k x y Ey hj hk b Bo yl=>?_⟩
 ·obtain⟨j',AA,_⟩:=idx j x hj;exact hs.own j' x AA
 obtain⟨j',AA,e1⟩:=idx j x hj;obtain⟨k',Ki,e2⟩:=idx k y hk;refine hs.sep j' k' x y ?_ AA Ki b Bo yl;rw[e1,e2];split<;>split<;>omega
class El(α:Type) where
 k:Nat
 pos:0<k
 rc:G→List Value→α→Prop
 len: ∀{g cs x},rc g cs x→cs.length=k
 mono: ∀{g g':G} {cs x},g.le g'→rc g cs x→rc g' cs x
 one: ∀{g cs x},rc g cs x→ ∀c∈cs,c.oneCell'=true
def cY{α:Type}[El α](g:G):List Value→List α→Prop
 |cs,[]=>cs=[]
 |cs,x::xs=> ∃c1 c2,cs=c1++c2∧El.rc g c1 x∧cY g c2 xs
theorem cY.mono{α:Type}[El α]{g g':G}(hle:g.le g'): ∀{xs:List α} {cs},cY g cs xs→cY g' cs xs
 |[],_,h=>h
 |_::_,_,⟨c1,c2,e,h1,h2⟩=>⟨c1,c2,e,El.mono hle h1,cY.mono hle h2⟩
theorem cY.len{α:Type}[El α]{g:G}: ∀{xs:List α} {cs},cY g cs xs→cs.length=xs.length*El.k α
 |[],_,h=>by simp[show _=[]from h]
 |_::xs,_,⟨c1,c2,e,h1,h2⟩=>by rw[e,List.length_append,El.len h1,cY.len h2,List.length_cons,Nat.add_mul];omega
theorem cY.one{α:Type}[El α]{g:G}: ∀{xs:List α} {cs},cY g cs xs→ ∀c∈cs,c.oneCell'=true
 |[],_,h,c,hc=>by rw[show _=[]from h]at hc;cases hc
 |_::xs,_,⟨c1,c2,e,h1,h2⟩,c,hc=>by
  rw[e]at hc;rcases List.mem_append.1 hc with h|h
  ·exact El.one h1 c h
  exact cY.one h2 c h
theorem cY.app{α:Type}[El α]{g:G}{ys:List α}{ds}(hy:cY g ds ys): ∀{xs:List α} {cs},cY g cs xs→cY g (cs++ds) (xs++ys)
 |[],_,h=>by rw[show _=[]from h];exact hy
 |_::_,_,⟨c1,c2,e,h1,h2⟩=>⟨c1,c2++ds,by rw[e,List.append_assoc],h1,cY.app hy h2⟩
theorem cY.at{α:Type}[El α]{g:G}: ∀{xs:List α} {cs},cY g cs xs→ ∀{i:Nat} {x},xs[i]? =some x→ ∃ys,El.rc g ys x∧(∀(j:Nat) y,ys[j]? =some y→cs[i*El.k α+j]? =some y)∧ys.length=El.k α
 |[],_,_,i,x,hi=>by simp at hi
 |y::xs,_,⟨c1,c2,e,h1,h2⟩,0,x,hi=>by simp only[List.getElem?_cons_zero,Option.some.injEq]at hi;subst hi;refine⟨c1,h1,fun j z hz=>?_,El.len h1⟩;rw[e,Nat.zero_mul,Nat.zero_add,List.getElem?_append_left (List.getElem?_eq_some_iff.1 hz).1];exact hz
 |y::xs,_,⟨c1,c2,e,h1,h2⟩,i+1,x,hi=>by simp only[List.getElem?_cons_succ]at hi;obtain⟨ys,hr,hc,hl⟩:=cY.at h2 hi;refine⟨ys,hr,fun j z hz=>?_,hl⟩;have:=hc j z hz;rw[e,List.getElem?_append_right (by rw[El.len h1,Nat.add_mul];omega),El.len h1];rw[←this];congr 1;rw[Nat.add_mul];omega
theorem cY.drop{α:Type}[El α]{g:G}: ∀{xs:List α} {cs},cY g cs xs→ ∀i,cY g (cs.drop (i*El.k α)) (xs.drop i)
 |_,_,h,0=>by simpa using h
 |[],_,h,i+1=>by rw[show _=[]from h];simp[cY]
 |_::xs,_,⟨c1,c2,e,h1,h2⟩,i+1=>by have:=cY.drop h2 i;rw[e,List.drop_append];have hl:=El.len h1;rw[List.drop_of_length_le (by rw[hl,Nat.add_mul];omega),hl,List.nil_append,List.drop_succ_cons];rw[show(i+1)*El.k α-El.k α=i*El.k α from by rw[Nat.add_mul];omega];exact this
theorem cY.take{α:Type}[El α]{g:G}: ∀{xs:List α} {cs},cY g cs xs→ ∀i,cY g (cs.take (i*El.k α)) (xs.take i)
 |_,_,h,0=>by simp[cY]
 |[],_,h,i+1=>by rw[show _=[]from h];simp[cY]
 |_::xs,_,⟨c1,c2,e,h1,h2⟩,i+1=>by have:=cY.take h2 i;have hl:=El.len h1;refine⟨c1,c2.take (i*El.k α),?_,h1,this⟩;rw[e,List.take_append,List.take_of_length_le (by rw[hl,Nat.add_mul];omega),hl];rw[show(i+1)*El.k α-El.k α=i*El.k α from by rw[Nat.add_mul];omega]
def Rs{α:Type}[El α](g:G)(v:Value)(xs:List α):Prop:=
 ∃a n c,v= .slice a n c∧n=xs.length∧(n≤c∧c≤maxLen)∧(n=0∨ ∃b o cells,a=some ⟨b,o,none⟩∧g.im b∧cY g cells xs∧ ∀(j:Nat) y,cells[j]? =some y→g.w.cell? ⟨b,o+j,none⟩=some y)
theorem E_{g g':G}(hle:g.le g'){b o:Nat}{y:Value}(hb:g.im b)(h:g.w.cell? ⟨b,o,none⟩=some y):g'.w.cell? ⟨b,o,none⟩=some y:=
 (World.cell?_of_block (a:=⟨b,o,none⟩) (hle b hb).2).trans h
theorem Rs.mono{α:Type}[El α]{g g':G}{v:Value}{xs:List α}(hle:g.le g')(h:Rs g v xs):Rs g' v xs:=by
 obtain⟨a,n,c,e,hn,hc,h⟩:=h;refine⟨a,n,c,e,hn,hc,?_⟩;rcases h with h|⟨b,o,cells,ha,hb,hr,Cn⟩
 ·exact .inl h
 exact .inr ⟨b,o,cells,ha,(hle b hb).1,hr.mono hle,fun j y hy=>E_ hle hb (Cn j y hy)⟩
theorem Rs.nil{α:Type}[El α](g:G):Rs g (.slice none 0 0) ([]:List α):=⟨none,0,0,rfl,rfl,⟨Nat.le_refl _,Nat.zero_le _⟩,.inl rfl⟩
theorem Rs.isSlice{α:Type}[El α]{g:G}{v:Value}{xs:List α}(h:Rs g v xs): ∃a c,v= .slice a xs.length c:=by obtain⟨a,n,c,e,rfl,_⟩:=h;exact⟨a,c,e⟩
theorem Rs.ef{α:Type}[El α]{g:G}{v:Value}{xs:List α}(h:Rs g v xs):xs.length≤maxLen:=by obtain⟨a,n,c,e,rfl,hc,_⟩:=h;exact Nat.le_trans hc.1 hc.2
theorem Rs.mM{α:Type}[El α]{g:G}{a:Option Addr}{n c:Nat}{xs:List α}(h:Rs g (.slice a n c) xs):n=xs.length∧n≤c∧c≤maxLen:=by obtain⟨a,n,c,e,rfl,hc,_⟩:=h;simp only[Value.slice.injEq]at e;obtain⟨_,rfl,rfl⟩:=e;exact⟨rfl,hc⟩
instance:El Int where
 k:=1
 pos:=by omega
 rc _ cs n:=cs=[vI n]
 len h:=by rw[h];rfl
 mono _ h:=h
 one h:=by rw[h];simp[Value.oneCell']
instance:El Bool where
 k:=1
 pos:=by omega
 rc _ cs n:=cs=[.bool n]
 len h:=by rw[h];rfl
 mono _ h:=h
 one h:=by rw[h];simp[Value.oneCell']
instance{α:Type}[El α]:El (List α) where
 k:=1
 pos:=by omega
 rc g cs xs:=∃v,cs=[v]∧Rs g v xs
 len h:=by obtain⟨v,rfl,_⟩:=h;rfl
 mono hle h:=by obtain⟨v,rfl,hr⟩:=h;exact⟨v,rfl,hr.mono hle⟩
 one h:=by obtain⟨v,rfl,hr⟩:=h;obtain⟨a,c,rfl⟩:=hr.isSlice;simp[Value.oneCell']
theorem Row.rs{α:Type}[El α]{B:Nat}{e:TypeId}{v:Value}{n:Nat}{cells:List Value}{g g':G}{xs:List α}(h:Row B e (El.k α) v n cells g.w)(hr:cY g cells xs)(hle:g.le g')
  (hw: ∀b,sA v=some b→g'.im b∧g'.w.heap[b]? =g.w.heap[b]?):Rs g' v xs:=by
 have hl:=hr.len;have hn:n=xs.length:=by have:=h.1;have hp:=El.pos (α:=α);rw[hl]at this;exact(Nat.eq_of_mul_eq_mul_right hp this).symm
 rcases h.2 with⟨h0,a,rfl⟩|⟨b,off,cap,cur,rfl,hB,hh,pU,tJ,ph,T3⟩
 ·exact⟨a,0,0,rfl,by omega,⟨Nat.le_refl _,Nat.zero_le _⟩,.inl rfl⟩
 by_cases hc:cap=0
 ·exact⟨_,_,_,rfl,hn,⟨pU,tJ⟩,.inl (by omega)⟩
 have U9:=hw b (jU hc);refine⟨_,_,_,rfl,hn,⟨pU,tJ⟩,.inr ⟨b,off,cells,rfl,U9.1,hr.mono hle,fun j y hy=>?_⟩⟩;have hj:j<cells.length:=(List.getElem?_eq_some_iff.1 hy).1;have:cur[off+j]? =some y:=by rw[←T3,List.getElem?_take_of_lt (by rw[hl]at hj;rw[hn];exact hj),List.getElem?_drop,Array.getElem?_toList]at hy;exact hy
 exact(hh.of_eq U9.2).cell this
end Go.K
namespace Go.K
open Go Go.RowKit
variable {F:Fence} {P:Program} {N:Nat} {ds:List Deferred} {l l':Env} {a:Act} {w:World} {Q:Exit→Act→World→Prop} {ops:Array Oper} {os:List Oper} {o:Oper}
variable {g0 g:G} {L:List df} {K:Value→World→Prop}
def o9(ops:Array Oper)(l:Env)(gu:Option (Nat×Bool)):Option Bool:=
 match gu with
 |none=>some true
 |some (j,want)=>
  match(ops[j]?).bind (·.dst)with
  |none=>none
  |some d=>
   match lk l d with
   |some (.bool b)=>some (b==want)
   |some (.tuple _)=>some false
   |_=>none
theorem jW{o:Oper}{TP:Bool}(h:o9 ops l o.guard=some TP)(ha:Fr N ds l a):Region.wanted o (yielded ops a.tmps)=TP:=by
 unfold o9 at h;unfold Region.wanted yielded;cases hg:o.guard with
 |none=>simp only[hg,Option.some.injEq]at h;simp[←h]
 |some p=>
  obtain⟨j,want⟩:=p;simp only[hg]at h;cases hd:(ops[j]?).bind (·.dst)with
  |none=>simp[hd]at h
  |some d=>
   simp only[hd]at h;cases hl:lk l d with
   |none=>simp[hl]at h
   |some v=>
    have hv:=ha.get d v hl;cases v with
    |bool b=>
     simp only[hl,Option.some.injEq]at h;simp only[hd,Option.bind_some,hv];rw[←h];cases b<;>cases want<;>rfl
    |tuple vs=>
     simp only[hl,Option.some.injEq]at h;simp only[hd,Option.bind_some,hv];rw[←h];rfl
    |_=>simp[hl]at h
theorem xG{o:Oper}(hg:o9 ops l o.guard=some true)(hd:Qp N o.dst=true)
  (h:cS F P N ds o l w Q (fun v w'=>WL F P N ds ops Q os (pt o.dst v l) w')):WL F P N ds ops Q (o::os) l w:=by
 intro a ha;simp only[wpListIn,jW hg ha,if_true];exact Oper.wpIn_mono (fun a' w' ⟨v,he,hk⟩=>he▸hk _ (ha.put hd v)) (h a ha)
theorem th{o:Oper}(hF: ∀f,F.fn f)(hg:o9 ops l o.guard=some false)(hd:Qp N o.dst=true)
  (k:WL F P N ds ops Q os (pt o.dst undef l) w):WL F P N ds ops Q (o::os) l w:=by
 intro a ha;simp only[wpListIn,jW hg ha];exact⟨fun f _=>hF f,k _ (ha.put hd undef)⟩
variable {d:Nat} {op:Op} {ty:TypeId} {pos:String} {af:Array Edge} {gu:Option (Nat×Bool)}
theorem ak(hg:o9 ops l gu=some true)(hd:Nat.blt d N=true)(h:cS F P N ds ⟨some d,op,ty,pos,af,gu⟩ l w Q (fun v w'=>WL F P N ds ops Q os ((d,v)::l) w')):
  WL F P N ds ops Q (⟨some d,op,ty,pos,af,gu⟩::os) l w:=xG (o:=⟨some d,op,ty,pos,af,gu⟩) hg hd h
theorem bu(hg:o9 ops l gu=some true)(h:cS F P N ds ⟨none,op,ty,pos,af,gu⟩ l w Q (fun _ w'=>WL F P N ds ops Q os l w')):
  WL F P N ds ops Q (⟨none,op,ty,pos,af,gu⟩::os) l w:=xG (o:=⟨none,op,ty,pos,af,gu⟩) hg rfl h
theorem vf(w:World)(o:Obj)(r:Option Nat):w.grownBy (w.alloc o) r:=World.grownBy_alloc w o r
def G.al(g:G)(o:Obj):G:=⟨g.w.alloc o,g.im,fun b h=>by have:=g.lt b h;simp;omega⟩
theorem St.al(hs:St g0 g L)(o:Obj):St g0 (g.al o) (.obj g.w.heap.size o::L)∧g.le (g.al o):=
 hs.add (g':=g.al o) (vf _ _ _) (fun _ _=>Iff.rfl) ⟨hs.below.size,World.alloc_heap_new g.w o,fun h=>by have:=g.lt _ h;omega⟩ (fun b hb=>by simp only[df.vJ,Option.some.injEq]at hb;omega)
theorem aO{T:TypeId}{x:Operand}{v:Value}{cs:List Value}(ho:o.op= .box T x)(hs:St g0 g L)(hx:ev l x=some v)(ph:v.cells=cs.toArray)
  (k: ∀b g',St g0 g' (.obj b (.cells cs.toArray T (0,0))::L)→g.le g'→K (vP b) g'.w):cS F P N ds o l g.w Q K:=by
 refine bX (w':=(g.al (.cells cs.toArray T)).w) (fun c=>⟨by rw[ho];simp,by rw[ho];simp⟩) (fun a ha=>?_) (k _ _ (hs.al _).1 (hs.al _).2);simp[execOp,ho,ha.ev hx,Instr.box,newVar,newRow,ph];rfl
theorem aN{tb:Tb}(dE:tb.ok P){T:TypeId}{i:TI}{cs:List Value}(ho:o.op= .alloc T)(hs:St g0 g L)(hi:tl tb T=some i)(ph:i.zero.cells=cs.toArray)
  (k: ∀b g',St g0 g' (.obj b (.cells cs.toArray T (0,0))::L)→g.le g'→K (vP b) g'.w):cS F P N ds o l g.w Q K:=by
 obtain⟨_,inf,h1,_,_,h4⟩:=dE.at hi;refine bX (w':=(g.al (.cells cs.toArray T)).w) (fun c=>⟨by rw[ho];simp,by rw[ho];simp⟩) (fun a ha=>?_) (k _ _ (hs.al _).1 (hs.al _).2);simp[execOp,ho,Instr.alloc,newVar,newRow,zeroValue,typeInfo,h1,h4,ph];rfl
def wy:KD→Bool
 | .struct _=>true
 | .arr _ _=>true
 |_=>false
theorem jw{tb:Tb}(dE:tb.ok P){t:Nat}{i:TI}(hi:tl tb t=some i):(isAgg t).run P w= .ok (wy i.desc) w:=by obtain⟨⟨d,hu,he⟩,_⟩:=dE.at hi;rw[←he];simp only[isAgg,Sem.run_bind,run_underlying hu,Result.andThen_ok];cases d<;>rfl
def Ar(tb:Tb)(t:Nat)(cs:List Value)(off:Nat):Option Value:=
 match tl tb t with
 |some i=>bif wy i.desc then(bif Nat.ble (off+i.size) cs.length then some (.agg ((cs.drop off).take i.size).toArray)else none)else cs[off]?
 |none=>none
theorem jD{tb:Tb}(dE:tb.ok P){t:Nat}{cs:List Value}{off b o:Nat}{v:Value}(hv:Ar tb t cs off=some v)
  (hc: ∀(j:Nat) y,cs[j]? =some y→w.cell? ⟨b,o+j,none⟩=some y):(loadVar t ⟨b,o+off,none⟩).run P w= .ok v w:=by
 unfold Ar at hv;cases hi:tl tb t with
 |none=>simp[hi]at hv
 |some i=>
  simp only[hi]at hv;obtain⟨_,inf,h1,h2,_⟩:=dE.at hi;simp only[loadVar,Sem.run_bind,jw dE hi,Result.andThen_ok];cases Vd:wy i.desc with
  |true=>
   simp only[Vd,cond_true]at hv;cases hle:Nat.ble (off+i.size) cs.length with
   |false=>simp[hle]at hv
   |true=>
    have gB:off+i.size≤cs.length:=Nat.le_of_ble_eq_true hle;simp only[hle,cond_true,Option.some.injEq]at hv;subst hv;have:=run_loadCells_list (P:=P) w ⟨b,o+off,none⟩ ((cs.drop off).take i.size) (fun j y hy=>by
     have hj:j<i.size:=by have:=(List.getElem?_eq_some_iff.1 hy).1;simp at this;omega
     rw[List.getElem?_take_of_lt hj,List.getElem?_drop]at hy;have:=hc (off+j) y hy;simpa [Addr.add_lit,Nat.add_assoc]using this)
    rw[List.length_take,List.length_drop,Nat.min_eq_left (by omega)]at this;simp[sizeOf,typeInfo,h1,h2,this]
  |false=>
   simp only[Vd,cond_false]at hv;simp[hc off v hv]
theorem xH{tb:Tb}(dE:tb.ok P){t:Nat}{x:Operand}{cs:List Value}{off b p:Nat}{v:Value}(ho:o.op= .load t x)(hx:ev l x=some (.pointer (some ⟨b,p+off,none⟩)))
  (hc: ∀(j:Nat) y,cs[j]? =some y→w.cell? ⟨b,p+j,none⟩=some y) (hv:Ar tb t cs off=some v) (k:K v w):cS F P N ds o l w Q K:=by
 refine bX (fun c=>⟨by rw[ho];simp,by rw[ho];simp⟩) (fun a ha=>?_) k;simp[execOp,ho,ha.ev hx,Instr.loadAt,Instr.sureAddr,jD dE hv hc]
theorem lI{b:Nat}{cs:List Value}{T:TypeId}{fz:Nat×Nat}(h:w.heap[b]? =some (.cells cs.toArray T fz))(j:Nat)(y:Value)(hy:cs[j]? =some y):w.cell? ⟨b,0+j,none⟩=some y:=by simp[World.cell?,h,hy]
theorem cJ{tb:Tb}(dE:tb.ok P)(i:Nat){t:Nat}{x:Operand}{cs:List Value}{off b:Nat}{T:TypeId}{fz:Nat×Nat}{v:Value}(ho:o.op= .load t x)(hs:St g0 g L)
  (hi:L[i]? =some (.obj b (.cells cs.toArray T fz))) (hx:ev l x=some (.pointer (some ⟨b,off,none⟩)))
  (hv:Ar tb t cs off=some v) (k:K v g.w):cS F P N ds o l g.w Q K:=by
 have hh:=(hs.own i _ hi).2.1;rw[show off=0+off from(Nat.zero_add off).symm]at hx;exact xH dE ho hx (lI hh) hv k
def EP(g:G)(b o:Nat)(ys:List Value):Prop:=g.im b∧ ∀(j:Nat) y,ys[j]? =some y→g.w.cell? ⟨b,o+j,none⟩=some y
theorem EP.mono{g g':G}{b p:Nat}{ys:List Value}(h:EP g b p ys)(hle:g.le g'):EP g' b p ys:=⟨(hle b h.1).1,fun j y hy=>E_ hle h.1 (h.2 j y hy)⟩
theorem cI{tb:Tb}(dE:tb.ok P)(off:Nat){t:Nat}{x:Operand}{ys:List Value}{b p:Nat}{v:Value}(ho:o.op= .load t x)(he:EP g b p ys)
  (hx:ev l x=some (.pointer (some ⟨b,p+off,none⟩))) (hv:Ar tb t ys off=some v) (k:K v g.w):cS F P N ds o l g.w Q K:=
 xH dE ho hx he.2 hv k
def nr(cs:List Value)(off:Nat)(us:List Value):List Value:=cs.take off++us++cs.drop (off+us.length)
theorem tk{tb:Tb}(dE:tb.ok P){t:Nat}{i:TI}{us cs:List Value}{off b:Nat}{T:TypeId}{v:Value}(hi:tl tb t=some i)(hu:v.cells=us.toArray)(hl:us.length=i.size)
  (h1: ∀u∈us,u.oneCell'=true) (hh:gg w b cs.toArray T) (A3:off+us.length≤cs.length):
  (storeVar t ⟨b,off,none⟩ v).run P w= .ok () (w.setRow b (nr cs off us).toArray):=by
 obtain⟨_,inf,e1,e2,_⟩:=dE.at hi;have dI:=iN (P:=P) b off T us 0 cs.toArray w hh (by simpa using A3) h1;simp only[Nat.add_zero]at dI;simp[storeVar,sizeOf,typeInfo,e1,e2,hu,hl,dI,nr]
theorem lE(w:World)(b:Nat)(cs:Array Value):w.grownBy (w.setRow b cs) (some b):=by refine⟨rfl,rfl,rfl,by simp[World.setRow],fun k _ hk=>?_⟩;simp only[World.setRow,Array.getElem?_modify];rw[if_neg (fun e=>hk (congrArg some e.symm))]
def G.sr(g:G)(b:Nat)(cs:Array Value):G:=⟨g.w.setRow b cs,g.im,fun x h=>by have:=g.lt x h;simpa [World.setRow]using this⟩
theorem St.sr{i b:Nat}{cs cs':Array Value}{T:TypeId}{fz:Nat×Nat}(hs:St g0 g L)(hi:L[i]? =some (.obj b (.cells cs T fz))):
  St g0 (g.sr b cs') (L.set i (.obj b (.cells cs' T fz)))∧g.le (g.sr b cs'):=
 hs.Kp hi (lE _ _ _) (fun _ _=>Iff.rfl) ⟨(hs.own i _ hi).1,setRow_heap _ _ _ _ _ _ (hs.own i _ hi).2.1,(hs.own i _ hi).2.2⟩ (fun _ vH=> .inl vH)
theorem aw{tb:Tb}(dE:tb.ok P)(i:Nat){t:Nat}{ti:TI}{x y:Operand}{cs us cs':List Value}{off b:Nat}{T:TypeId}{v:Value}(ho:o.op= .store t x y)(hs:St g0 g L)
  (hi:L[i]? =some (.obj b (.cells cs.toArray T (0,0)))) (hx:ev l x=some (.pointer (some ⟨b,off,none⟩))) (hy:ev l y=some v)
  (ht:tl tb t=some ti) (hu:v.cells=us.toArray) (hl:us.length=ti.size) (h1:us.all Value.oneCell'=true) (A3:Nat.ble (off+us.length) cs.length=true) (ph:nr cs off us=cs')
  (k: ∀g',St g0 g' (L.set i (.obj b (.cells cs'.toArray T (0,0))))→g.le g'→K undef g'.w):cS F P N ds o l g.w Q K:=by
 subst ph;have dI:=hs.sr (cs':=(nr cs off us).toArray) hi;refine s_ (w':=(g.sr b (nr cs off us).toArray).w) (fun c=>⟨by rw[ho];simp,by rw[ho];simp⟩) (fun a ha=>?_) (k _ dI.1 dI.2);have:=tk (P:=P) (w:=g.w) dE ht hu hl (by simpa using h1) (.plain (hs.own i _ hi).2.1) (Nat.le_of_ble_eq_true A3);simp[execOp,ho,ha.ev hx,ha.ev hy,Instr.storeAt,Instr.sureAddr,this,G.sr]
def dJ{α:Type}(xs:List α)(i:Int):Option α:=if i<0 then none else xs[i.toNat]?
theorem nh{α:Type}{xs:List α}{i:Int}{x:α}(h:dJ xs i=some x):0≤i∧i.toNat<xs.length∧xs[i.toNat]? =some x:=by
 unfold dJ at h;split at h
 ·cases h
 exact⟨by omega,(List.getElem?_eq_some_iff.1 h).1,h⟩
theorem bZ{α:Type}{xs:List α}{n:Int}{j:Nat}(h:n=j)(hj:j<xs.length):dJ xs n=some xs[j]:=by
 subst h;have: ¬((j:Int)<0):=by omega
 simp[dJ,this,hj]
theorem qf{tb:Tb}(dE:tb.ok P){t e:Nat}{i j:TI}{kk:IntKind}{n c:Nat}{x:Int}{b off:Nat}(hi:tl tb t=some i)(hd:i.desc= .slice e)(hj:tl tb e=some j)
  (h0:0≤x) (hn:x.toNat<n):(Instr.indexAt t (.slice (some ⟨b,off,none⟩) n c) (.int kk x)).run P w= .ok (.pointer (some ⟨b,off+x.toNat*j.size,none⟩)) w:=by
 obtain⟨⟨dd,hu,he⟩,_⟩:=dE.at hi;rw[hd]at he;obtain rfl:=KD.of_slice he;obtain⟨_,inf,h1,h2,_⟩:=dE.at hj;have RM:x<(n:Int):=by omega
 simp[Instr.indexAt,asIntOf,run_underlying hu,h0,RM,sizeOf,typeInfo,h1,h2,Addr.add_lit]
theorem aR{α:Type}[El α]{tb:Tb}(dE:tb.ok P){t e:Nat}{i j:TI}{x ix:Operand}{v:Value}{xs:List α}{kk:IntKind}{n:Int}{y:α}(ho:o.op= .indexAddr t x ix)(hr:Rs g v xs)(hy:dJ xs n=some y)
  (hx:ev l x=some v) (Jd:ev l ix=some (.int kk n)) (hi:tl tb t=some i) (hd:i.desc= .slice e) (hj:tl tb e=some j) (hk:j.size=El.k α)
  (k: ∀b p ys,EP g b p ys→El.rc g ys y→K (.pointer (some ⟨b,p,none⟩)) g.w):cS F P N ds o l g.w Q K:=by
 obtain⟨h0,bt,uE⟩:=nh hy;obtain⟨ad,m,c,rfl,rfl,Zw,h⟩:=hr;rcases h with h|⟨b,p,cells,rfl,hb,hc,Cn⟩
 ·omega
 obtain⟨ys,gw,Nj,_⟩:=hc.at uE;refine bX (fun c=>⟨by rw[ho];simp,by rw[ho];simp⟩) (fun a ha=>?_) (k b (p+n.toNat*El.k α) ys ⟨hb,fun q u hu=>?_⟩ gw)
 ·simp only[execOp,ho,ha.ev hx,ha.ev Jd,Sem.run_bind,qf dE hi hd hj h0 bt,Result.andThen_ok,hk];rfl
 rw[Nat.add_assoc];exact Cn _ _ (Nj q u hu)
theorem eo{tb:Tb}(dE:tb.ok P){t e:Nat}{i j:TI}{x ix:Operand}{ad:Option Addr}{m c:Nat}{kk:IntKind}{n:Int}{B k0 q:Nat}{xs:List Value}(ho:o.op= .indexAddr t x ix)(hr:Row B e k0 (.slice ad m c) q xs g.w)
  (h0:0≤n) (bt:n.toNat<m) (hx:ev l x=some (.slice ad m c)) (Jd:ev l ix=some (.int kk n)) (hi:tl tb t=some i) (hd:i.desc= .slice e) (hj:tl tb e=some j) (hk:j.size=k0)
  (k: ∀b p,ad=some ⟨b,p,none⟩→K (.pointer (some ⟨b,p+n.toNat*k0,none⟩)) g.w):cS F P N ds o l g.w Q K:=by
 rcases hr.2 with⟨_,a,hv⟩|⟨b,p,cap,cur,hv,_⟩
 ·simp only[Value.slice.injEq]at hv;omega
 simp only[Value.slice.injEq]at hv;obtain⟨rfl,rfl,rfl⟩:=hv;refine bX (fun c=>⟨by rw[ho];simp,by rw[ho];simp⟩) (fun a ha=>?_) (k b p rfl);simp only[execOp,ho,ha.ev hx,ha.ev Jd,Sem.run_bind,qf dE hi hd hj h0 bt,Result.andThen_ok,hk];rfl
theorem Row.cell{B:Nat}{e:TypeId}{k b p m cap n:Nat}{xs:List Value}(h:Row B e k (.slice (some ⟨b,p,none⟩) m cap) n xs w)(j:Nat)(y:Value)(hy:xs[j]? =some y):w.cell? ⟨b,p+j,none⟩=some y:=by
 rcases h.2 with⟨h0,_⟩|⟨b',p',XI,cur,hv,_,hh,_,_,_,ht⟩
 ·have:=h.1;rw[h0,Nat.zero_mul]at this;rw[List.eq_nil_of_length_eq_zero this]at hy;simp at hy
 simp only[Value.slice.injEq,Option.some.injEq,Addr.mk.injEq,and_true]at hv;obtain⟨⟨rfl,rfl⟩,rfl,rfl⟩:=hv;have:cur[p+j]? =some y:=by
  rw[←ht]at hy;have bt:j<m*k:=by have:=(List.getElem?_eq_some_iff.1 hy).1;simp at this;omega
  rw[List.getElem?_take_of_lt bt,List.getElem?_drop,Array.getElem?_toList]at hy;exact hy
 exact hh.cell this
theorem fB{tb:Tb}(dE:tb.ok P)(off:Nat){B:Nat}{e:TypeId}{k0 b p m cap n:Nat}{xs:List Value}{t:Nat}{x:Operand}{v:Value}(ho:o.op= .load t x)(hr:Row B e k0 (.slice (some ⟨b,p,none⟩) m cap) n xs g.w)
  (hx:ev l x=some (.pointer (some ⟨b,p+off,none⟩))) (hv:Ar tb t xs off=some v) (k:K v g.w):cS F P N ds o l g.w Q K:=
 xH dE ho hx hr.cell hv k
end Go.K
namespace Go.K
open Go Go.RowKit
variable {F:Fence} {P:Program} {N:Nat} {ds:List Deferred} {l l':Env} {a:Act} {w:World} {Q:Exit→Act→World→Prop} {ops:Array Oper} {os:List Oper} {o:Oper}
variable {g0 g:G} {L:List df} {K:Value→World→Prop}
def Src(w:World)(ad:Option Addr)(m k:Nat)(news:List Value):Prop:=
 news.length=m*k∧(m=0∨ ∃b p,ad=some ⟨b,p,none⟩∧ ∀(j:Nat) u,news[j]? =some u→w.cell? ⟨b,p+j,none⟩=some u)
theorem Row.uD{B:Nat}{e:TypeId}{k:Nat}{v:Value}{n:Nat}{xs:List Value}(h:w.ownsRow B e k v n xs):Row B e k v n xs w:=by
 refine⟨h.1,?_⟩;rcases h.2 with⟨rfl,h0⟩|⟨g,cap,cur,rfl,hB,hh,hc,hm,hs,ht⟩
 ·exact .inl ⟨h0,none,rfl⟩
 exact .inr ⟨g,0,cap,cur,rfl,hB,.plain hh,hc,hm,by omega,by simpa using ht⟩
theorem jV(w:World)(r:Option Nat):w.grownBy w r:=⟨rfl,rfl,rfl,Nat.le_refl _,fun _ _ _=>rfl⟩
theorem L0{B:Nat}{e:TypeId}{k:Nat}{v:Value}{n:Nat}{xs:List Value}(h:w.ownsRow B e k v n xs)(b:Nat)(hb:sA v=some b):B≤b:=((Row.uD h).lt b hb).1
theorem xL{tb:Tb}(dE:tb.ok P){t e ty:Nat}{ti ei:TI}{k:Nat}(hi:tl tb t=some ti)(hd:ti.desc= .slice e)(hj:tl tb e=some ei)(hk:ei.size=k)(lK:0<k)(hz:ei.zero.cells.size=k)
  {B n m c:Nat} {v:Value} {xs news:List Value} {ad:Option Addr} (hr:Row B e k v n xs w) (hB:B≤w.heap.size) (iu:Src w ad m k news) (h1: ∀u∈news,u.oneCell'=true) (hb:(n+m)*ei.bytes≤140737488355328) (EJ:n+m≤maxLen):
  ∃v' w',(Builtin.append_ #[t,t] ty #[v,.slice ad m c]).run P w= .ok v' w'∧Row B e k v' (n+m) (xs++news) w'∧w.grownBy w' (sA v)∧(∀b,sA v'=some b→sA v=some b∨w.heap.size≤b):=by
 obtain⟨⟨dd,hu,he⟩,_⟩:=dE.at hi;rw[hd]at he;obtain rfl:=KD.of_slice he;obtain⟨_,inf,e1,e2,e3,e4⟩:=dE.at hj;have cK:inf.size=k:=by rw[e2,hk]
 by_cases hm:m=0
 ·subst hm;have zE:news=[]:=List.eq_nil_of_length_eq_zero (by simpa using iu.1);subst zE;refine⟨v,w,?_,by simpa using hr,jV _ _,fun b hb=> .inl hb⟩;have EB:(Builtin.firstCells inf.size 0 (.slice ad 0 c)).run P w= .ok #[] w:=by cases ad<;>simp[Builtin.firstCells,loadCells,loadCellsFrom]
  rcases hr.2 with⟨rfl,a',rfl⟩|⟨b,p,cap,cur,rfl,_,_,pU,_⟩
  ·cases a'<;>simp[Builtin.append_,run_underlying hu,sizeOf,typeInfo,e1,Builtin.lenOf,EB,storeCells]
  simp[Builtin.append_,run_underlying hu,sizeOf,typeInfo,e1,Builtin.lenOf,EB,pU,storeCells]
 obtain⟨hl,h⟩:=iu;obtain⟨b',p',rfl,Cn⟩:=h.resolve_left hm;have zE: ∀j u,news[j]? =some u→w.cell? ((⟨b',p',none⟩:Addr).add j)=some u:=fun j u hu=>by have:=Cn j u hu;simpa [Addr.add_lit]using this
 rcases hr.2 with⟨rfl,a',rfl⟩|⟨b,p,cap,cur,rfl,RT,hh,pU,tJ,ph,ht⟩
 ·have nv:xs=[]:=List.eq_nil_of_length_eq_zero (by simpa using hr.1);subst nv;cases a' with
  |none=>
   obtain⟨v',w',jX,eh,hg,_⟩:=run_append_own (P:=P) w w.heap.size t ty e inf ei.zero k ei.bytes hu e1 e4 cK e3 hz lK (.slice none 0 0) 0 [] (World.ownsRow_nil _ _ _ _) ⟨b',p',none⟩ m c news hl zE h1 EJ hb (Nat.le_refl _);have hR:=Row.uD eh;refine⟨v',w',jX,?_,hg,fun b hb=> .inr (hR.lt b hb).1⟩;refine⟨by simpa using hR.1,?_⟩;rcases hR.2 with hx|⟨b,p,cap,cur,rfl,h1,hx⟩
   ·exact .inl (by simpa using hx)
   exact .inr ⟨b,p,cap,cur,rfl,by omega,by simpa using hx⟩
  |some a'=>
   obtain⟨v',w',jX,eh,hg⟩:=run_append_arg_grows (P:=P) w t ty e inf ei.zero k ei.bytes hu e1 e4 cK e3 hz lK a' 0 0 [] (by simp) (by simp) ⟨b',p',none⟩ m c news hl zE (by omega) EJ hb;have hR:=Row.uD eh;refine⟨v',w',jX,?_,by rw[kT];exact hg,fun b hb=> .inr (hR.lt b hb).1⟩;refine⟨by simpa using hR.1,?_⟩;rcases hR.2 with hx|⟨b,p,cap,cur,rfl,h1,hx⟩
   ·exact .inl (by simpa using hx)
   exact .inr ⟨b,p,cap,cur,rfl,by omega,by simpa using hx⟩
 have so:=hr.1;by_cases zB:n+m≤cap
 ·have nS:cap≠0:=by omega
  have EB:=run_firstCells_some (P:=P) w k m ⟨b',p',none⟩ m c news hl zE;have A3:p+n*k+0+news.length≤cur.size:=by rw[ph,hl,Nat.add_zero,Nat.add_assoc,←Nat.add_mul];exact Nat.add_le_add_left (Nat.mul_le_mul_right k zB) p
  have dI:=iN (P:=P) b (p+n*k) e news 0 cur w hh A3 h1;simp only[Nat.add_zero]at dI;have Jn:(cur.toList.take (p+n*k)++news++cur.toList.drop (p+n*k+news.length)).toArray.size=cur.size:=by simp only[List.size_toArray,List.length_append,List.length_take,List.length_drop,Array.length_toList];omega
  refine⟨.slice (some ⟨b,p,none⟩) (n+m) cap,w.setRow b (cur.toList.take (p+n*k)++news++cur.toList.drop (p+n*k+news.length)).toArray,?_,⟨?_,.inr ⟨b,p,cap,_,rfl,RT,hh.set Jn,zB,tJ,Jn.trans ph,?_⟩⟩,?_,?_⟩
  ·simp[Builtin.append_,run_underlying hu,sizeOf,typeInfo,e1,Builtin.lenOf,zB,EB,Addr.add_lit,cK,dI]
  ·rw[List.length_append,so,hl,Nat.add_mul]
  ·have h2:p+n*k+news.length≤cur.toList.length:=by simpa using A3
   have bt:(cur.toList.take (p+n*k)).length=p+n*k:=by rw[List.length_take];omega
   have RU:(cur.toList.take (p+n*k)).drop p=xs:=by rw[←ht,List.drop_take];congr 1;omega
   rw[List.append_assoc,List.drop_append_of_le_length (by rw[bt];omega),RU,Nat.add_mul,←hl,←List.append_assoc];rw[List.take_append_of_le_length (by rw[List.length_append,so];exact Nat.le_refl _)];rw[List.take_of_length_le (by rw[List.length_append,so];exact Nat.le_refl _)]
  ·rw[jU nS];exact lE _ _ _
  intro x hx;left;rw[jU nS]at hx⊢;exact hx
 have holds: ∀j u,xs[j]? =some u→w.cell? ((⟨b,p,none⟩:Addr).add j)=some u:=fun j u hu=>by have:=hr.cell j u hu;simpa [Addr.add_lit]using this
 obtain⟨v',w',jX,eh,hg⟩:=run_append_arg_grows (P:=P) w t ty e inf ei.zero k ei.bytes hu e1 e4 cK e3 hz lK ⟨b,p,none⟩ n cap xs so holds ⟨b',p',none⟩ m c news hl zE (by omega) EJ hb;have hR:=Row.uD eh;refine⟨v',w',jX,⟨hR.1,?_⟩,⟨hg.os,hg.tape,hg.output,hg.size,fun q hq _=>hg.block q hq (by simp)⟩,fun b hb=> .inr (hR.lt b hb).1⟩;rcases hR.2 with hx|⟨b,p,cap,cur,rfl,h1,hx⟩
 ·exact .inl hx
 exact .inr ⟨b,p,cap,cur,rfl,by omega,hx⟩
theorem Row.form{B:Nat}{e:TypeId}{k:Nat}{v:Value}{n:Nat}{xs:List Value}(h:Row B e k v n xs w): ∃a c,v= .slice a n c:=by
 rcases h.2 with⟨rfl,a,rfl⟩|⟨b,p,cap,cur,rfl,_⟩
 ·exact⟨a,0,rfl⟩
 exact⟨_,_,rfl⟩
theorem bU{tb:Tb}(dE:tb.ok P)(i:Nat){t e:Nat}{ti ei:TI}{k:Nat}{s x:Operand}{n m c:Nat}{v:Value}{xs news:List Value}{ad:Option Addr}
  (ho:o.op= .call {callee:=.builtin .append,args:=#[s,x],argTypes:=#[t,t]}) (hs:St g0 g L) (hL:L[i]? =some (.row e k v n xs)) (hv:ev l s=some v) (hx:ev l x=some (.slice ad m c))
  (hi:tl tb t=some ti) (hd:ti.desc= .slice e) (hj:tl tb e=some ei) (hk:ei.size=k) (lK:0<k) (hz:ei.zero.cells.size=k)
  (iu:Src g.w ad m k news) (h1: ∀u∈news,u.oneCell'=true) (hb:(n+m)*ei.bytes≤140737488355328) (EJ:n+m≤maxLen)
  (kk: ∀a' c' g',St g0 g' (L.set i (.row e k (.slice a' (n+m) c') (n+m) (xs++news)))→g.le g'→K (.slice a' (n+m) c') g'.w):cS F P N ds o l g.w Q K:=by
 have eh:=hs.own i _ hL;obtain⟨v',w',jX,hR,hg,DD⟩:=xL (ty:=o.type) dE hi hd hj hk lK hz eh.1 hs.below.size iu h1 hb EJ (c:=c);obtain⟨a',c',rfl⟩:=hR.form;let g':G:=⟨w',g.im,fun b h=>Nat.lt_of_lt_of_le (g.lt b h) hg.size⟩
 have dI:=hs.Kp (g':=g') (e':=.row e k (.slice a' (n+m) c') (n+m) (xs++news)) hL hg (fun _ _=>Iff.rfl)
  ⟨hR,fun b hb hi=>by
   rcases DD b hb with h|h
   ·exact eh.2 b h hi
   have:=g.lt b hi;omega⟩ DD
 refine fZ ho (w':=w') (fun a ha=>?_) (kk a' c' g' dI.1 dI.2);simp[resolve,invoke,builtin,ha.ev hv,ha.ev hx,jX]
theorem Src.jx{α:Type}[El α]{ad:Option Addr}{m c:Nat}{xs:List α}(h:Rs g (.slice ad m c) xs):m=xs.length∧ ∃news,cY g news xs∧Src g.w ad m (El.k α) news:=by
 obtain⟨a,n,c',e,rfl,_,h⟩:=h;simp only[Value.slice.injEq]at e;obtain⟨rfl,rfl,rfl⟩:=e;refine⟨rfl,?_⟩;rcases h with h|⟨b,p,cells,rfl,hb,hr,hc⟩
 ·have:xs=[]:=List.eq_nil_of_length_eq_zero h;subst this;exact⟨[],rfl,by simp,.inl rfl⟩
 exact⟨cells,hr,hr.len,.inr ⟨b,p,rfl,hc⟩⟩
theorem Src.eI{B:Nat}{e:TypeId}{k m c n:Nat}{ad:Option Addr}{xs:List Value}(h:Row B e k (.slice ad m c) n xs w):m=n∧Src w ad m k xs:=by
 rcases h.2 with⟨rfl,a,e1⟩|⟨b,p,cap,cur,e1,_⟩
 ·simp only[Value.slice.injEq]at e1;obtain⟨rfl,rfl,rfl⟩:=e1;exact⟨rfl,by simpa using h.1,.inl rfl⟩
 simp only[Value.slice.injEq]at e1;obtain⟨rfl,rfl,rfl⟩:=e1;exact⟨rfl,h.1,.inr ⟨b,p,rfl,fun j u hu=>h.cell j u hu⟩⟩
theorem Row.nil(B:Nat)(e:TypeId)(k:Nat)(a:Option Addr)(w:World):Row B e k (.slice a 0 0) 0 [] w:=⟨by simp,.inl ⟨rfl,a,rfl⟩⟩
theorem St.eP(hs:St g0 g L)(e:TypeId)(k:Nat)(a:Option Addr):St g0 g (.row e k (.slice a 0 0) 0 []::L):=
 (hs.add (g':=g) (e':=.row e k (.slice a 0 0) 0 []) (jV _ _) (fun _ _=>Iff.rfl) ⟨Row.nil _ _ _ _ _,fun b hb=>by rw[kT]at hb;cases hb⟩ (fun b hb=>by simp only[df.vJ,kT]at hb;cases hb)).1
theorem zx(z:Array Value)(n:Nat)(_hz:0<z.size):(madeCells z (n*z.size)).toList=(List.replicate n z.toList).flatten:=by
 have key: ∀(k:Nat) (m:Nat),k=z.size→((List.range k).map (fun i=>z[(m*z.size+i) % z.size]!))=z.toList:=by
  intro k m hk;subst hk;apply List.ext_getElem?;intro j;rw[List.getElem?_map];by_cases hj:j<z.size
  ·rw[List.getElem?_range hj];have:(m*z.size+j) % z.size=j:=by rw[Nat.mul_comm,Nat.mul_add_mod];exact Nat.mod_eq_of_lt hj
   rw[Option.map_some,this,getElem!_pos z j hj,Array.getElem?_toList,Array.getElem?_eq_getElem hj]
  rw[List.getElem?_eq_none (by simpa using hj),List.getElem?_eq_none (by simpa using hj)];rfl
 induction n with
 |zero=>simp[madeCells]
 |succ n ih=>
  rw[Nat.add_mul,Nat.one_mul];simp only[madeCells,Array.toList_map,Array.toList_range]at ih⊢;rw[List.range_add,List.map_append,ih,List.map_map,List.replicate_succ',List.flatten_concat];congr 1;exact key z.size n rfl
theorem cY.replicate{α:Type}[El α]{cs:List Value}{x:α}(h:El.rc g cs x): ∀n,cY g (List.replicate n cs).flatten (List.replicate n x)
 |0=>rfl
 |n+1=>⟨cs,(List.replicate n cs).flatten,by simp[List.replicate_succ],h,cY.replicate h n⟩
theorem sJ{tb:Tb}(dE:tb.ok P){t e:Nat}{ti ei:TI}{k:Nat}{x y:Operand}{kl kc:IntKind}{n:Nat}(ho:o.op= .makeSlice t x y)(hs:St g0 g L)
  (hx:ev l x=some (.int kl (n:Int))) (hy:ev l y=some (.int kc (n:Int))) (hi:tl tb t=some ti) (hd:ti.desc= .slice e) (hj:tl tb e=some ei) (hk:ei.size=k) (lK:0<k) (hz:ei.zero.cells.size=k)
  (hb:ei.bytes*n≤281474976710656) (EJ:n≤maxLen)
  (kk: ∀b g',St g0 g' (.row e k (.slice (vA b) n n) n (List.replicate n ei.zero.cells.toList).flatten::L)→g.le g'→K (.slice (vA b) n n) g'.w):cS F P N ds o l g.w Q K:=by
 obtain⟨⟨dd,hu,he⟩,_⟩:=dE.at hi;rw[hd]at he;obtain rfl:=KD.of_slice he;obtain⟨_,inf,e1,e2,e3,e4⟩:=dE.at hj;have cK:inf.size=k:=by rw[e2,hk]
 obtain⟨w',jX,eh,hg⟩:=run_make_full (P:=P) g.w g0.w.heap.size t e inf ei.zero k hu e1 e4 cK kl kc n (by rw[e3];exact hb) EJ hs.below.size;have KP:(madeCells ei.zero.cells (n*k)).toList=(List.replicate n ei.zero.cells.toList).flatten:=by rw[←hz];exact zx _ _ (by omega)
 rw[KP]at eh;let g':G:=⟨w',g.im,fun b h=>Nat.lt_of_lt_of_le (g.lt b h) hg.size⟩
 have dI:=hs.add (g':=g') (e':=.row e k (.slice (vA g.w.heap.size) n n) n (List.replicate n ei.zero.cells.toList).flatten) hg (fun _ _=>Iff.rfl)
  ⟨Row.uD eh,fun b hb hi=>by obtain⟨a,n',c,e5,_,e6⟩:=lV hb;simp only[Value.slice.injEq,Option.some.injEq]at e5;obtain⟨rfl,_⟩:=e5;have:=g.lt b hi;simp only at e6;omega⟩
  (fun b hb=>by obtain⟨a,n',c,e5,_,e6⟩:=lV (v:=.slice (vA g.w.heap.size) n n) hb;simp only[Value.slice.injEq,Option.some.injEq]at e5;obtain⟨rfl,_⟩:=e5;simp only at e6;omega)
 refine bX (w':=w') (fun c=>⟨by rw[ho];simp,by rw[ho];simp⟩) (fun a ha=>?_) (kk _ g' dI.1 dI.2);simp[execOp,ho,ha.ev hx,ha.ev hy,jX]
theorem bE{tb:Tb}(dE:tb.ok P){t e len:Nat}{ti ei:TI}{k:Nat}{parts:Array (Nat×Operand)}{vs:List (Nat×Value)}{cells:List Value}(ho:o.op= .buildSlice t len parts)(hs:St g0 g L)
  (hp:vF l (parts.toList.map (·.2))=some (vs.map (·.2))) (vD:parts.toList.map (·.1)=vs.map (·.1)) (hi:tl tb t=some ti) (hd:ti.desc= .slice e) (hj:tl tb e=some ei) (hk:ei.size=k) (lK:0<k)
  (hlen:len*k≤16777216) (pP:Instr.fill (fun i=>some (i*k,k)) ((Array.range (len*k)).map (ei.zero.cells[· % ei.zero.cells.size]!)) vs=some cells.toArray) (fw:cells.length=len*k)
  (kk: ∀b g',St g0 g' (.row e k (.slice (vA b) len len) len cells::L)→g.le g'→K (.slice (vA b) len len) g'.w):cS F P N ds o l g.w Q K:=by
 obtain⟨⟨dd,hu,he⟩,_⟩:=dE.at hi;rw[hd]at he;obtain rfl:=KD.of_slice he;obtain⟨_,inf,e1,e2,e3,e4⟩:=dE.at hj;have cK:inf.size=k:=by rw[e2,hk]
 have hm:len≤maxLen:=by have:=Nat.le_trans (Nat.le_mul_of_pos_right len lK) hlen;unfold maxLen;omega
 have hR:Row g0.w.heap.size e k (.slice (vA g.w.heap.size) len len) len cells (g.al (.cells cells.toArray e)).w:=
  ⟨fw,.inr ⟨_,0,len,cells.toArray,rfl,hs.below.size,.plain (World.alloc_heap_new g.w _),Nat.le_refl _,hm,by simpa using fw,by simp[←fw]⟩⟩
 have dI:=hs.add (g':=g.al (.cells cells.toArray e)) (e':=.row e k (.slice (vA g.w.heap.size) len len) len cells) (vf _ _ _) (fun _ _=>Iff.rfl)
  ⟨hR,fun b hb hi=>by obtain⟨a,n',c,e5,_,e6⟩:=lV hb;simp only[Value.slice.injEq,Option.some.injEq]at e5;obtain⟨rfl,_⟩:=e5;have:=g.lt b hi;simp only at e6;omega⟩
  (fun b hb=>by obtain⟨a,n',c,e5,_,e6⟩:=lV (v:=.slice (vA g.w.heap.size) len len) hb;simp only[Value.slice.injEq,Option.some.injEq]at e5;obtain⟨rfl,_⟩:=e5;simp only at e6;omega)
 refine bX (w':=(g.al (.cells cells.toArray e)).w) (fun c=>⟨by rw[ho];simp,by rw[ho];simp⟩) (fun a ha=>?_) (kk _ _ dI.1 dI.2);have XK:(parts.map fun(i,x)=>(i,a.eval x)).toList=vs:=by
  have h2:=jh ha hp;simp only[Array.toList_map];rw[List.map_map]at h2;have h3:parts.toList.map (fun p=>(p.1,a.eval p.2))=(parts.toList.map (·.1)).zip (parts.toList.map (fun p=>a.eval p.2)):=by rw[List.zip_map']
  have h4:vs=(vs.map (·.1)).zip (vs.map (·.2)):=by rw[List.zip_map'];simp
  rw[h4,←vD,←h2];exact h3
 have hn: ¬(2^24<len*k):=by omega
 have MH:len*k=0→((Array.range (len*k)).map (ei.zero.cells[· % ei.zero.cells.size]!))=#[]:=fun h0=>by rw[h0];simp
 have aan:len*k=0→cells=[]:=fun h0=>List.eq_nil_of_length_eq_zero (by rw[fw,h0]);have Gs:List.map (fun x:Nat×Operand=>(x.fst,a.eval x.snd)) parts.toList=vs:=by rw[←XK];simp
 by_cases h0:len*k=0
 ·rw[MH h0]at pP;have FZ:Array.map (fun _:Nat=>(default:Value)) (Array.range 0)=#[]:=by simp
  simp only[execOp,ho];simp[Instr.buildSlice,run_underlying hu,sizeOf,typeInfo,e1,cK,h0,newRow];rw[FZ,Gs,pP];simp;rfl
 simp[execOp,ho,Instr.buildSlice,run_underlying hu,sizeOf,typeInfo,e1,e4,cK,h0,hn,newRow,zeroValue];rw[Gs,pP];simp;rfl
theorem L6{tb:Tb}(dE:tb.ok P){t e:Nat}{ti ei:TI}(hi:tl tb t=some ti)(hd:ti.desc= .slice e)(hj:tl tb e=some ei){ad:Option Addr}{n c:Nat}{lo hi':Option Value}{a b:Nat}
  (yk:(match lo with|some v=> ∃k,v= .int k (a:Int)|none=>a=0)) (tI:(match hi' with|some v=> ∃k,v= .int k (b:Int)|none=>b=n)) (h1:a≤b) (h2:b≤c):
  (Instr.sliceAt t (.slice ad n c) lo hi' none).run P w= .ok (.slice (if c=a then ad else ad.map (·.add (a*ei.size))) (b-a) (c-a)) w:=by
 obtain⟨⟨dd,hu,he⟩,_⟩:=dE.at hi;rw[hd]at he;obtain rfl:=KD.of_slice he;obtain⟨_,inf,e1,e2,_⟩:=dE.at hj;have V3:(0:Int)≤b∧(b:Int)≤c:=by omega
 have V4:(0:Int)≤a∧(a:Int)≤b:=by omega
 cases lo with
 |none=>
  have yk:a=0:=yk;subst yk;cases hi' with
  |none=>
   have tI:b=n:=tI;subst tI;simp[Instr.sliceAt,run_underlying hu,Instr.slice,Instr.sliceBounds,sizeOf,typeInfo,e1]
  |some v=>
   obtain⟨k,rfl⟩:=tI;simp[Instr.sliceAt,run_underlying hu,Instr.slice,Instr.sliceBounds,Instr.sliceBound,asIntOf,sizeOf,typeInfo,e1,h2]
 |some u=>
  obtain⟨k',rfl⟩:=yk;cases hi' with
  |none=>
   have tI:b=n:=tI;subst tI;simp[Instr.sliceAt,run_underlying hu,Instr.slice,Instr.sliceBounds,Instr.sliceBound,asIntOf,sizeOf,typeInfo,e1,e2,h1]
  |some v=>
   obtain⟨k,rfl⟩:=tI;simp[Instr.sliceAt,run_underlying hu,Instr.slice,Instr.sliceBounds,Instr.sliceBound,asIntOf,sizeOf,typeInfo,e1,e2,h1,h2]
theorem Rs.cut{α:Type}[El α]{ad:Option Addr}{n c a b:Nat}{xs:List α}(h:Rs g (.slice ad n c) xs)(h1:a≤b)(h2:b≤xs.length):
  Rs g (.slice (if c=a then ad else ad.map (·.add (a*El.k α))) (b-a) (c-a)) ((xs.take b).drop a):=by
 obtain⟨V5,n',c',e,rfl,pU,h⟩:=h;simp only[Value.slice.injEq]at e;obtain⟨rfl,rfl,rfl⟩:=e;refine⟨_,_,_,rfl,by simp;omega,⟨by omega,by omega⟩,?_⟩;by_cases Fh:b-a=0
 ·exact .inl Fh
 right;rcases h with h|⟨bb,p,cells,rfl,hb,hr,hc⟩
 ·omega
 have XQ: ¬c=a:=by omega
 rw[if_neg XQ];refine⟨bb,p+a*El.k α,(cells.take (b*El.k α)).drop (a*El.k α),by simp[Addr.add_lit],hb,(hr.take b).drop a,fun j y hy=>?_⟩;rw[List.getElem?_drop]at hy;have bt:=(List.getElem?_eq_some_iff.1 hy).1;rw[List.length_take]at bt;rw[List.getElem?_take_of_lt (by omega)]at hy;have:=hc _ _ hy;rw[Nat.add_assoc];exact this
theorem gV{tb:Tb}(dE:tb.ok P){t e:Nat}{ti ei:TI}{x:Operand}{lo hi':Option Operand}(ho:o.op= .slice t x lo hi' none)(hi:tl tb t=some ti)(hd:ti.desc= .slice e)(hj:tl tb e=some ei)
  {ad:Option Addr} {n c a b:Nat} (hx:ev l x=some (.slice ad n c)) (yk:(match lo with|some v=> ∃k,ev l v=some (.int k (a:Int))|none=>a=0)) (tI:(match hi' with|some v=> ∃k,ev l v=some (.int k (b:Int))|none=>b=n))
  (h1:a≤b) (h2:b≤c) (k:K (.slice (if c=a then ad else ad.map (·.add (a*ei.size))) (b-a) (c-a)) w):cS F P N ds o l w Q K:=by
 refine bX (fun c=>⟨by rw[ho];simp,by rw[ho];simp⟩) (fun ac ha=>?_) k;have hr:=L6 (P:=P) (w:=w) dE hi hd hj (ad:=ad) (n:=n) (c:=c) (lo:=lo.map ac.eval) (hi':=hi'.map ac.eval) (a:=a) (b:=b)
  (by cases lo with
   |none=>exact yk
   |some v=>obtain⟨k,hk⟩:=yk;exact⟨k,ha.ev hk⟩)
  (by cases hi' with
   |none=>exact tI
   |some v=>obtain⟨k,hk⟩:=tI;exact⟨k,ha.ev hk⟩) h1 h2
 simp[execOp,ho,ha.ev hx,hr]
theorem Row.cutFrom{B:Nat}{e:TypeId}{k n c a:Nat}{ad:Option Addr}{xs:List Value}(h:Row B e k (.slice ad n c) n xs w)(h1:a≤n):
  Row B e k (.slice (if c=a then ad else ad.map (·.add (a*k))) (n-a) (c-a)) (n-a) (xs.drop (a*k)) w:=by
 refine⟨by rw[List.length_drop,h.1,Nat.sub_mul],?_⟩;rcases h.2 with⟨rfl,a',e1⟩|⟨b,p,cap,cur,e1,hB,hh,pU,tJ,ph,ht⟩
 ·simp only[Value.slice.injEq]at e1;obtain⟨rfl,_,rfl⟩:=e1;obtain rfl:a=0:=by omega
  exact .inl ⟨rfl,ad,by simp⟩
 simp only[Value.slice.injEq]at e1;obtain⟨rfl,_,rfl⟩:=e1;by_cases XQ:c=a
 ·exact .inl ⟨by omega,_,by rw[show n-a=0 from by omega,show c-a=0 from by omega]⟩
 rw[if_neg XQ];refine .inr ⟨b,p+a*k,c-a,cur,by simp[Addr.add_lit],hB,hh,by omega,by omega,?_,?_⟩
 ·rw[ph,Nat.add_assoc,←Nat.add_mul];congr 2;omega
 rw[←ht,List.drop_take,List.drop_drop,Nat.sub_mul]
theorem Row.store{B:Nat}{e:TypeId}{k b p m cap n:Nat}{xs us:List Value}{off:Nat}(h:Row B e k (.slice (some ⟨b,p,none⟩) m cap) n xs w)(A3:off+us.length≤xs.length)(h0:0<us.length):
  ∃cur XR:List Value,gg w b cur.toArray e∧p+off+us.length≤cur.length∧Row B e k (.slice (some ⟨b,p,none⟩) m cap) n (nr xs off us) (w.setRow b (nr cur (p+off) us).toArray)∧cap≠0∧cur=XR:=by
 rcases h.2 with⟨RV,_⟩|⟨b',p',XI,cur,hv,hB,hh,pU,tJ,ph,ht⟩
 ·have:=h.1;rw[RV,Nat.zero_mul]at this;omega
 simp only[Value.slice.injEq,Option.some.injEq,Addr.mk.injEq,and_true]at hv;obtain⟨⟨rfl,rfl⟩,rfl,rfl⟩:=hv;have hl:cur.toList.length=p+cap*k:=by simpa using ph
 have so:=h.1;have Zw:m*k≤cap*k:=Nat.mul_le_mul_right k pU;have rK:cap≠0:=by intro h;subst h;simp at Zw;omega
 have Jn:(nr cur.toList (p+off) us).toArray.size=cur.size:=by simp only[nr,List.size_toArray,List.length_append,List.length_take,List.length_drop];omega
 refine⟨cur.toList,cur.toList,by simpa using hh,by omega,⟨?_,.inr ⟨b,p,cap,_,rfl,hB,hh.set Jn,pU,tJ,Jn.trans ph,?_⟩⟩,rK,rfl⟩
 ·simp only[nr,List.length_append,List.length_take,List.length_drop];omega
 apply List.ext_getElem?;intro j;rw[←ht];simp only[nr];by_cases hj:j<m*k
 ·rw[List.getElem?_take_of_lt hj,List.getElem?_drop];by_cases h1:j<off
  ·rw[List.append_assoc,List.getElem?_append_left (by rw[List.length_take];omega),List.getElem?_take_of_lt (by omega),
    List.append_assoc,List.getElem?_append_left (by rw[List.length_take,List.length_take,List.length_drop];omega),List.getElem?_take_of_lt h1,List.getElem?_take_of_lt hj,List.getElem?_drop]
  by_cases h2:j<off+us.length
  ·rw[List.append_assoc,List.getElem?_append_right (by rw[List.length_take];omega),List.getElem?_append_left (by rw[List.length_take];omega),
    List.append_assoc,List.getElem?_append_right (by rw[List.length_take,List.length_take,List.length_drop];omega),List.getElem?_append_left (by rw[List.length_take,List.length_take,List.length_drop];omega)]
   congr 1;rw[List.length_take,List.length_take,List.length_take,List.length_drop];omega
  rw[List.getElem?_append_right (by rw[List.length_append,List.length_take];omega),List.getElem?_drop,
   List.getElem?_append_right (by rw[List.length_append,List.length_take,List.length_take,List.length_drop];omega),List.getElem?_drop]
  simp only[List.length_append,List.length_take,List.length_drop];rw[List.getElem?_take_of_lt (by omega),List.getElem?_drop];congr 1;omega
 rw[List.getElem?_eq_none (by rw[List.length_take];omega),List.getElem?_eq_none (by simp only[List.length_append,List.length_take,List.length_drop];omega)]
theorem iA{tb:Tb}(dE:tb.ok P)(i:Nat)(off:Nat){t:Nat}{ti:TI}{x y:Operand}{e:TypeId}{k b p m cap n:Nat}{xs us xs':List Value}{v:Value}(ho:o.op= .store t x y)(hs:St g0 g L)
  (hi:L[i]? =some (.row e k (.slice (some ⟨b,p,none⟩) m cap) n xs)) (hx:ev l x=some (.pointer (some ⟨b,p+off,none⟩))) (hy:ev l y=some v)
  (ht:tl tb t=some ti) (hu:v.cells=us.toArray) (hl:us.length=ti.size) (h1:us.all Value.oneCell'=true) (h0:0<us.length) (A3:off+us.length≤xs.length) (ph:nr xs off us=xs')
  (kk: ∀g',St g0 g' (L.set i (.row e k (.slice (some ⟨b,p,none⟩) m cap) n xs'))→g.le g'→K undef g'.w):cS F P N ds o l g.w Q K:=by
 subst ph;have eh:=hs.own i _ hi;obtain⟨cur,_,hh,I7,hR,rK,_⟩:=eh.1.store A3 h0;have dI:=hs.Kp (g':=g.sr b (nr cur (p+off) us).toArray) (e':=.row e k (.slice (some ⟨b,p,none⟩) m cap) n (nr xs off us)) hi
  (by simp only[df.vJ,jU rK];exact lE _ _ _) (fun _ _=>Iff.rfl) ⟨hR,eh.2⟩ (fun b' vH=> .inl vH)
 refine s_ (w':=(g.sr b (nr cur (p+off) us).toArray).w) (fun c=>⟨by rw[ho];simp,by rw[ho];simp⟩) (fun a ha=>?_) (kk _ dI.1 dI.2);have:=tk (P:=P) (w:=g.w) dE ht hu hl (by simpa using h1) hh I7;simp[execOp,ho,ha.ev hx,ha.ev hy,Instr.storeAt,Instr.sureAddr,this,G.sr]
def ag(P:Program)(f:FuncId):Prop:=(P.funcs[f]?).map (fun fn=>(fn.name== "runtime.NumGoroutine",fn.body.isNone))=some (false,false)
theorem iO{f:FuncId}(h:ag P f)(args:Array Value):(callFunc f args).run P w= .ok (.enter f args) w:=by
 obtain⟨fn,hf,e⟩:=Option.map_eq_some_iff.1 h;simp only[Prod.mk.injEq]at e;have h1:fn.name≠ "runtime.NumGoroutine":=by simpa using e.1
 have h2:fn.body≠none:=by intro h;rw[h]at e;simp at e
 simp[callFunc,hf,h1,h2]
theorem pY{f:FuncId}(hc:ag P f)(hF: ∀f,F.fn f)(xz:F.depth=none){x:Operand}{args:Array Operand}{ts:Array TypeId}{first captured:Array Value}{vs aa:List Value}
  (ho:o.op= .call {callee:=.value x,args,argTypes:=ts}) (hx:ev l x=some (.func (.func f) first captured)) (ha:vF l args.toList=some vs) (has:first.toList++vs++captured.toList=aa)
  (h:CallsIn F 0 P f aa.toArray w fun e w'=> ∃v,e= .returned v∧K v w'):cS F P N ds o l w Q K:=by
 intro a E7;have Xz:first++vs.toArray++captured=aa.toArray:=by rw[←has];apply Array.ext';simp
 rw[←Xz]at h;unfold Oper.wpIn;refine⟨fun f _=>hF f,?_⟩;have rn:args.map a.eval=vs.toArray:=by apply Array.ext';simpa using jh E7 ha
 rw[Oper.semAt_eq _ _ _ (fun c e=>by rw[ho]at e;cases e)];have jX:(execOp a.eval o).run P w= .ok (.enter f (first++vs.toArray++captured)) w:=by simp only[execOp,ho,Sem.run_bind,resolve,E7.ev hx,Deferred.ofValue,Sem.run_pure,Result.andThen_ok,invoke,rn];exact iO hc _
 rw[jX];refine⟨fun h=>(by rw[xz]at h;cases h),?_⟩;refine CallsIn.mono h fun e w' ⟨v,he,hk⟩=>?_;subst he;exact⟨v,rfl,hk⟩
end Go.K
namespace Go.K
open Go Go.RowKit
structure Fact where
 p:Value→G→Prop
 mono: ∀v g g',a_ g g'→p v g→p v g'
def Fact.eq(x:Value):Fact:=⟨fun v _=>v=x,fun _ _ _ _ h=>h⟩
def Fact.any:Fact:=⟨fun _ _=>True,fun _ _ _ _ h=>h⟩
def Fact.rs{α:Type}[El α](xs:List α):Fact:=⟨fun v g=>Rs g v xs,fun _ _ _ hf h=>h.mono hf.le⟩
def Fact.ep(c:Nat→Nat→G→Prop)(hc: ∀b p g g',a_ g g'→c b p g→c b p g'):Fact:=
 ⟨fun v g=> ∃b p,v= .pointer (some ⟨b,p,none⟩)∧c b p g,fun _ _ _ hf ⟨b,p,e,h⟩=>⟨b,p,e,hc _ _ _ _ hf h⟩⟩
def gT(φs:List Fact)(i:Nat):Fact:=φs.getD i Fact.any
def ll(o:Oper):List Nat:=(o.after.toList.filter (Region.binds .any)).map (·.on)
def Fj(o:Oper):List Nat:=o.op.operands.toList.filterMap fun| .tmp t=>some t|_=>none
def dk(ops:Array Oper)(j:Nat):Option Nat:=(ops[j]?).bind (·.dst)
def eM(ops:Array Oper)(o:Oper):List (Nat×Nat):=
 (ll o).filterMap fun j=>
  match dk ops j with
  |some d=>bif (Fj o).contains d||(match o.guard with|some (g,_)=>g==j|none=>false)then some (j,d)else none
  |none=>none
def QA(φs:List Fact)(g:G):List (Nat×Nat)→Env→(Env→Prop)→Prop
 |[],l,k=>k l
 |(j,d)::r,l,k=> ∀v,(gT φs j).p v g→QA φs g r ((d,v)::l) k
variable (F:Fence) (P:Program) (N:Nat) (ds:List Deferred) (ops:Array Oper) (Q:Exit→Act→World→Prop) (φs:List Fact) (l0:Env) (gd:G)
def zw(i:Nat)(o:Oper):Prop:=
 ∀g',a_ gd g'→QA φs g' (eM ops o) l0 fun env=>
  match o9 ops env o.guard with
  |some true=>cS F P N ds o env g'.w Q fun v w'=> ∃dM,dM.w=w'∧a_ g' dM∧(gT φs i).p v dM
  |some false=>(gT φs i).p undef g'
  |none=>False
def iq:Nat→List Oper→Prop
 |_,[]=>True
 |i,o::os=>zw F P N ds ops Q φs l0 gd i o∧iq (i+1) os
def uA(m:Nat):Bool:=
 (List.range ops.size).all (fun i=>match ops[i]? with|some o=>(ll o).all (fun j=>Nat.blt j i)|none=>true)&&
 (List.range ops.size).all (fun j=>Nat.blt j m||(List.range j).all (fun k=>(List.range (j+1)).any (fun i=>Nat.blt k i&&(match ops[i]? with|some o=>(ll o).contains k|none=>false))))&&
 (List.range m).all (fun i=>match dk ops i with
  |some d=>Nat.blt d N&&(lk l0 d).isNone&&(List.range m).all (fun j=>j==i||(match dk ops j with|some e=>e !=d|none=>false))
  |none=>false)&&Nat.ble m ops.size
variable {F P N ds ops Q φs l0 gd}
theorem Fk{o:Oper}{j:Nat}:j∈ll o↔ ∃e∈o.after,Region.binds .any e=true∧e.on=j:=by
 unfold ll;rw[List.mem_map];constructor
 ·rintro⟨e,he,rfl⟩;rw[List.mem_filter]at he;exact⟨e,by simpa using he.1,he.2,rfl⟩
 rintro⟨e,he,hb,rfl⟩;exact⟨e,List.mem_filter.2 ⟨by simpa using he,hb⟩,rfl⟩
theorem fk{j:Nat}{listed:Array Bool}:j∈Region.ready .any ops listed↔listed.getD j true=false∧ ∃o,ops[j]? =some o∧ ∀k∈ll o,listed.getD k false=true:=by
 rw[mem_ready];constructor
 ·rintro⟨h0,o,ho,h⟩;refine⟨h0,o,ho,fun k hk=>?_⟩;obtain⟨e,he,hb,rfl⟩:=Fk.1 hk;exact h e he hb
 rintro⟨h0,o,ho,h⟩;exact⟨h0,o,ho,fun e he hb=>h _ (Fk.2 ⟨e,he,hb,rfl⟩)⟩
theorem getD_lt{listed:Array Bool}{j:Nat}(h:j<listed.size)(a b:Bool):listed.getD j a=listed.getD j b:=by simp[h]
theorem jg(h1: ∀i o,ops[i]? =some o→ ∀j∈ll o,j<i): ∀(fuel i:Nat) (listed:Array Bool) (a:Act) (w:World),listed.size=ops.size→i≤ops.size→(∀j o,i≤j→ops[j]? =some o→ ∀k,k<j→ ∃i' o',k<i'∧i'≤j∧ops[i']? =some o'∧k∈ll o')→
  (∀j,j<ops.size→(listed.getD j false=true↔j<i))→ops.size-i≤fuel→wpListIn F 0 P ops Q (ops.toList.drop i) a w→wpAnyIn F 0 P .any ops Q fuel listed a w:=by
 intro fuel
 induction fuel with
 |zero=>
  intro i listed a w cK hi _ hl hf h;have oh:i=ops.size:=by omega
  subst oh;have hr:Region.ready .any ops listed=[]:=by apply List.eq_nil_iff_forall_not_mem.2;intro j hj;obtain⟨h0,o,ho,_⟩:=fk.1 hj;have bt:j<ops.size:=(Array.getElem?_eq_some_iff.1 ho).1;rw[getD_lt (cK▸bt) true false]at h0;rw[(hl j bt).2 bt]at h0;cases h0
  rw[List.drop_of_length_le (by simp)]at h;exact⟨hr,h⟩
 |succ fuel ih=>
  intro i listed a w cK hi ht hl hf h;by_cases oh:i=ops.size
  ·subst oh;have hr:Region.ready .any ops listed=[]:=by apply List.eq_nil_iff_forall_not_mem.2;intro j hj;obtain⟨h0,o,ho,_⟩:=fk.1 hj;have bt:j<ops.size:=(Array.getElem?_eq_some_iff.1 ho).1;rw[getD_lt (cK▸bt) true false]at h0;rw[(hl j bt).2 bt]at h0;cases h0
   rw[List.drop_of_length_le (by simp)]at h;exact⟨fun _=>h,by rw[hr];simp⟩
  have bt:i<ops.size:=by omega
  have ho:ops[i]? =some ops[i]:=Array.getElem?_eq_getElem bt;have iD:i∈Region.ready .any ops listed:=by
   rw[fk];refine⟨?_,_,ho,fun k hk=>?_⟩
   ·rw[getD_lt (cK▸bt) true false];cases hc:listed.getD i false with
    |false=>rfl
    |true=>have:=(hl i bt).1 hc;omega
   have:=h1 i _ ho k hk;exact(hl k (by omega)).2 this
  refine⟨fun h0=>(by rw[h0]at iD;cases iD),fun j hj=>?_⟩;obtain⟨h0,o,pb,dj⟩:=fk.1 hj;have Ub:j<ops.size:=(Array.getElem?_eq_some_iff.1 pb).1;rw[getD_lt (cK▸Ub) true false]at h0;have R3:i≤j:=by
   rcases Nat.lt_or_ge j i with h|h
   ·rw[(hl j Ub).2 h]at h0;cases h0
   exact h
  have Gp:j=i:=by
   rcases Nat.lt_or_ge i j with h|h
   ·obtain⟨i',o2,h5,h6,h7,h8⟩:=ht j o R3 pb (j-1) (by omega);obtain rfl:i'=j:=by omega
    rw[pb]at h7;obtain rfl:=Option.some.inj h7;have:=(hl (i'-1) (by omega)).1 (dj _ h8);omega
   omega
  subst Gp;have hd:ops.toList.drop j=ops[j]::ops.toList.drop (j+1):=by rw[List.drop_eq_getElem_cons (by simpa using bt)];simp
  rw[hd]at h;have kU: ∀a' w',wpListIn F 0 P ops Q (ops.toList.drop (j+1)) a' w'→wpAnyIn F 0 P .any ops Q fuel (listed.setIfInBounds j true) a' w':=by
   intro a' w' h';refine ih (j+1) _ a' w' (by simpa using cK) (by omega) (fun j' o' AA=>ht j' o' (by omega)) (fun k hk=>?_) (by omega) h';by_cases Zz:k=j
   ·subst Zz;simp[cK,bt]
   have:(listed.setIfInBounds j true).getD k false=listed.getD k false:=by simp only[Array.getD_eq_getD_getElem?];rw[Array.getElem?_setIfInBounds_ne (fun e=>Zz e.symm)]
   rw[this,hl k hk];omega
  unfold wpOpIn;rw[ho];simp only;simp only[wpListIn]at h;split
  ·rename_i hw;rw[if_pos hw]at h;exact Oper.wpIn_mono kU h
  rename_i hw;rw[if_neg hw]at h;exact⟨h.1,kU _ _ h.2⟩
theorem kA{g:G}{a:Act}: ∀(js:List (Nat×Nat)) {l:Env} {k:Env→Prop},QA φs g js l k→Fr N ds l a→(∀p∈js,∃v,a.tmps[p.2]? =some v∧(gT φs p.1).p v g)→ ∃env,k env∧Fr N ds env a
 |[],l,k,h,ha,_=>⟨l,h,ha⟩
 |(j,d)::r,l,k,h,ha,hp=>by
  obtain⟨v,hv,hf⟩:=hp (j,d) (by simp);refine kA r (h v hf) ⟨ha.defers,ha.size,fun t u hu=>?_⟩ (fun p mh=>hp p (by simp[mh]));by_cases e:d=t
  ·subst e;rw[cZ]at hu;rw[←hu];exact hv
  rw[cq _ _ e]at hu;exact ha.get t u hu
theorem iq.at: ∀{l:List Oper} {i0:Nat},iq F P N ds ops Q φs l0 gd i0 l→ ∀(j:Nat) o,l[j]? =some o→zw F P N ds ops Q φs l0 gd (i0+j) o
 |[],_,_,j,o,h=>by simp at h
 |x::l,i0,hs,0,o,h=>by simp only[List.getElem?_cons_zero,Option.some.injEq]at h;subst h;exact hs.1
 |x::l,i0,hs,j+1,o,h=>by simp only[List.getElem?_cons_succ]at h;have:=iq.at hs.2 j o h;rw[show i0+(j+1)=i0+1+j from by omega];exact this
theorem Pq{id:Nat}{g:G}(hF: ∀f,F.fn f)(hm:P.follows .mixedOrders=true)(φs:List Fact)(m:Nat)(outs:List (Nat×Nat))(l_:uA N ops l0 m=true)
  (houts:outs.all (fun p=>Nat.blt p.1 m&&(dk ops p.1==some p.2))=true)
  (iC:iq F P N ds ops Q φs l0 g.dr 0 (ops.toList.take m))
  (kj: ∀g',a_ g.dr g'→QA φs g' outs l0 fun env=>WL F P N ds ops Q (ops.toList.drop m) env g'.w):W F P N ds (.region id ops true) Q l0 g.w:=by
 intro a ha;simp only[uA,Bool.and_eq_true,List.all_eq_true,List.mem_range]at l_;obtain⟨⟨⟨c1,c2⟩,c3⟩,c4⟩:=l_;have c4:m≤ops.size:=Nat.le_of_ble_eq_true c4;have k1: ∀i o,ops[i]? =some o→ ∀j∈ll o,j<i:=by intro i o ho j hj;have:=c1 i (Array.getElem?_eq_some_iff.1 ho).1;rw[ho]at this;have:=(List.all_eq_true.1 this) j hj;simpa [Nat.blt_eq]using this
 have k2: ∀j o,m≤j→ops[j]? =some o→ ∀k,k<j→ ∃i' o',k<i'∧i'≤j∧ops[i']? =some o'∧k∈ll o':=by
  intro j o hj ho k hk;have:=c2 j (Array.getElem?_eq_some_iff.1 ho).1;simp only[Bool.or_eq_true]at this;rcases this with h|h
  ·have:j<m:=by simpa [Nat.blt_eq]using h
   omega
  have:=(List.all_eq_true.1 h) k (List.mem_range.2 hk);obtain⟨i',h1,h2⟩:=List.any_eq_true.1 this;simp only[Bool.and_eq_true]at h2;have h3:=List.mem_range.1 h1;cases pb:ops[i']? with
  |none=>rw[pb]at h2;simp at h2
  |some o'=>
   rw[pb]at h2;exact⟨i',o',by simpa [Nat.blt_eq]using h2.1,by omega,pb,by simpa using h2.2⟩
 have k4: ∀(listed:Array Bool),(∀k o,listed.getD k false=true→ops[k]? =some o→ ∀e∈ll o,listed.getD e false=true)→ ∀j o,m≤j→ops[j]? =some o→(∀e∈ll o,listed.getD e false=true)→ ∀k,k<j→listed.getD k false=true:=by
  intro listed fw j o hj ho dj;have: ∀d k,k<j→j-k=d→listed.getD k false=true:=by
   intro d
   induction d using Nat.strongRecOn with
   |_ d Cc=>
    intro k hk hd;obtain⟨i',o',h1,h2,h3,h4⟩:=k2 j o hj ho k hk;rcases Nat.lt_or_ge i' j with h|h
    ·exact fw i' o' (Cc (j-i') (by omega) i' h rfl) h3 k h4
    obtain rfl:i'=j:=by omega
    rw[ho]at h3;obtain rfl:=Option.some.inj h3;exact dj k h4
  exact fun k hk=>this _ k hk rfl
 have k3: ∀i,i<m→ ∃d,dk ops i=some d∧d<N∧lk l0 d=none∧ ∀j,j<m→j≠i→ ∃e,dk ops j=some e∧e≠d:=by
  intro i hi;have:=c3 i hi;cases hd:dk ops i with
  |none=>simp[hd]at this
  |some d=>
   simp only[hd,Bool.and_eq_true,List.all_eq_true,List.mem_range,Bool.or_eq_true]at this;refine⟨d,rfl,by simpa [Nat.blt_eq]using this.1.1,by simpa using this.1.2,fun j hj eO=>?_⟩;rcases this.2 j hj with h|h
   ·exact absurd (by simpa using h) eO
   cases he:dk ops j with
   |none=>simp[he]at h
   |some e=>exact⟨e,rfl,by simpa [he]using h⟩
 refine wpIn_region_any hm ?_;have key: ∀(fuel:Nat) (listed:Array Bool) (a:Act) (g':G),listed.size=ops.size→a_ g.dr g'→Fr N ds l0 a→
   (∀i,i<m→listed.getD i false=true→ ∃d v,dk ops i=some d∧a.tmps[d]? =some v∧(gT φs i).p v g')→(∀j,m≤j→j<ops.size→listed.getD j false=false)→(∀k o,listed.getD k false=true→ops[k]? =some o→ ∀e∈ll o,listed.getD e false=true)→
   (ops.size-((List.range ops.size).filter fun i=>listed.getD i false).length≤fuel)→wpAnyIn F 0 P .any ops Q fuel listed a g'.w:=by
  intro fuel
  induction fuel with
  |zero=>
   intro listed a g' cK hf ha eC f_ fw td;have dj: ∀j,j<ops.size→listed.getD j false=true:=by
    have hlen:((List.range ops.size).filter fun i=>listed.getD i false).length=(List.range ops.size).length:=by have:=List.length_filter_le (fun i=>listed.getD i false) (List.range ops.size);simp only[List.length_range]at this⊢;omega
    have:=List.length_filter_eq_length_iff.1 hlen;intro j hj;exact this j (List.mem_range.2 hj)
   have F5:m=ops.size:=by
    rcases Nat.lt_or_ge m ops.size with h|h
    ·have:=f_ m (Nat.le_refl _) h;rw[dj m h]at this;cases this
    omega
   obtain⟨env,hW,gR⟩:=kA outs (kj g' hf) ha (fun p hp=>by
    have:=(List.all_eq_true.1 houts) p hp;simp only[Bool.and_eq_true,beq_iff_eq]at this;have bt:p.1<m:=by simpa [Nat.blt_eq]using this.1
    obtain⟨d,v,hd,hv,ke⟩:=eC p.1 bt (dj _ (by omega));rw[this.2]at hd;obtain rfl:=Option.some.inj hd;exact⟨v,hv,ke⟩)
   refine jg k1 0 ops.size listed a g'.w cK (Nat.le_refl _) (fun j o hj ho=>?_) (fun j hj=>⟨fun _=>hj,fun _=>dj j hj⟩) (by omega) (by rw[←F5];exact hW a gR);have:=(Array.getElem?_eq_some_iff.1 ho).1;omega
  |succ fuel ih=>
   intro listed a g' cK hf ha eC f_ fw td;by_cases gM: ∀j,j<m→listed.getD j false=true
   ·obtain⟨env,hW,gR⟩:=kA outs (kj g' hf) ha (fun p hp=>by
     have:=(List.all_eq_true.1 houts) p hp;simp only[Bool.and_eq_true,beq_iff_eq]at this;have bt:p.1<m:=by simpa [Nat.blt_eq]using this.1
     obtain⟨d,v,hd,hv,ke⟩:=eC p.1 bt (gM _ bt);rw[this.2]at hd;obtain rfl:=Option.some.inj hd;exact⟨v,hv,ke⟩)
    refine jg k1 (fuel+1) m listed a g'.w cK c4 (fun j o hj ho=>k2 j o hj ho) (fun j hj=>⟨fun h=>?_,fun h=>gM j h⟩) ?_ (hW a gR)
    ·rcases Nat.lt_or_ge j m with h'|h'
     ·exact h'
     rw[f_ j h' hj]at h;cases h
    have hle:((List.range ops.size).filter fun i=>listed.getD i false).length≤m:=by
     have oi:((List.range ops.size).filter fun i=>listed.getD i false).length≤((List.range ops.size).filter fun i=>decide (i<m)).length:=by
      refine List.Sublist.length_le ?_;rw[show((List.range ops.size).filter fun i=>listed.getD i false)=((List.range ops.size).filter fun i=>decide (i<m)).filter (fun i=>listed.getD i false)from ?_]
      ·exact List.filter_sublist
      rw[List.filter_filter];refine List.filter_congr fun i hi=>?_;have hi:=List.mem_range.1 hi;by_cases h:i<m
      ·simp[h]
      rw[f_ i (by omega) hi];simp
     have:((List.range ops.size).filter fun i=>decide (i<m)).length=m:=by
      have e:ops.size=m+(ops.size-m):=by omega
      rw[e,List.range_add,List.filter_append,List.length_append,List.filter_eq_self.2 (by intro x hx;simpa using hx),List.filter_eq_nil_iff.2 (by intro x hx;obtain⟨y,_,rfl⟩:=List.mem_map.1 hx;simp)];simp
     omega
    omega
   --qK of Bp first part is not listed:Bp least LS is ready
   have hex: ∃j,j<m∧listed.getD j false=false∧ ∀k,k<j→listed.getD k false=true:=by
    have: ∃j,j<m∧listed.getD j false=false:=by
     apply Classical.byContradiction;intro de;apply gM;intro j hj;cases hc:listed.getD j false with
     |true=>rfl
     |false=>exact absurd ⟨j,hj,hc⟩ de
    obtain⟨j,hj⟩:=this
    induction j using Nat.strongRecOn with
    |_ j LU=>
     by_cases hk: ∃k,k<j∧listed.getD k false=false
     ·obtain⟨k,rH,yA⟩:=hk;exact LU k rH ⟨by omega,yA⟩
     refine⟨j,hj.1,hj.2,fun k rH=>?_⟩;cases hc:listed.getD k false with
     |true=>rfl
     |false=>exact absurd ⟨k,rH,hc⟩ hk
   obtain⟨j0,Vb,Cd,sn⟩:=hex;have iD:j0∈Region.ready .any ops listed:=by
    rw[fk];have bt:j0<ops.size:=by omega
    refine⟨by rw[getD_lt (cK▸bt) true false];exact Cd,_,Array.getElem?_eq_getElem bt,fun k hk=>sn k (k1 j0 _ (Array.getElem?_eq_getElem bt) k hk)⟩
   refine⟨fun h0=>(by rw[h0]at iD;cases iD),fun i hi=>?_⟩;obtain⟨h0,o,ho,dj⟩:=fk.1 hi;have mV:i<ops.size:=(Array.getElem?_eq_some_iff.1 ho).1;rw[getD_lt (cK▸mV) true false]at h0;have p7:i<m:=by
    rcases Nat.lt_or_ge i m with h|h
    ·exact h
    have:=k4 listed fw i o h ho dj j0 (by omega);rw[Cd]at this;cases this
   obtain⟨d,hd,TS,TT,I8⟩:=k3 i p7;have sB:o.dst=some d:=by unfold dk at hd;rw[ho]at hd;exact hd
   have jT:=iC.at (i0:=0) i o (by rw[List.getElem?_take_of_lt p7];simpa using ho);rw[Nat.zero_add]at jT;have oj: ∀p∈eM ops o,∃v,a.tmps[p.2]? =some v∧(gT φs p.1).p v g':=by
    intro p hp;unfold eM at hp;obtain⟨j,hj,xx⟩:=List.mem_filterMap.1 hp;cases ym:dk ops j with
    |none=>simp[ym]at xx
    |some e=>
     simp only[ym]at xx;have LV:j<m:=by have:=k1 i o ho j hj;omega
     obtain⟨d',v,uB,hv,ke⟩:=eC j LV (dj j hj);rw[ym]at uB;obtain rfl:=Option.some.inj uB;cases hb:((Fj o).contains e||(match o.guard with|some (g,_)=>g==j|none=>false))with
     |false=>rw[hb]at xx;simp at xx
     |true=>
      rw[hb]at xx;simp only[cond_true,Option.some.injEq]at xx;subst xx;exact⟨v,hv,ke⟩
   obtain⟨env,hk,gR⟩:=kA (eM ops o) (jT g' hf) ha oj;have kU: ∀(a':Act) (dM:G) (v:Value),a'=a.put o.dst v→a_ g' dM→(gT φs i).p v dM→wpAnyIn F 0 P .any ops Q fuel (listed.setIfInBounds i true) a' dM.w:=by
    intro a' dM v he eR ke;have pd: ∀t,t≠d→a'.tmps[t]? =a.tmps[t]?:=fun t ht=>by rw[he,sB];simp only[Act.put];rw[Array.getElem?_setIfInBounds_ne (fun e=>ht e.symm)]
    have o3:a'.tmps[d]? =some v:=by rw[he,sB];simp only[Act.put];rw[Array.getElem?_setIfInBounds_self,if_pos (by rw[ha.size];exact TS)]
    have gL: ∀k,k≠i→(listed.setIfInBounds i true).getD k false=listed.getD k false:=fun k hk=>by simp only[Array.getD_eq_getD_getElem?];rw[Array.getElem?_setIfInBounds_ne (fun e=>hk e.symm)]
    have dF:(listed.setIfInBounds i true).getD i false=true:=by simp[cK,mV]
    refine ih _ a' dM (by simpa using cK) (hf.trans eR) ⟨by rw[he,sB];exact ha.defers,by rw[he,sB];simp[Act.put,ha.size],fun t u hu=>?_⟩ (fun k hk jG=>?_) (fun j hj I9=>?_) (fun k o' hk AR e he=>?_) ?_
    ·have Nu:t≠d:=fun e=>by subst e;rw[TT]at hu;cases hu
     rw[pd t Nu];exact ha.get t u hu
    ·by_cases j9:k=i
     ·subst j9;exact⟨d,v,hd,o3,ke⟩
     rw[gL k j9]at jG;obtain⟨d',v',uB,Ce,xy⟩:=eC k hk jG;obtain⟨e,KV,Nv⟩:=I8 k hk j9;rw[uB]at KV;obtain rfl:=Option.some.inj KV;exact⟨d',v',uB,by rw[pd d' Nv];exact Ce,(gT φs k).mono _ _ _ eR xy⟩
    ·rw[gL j (by omega)];exact f_ j hj I9
    ·have hle: ∀x,listed.getD x false=true→(listed.setIfInBounds i true).getD x false=true:=fun x hx=>by
      by_cases Bn:x=i
      ·subst Bn;exact dF
      rw[gL x Bn];exact hx
     by_cases j9:k=i
     ·subst j9;rw[ho]at AR;obtain rfl:=Option.some.inj AR;exact hle e (dj e he)
     rw[gL k j9]at hk;exact hle e (fw k o' hk AR e he)
    have bt:((List.range ops.size).filter fun k=>listed.getD k false).length<((List.range ops.size).filter fun k=>(listed.setIfInBounds i true).getD k false).length:=by
     have oi:List.Sublist ((List.range ops.size).filter fun k=>listed.getD k false) ((List.range ops.size).filter fun k=>(listed.setIfInBounds i true).getD k false):=by
      have e:((List.range ops.size).filter fun k=>listed.getD k false)=((List.range ops.size).filter fun k=>(listed.setIfInBounds i true).getD k false).filter (fun k=>listed.getD k false):=by
       rw[List.filter_filter];refine List.filter_congr fun k _=>?_;by_cases j9:k=i
       ·subst j9;rw[dF];simp
       rw[gL k j9];simp
      rw[e];exact List.filter_sublist
     refine Nat.lt_of_le_of_ne oi.length_le fun e=>?_;have:=oi.eq_of_length e;have sK:i∈((List.range ops.size).filter fun k=>(listed.setIfInBounds i true).getD k false):=List.mem_filter.2 ⟨List.mem_range.2 mV,dF⟩;rw[←this]at sK;have:=(List.mem_filter.1 sK).2;rw[h0]at this;cases this
    omega
   unfold wpOpIn;rw[ho];simp only;cases hg:o9 ops env o.guard with
   |none=>rw[hg]at hk;exact hk.elim
   |some b=>
    have mE:Region.wanted o (yielded ops a.tmps)=b:=jW (l:=env) (o:=o) hg gR;rw[hg]at hk;cases b with
    |true=>
     rw[if_pos mE];exact Oper.wpIn_mono (fun a' w' ⟨v,he,dM,hw,eR,ke⟩=>hw▸kU a' dM v he eR ke) (hk a gR)
    |false=>
     rw[if_neg (by rw[mE];simp)];exact⟨fun f _=>hF f,kU _ g' undef rfl (a_.refl _) hk⟩
 refine key ops.size _ a g.dr (by simp) (a_.refl _) ha (fun i hi hl=>?_) (fun j _ hj=>by simp[hj]) (fun k o hl=>?_) (by omega)
 ·simp only[Array.getD_eq_getD_getElem?,Array.getElem?_replicate]at hl;split at hl<;>simp at hl
 simp only[Array.getD_eq_getD_getElem?,Array.getElem?_replicate]at hl;split at hl<;>simp at hl
end Go.K
