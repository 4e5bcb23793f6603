/- Parts of the proof, from: Straight pieces of code in one step: pure operations, those that are not wanted, loads out of what is owned or no longer changes, by one computation. -/
import Derived.Test.YtkpojaffabjibaaGreatDoorYb
import Derived.Maps.RangeRun
import Derived.JoinedOf
import Derived.Shelf.Strings.BuilderK
import Derived.Laws.Externs
import Derived.Sort.OwnSortedInts
import Derived.ArgAppend
namespace Go.K
open Go Go.RowKit
class eE(P:Program) where
 tb:Tb
 ok:tb.ok P
 mixed:P.follows .mixedOrders=true
class lO(F:Fence):Prop where
 all: ∀f,F.fn f
 fn:F.fn=Wd.fn
 deep:F.depth=none
 alive:F.alive=false
instance:lO Wd:=⟨fun _=>trivial,rfl,rfl,rfl⟩
instance{r:Option Nat}:lO {Wd with round:=r}:=⟨fun _=>trivial,rfl,rfl,rfl⟩
inductive wV(P:Program)(g:G) where
 |o (i:Nat)
 |e {b p:Nat} {ys:List Value} (h:EP g b p ys) (off:Nat)
 |z {b:Nat} {ys:List Value} (h:EP g b 0 ys)
 |c {f:Nat} {aa:List Value} {v:Value} (hc:cS P f) (h: ∀g',g.le g'→CallsIn Wd 0 P f aa.toArray g'.w (ug g' fun _ r=>r=v))
variable {F:Fence} {P:Program} {N:Nat} {ds:List Deferred} {l l':Env} {a:Act} {w:World} {Q Q':Exit→Act→World→Prop} {ops:Array Oper} {os nP:List Oper} {o:Oper}
variable {g0 g:G} {L:List dc}
def Pk(tb:Tb)(l:Env)(L:List dc)(t:Nat)(x:Operand):wV P g→Option (Addr×Addr×Value)
 | .o i=>
  match L[i]? with
  |some (.obj b (.cells c _ _))=>
   match ev l x with
   |some (.pointer (some ad))=>
    match Ad tb t c.toList ad.off with
    |some v=>some (ad,⟨b,ad.off,none⟩,v)
    |none=>none
   |_=>none
  |_=>none
 | @wV.e _ _ b p ys _ off=>
  match ev l x with
  |some (.pointer (some ad))=>
   match Ad tb t ys off with
   |some v=>some (ad,⟨b,p+off,none⟩,v)
   |none=>none
  |_=>none
 | @wV.z _ _ b ys _=>
  match ev l x with
  |some (.pointer (some ad))=>
   match Ad tb t ys ad.off with
   |some v=>some (ad,⟨b,ad.off,none⟩,v)
   |none=>none
  |_=>none
 | .c .. =>none
def Lu(tb:Tb)(l:Env)(op:Op):Option Value:=
 match WI tb l op with
 |some v=>some v
 |none=>QO tb l op
def fN(tb:Tb)(ops:Array Oper)(N:Nat)(L:List dc):List (wV P g)→List Oper→Nat→Env→List Addr→List Addr→Option (List Addr×List Addr×List Oper×Env)
 |_,os,0,l,xs,ys=>some (xs,ys,os,l)
 |_,[],_+1,_,_,_=>none
 |hs,o::os,n+1,l,xs,ys=>
  match rP ops l o.guard with
  |none=>none
  |some false=>
   match o.dst with
   |some d=>bif Nat.blt d N then fN tb ops N L hs os n ((d,undef)::l) xs ys else none
   |none=>fN tb ops N L hs os n l xs ys
  |some true=>
   match o.dst with
   |none=>none
   |some d=>bif Nat.blt d N then
     match o.op with
     | .load t x=>
      match hs with
      |[]=>none
      |h::hr=>
       match Pk tb l L t x h with
       |some (p,q,v)=>fN tb ops N L hr os n ((d,v)::l) (p::xs) (q::ys)
       |none=>none
     |op=>
      match Lu tb l op with
      |some v=>fN tb ops N L hs os n ((d,v)::l) xs ys
      |none=>none
    else none
theorem yI{K:Value→World→Prop}{tb:Tb}(dS:tb.ok P){t:Nat}{x:Operand}{ys:List Value}{b off:Nat}{v:Value}(ho:o.op= .load t x)(he:EP g b 0 ys)
  (hx:ev l x=some (.pointer (some ⟨b,off,none⟩))) (hv:Ad tb t ys off=some v) (k:K v g.w):cQ F P N ds o l g.w Q K:=
 cu dS off (p:=0) ho he (by rw[abo];exact hx) hv k
theorem Hc{tb:Tb}(dS:tb.ok P)(hs:St g0 g L){t:Nat}{x:Operand}{h:wV P g}{p:Addr}{v:Value}{K:Value→World→Prop}(ho:o.op= .load t x)(hl:Pk tb l L t x h=some (p,p,v))(k:K v g.w):
  cQ F P N ds o l g.w Q K:=by
 cases h with
 |o i=>
  simp only[Pk]at hl;split at hl
  ·rename_i b c E fz hi;split at hl
   ·rename_i ad hx;split at hl
    ·rename_i u hv;simp only[aau,aaB]at hl;obtain⟨rfl,h2,rfl⟩:=hl;have hx':ev l x=some (.pointer (some ⟨b,ad.off,none⟩)):=by rw[hx,h2]
     exact cJ dS i (cs:=c.toList) ho hs (by simpa using hi) hx' hv k
    cases hl
   cases hl
  cases hl
 | @e b q ys he off=>
  simp only[Pk]at hl;split at hl
  ·rename_i ad hx;split at hl
   ·rename_i u hv;simp only[aau,aaB]at hl;obtain⟨rfl,h2,rfl⟩:=hl;exact cu dS off ho he (by rw[hx,h2]) hv k
   cases hl
  cases hl
 | @z b q he=>
  simp only[Pk]at hl;split at hl
  ·rename_i ad hx;split at hl
   ·rename_i u hv;simp only[aau,aaB]at hl;obtain⟨rfl,h2,rfl⟩:=hl;exact yI dS ho he (off:=ad.off) (by rw[hx,h2]) hv k
   cases hl
  cases hl
 |c hc h=>simp[Pk]at hl
theorem zj{tb:Tb}(dS:tb.ok P){v:Value}{K:Value→World→Prop}(h:Lu tb l o.op=some v)(k:K v w):cQ F P N ds o l w Q K:=by
 unfold Lu at h;split at h
 ·rename_i u hu;simp only[aau]at h;subst h;exact bR tb dS hu k
 exact Bi tb dS h k
def YZ:Op→Bool
 | .load .. =>true
 | .call {callee:=.value _,..}=>true
 |_=>false
def D_(tb:Tb)(l:Env)(L:List dc)(op:Op)(h:wV P g):Option (Value×Value×Value):=
 match h with
 | @wV.c _ _ f aa v _ _=>
  match op with
  | .call {callee:=.value x,args,argTypes:=_}=>
   match ev l x with
   |some (.func (.func f') first cap)=>
    match xv l args.toList with
    |some vs=>some (.func (.func f') #[] (first.toList++vs++cap.toList).toArray,.func (.func f) #[] aa.toArray,v)
    |none=>none
   |_=>none
  |_=>none
 |h=>
  match op with
  | .load t x=>
   match Pk tb l L t x h with
   |some (p,q,v)=>some (.pointer (some p),.pointer (some q),v)
   |none=>none
  |_=>none
def wV.mono{g':G}(h:wV P g)(hle:g.le g'):wV P g':=
 match h with
 | .o i=> .o i
 | .e h off=> .e (h.mono hle) off
 | .z h=> .z (h.mono hle)
 | .c hc h=> .c hc fun g2 h2=>h g2 (hle.trans h2)
theorem F4{g':G}{tb:Tb}{op:Op}(h:wV P g)(hle:g.le g'):D_ tb l L op (h.mono hle)=D_ tb l L op h:=by cases h<;>rfl
theorem Lv{tb:Tb}(dS:tb.ok P)(hA:lO F)(hs:St g0 g L){h:wV P g}{p:Value}{v:Value}{K:Value→World→Prop}(hl:D_ tb l L o.op h=some (p,p,v))(k: ∀g',bW g g'→K v g'.w):
  cQ F P N ds o l g.w Q K:=by
 have ld: ∀h:wV P g,(match o.op with
   | .load t x=>match Pk tb l L t x h with
    |some (p,q,v)=>some (Value.pointer (some p),Value.pointer (some q),v)
    |none=>none
   |_=>none)=some (p,p,v)→cQ F P N ds o l g.w Q K:=by
  intro h hl;split at hl
  ·rename_i t x ho;split at hl
   ·rename_i p' q' v' Lk;simp only[aau,aaB]at hl;obtain⟨h1,h2,rfl⟩:=hl;rw[←h1]at h2;obtain rfl:q'=p':=by simpa using h2
    exact Hc dS hs ho Lk (k g (bW.refl g))
   cases hl
  cases hl
 cases h with
 |o i=>exact ld _ hl
 |e he off=>exact ld _ hl
 |z he=>exact ld _ hl
 | @c f aa v' hc qS=>
  simp only[D_]at hl;split at hl
  ·rename_i x args ts ho;split at hl
   ·rename_i f' first cap hx
    split at hl
    ·rename_i vs WV;simp only[aau,aaB]at hl;obtain⟨h1,h2,rfl⟩:=hl;rw[←h1]at h2;simp only[Value.func.injEq,Fn.func.injEq,true_and]at h2;obtain⟨h3,h4⟩:=h2;have h4:aa=first.toList++vs++cap.toList:=by simpa using h4
     subst h4;subst h3;refine bu hc hA.all hA.deep ho hx WV rfl (CallsIn.nB hA.fn hA.deep hA.alive (qS g (G.le.refl g))) fun g' r hf hr=>?_;subst hr;exact k g' hf
    cases hl
   cases hl
  cases hl
theorem q7{tb:Tb}(dS:tb.ok P)(hF: ∀f,F.fn f)(dj:St g0 g L): ∀(n:Nat) (hs:List (wV P g)) (os:List Oper) (l:Env) (xs ys rs ts:List Addr) (nP:List Oper) (l':Env),
  fN tb ops N L hs os n l xs ys=some (rs,ts,nP,l')→ ∃zs us,rs=zs++xs∧ts=us++ys∧zs.length=us.length∧(zs=us→WL F P N ds ops Q nP l' g.w→WL F P N ds ops Q os l g.w)
 |0,hs,os,l,xs,ys,rs,ts,nP,l',h=>by simp only[fN,aau,aaB]at h;obtain⟨rfl,rfl,rfl,rfl⟩:=h;exact⟨[],[],rfl,rfl,rfl,fun _ k=>k⟩
 |n+1,hs,[],l,xs,ys,rs,ts,nP,l',h=>by simp[fN]at h
 |n+1,hs,o::os,l,xs,ys,rs,ts,nP,l',h=>by
  simp only[fN]at h;split at h
  ·cases h
  ·rename_i hg;split at h
   ·rename_i d hd;cases hb:Nat.blt d N with
    |false=>simp[hb]at h
    |true=>
     simp only[hb,cond_true]at h;obtain⟨zs,us,e1,e2,e3,k⟩:=q7 dS hF dj n _ _ _ _ _ _ _ _ _ h;refine⟨zs,us,e1,e2,e3,fun hz hk=>u0 hF hg (by rw[hd];exact hb) ?_⟩;rw[hd];exact k hz hk
   rename_i hd;obtain⟨zs,us,e1,e2,e3,k⟩:=q7 dS hF dj n _ _ _ _ _ _ _ _ _ h;refine⟨zs,us,e1,e2,e3,fun hz hk=>u0 hF hg (by rw[hd];rfl) ?_⟩;rw[hd];exact k hz hk
  rename_i hg;split at h
  ·cases h
  rename_i d hd;cases hb:Nat.blt d N with
  |false=>simp[hb]at h
  |true=>
   simp only[hb,cond_true]at h;split at h
   ·rename_i t x ho;split at h
    ·cases h
    rename_i s hr;split at h
    ·rename_i p q v hl;obtain⟨zs,us,e1,e2,e3,k⟩:=q7 dS hF dj n _ _ _ _ _ _ _ _ _ h;refine⟨zs++[p],us++[q],by rw[e1];simp,by rw[e2];simp,by simp[e3],fun hz hk=>?_⟩;obtain⟨WR,hz2⟩:=List.append_inj hz e3;obtain rfl:p=q:=by simpa using hz2
     refine zh hg (by rw[hd];exact hb)<|Hc dS dj ho hl ?_;rw[hd];exact k WR hk
    cases h
   rename_i op hop;split at h
   ·rename_i v hv;obtain⟨zs,us,e1,e2,e3,k⟩:=q7 dS hF dj n _ _ _ _ _ _ _ _ _ h;refine⟨zs,us,e1,e2,e3,fun hz hk=>zh hg (by rw[hd];exact hb) (zj dS hv ?_)⟩;rw[hd];exact k hz hk
   cases h
theorem Wm[eE P][lO F](n:Nat)(ss:List (wV P g))(hs:St g0 g L){xs:List Addr}(h:fN (eE.tb P) ops N L ss os n l [] []=some (xs,xs,nP,l'))(k:WL F P N ds ops Q nP l' g.w):WL F P N ds ops Q os l g.w:=by obtain⟨zs,us,e1,e2,_,f⟩:=q7 (F:=F) (P:=P) (ds:=ds) (Q:=Q) eE.ok lO.all hs n ss os l [] [] xs xs nP l' h;simp only[aaI]at e1 e2;exact f (e1.symm.trans e2) k
theorem zk{α:Type}: ∀{l:List (α×α)},l.map Prod.fst=l.map Prod.snd→ ∀p∈l,p.1=p.2
 |[],_,p,h=>by simp at h
 |x::l,e,p,h=>by
  simp only[aa8,ab1]at e;rcases aav.1 h with rfl|h
  ·exact e.1
  exact zk e.2 p h
def q8(tb:Tb)(ops:Array Oper)(N:Nat):List Oper→Nat→Env→Option (List Oper×Env)
 |os,0,l=>some (os,l)
 |[],_+1,_=>none
 |o::os,n+1,l=>
  match rP ops l o.guard with
  |none=>none
  |some false=>
   match o.dst with
   |some d=>bif Nat.blt d N then q8 tb ops N os n ((d,undef)::l)else none
   |none=>q8 tb ops N os n l
  |some true=>
   match o.dst with
   |none=>none
   |some d=>bif Nat.blt d N then
     match Lu tb l o.op with
     |some v=>q8 tb ops N os n ((d,v)::l)
     |none=>none
    else none
theorem u4{tb:Tb}(dS:tb.ok P)(hF: ∀f,F.fn f): ∀(n:Nat) (os:List Oper) (l:Env) (nP:List Oper) (l':Env),
  q8 tb ops N os n l=some (nP,l')→WL F P N ds ops Q nP l' w→WL F P N ds ops Q os l w
 |0,os,l,nP,l',h,k=>by simp only[q8,aau,aaB]at h;obtain⟨rfl,rfl⟩:=h;exact k
 |n+1,[],l,nP,l',h,k=>by simp[q8]at h
 |n+1,o::os,l,nP,l',h,k=>by
  simp only[q8]at h;split at h
  ·cases h
  ·rename_i hg;split at h
   ·rename_i d hd;cases hb:Nat.blt d N with
    |false=>simp[hb]at h
    |true=>
     simp only[hb,cond_true]at h;refine u0 hF hg (by rw[hd];exact hb) ?_;rw[hd];exact u4 dS hF n _ _ _ _ h k
   rename_i hd;refine u0 hF hg (by rw[hd];rfl) ?_;rw[hd];exact u4 dS hF n _ _ _ _ h k
  rename_i hg;split at h
  ·cases h
  rename_i d hd;cases hb:Nat.blt d N with
  |false=>simp[hb]at h
  |true=>
   simp only[hb,cond_true]at h;split at h
   ·rename_i v hv;refine zh hg (by rw[hd];exact hb)<|zj dS hv ?_;rw[hd];exact u4 dS hF n _ _ _ _ h k
   cases h
theorem Wp[eE P][lO F](n:Nat)(h:q8 (eE.tb P) ops N os n l=some (nP,l'))(k:WL F P N ds ops Q nP l' w):WL F P N ds ops Q os l w:=
 u4 eE.ok lO.all n os l nP l' h k
variable {id:Nat} {y:Code}
theorem cO(h:WL F P N ds ops (Exit.then (y.wpIn F 0 P Q) Q) ops.toList l w):W F P N ds (.seq (.region id ops false) y) Q l w:=ak (ah h)
theorem bE(h:W F P N ds y Q' l w):WL F P N ds ops (Exit.then (y.wpIn F 0 P Q') Q) [] l w:=an (ai h)
theorem aD[eE P][lO F](h:q8 (eE.tb P) ops N ops.toList ops.toList.length l=some ([],l'))(k:W F P N ds y Q l' w):W F P N ds (.seq (.region id ops false) y) Q l w:=cO (Wp _ h (bE k))
theorem ck[eE P][lO F](n:Nat)(h:q8 (eE.tb P) ops N ops.toList n l=some (nP,l'))(k:WL F P N ds ops (Exit.then (y.wpIn F 0 P Q) Q) nP l' w):W F P N ds (.seq (.region id ops false) y) Q l w:=cO (Wp _ h k)
theorem aF[eE P][lO F](h:q8 (eE.tb P) ops N os os.length l=some ([],l'))(k:W F P N ds y Q' l' w):WL F P N ds ops (Exit.then (y.wpIn F 0 P Q') Q) os l w:=Wp _ h (bE k)
theorem Ja[eE P][lO F](ss:List (wV P g))(hs:St g0 g L){xs:List Addr}(h:fN (eE.tb P) ops N L ss ops.toList ops.toList.length l [] []=some (xs,xs,[],l'))(k:W F P N ds y Q l' g.w):W F P N ds (.seq (.region id ops false) y) Q l g.w:=cO (Wm _ ss hs h (bE k))
theorem jd[eE P][lO F](n:Nat)(ss:List (wV P g))(hs:St g0 g L){xs:List Addr}(h:fN (eE.tb P) ops N L ss ops.toList n l [] []=some (xs,xs,nP,l'))(k:WL F P N ds ops (Exit.then (y.wpIn F 0 P Q) Q) nP l' g.w):W F P N ds (.seq (.region id ops false) y) Q l g.w:=cO (Wm _ ss hs h k)
theorem Zz[eE P][lO F](ss:List (wV P g))(hs:St g0 g L){xs:List Addr}(h:fN (eE.tb P) ops N L ss os os.length l [] []=some (xs,xs,[],l'))(k:W F P N ds y Q' l' g.w):WL F P N ds ops (Exit.then (y.wpIn F 0 P Q') Q) os l g.w:=Wm _ ss hs h (bE k)
inductive FK where
 |e (x:Value)
 |f (φ:Fact)
def FK.fact:FK→Fact
 | .e x=>Fact.eq x
 | .f φ=>φ
abbrev fe{a:Value}(r:List FK):List FK:=.e a::r
abbrev eA{a b:Value}(r:List FK):List FK:=.e a:: .e b::r
abbrev gR{a b c d:Value}(r:List FK):List FK:=.e a:: .e b:: .e c:: .e d::r
abbrev cV{a b c d e f g h:Value}(r:List FK):List FK:=.e a:: .e b:: .e c:: .e d:: .e e:: .e f:: .e g:: .e h::r
variable {l0:Env}
variable {gd g':G} {φs:List Fact} {ks:List FK}
def QY(ks:List FK)(kv:List (Nat×Value))(j:Nat):Option Value:=
 match lk kv j with
 |some v=>some v
 |none=>
  match ks[j]? with
  |some (.e x)=>some x
  |_=>none
def Iw(ks:List FK)(kv:List (Nat×Value)):List (Nat×Nat)→Env→Option Env
 |[],l=>some l
 |(j,d)::r,l=>
  match QY ks kv j with
  |some v=>Iw ks kv r ((d,v)::l)
  |none=>none
def Y0(ops:Array Oper)(js:List Nat):List (Nat×Nat):=js.filterMap fun j=>(gC ops j).map (j,·)
def mq(ops:Array Oper):List Oper→List (List Nat)→Bool
 |o::os,js::oc=>jn ops o==Y0 ops js&&mq ops os oc
 |_,[]=>true
 |_,_=>false
def aY(tb:Tb)(ops:Array Oper)(ks:List FK)(l0:Env)(L:List dc):List (List Nat)→List (wV P g)→Nat→List Oper→List (Nat×Value)→List (Value×Value)→Option (List (Value×Value)×List Oper×Nat)
 |[],_,i,os,_,us=>some (us,os,i)
 |_::_,_,_,[],_,_=>none
 |js::oc,hs,i,o::os,kv,us=>
  match Iw ks kv (Y0 ops js) l0 with
  |none=>none
  |some env=>
   match ks[i]? with
   |some (.e x)=>
    match rP ops env o.guard with
    |none=>none
    |some false=>aY tb ops ks l0 L oc hs (i+1) os ((i,undef)::kv) ((x,undef)::us)
    |some true=>
     bif YZ o.op then
      match hs with
      |[]=>none
      |h::hr=>
       match D_ tb env L o.op h with
       |some (p,q,v)=>aY tb ops ks l0 L oc hr (i+1) os ((i,v)::kv) ((p,q)::(x,v)::us)
       |none=>none
     else
      match Lu tb env o.op with
      |some v=>aY tb ops ks l0 L oc hs (i+1) os ((i,v)::kv) ((x,v)::us)
      |none=>none
   |_=>none
theorem Hd(j:Nat){x:Value}(h:ks[j]? =some (.e x)):iT (ks.map FK.fact) j=Fact.eq x:=by unfold iT;rw[aaP,abd,h];rfl
theorem Oc{kv:List (Nat×Value)}(U8: ∀j v,lk kv j=some v→iT (ks.map FK.fact) j=Fact.eq v){j:Nat}{v:Value}(h:QY ks kv j=some v):iT (ks.map FK.fact) j=Fact.eq v:=by
 unfold QY at h;split at h
 ·rename_i u hu;simp only[aau]at h;subst h;exact U8 _ _ hu
 split at h
 ·rename_i x hx;simp only[aau]at h;subst h;exact Hd _ hx
 cases h
theorem Cz{kv:List (Nat×Value)}(U8: ∀j v,lk kv j=some v→iT (ks.map FK.fact) j=Fact.eq v){k:Env→Prop}: ∀(r:List (Nat×Nat)) (l env:Env),Iw ks kv r l=some env→k env→QA (ks.map FK.fact) g r l k
 |[],l,env,h,hk=>by simp only[Iw,aau]at h;subst h;exact hk
 |(j,d)::r,l,env,h,hk=>by
  simp only[Iw]at h;split at h
  ·rename_i v hv;intro u hu;rw[Oc U8 hv]at hu;obtain rfl:u=v:=hu;exact Cz U8 r _ _ h hk
  cases h
theorem u5{tb:Tb}(dS:tb.ok P)(hA:lO F){R:G→Prop}{p:Nat→Oper→Prop}(dj: ∀g',R g'→g.le g'∧ ∃g0,St g0 g' L): ∀(oc:List (List Nat)) (hs:List (wV P g)) (i:Nat) (os:List Oper) (kv:List (Nat×Value)) (us ts:List (Value×Value)) (nP:List Oper) (i':Nat),
  aY tb ops ks l0 L oc hs i os kv us=some (ts,nP,i')→mq ops os oc=true→
  (∀j o,i≤j→j<i+oc.length→(∀g',R g'→QA (ks.map FK.fact) g' (jn ops o) l0 (DK F P N ds ops Q (iT (ks.map FK.fact) j) g' o))→p j o)→
  (∀p∈us,p∈ts)∧((∀p∈ts,p.1=p.2)→(∀j v,lk kv j=some v→iT (ks.map FK.fact) j=Fact.eq v)→iZ p i' nP→iZ p i os)
 |[],hs,i,os,kv,us,ts,nP,i',h,_,_=>by simp only[aY,aau,aaB]at h;obtain⟨rfl,rfl,rfl⟩:=h;exact⟨fun _ h=>h,fun _ _ k=>k⟩
 |_::_,hs,i,[],kv,us,ts,nP,i',h,_,_=>by simp[aY]at h
 |js::oc,hs,i,o::os,kv,us,ts,nP,i',h,hn,hp=>by
  simp only[mq,aaA,beq_iff_eq]at hn;obtain⟨I_,UX⟩:=hn;have ML:=fun j o (h1:i+1≤j) (h2:j<i+1+oc.length)=>hp j o (by omega) (by rw[aaw];omega);simp only[aY]at h;split at h
  ·cases h
  rename_i env sB;split at h
  ·rename_i x hx;have Jb:=Hd i hx;have QZ: ∀{v:Value},x=v→(∀j v,lk kv j=some v→iT (ks.map FK.fact) j=Fact.eq v)→ ∀j u,lk ((i,v)::kv) j=some u→iT (ks.map FK.fact) j=Fact.eq u:=by
    rintro v rfl hk j u hu;by_cases e:i=j
    ·subst e;rw[dz]at hu;obtain rfl:=aax hu;exact Jb
    rw[cG _ _ e]at hu;exact hk j u hu
   have one: ∀{v:Value},x=v→(∀j v,lk kv j=some v→iT (ks.map FK.fact) j=Fact.eq v)→(∀g',R g'→DK F P N ds ops Q (Fact.eq v) g' o env)→p i o:=by rintro v rfl hk hd;refine hp i o (aaz _) (by rw[aaw];omega) fun g' hf=>?_;rw[I_];refine Cz hk _ _ _ sB ?_;rw[Jb];exact hd g' hf
   split at h
   ·cases h
   ·rename_i hg;obtain⟨m2,k⟩:=u5 dS hA dj _ _ _ _ _ _ _ _ _ h UX ML;refine⟨fun p hp=>m2 p (aaR _ hp),fun e2 hk hr=>?_⟩;have he:x=undef:=e2 _ (m2 _ (aaT ..));exact⟨one he hk fun g' hf=>jO hg rfl,k e2 (QZ he hk) hr⟩
   rename_i hg;cases hh:YZ o.op with
   |true=>
    simp only[hh,cond_true]at h;split at h
    ·cases h
    rename_i s hr;split at h
    ·rename_i p q v hl;obtain⟨m2,k⟩:=u5 dS hA dj _ _ _ _ _ _ _ _ _ h UX ML;refine⟨fun p hp=>m2 p (aaR _ (aaR _ hp)),fun e2 hk hr=>?_⟩;have he:x=v:=e2 _ (m2 _ (aaR _ (aaT ..)));obtain rfl:p=q:=e2 _ (m2 _ (aaT ..));refine⟨one he hk fun g' hf=>ay hg ?_,k e2 (QZ he hk) hr⟩;obtain⟨hle,_,FZ⟩:=dj g' hf;exact Lv dS hA FZ ((F4 s hle).trans hl) fun g2 FE=>⟨g2,rfl,FE,rfl⟩
    cases h
   |false=>
    simp only[hh,cond_false]at h;split at h
    ·rename_i v hv;obtain⟨m2,k⟩:=u5 dS hA dj _ _ _ _ _ _ _ _ _ h UX ML;refine⟨fun p hp=>m2 p (aaR _ hp),fun e2 hk hr=>?_⟩;have he:x=v:=e2 _ (m2 _ (aaT ..));exact⟨one he hk fun g' hf=>ay hg (zj dS hv ⟨g',rfl,bW.refl g',rfl⟩),k e2 (QZ he hk) hr⟩
    cases h
  cases h
def q_(tb:Tb)(ops:Array Oper)(ks:List FK)(l0:Env)(L:List dc)(oc:List (List Nat))(ss:List (wV P g))(i:Nat)(os:List Oper):Option (List Value×List Value×List Oper×Nat):=
 match aY tb ops ks l0 L oc ss i os [] []with
 |some (ts,nP,i')=>some (ts.map Prod.fst,ts.map Prod.snd,nP,i')
 |none=>none
theorem Gm[eE P][hA:lO F]{R:G→Prop}{p:Nat→Oper→Prop}{i i':Nat}{A:List Value}(dj: ∀g',R g'→g.le g'∧ ∃g0,St g0 g' L)(oc:List (List Nat))(ss:List (wV P g))(hn:mq ops os oc=true)(h:q_ (eE.tb P) ops ks l0 L oc ss i os=some (A,A,nP,i'))
  (hp: ∀j o,i≤j→j<i+oc.length→(∀g',R g'→QA (ks.map FK.fact) g' (jn ops o) l0 (DK F P N ds ops Q (iT (ks.map FK.fact) j) g' o))→p j o) (k:iZ p i' nP):iZ p i os:=by
 unfold q_ at h;split at h
 ·rename_i ts os2 i2 h2;simp only[aau,aaB]at h;obtain⟨rfl,e2,rfl,rfl⟩:=h;exact(u5 eE.ok hA dj oc ss i os [] [] _ _ _ h2 hn hp).2 (zk e2.symm) (fun j v hv=>by simp[lk]at hv) k
 cases h
theorem Dm[eE P][hA:lO F]{i i':Nat}{A:List Value}(oc:List (List Nat))(ss:List (wV P g))(hs:St g0 g L)(hn:mq ops os oc=true)(h:q_ (eE.tb P) ops ks l0 L oc ss i os=some (A,A,nP,i'))
  (k:mM F P N ds ops Q (ks.map FK.fact) l0 g.dr i' nP):mM F P N ds ops Q (ks.map FK.fact) l0 g.dr i os:=
 Gm (fun _ hf=>⟨(G.a_ _).trans hf.le,_,hs.dr.call hf⟩) oc ss hn h (fun _ _ _ _ h=>h) k
theorem Dz[eE P][lO F]{i i':Nat}{A:List Value}(oc:List (List Nat))(ss:List (wV P g))(hs:St g0 g L)(hn:mq ops os oc=true)(h:q_ (eE.tb P) ops ks l0 L oc ss i os=some (A,A,[],i')):
  mM F P N ds ops Q (ks.map FK.fact) l0 g.dr i os:=Dm oc ss hs hn h trivial
theorem Dx[eE P][lO F]{i i':Nat}{A:List Value}(oc:List (List Nat))(hn:mq ops os oc=true)(h:q_ (P:=P) (g:=g) (eE.tb P) ops ks l0 [] oc [] i os=some (A,A,nP,i'))
  (k:mM F P N ds ops Q (ks.map FK.fact) l0 g.dr i' nP):mM F P N ds ops Q (ks.map FK.fact) l0 g.dr i os:=Dm oc [] (St.start g) hn h k
theorem Dy[eE P][lO F]{i i':Nat}{A:List Value}(oc:List (List Nat))(hn:mq ops os oc=true)(h:q_ (P:=P) (g:=g) (eE.tb P) ops ks l0 [] oc [] i os=some (A,A,[],i')):
  mM F P N ds ops Q (ks.map FK.fact) l0 g.dr i os:=Dx oc hn h trivial
theorem dP[eE P][lO F](ks:List FK)(m:Nat)(outs:List (Nat×Nat))(kQ:(vY N ops l0 m&&outs.all (fun p=>Nat.blt p.1 m&&(gC ops p.1==some p.2)))=true)
  (iF:mM F P N ds ops Q (ks.map FK.fact) l0 g.dr 0 (ops.toList.take m))
  (lL: ∀g',bW g.dr g'→QA (ks.map FK.fact) g' outs l0 fun env=>WL F P N ds ops Q (ops.toList.drop m) env g'.w):W F P N ds (.region id ops true) Q l0 g.w:=by
 rw[aaA]at kQ;exact Q0 lO.all eE.mixed (ks.map FK.fact) m outs kQ.1 kQ.2 iF lL
theorem aO[eE P][lO F](hs:St g0 g L)(ks:List FK)(m:Nat)(outs:List (Nat×Nat))(kQ:(vY N ops l0 m&&outs.all (fun p=>Nat.blt p.1 m&&(gC ops p.1==some p.2)))=true){env:Env}(he:Iw ks [] outs l0=some env)
  (iF:mM F P N ds ops Q (ks.map FK.fact) l0 g.dr 0 (ops.toList.take m))
  (lL: ∀g',St g0 g' L→g.le g'→WL F P N ds ops Q (ops.toList.drop m) env g'.w):W F P N ds (.region id ops true) Q l0 g.w:=
 dP ks m outs kQ iF fun g' hf=>Cz (fun j v hv=>by simp[lk]at hv) _ _ _ he (lL g' (hs.dr.call hf) ((G.a_ _).trans hf.le))
variable {x:Code}
abbrev vO(b:Nat)(cs:List Value)(T:TypeId):dc:=.obj b (.cells cs.toArray T (0,0))
abbrev cN(P:Program)(f:FuncId)(YX:Array Value)(g:G)(R:G→Value→Prop):Prop:=CallsIn Wd 0 P f YX g.w (ug g R)
theorem dE[eE P][lO F](n:Nat)(ss:List (wV P g)){xs:List Addr}(h:fN (eE.tb P) ops N [] ss os n l [] []=some (xs,xs,nP,l'))(k:WL F P N ds ops Q nP l' g.w):WL F P N ds ops Q os l g.w:=Wm n ss (St.start g) h k
theorem eO[eE P][lO F](n:Nat)(ss:List (wV P g)){xs:List Addr}(h:fN (eE.tb P) ops N [] ss ops.toList n l [] []=some (xs,xs,nP,l'))(k:WL F P N ds ops (Exit.then (y.wpIn F 0 P Q) Q) nP l' g.w):W F P N ds (.seq (.region id ops false) y) Q l g.w:=jd n ss (St.start g) h k
theorem pW[eE P][lO F](ss:List (wV P g)){xs:List Addr}(h:fN (eE.tb P) ops N [] ss ops.toList ops.toList.length l [] []=some (xs,xs,[],l'))(k:W F P N ds y Q l' g.w):W F P N ds (.seq (.region id ops false) y) Q l g.w:=Ja ss (St.start g) h k
theorem BS[eE P][lO F](ss:List (wV P g)){xs:List Addr}(h:fN (eE.tb P) ops N [] ss os os.length l [] []=some (xs,xs,[],l'))(k:W F P N ds y Q' l' g.w):WL F P N ds ops (Exit.then (y.wpIn F 0 P Q') Q) os l g.w:=Zz ss (St.start g) h k
variable {K:Value→World→Prop}
theorem Rs.at{α:Type}[El α]{ad:Option Addr}{n c i:Nat}{xs:List α}{x:α}(h:Rs g (.slice ad n c) xs)(hx:xs[i]? =some x): ∃b p ys,ad=some ⟨b,p,none⟩∧EP g b (p+i*El.k α) ys∧El.rc g ys x:=by
 obtain⟨a,m,c',e,hn,_,hr⟩:=h;obtain⟨rfl,rfl,rfl⟩:=aaO e;have aV:=(aaN.1 hx).1;rcases hr with h0|⟨b,p,cells,rfl,uk,fw,hc⟩
 ·omega
 obtain⟨ys,h1,h2,_⟩:=fw.at hx;exact⟨b,p,ys,rfl,⟨uk,fun j y hy=>by rw[abv];exact hc _ _ (h2 j y hy)⟩,h1⟩
theorem ff{tb:Tb}(dS:tb.ok P){t e:Nat}{i j:TI}{x ix:Operand}{kk:IntKind}{z:Int}{b p n c:Nat}(ho:o.op= .indexAddr t x ix)(hx:ev l x=some (.slice (some ⟨b,p,none⟩) n c))(Lj:ev l ix=some (.int kk z))(h0:0≤z)(aV:z.toNat<n)(hi:tl tb t=some i)(hd:i.desc= .slice e)(hj:tl tb e=some j)
  (k:K (.pointer (some ⟨b,p+z.toNat*j.size,none⟩)) w):cQ F P N ds o l w Q K:=by
 refine bC (fun c=>⟨by rw[ho];simp,by rw[ho];simp⟩) (fun a ha=>?_) k;simp only[execOp,ho,ha.ev hx,ha.ev Lj,aaE,q0 dS hi hd hj h0 aV];rfl
class Mn(p:Prop)(g g':G)(q:outParam Prop):Prop where
 mn:g.le g'→p→q
variable {A B C D E F A' B' C' D' E' F':Prop}
instance{α:Type}[El α]{v:Value}{xs:List α}:Mn (Rs g v xs) g g' (Rs g' v xs):=⟨fun h a=>a.mono h⟩
instance{α:Type}[El α]{cs:List Value}{xs:List α}:Mn (cR g cs xs) g g' (cR g' cs xs):=⟨fun h a=>a.mono h⟩
instance{b o:Nat}{ys:List Value}:Mn (EP g b o ys) g g' (EP g' b o ys):=⟨fun h a=>a.mono h⟩
instance{g0:G}:Mn (G.le g0 g) g g' (G.le g0 g'):=⟨fun h a=>a.trans h⟩
theorem cA[Mn A g g' A'][Mn B g g' B'](h:g.le g')(a:A)(b:B):A'∧B':=⟨Mn.mn h a,Mn.mn h b⟩
theorem eS[Mn A g g' A'][Mn B g g' B'][Mn C g g' C'](h:g.le g')(a:A)(b:B)(c:C):A'∧B'∧C':=⟨Mn.mn h a,cA h b c⟩
theorem dU[Mn A g g' A'][Mn B g g' B'][Mn C g g' C'][Mn D g g' D'](h:g.le g')(a:A)(b:B)(c:C)(d:D):A'∧B'∧C'∧D':=⟨Mn.mn h a,eS h b c d⟩
theorem mY[Mn A g g' A'][Mn B g g' B'][Mn C g g' C'][Mn D g g' D'][Mn E g g' E'](h:g.le g')(a:A)(b:B)(c:C)(d:D)(e:E):A'∧B'∧C'∧D'∧E':=⟨Mn.mn h a,dU h b c d e⟩
theorem iB[Mn A g g' A'][Mn B g g' B'][Mn C g g' C'][Mn D g g' D'][Mn E g g' E'][Mn F g g' F'](h:g.le g')(a:A)(b:B)(c:C)(d:D)(e:E)(f:F):A'∧B'∧C'∧D'∧E'∧F':=⟨Mn.mn h a,mY h b c d e f⟩
end Go.K
namespace Go.K
open Go Go.RowKit Go.MapKept
class gA(κ:Type)[DecidableEq κ] where
 enc:κ→Value
 desc:TypeDesc
 kd:KD
 of: ∀{d},KD.of d=kd→d=desc
 same: ∀a b,Instr.sameNow desc (enc a) (enc b)=some (decide (a=b))
 key: ∀a,IsKey desc (enc a)
 bits: ∀a,Instr.sameBits 10000 (enc a) (enc a)=true
instance:gA Int where
 enc:=.int .i64
 desc:=.int .i64
 kd:=.int .i64
 of h:=KD.of_int h
 same a b:=by simp[Instr.sameNow];rfl
 key a:=rfl
 bits a:=by simp[Instr.sameBits]
instance:gA (List UInt8) where
 enc x:=.string (bs x)
 desc:=.string
 kd:=.string
 of h:=KD.of_string h
 same a b:=by
  simp only[Instr.sameNow,aau];by_cases h:a=b
  ·subst h;simp[(ac0 _ _).2 rfl]
  rw[decide_eq_false h];cases hb:(bs a==bs b)with
  |false=>rfl
  |true=>exact absurd (QP ((ac0 _ _).1 hb)) h
 key a:=trivial
 bits a:=by simp[Instr.sameBits,(ac0 _ _).2 rfl]
variable {F:Fence} {P:Program} {N:Nat} {ds:List Deferred} {l:Env} {w:World} {Q:Exit→Act→World→Prop} {o:Oper} {g0 g:G} {L:List dc} {K:Value→World→Prop}
variable {κ:Type} [DecidableEq κ] [gA κ]
def oK:Nat→List (κ×Value)→List MapEntry
 |_,[]=>[]
 |i,(k,v)::r=>{key:=gA.enc k,val:=v,born:=i}::oK (i+1) r
def fy(cP:List (κ×Value)):Obj:=.map (oK 0 cP).toArray cP.length
def mf(a:κ):List (κ×Value)→Nat→Option (Nat×Value)
 |[],_=>none
 |(k,v)::r,j=>if a=k then some (j,v)else mf a r (j+1)
def jU(a:κ):List (κ×Value)→Option Value
 |[]=>none
 |(k,v)::r=>if a=k then some v else jU a r
def kX(a:κ)(x:Value):List (κ×Value)→List (κ×Value)
 |[]=>[(a,x)]
 |(k,v)::r=>if a=k then(k,x)::r else(k,v)::kX a x r
theorem Hf: ∀(cP:List (κ×Value)) (i:Nat),(oK i cP).length=cP.length
 |[],_=>rfl
 |_::r,i=>by simp[oK,Hf r]
theorem l_: ∀(cP:List (κ×Value)) (i j:Nat),(oK i cP)[j]? =(cP[j]?).map fun p=>{key:=gA.enc p.1,val:=p.2,born:=i+j}
 |[],_,_=>by simp[oK]
 |(k,v)::r,i,0=>by simp[oK]
 |(k,v)::r,i,j+1=>by simp only[oK,ab2];rw[l_ r (i+1) j,show i+1+j=i+(j+1)from by omega]
theorem CB(ys:List (κ×Value)): ∀(xs:List (κ×Value)) (i:Nat),oK i (xs++ys)=oK i xs++oK (i+xs.length) ys
 |[],i=>by simp[oK]
 |(k,v)::r,i=>by simp only[aa0,oK,aaw];rw[CB ys r (i+1),show i+1+r.length=i+(r.length+1)from by omega]
theorem pM(a:κ): ∀(cP:List (κ×Value)) (i j:Nat),Instr.findNow (gA.desc κ) (gA.enc a) (oK i cP) j=some (mf a cP j)
 |[],_,_=>rfl
 |(k,v)::r,i,j=>by
  simp only[oK,Instr.findNow,gA.same,mf];by_cases h:a=k
  ·simp[h]
  simp[h,pM a r]
omit [gA κ] in
theorem u6{a:κ}: ∀{cP:List (κ×Value)} {j:Nat},mf a cP j=none→jU a cP=none∧ ∀x,kX a x cP=cP++[(a,x)]
 |[],_,_=>⟨rfl,fun _=>rfl⟩
 |(k,v)::r,j,h=>by
  unfold mf at h;split at h
  ·cases h
  rename_i fL;obtain⟨h1,h2⟩:=u6 h;exact⟨by simp[jU,fL,h1],fun x=>by simp[kX,fL,h2]⟩
omit [gA κ] in
theorem r_{a:κ}: ∀{cP:List (κ×Value)} {j i:Nat} {v:Value},mf a cP j=some (i,v)→jU a cP=some v∧ ∃n,i=j+n∧cP[n]? =some (a,v)∧ ∀x,kX a x cP=cP.set n (a,x)
 |[],_,_,_,h=>by cases h
 |(k,u)::r,j,i,v,h=>by
  unfold mf at h;split at h
  ·rename_i he;simp only[aau,aaB]at h;obtain⟨rfl,rfl⟩:=h;subst he;exact⟨by simp[jU],0,rfl,rfl,fun x=>by simp[kX]⟩
  rename_i fL;obtain⟨h1,n,h2,h3,h4⟩:=r_ h;exact⟨by simp[jU,fL,h1],n+1,by omega,by simpa using h3,fun x=>by simp[kX,fL,h4]⟩
omit [gA κ] in
theorem vH(a b:κ)(x:Value): ∀cP:List (κ×Value),jU b (kX a x cP)=if b=a then some x else jU b cP
 |[]=>by simp[kX,jU]
 |(k,v)::r=>by
  by_cases h:a=k
  ·subst h;by_cases hb:b=a<;>simp[kX,jU,hb]
  by_cases hb:b=k
  ·subst hb;simp[kX,jU,h];intro e;exact absurd e.symm h
  simp[kX,jU,h,hb,vH a b x r]
theorem KD.of_map{d:TypeDesc}{k e:TypeId}(h:KD.of d= .map k e):d= .map k e:=by cases d<;>simp only[KD.of,reduceCtorEq,KD.map.injEq]at h;rw[h.1,h.2]
structure vM(κ:Type)[DecidableEq κ][gA κ](P:Program)(T:TypeId)(zero:Value):Prop where
 kt: ∃k e,P.underlying T=some (.map k e)∧P.underlying k=some (gA.desc κ)∧ ∀w,(zeroValue e).run P w= .ok zero w
theorem Fq{tb:Tb}(dS:tb.ok P){T k e:Nat}{i j m:TI}(hi:tl tb T=some i)(hd:i.desc= .map k e)(hk:tl tb k=some j)(W1:j.desc=gA.kd κ)(he:tl tb e=some m):vM κ P T m.zero:=by obtain⟨⟨d,hu,Vv⟩,_⟩:=dS.at hi;rw[hd]at Vv;obtain rfl:=KD.of_map Vv;obtain⟨⟨d2,MM,TA⟩,_⟩:=dS.at hk;rw[W1]at TA;obtain rfl:=gA.of TA;obtain⟨_,inf,h1,_,_,h4⟩:=dS.at he;exact⟨k,e,hu,MM,fun w=>by simp[zeroValue,typeInfo,h1,h4]⟩
theorem F5{T:TypeId}{z:Value}(ht:vM κ P T z){b:Nat}{cP:List (κ×Value)}(hb:w.heap[b]? =some (fy cP))(a:κ)(x:Value):
  (Instr.mapUpdate T (.map (some b)) (gA.enc a) x).run P w= .ok () (w.putObj b (fy (kX a x cP))):=by
 obtain⟨k,e,h1,h2,_⟩:=ht.kt;have hf:=run_findKey (P:=P) (w:=w) (l:=oK 0 cP) h2 (pM a cP 0 0);simp only[Instr.mapUpdate,aaE,run_underlying h1,aaH,acQ hb,run_checkKey h2 (gA.key a)];rw[show(Instr.findKey k (gA.enc a) (oK 0 cP)).run P w=_ from hf];cases hm:mf a cP 0 with
 |none=>
  simp only[aaH];rw[run_setObj_map _ hb,(u6 hm).2 x];unfold World.putObj fy;rw[CB];simp[oK]
 |some p=>
  obtain⟨i,v⟩:=p;obtain⟨_,n,h3,h4,h5⟩:=r_ hm;obtain rfl:i=n:=by omega
  have h6:(oK 0 cP)[i]? =some {key:=gA.enc a,val:=v,born:=i}:=by rw[l_,h4];simp
  simp only[aaH,List.getElem?_toArray,h6,abn,ab5,Instr.keyThatStays,gA.bits,if_true,aaE,aa5];rw[run_setObj_map _ hb,h5 x];unfold World.putObj fy;congr 3;rw[abI];congr 1;apply abJ;rw[adj];simp only;apply abL;intro j;rw[adk,l_,l_,abG];by_cases hj:i=j
  ·subst hj;have aV:=(aaN.1 h4).1;simp[aV]
  simp[hj]
theorem F6{T:TypeId}{z:Value}(ht:vM κ P T z){b:Nat}{cP:List (κ×Value)}(hb:w.heap[b]? =some (fy cP))(a:κ)(ok:Bool):
  (Instr.lookup T (.map (some b)) (gA.enc a) ok).run P w= .ok (if ok then .tuple #[(jU a cP).getD z,.bool (jU a cP).isSome]else(jU a cP).getD z) w:=by
 obtain⟨k,e,h1,h2,h3⟩:=ht.kt;have hf:=run_findKey (P:=P) (w:=w) (l:=oK 0 cP) h2 (pM a cP 0 0);simp only[Instr.lookup,aaE,run_underlying h1,aaH,acQ hb,run_checkKey h2 (gA.key a),aa5];rw[show(Instr.findKey k (gA.enc a) (oK 0 cP)).run P w=_ from hf];cases hm:mf a cP 0 with
 |none=>
  simp only[aaH,aaE,h3,aa5,(u6 hm).1];cases ok<;>rfl
 |some p=>
  obtain⟨i,v⟩:=p;simp only[aaH,(r_ hm).1];cases ok<;>rfl
theorem mz{T:TypeId}(ho:o.op= .makeMap T none)(hs:St g0 g L)(k: ∀b g',St g0 g' (.obj b (fy ([]:List (κ×Value)))::L)→g.le g'→K (.map (some b)) g'.w):cQ F P N ds o l g.w Q K:=by refine bC (w':=(g.al (.map #[] 0)).w) (fun c=>⟨by rw[ho];simp,by rw[ho];simp⟩) (fun a ha=>?_) (k _ _ (hs.al _).1 (hs.al _).2);simp[execOp,ho,Instr.makeMap,newObj];rfl
theorem eg{T:TypeId}{z:Value}(ht:vM κ P T z)(i:Nat){m kk x:Operand}{b:Nat}{cP:List (κ×Value)}{a:κ}{v:Value}(ho:o.op= .mapUpdate T m kk x∨o.op= .insert T m kk x)(hs:St g0 g L)(hi:L[i]? =some (.obj b (fy cP)))
  (hm:ev l m=some (.map (some b))) (hk:ev l kk=some (gA.enc a)) (hx:ev l x=some v) (k: ∀g',St g0 g' (L.set i (.obj b (fy (kX a v cP))))→g.le g'→K undef g'.w):cQ F P N ds o l g.w Q K:=by
 have hh:=(hs.own i _ hi).2.1;have h:=hs.po hi (o':=fy (kX a v cP));have hr:=F5 ht hh a v;rcases ho with ho|ho
 all_goals
  refine uT (w':=(g.po b (fy (kX a v cP))).w) (fun c=>⟨by rw[ho];simp,by rw[ho];simp⟩) (fun ac ha=>?_) (k _ h.1 h.2);simp only[execOp,ho,ha.ev hm,ha.ev hk,ha.ev hx,aaE,hr];rfl
theorem pC{T:TypeId}{z:Value}(ht:vM κ P T z){m kk:Operand}{ok:Bool}{b:Nat}{cP:List (κ×Value)}{a:κ}(ho:o.op= .lookup T m kk ok)(hh:w.heap[b]? =some (fy cP))
  (hm:ev l m=some (.map (some b))) (hk:ev l kk=some (gA.enc a)) (k:K (if ok then .tuple #[(jU a cP).getD z,.bool (jU a cP).isSome]else(jU a cP).getD z) w):cQ F P N ds o l w Q K:=by
 refine bC (fun c=>⟨by rw[ho];simp,by rw[ho];simp⟩) (fun ac ha=>?_) k;simp only[execOp,ho,ha.ev hm,ha.ev hk,aaE,F6 ht hh a ok];rfl
def B_(b n:Nat)(seen:Array Nat):Obj:=.mapIter (some b) n seen n
theorem vQ{T:TypeId}{z:Value}(ht:vM κ P T z){m:Operand}{b:Nat}{cP:List (κ×Value)}(ho:o.op= .range T m)(hh:g.w.heap[b]? =some (fy cP))(hm:ev l m=some (.map (some b)))(hs:St g0 g L)
  (k: ∀r g',St g0 g' (.obj r (B_ b cP.length #[])::L)→g.le g'→K (vP r) g'.w):cQ F P N ds o l g.w Q K:=by
 obtain⟨kt,e,h1,_,_⟩:=ht.kt;refine bC (w':=(g.al (B_ b cP.length #[])).w) (fun c=>⟨by rw[ho];simp,by rw[ho];simp⟩) (fun a ha=>?_) (k _ _ (hs.al _).1 (hs.al _).2);have:=run_range_map (P:=P) g.w T kt e b _ _ h1 hh;simp only[execOp,ho,ha.ev hm,aaE,this];rfl
theorem yM(i:Nat){it:Operand}{r b:Nat}{cP:List (κ×Value)}{seen:Array Nat}(ho:o.op= .next it false)(hs:St g0 g L)(hi:L[i]? =some (.obj r (B_ b cP.length seen)))(hh:g.w.heap[b]? =some (fy cP))
  (hit:ev l it=some (vP r))
  (k0:(∀j,j<cP.length→j∈seen)→K (.tuple #[.bool false]) g.w)
  (k1: ∀(j:Nat) p g',cP[j]? =some p→j∉seen→St g0 g' (L.set i (.obj r (B_ b cP.length (seen.push j))))→g.le g'→K (.tuple #[.bool true,gA.enc p.1,p.2]) g'.w):cQ F P N ds o l g.w Q K:=by
 have hr:=(hs.own i _ hi).2.1;have UR: ∀x∈(oK 0 cP).toArray.toList,x.born<cP.length:=by intro x hx;obtain⟨j,hj⟩:=acZ.1 (by simpa using hx:x∈oK 0 cP);rw[l_]at hj;obtain⟨p,hp,rfl⟩:=abk.1 hj;have:=(aaN.1 hp).1;simpa using this
 rcases run_next_at (P:=P) g.w o.type r b cP.length cP.length seen (oK 0 cP).toArray cP.length hr hh UR (aaz _)with⟨h1,h2⟩|⟨e,he,w1,hw,h2⟩
 ·refine bC (fun c=>⟨by rw[ho];simp,by rw[ho];simp⟩) (fun a ha=>by simp only[execOp,ho,ha.ev hit,aaE,h2];rfl) (k0 fun j hj=>?_);apply acJ;intro K1;have hx:(oK 0 cP)[j]? =some {key:=gA.enc cP[j].1,val:=cP[j].2,born:=j}:=by rw[l_,aas hj];simp
  have:({key:=gA.enc cP[j].1,val:=cP[j].2,born:=j}:MapEntry)∈leftOf (oK 0 cP).toArray seen:=by unfold leftOf;rw[Array.mem_filter];exact⟨by simpa using abm hx,by simpa using K1⟩
  rw[Array.eq_empty_of_size_eq_zero h1]at this;simp at this
 unfold leftOf at he;have HD:e∈(Array.filter (fun e=> !seen.contains e.born) (oK 0 cP).toArray):=by simpa using he
 rw[Array.mem_filter]at HD;obtain⟨hm,K1⟩:=HD;obtain⟨j,hj⟩:=acZ.1 (by simpa using hm:e∈oK 0 cP);rw[l_]at hj;obtain⟨p,hp,rfl⟩:=abk.1 hj;simp only[abo]at h2 K1;have W2:j∉seen:=by simpa using K1
 have fin: ∀g1:G,St g0 g1 L→g.le g1→g1.w=w1→cQ F P N ds o l g.w Q K:=fun g1 pH hle Au=>by have h:=pH.po hi (o':=B_ b cP.length (seen.push j));refine bC (w':=(g1.po r (B_ b cP.length (seen.push j))).w) (fun c=>⟨by rw[ho];simp,by rw[ho];simp⟩) (fun a ha=>?_) (k1 j p _ hp W2 h.1 (hle.trans h.2));simp only[execOp,ho,ha.ev hit,aaE,h2,←Au];rfl
 rcases hw with rfl|rfl
 ·exact fin g hs (G.le.refl g) rfl
 exact fin g.dr hs.dr (G.a_ g) rfl
theorem Bl: ∀(cP:List (κ×Value)) (i:Nat),((oK i cP).map (·.born)).Nodup∧ ∀x∈oK i cP,i≤x.born
 |[],_=>by simp[oK]
 |(k,v)::r,i=>by
  obtain⟨h1,h2⟩:=Bl r (i+1);refine⟨?_,fun x hx=>?_⟩
  ·simp only[oK,aa8,acL];refine⟨fun hm=>?_,h1⟩;obtain⟨x,hx,he⟩:=aaU.1 hm;have:=h2 x hx;omega
  simp only[oK,aav]at hx;rcases hx with rfl|hx
  ·exact aaz _
  have:=h2 x hx;omega
theorem vR(i:Nat){it:Operand}{r b j:Nat}{p:κ×Value}{cP:List (κ×Value)}{seen:Array Nat}(ho:o.op= .entry it)(hs:St g0 g L)(hi:L[i]? =some (.obj r (B_ b cP.length (seen.push j))))(hh:g.w.heap[b]? =some (fy cP))
  (hit:ev l it=some (vP r)) (hp:cP[j]? =some p) (k:K (.tuple #[gA.enc p.1,p.2]) g.w):cQ F P N ds o l g.w Q K:=by
 have hr:=(hs.own i _ hi).2.1;have he:(oK 0 cP)[j]? =some {key:=gA.enc p.1,val:=p.2,born:=j}:=by rw[l_,hp];simp
 have:=run_entry_at (P:=P) g.w r b cP.length seen (oK 0 cP).toArray cP.length {key:=gA.enc p.1,val:=p.2,born:=j} hr hh (by simpa using abm he) (by simpa using(Bl cP 0).1);refine bC (fun c=>⟨by rw[ho];simp,by rw[ho];simp⟩) (fun a ha=>?_) k;simp only[execOp,ho,ha.ev hit,aaE,this];rfl
end Go.K
namespace Go.K
open Go Go.RowKit Go.MapKept
variable {F:Fence} {P:Program} {N:Nat} {ds:List Deferred} {l:Env} {w:World} {Q:Exit→Act→World→Prop} {o:Oper} {g0 g:G} {L:List dc} {K:Value→World→Prop}
variable {κ:Type} [DecidableEq κ] [gA κ]
omit [gA κ] in
def yV(a:κ)(z:Value)(cP:List (κ×Value)):List (κ×Value):=match mf a cP 0 with|some _=>cP|none=>cP++[(a,z)]
omit [gA κ] in
def Ce(a:κ)(cP:List (κ×Value)):Nat:=match mf a cP 0 with|some p=>p.1|none=>cP.length
omit [gA κ] in
theorem NK(a:κ)(z:Value)(cP:List (κ×Value)): ∃v,(yV a z cP)[Ce a cP]? =some (a,v):=by
 unfold yV Ce;cases hm:mf a cP 0 with
 |none=>exact⟨z,by simp⟩
 |some p=>
  obtain⟨_,n,h3,h4,_⟩:=r_ (i:=p.1) (v:=p.2) hm;exact⟨p.2,by show cP[p.1]? =_;rw[h3,abo];exact h4⟩
omit [gA κ] in
theorem KL(a:κ)(z x:Value)(cP:List (κ×Value)):(yV a z cP).set (Ce a cP) (a,x)=kX a x cP:=by
 unfold yV Ce;cases hm:mf a cP 0 with
 |none=>rw[(u6 hm).2 x];simp
 |some p=>
  obtain⟨_,n,h3,_,h5⟩:=r_ (i:=p.1) (v:=p.2) hm;rw[h5 x];simp only[h3,abo]
theorem CD{T:TypeId}{z:Value}(ht:vM κ P T z){b:Nat}{cP:List (κ×Value)}(hb:w.heap[b]? =some (fy cP))(a:κ):
  (Instr.mapEntry T (.map (some b)) (gA.enc a)).run P w= .ok (.tuple #[(jU a cP).getD z,vI (Ce a cP:Nat)]) (w.putObj b (fy (yV a z cP))):=by
 obtain⟨k,e,h1,h2,h3⟩:=ht.kt;have hf:=run_findKey (P:=P) (w:=w) (l:=oK 0 cP) h2 (pM a cP 0 0);simp only[Instr.mapEntry,aaE,run_underlying h1,aaH,acQ hb,run_checkKey h2 (gA.key a)];rw[show(Instr.findKey k (gA.enc a) (oK 0 cP)).run P w=_ from hf];cases hm:mf a cP 0 with
 |none=>
  simp only[aaH,aaE,h3];rw[run_setObj_map _ hb];simp only[aaH,aa5];unfold yV Ce;rw[hm,(u6 hm).1];unfold World.putObj fy;rw[CB];simp[oK,goInt]
 |some p=>
  obtain⟨i,v⟩:=p;obtain⟨hg,n,h4,h5,h6⟩:=r_ hm;obtain rfl:i=n:=by omega
  have h7:(oK 0 cP)[i]? =some {key:=gA.enc a,val:=v,born:=i}:=by rw[l_,h5];simp
  simp only[aaH,List.getElem?_toArray,h7,abn,ab5,Instr.keyThatStays,gA.bits,if_true,aaE,aa5];rw[run_setObj_map _ hb];simp only[aaH];unfold yV Ce;rw[hm,hg];unfold World.putObj fy;have e:(oK 0 cP).toArray.modify i (fun e=>{e with key:=gA.enc a})=(oK 0 cP).toArray:=by
   apply abJ;rw[adj];simp only;apply abL;intro j;rw[adk];by_cases hj:i=j
   ·subst hj;rw[h7];simp
   simp[hj]
  rw[e];rfl
theorem zn{T:TypeId}{b:Nat}{cP:List (κ×Value)}(hb:w.heap[b]? =some (fy cP)){n:Nat}{a:κ}{v:Value}(hn:cP[n]? =some (a,v))(x:Value):
  (Instr.entryStore T (.map (some b)) (vI (n:Nat)) x).run P w= .ok () (w.putObj b (fy (cP.set n (a,x)))):=by
 have ha:(asInt (vI (n:Nat))).run P w= .ok (n:Int) w:=by simp[asInt,asIntOf]
 simp only[Instr.entryStore,aaE,aaH,acQ hb,ha];have hi:(oK 0 cP).toArray.findIdx? (fun e=>(e.born:Int)==(n:Int))=some n:=by
  have aV:=(aaN.1 hn).1;rw[List.findIdx?_toArray,List.findIdx?_eq_some_iff_getElem];refine⟨by rw[Hf];exact aV,?_,?_⟩
  ·have:=l_ cP 0 n;rw[hn]at this;rw[(aaN.1 this).2];simp
  intro j hj;have:=l_ cP 0 j;rw[aas (by omega:j<cP.length)]at this;rw[(aaN.1 this).2];simp;omega
 rw[hi];simp only;rw[run_setObj_map _ hb];unfold World.putObj fy;congr 3;rw[abI];congr 1;apply abJ;rw[adj];simp only;apply abL;intro j;rw[adk,l_,l_,abG];by_cases hj:n=j
 ·subst hj;obtain⟨aV,hv⟩:=aaN.1 hn;simp[aV,hv]
 simp[hj]
theorem Cf{T:TypeId}{z:Value}(ht:vM κ P T z)(i:Nat){m kk:Operand}{b:Nat}{cP:List (κ×Value)}{a:κ}(ho:o.op= .mapEntry T m kk)(hs:St g0 g L)(hi:L[i]? =some (.obj b (fy cP)))
  (hm:ev l m=some (.map (some b))) (hk:ev l kk=some (gA.enc a)) (k: ∀g',St g0 g' (L.set i (.obj b (fy (yV a z cP))))→g.le g'→K (.tuple #[(jU a cP).getD z,vI (Ce a cP:Nat)]) g'.w):cQ F P N ds o l g.w Q K:=by
 have hh:=(hs.own i _ hi).2.1;have h:=hs.po hi (o':=fy (yV a z cP));have hr:=CD ht hh a;refine bC (w':=(g.po b (fy (yV a z cP))).w) (fun c=>⟨by rw[ho];simp,by rw[ho];simp⟩) (fun ac ha=>?_) (k _ h.1 h.2);simp only[execOp,ho,ha.ev hm,ha.ev hk,aaE,hr];rfl
theorem yW{T:TypeId}(i:Nat){m s x:Operand}{b n:Nat}{cP:List (κ×Value)}{a:κ}{v u:Value}(ho:o.op= .entryStore T m s x)(hs:St g0 g L)(hi:L[i]? =some (.obj b (fy cP)))(hn:cP[n]? =some (a,u))
  (hm:ev l m=some (.map (some b))) (hk:ev l s=some (vI (n:Nat))) (hx:ev l x=some v) (k: ∀g',St g0 g' (L.set i (.obj b (fy (cP.set n (a,v)))))→g.le g'→K undef g'.w):cQ F P N ds o l g.w Q K:=by
 have hh:=(hs.own i _ hi).2.1;have h:=hs.po hi (o':=fy (cP.set n (a,v)));have hr:=zn (P:=P) (T:=T) hh hn v;refine uT (w':=(g.po b (fy (cP.set n (a,v)))).w) (fun c=>⟨by rw[ho];simp,by rw[ho];simp⟩) (fun ac ha=>?_) (k _ h.1 h.2);simp only[execOp,ho,ha.ev hm,ha.ev hk,ha.ev hx,aaE,hr];rfl
end Go.K
namespace Go.K
open Go Go.RowKit
variable {F:Fence} {P:Program} {N:Nat} {ds:List Deferred} {l l':Env} {a:Act} {w:World} {Q:Exit→Act→World→Prop} {ops:Array Oper} {os:List Oper} {o:Oper}
variable {g0 g:G} {L:List dc} {K:Value→World→Prop} {R:Ending→World→Prop}
def Cg{α:Type}(P:Program)(mJ:FuncId)(fO:Array Value)(iq:α→List Value)(A Z:List α→Prop)(g:G):Prop:=
 ∀(g1:G),g.le g1→ ∀(yv:Value) (g0:G) (I Ix:List α→List dc→G→Prop),(∀pre L g g',g.le g'→I pre L g→I pre L g')→(∀pre L g g',g.le g'→Ix pre L g→Ix pre L g')→
  (∀M pre x L g2,A (pre++[x])→g1.le g2→St g0 g2 (M++L)→I pre L g2→jX P yv (iq x) g2.w fun e w'=> ∃g3 b L',g3.w=w'∧e= .returned (.bool b)∧g2.le g3∧St g0 g3 (M++L')∧(b=true→I (pre++[x]) L' g3)∧(b=false→Ix (pre++[x]) L' g3))→
  ∀L,St g0 g1 L→I [] L g1→CallsIn Wd 0 P mJ (yv::fO.toList).toArray g1.w fun e w'=> ∃g2 v L',g2.w=w'∧e= .returned v∧g1.le g2∧St g0 g2 L'∧((∃xs,Z xs∧I xs L' g2)∨ ∃pre,A pre∧Ix pre L' g2)
theorem Cg.mono{α:Type}{mJ:FuncId}{fO:Array Value}{iq:α→List Value}{A Z:List α→Prop}{g g':G}(h:Cg P mJ fO iq A Z g)(hle:g.le g'):Cg P mJ fO iq A Z g':=fun g1 h1=>h g1 (hle.trans h1)
theorem yH.YB{α:Type}{mJ:FuncId}{fO:Array Value}{iq:α→List Value}{xs:List α}(h:yH P mJ fO iq xs g):Cg P mJ fO iq (fun pre=>pre<+:xs) (fun ys=>ys=xs) g:=by
 intro g1 h1 yv g0 I Ix hI E1 hb L hs h0;refine ab0 (h g1 h1 yv (fun pre g=> ∃L,St g0 g L∧I pre L g) (fun pre g=> ∃L,St g0 g L∧Ix pre L g) (fun pre g g' hf ⟨L,a,b⟩=>⟨L,a.call hf,hI _ _ _ _ hf.le b⟩) (fun pre g g' hf ⟨L,a,b⟩=>⟨L,a.call hf,E1 _ _ _ _ hf.le b⟩)
  (fun pre x rest g2 lG hle ⟨L,a,b⟩=>(hb [] pre x L g2 ⟨rest,by rw[lG];simp⟩ hle a b).mono ?_) ⟨L,hs,h0⟩) ?_
 ·rintro e w' ⟨g3,bv,L',a1,a2,a3,a4,a5,a6⟩;exact⟨g3,bv,a1,a2,a3,fun h=>⟨L',a4,a5 h⟩,fun h=>⟨L',a4,a6 h⟩⟩
 rintro e w' ⟨g2,v,a1,a2,a3,⟨L',a4,a5⟩|⟨pre,hp,L',a4,a5⟩⟩
 ·exact⟨g2,v,L',a1,a2,a3,a4,.inl ⟨xs,rfl,a5⟩⟩
 exact⟨g2,v,L',a1,a2,a3,a4,.inr ⟨pre,hp,a5⟩⟩
theorem Hj{α:Type}(M:List α)(X:α){y:α}(L:List α):(M++(X::y::L)).Perm (X::y::(L++M)):=
 abA.trans ((abA.trans (acO.cons y)).cons X)
theorem yQ{α:Type}{mJ:FuncId}{fO:Array Value}{iq:α→List Value}{A Z:List α→Prop}{f:Operand}{ps:Array Tmp}{assign body:Code}
  (hs:St g0 g L) (hf:ev l f=some (.func (.func mJ) #[] fO)) (qS:cS P mJ) (vJ:Cg P mJ fO iq A Z g) (uf:(ps.toList.all fun t=>Nat.blt t N)=true) (Tp: ∀x,(iq x).length=ps.size)
  (I:List α→List dc→G→Prop) (Ix:Code→List α→List dc→G→Prop) (hI: ∀pre L g g',g.le g'→I pre L g→I pre L g') (E1: ∀c pre L g g',g.le g'→Ix c pre L g→Ix c pre L g')
  (h0:I [] L g) (B:List α→α→List dc→Env→G→Prop) (hB: ∀pre x L la g g',g.le g'→B pre x L la g→B pre x L la g')
  (uY: ∀lp D (ro:LoopState→Obj) pre x gr Lr M,A (pre++[x])→g.le gr→St g0 gr (.obj lp (ro .ready):: .obj D g_::(Lr++M))→I pre Lr gr→
   W {Wd with round:=some lp} P N [] assign (Exit.then (fun a w'=> ∃g2 L2 la,w'=g2.w∧gr.le g2∧St g0 g2 (.obj lp (ro .ready):: .obj D g_::(L2++M))∧B pre x L2 la g2∧Fr N [] la a) (fun _ _ _=>False)) (qW ps.toList (iq x) l) gr.w)
  (uZ: ∀lp D (ro:LoopState→Obj) pre x gr Lr la M,A (pre++[x])→g.le gr→St g0 gr (.obj lp (ro .busy):: .obj D g_::(Lr++M))→B pre x Lr la gr→
   W {Wd with round:=some lp} P N [] body (FY (fun L' g'=> ∃Ae,L'=Ae++M∧I (pre++[x]) Ae g') (fun c L' g'=> ∃Ae,L'=Ae++M∧Ix c (pre++[x]) Ae g') g0 gr lp D ro) la gr.w)
  (lL: ∀lp D o xs Lr ge,Z xs→g.le ge→St g0 ge (.obj lp o:: .obj D g_::Lr)→I xs Lr ge→ ∀a,Fr N (⟨.collected D,#[]⟩::ds) l a→Q .normal a ge.w)
  (D1: ∀c lp D o pre Lr ge,A pre→g.le ge→St g0 ge (.obj lp o:: .obj D g_::Lr)→Ix c pre Lr ge→W Wd P N (⟨.collected D,#[]⟩::ds) c Q l ge.w):
  W Wd P N ds (.rangeFunc f ps assign body) Q l g.w:=by
 intro a ha;refine wpIn_rangeFunc fun fn _=>?_;let ro:LoopState→Obj:=fun st=>kR fn a.tmps ps assign body g.w.heap.size st none
 have pH:=hs.al g_;have dm:=pH.1.al (ro .ready);have dk:(g.al g_).w.heap.size=g.w.heap.size+1:=by simp[G.al]
 let g2:=(g.al g_).al (ro .ready)
 have tq:g.le g2:=pH.2.trans dm.2;refine⟨g.w.heap.size+1,[⟨.collected g.w.heap.size,#[]⟩],g2.w,⟨.fn (.func mJ) fO,#[.func (.yield (g.w.heap.size+1)) #[] #[]]⟩,g2.w,mJ,(.func (.yield (g.w.heap.size+1)) #[] #[]::fO.toList).toArray,g2.w,?_,?_,fun _ _=>trivial,?_,fun h=>(by cases h),?_⟩
 ·exact run_enterLoop_outer fn a.tmps ps assign body
 ·simp only[resolve,ha.ev hf,Deferred.ofValue];simp[Act.eval,g2]
 ·have e:#[Value.func (.yield (g.w.heap.size+1)) #[] #[]]++fO=(.func (.yield (g.w.heap.size+1)) #[] #[]::fO.toList).toArray:=by apply abJ;simp
  rw[←e];exact jA qS _
 --Ph zc uS,with Tq holds G_ Ph rounds
 have Cu:St g0 g2 (.obj (g.w.heap.size+1) (ro .ready):: .obj g.w.heap.size g_::L):=by have:=dm.1;rw[dk]at this;exact this
 refine ab0 (vJ g2 tq (.func (.yield (g.w.heap.size+1)) #[] #[]) g0
  (fun pre L g'=>g.le g'∧ ∃Lr,L= .obj (g.w.heap.size+1) (ro .ready):: .obj g.w.heap.size g_::Lr∧I pre Lr g')
  (fun pre L g'=>g.le g'∧ ∃c Lr,L= .obj (g.w.heap.size+1) (kR fn a.tmps ps assign body g.w.heap.size .done (some c)):: .obj g.w.heap.size g_::Lr∧Ix c pre Lr g')
  (fun pre L ga gb hf ⟨h1,Lr,h2,h3⟩=>⟨h1.trans hf,Lr,h2,hI _ _ _ _ hf h3⟩)
  (fun pre L ga gb hf ⟨h1,c,Lr,h2,h3⟩=>⟨h1.trans hf,c,Lr,h2,E1 _ _ _ _ _ hf h3⟩) ?_ _ Cu ⟨tq,L,rfl,hI _ _ _ _ tq h0⟩) ?_
 ·--one round
  rintro M pre x _ gp lG Tr W6 ⟨tL,Lr,rfl,hi⟩;have dj:St g0 gp (.obj (g.w.heap.size+1) (ro .ready):: .obj g.w.heap.size g_::(Lr++M)):=W6.perm (Hj M _ Lr);have pJ:gp.w.heap[g.w.heap.size+1]? =some (ro .ready):=(dj.own 0 _ rfl).2.1;refine⟨fn,_,assign,body,run_yield pJ (by simpa [kR]using Tp x),?_⟩;refine roundIn_of_wpIn trivial ?_;have zd:Fr N [] (qW ps.toList (iq x) l) {tmps:=(ps.zip (#[]++(iq x).toArray)).foldl (fun tmps (x:Nat×Value)=>tmps.setIfInBounds x.1 x.2) a.tmps,defers:=[]}:=by
   have h:=Cv (N:=N) ps.toList (iq x) l a.tmps uf ⟨rfl,ha.size,ha.get⟩;have e:(ps.zip (#[]++(iq x).toArray)).foldl (fun tmps (x:Nat×Value)=>tmps.setIfInBounds x.1 x.2) a.tmps=(ps.toList.zip (iq x)).foldl (fun tmps (x:Nat×Value)=>tmps.setIfInBounds x.1 x.2) a.tmps:=by rw[←adr];simp
   rw[e];exact h
  refine ab3 (uY _ _ ro pre x _ Lr M lG tL dj hi _ zd) fun e a1 w1 he=>?_;cases e with
  |normal=>
   obtain⟨gq,Lq,la,rfl,W7,TD,hBq,Ll⟩:=he;have TE:gq.w.heap[g.w.heap.size+1]? =some (ro .ready):=(TD.own 0 _ rfl).2.1;have hb:=TD.po (i:=0) (o':=ro .busy) rfl;have ET:=W7.trans hb.2;refine⟨(gq.po (g.w.heap.size+1) (ro .busy)).w,run_beginRound TE rfl,?_⟩;have FZ:St g0 (gq.po (g.w.heap.size+1) (ro .busy)) (.obj (g.w.heap.size+1) (ro .busy):: .obj g.w.heap.size g_::(Lq++M)):=hb.1;refine ab3 (uZ _ _ ro pre x _ Lq la M lG (tL.trans ET) FZ (hB _ _ _ _ _ _ hb.2 hBq) a1 Ll) fun e a2 w2 he=>?_;cases e with
   |normal=>
    obtain⟨_,g',rfl,mB,gZ,L',rfl,hi'⟩:=he;have mC:g'.w.heap[g.w.heap.size+1]? =some (ro .busy):=(mB.own 0 _ rfl).2.1;have hp:=mB.po (i:=0) (o':=ro .ready) rfl;refine⟨_,_,run_endRound none mC,g'.po (g.w.heap.size+1) (ro .ready),true,_,rfl,rfl,(ET.trans gZ).trans hp.2,hp.1.perm (Hj M _ L').symm,fun _=>⟨((tL.trans ET).trans gZ).trans hp.2,L',rfl,hI _ _ _ _ hp.2 hi'⟩,fun h=>(by cases h)⟩
   |ret=>
    obtain⟨_,g',rfl,mB,gZ,L',rfl,hi'⟩:=he;have mC:g'.w.heap[g.w.heap.size+1]? =some (ro .busy):=(mB.own 0 _ rfl).2.1;have hp:=mB.po (i:=0) (o':=kR fn a.tmps ps assign body g.w.heap.size .done (some .ret)) rfl;refine⟨_,_,run_endRound (some .ret) mC,g'.po (g.w.heap.size+1) (kR fn a.tmps ps assign body g.w.heap.size .done (some .ret)),false,_,rfl,rfl,(ET.trans gZ).trans hp.2,hp.1.perm (Hj M _ L').symm,fun h=>(by cases h),
     fun _=>⟨((tL.trans ET).trans gZ).trans hp.2,.ret,L',rfl,E1 _ _ _ _ _ hp.2 hi'⟩⟩
   |exit id=>
    obtain⟨_,g',rfl,mB,gZ,L',rfl,hi'⟩:=he;have mC:g'.w.heap[g.w.heap.size+1]? =some (ro .busy):=(mB.own 0 _ rfl).2.1;have hp:=mB.po (i:=0) (o':=kR fn a.tmps ps assign body g.w.heap.size .done (some (.exit id))) rfl;refine⟨_,_,run_endRound (some (.exit id)) mC,g'.po (g.w.heap.size+1) (kR fn a.tmps ps assign body g.w.heap.size .done (some (.exit id))),false,_,rfl,rfl,(ET.trans gZ).trans hp.2,hp.1.perm (Hj M _ L').symm,fun h=>(by cases h),
     fun _=>⟨((tL.trans ET).trans gZ).trans hp.2,.exit id,L',rfl,E1 _ _ _ _ _ hp.2 hi'⟩⟩
   |goto t=>exact he.elim
   |panic c=>exact he.elim
   |outgrown=>exact he.elim
  |exit id=>exact he.elim
  |goto t=>exact he.elim
  |ret=>exact he.elim
  |panic c=>exact he.elim
  |outgrown=>exact he.elim
 --Ph iterator has ended
 rintro e w' ⟨ge,v,_,rfl,rfl,gZ,dj,h⟩;have D2:Fr N (⟨.collected g.w.heap.size,#[]⟩::ds) l {a with defers:=[⟨.collected g.w.heap.size,#[]⟩]++a.defers}:=⟨by simp[ha.defers],ha.size,ha.get⟩;rcases h with⟨xs,hz,hle,Lr,rfl,hi⟩|⟨pre,oz,hle,c,Lr,rfl,hi⟩
 ·have pJ:ge.w.heap[g.w.heap.size+1]? =some (ro .ready):=(dj.own 0 _ rfl).2.1;have hp:=dj.po (i:=0) (o':=kR fn a.tmps ps assign body g.w.heap.size .exhausted none) rfl;exact⟨none,_,run_endLoop pJ (by simp),lL _ _ _ xs Lr (ge.po _ _) hz (hle.trans hp.2) hp.1 (hI _ _ _ _ hp.2 hi) _ D2⟩
 have pJ:ge.w.heap[g.w.heap.size+1]? =some (kR fn a.tmps ps assign body g.w.heap.size .done (some c)):=(dj.own 0 _ rfl).2.1;have hp:=dj.po (i:=0) (o':=kR fn a.tmps ps assign body g.w.heap.size .exhausted (some c)) rfl;exact⟨some c,_,run_endLoop pJ (by simp),D1 c _ _ _ pre Lr (ge.po _ _) oz (hle.trans hp.2) hp.1 (E1 _ _ _ _ _ hp.2 hi) _ D2⟩
variable {c:Code}
theorem Fb{id:Nat}{J':Act→World→Prop}(J:Act→World→Prop)(h:W F P N ds c (Exit.inBlock id (Exit.then J Q)) l w)(h2: ∀a w,J a w→J' a w):W F P N ds c (Exit.inBlock id (Exit.then J' Q)) l w:=by
 have e: ∀e a w,Exit.then J Q e a w→Exit.then J' Q e a w:=fun e a w hq=>by cases e<;>first|exact h2 _ _ hq|exact hq
 refine fun a ha=>ab3 (h a ha) fun x a w hq=>?_;cases x<;>simp only[Exit.inBlock]at hq⊢ <;>first|exact e _ _ _ hq|(split at hq<;>split<;>first|exact e _ _ _ hq|contradiction)
theorem PO{c0 c:Code}{J':Act→World→Prop}(J:Act→World→Prop)(h:W F P N ds c0 (Exit.then (c.wpIn F 0 P (Exit.then J Q)) (Exit.then J Q)) l w)(h2: ∀a w,J a w→J' a w):W F P N ds c0 (Exit.then (c.wpIn F 0 P (Exit.then J' Q)) (Exit.then J' Q)) l w:=by
 have e: ∀e a w,Exit.then J Q e a w→Exit.then J' Q e a w:=fun e a w hq=>by cases e<;>first|exact h2 _ _ hq|exact hq
 refine fun a ha=>ab3 (h a ha) fun x a w hq=>?_;cases x<;>first|exact ab3 hq e|exact hq
theorem Iz{P:Program}{f:FuncId}{fn:Func}{s:ChangeSpec}{c:OpenClaim}
  (h1:(c.inPlace==P.inPlace f)=true) (h2:(c.unfollowed==P.unfollowed f)=true) (h3:(c.recurses==P.recurses f)=true) (h4:(c.named==P.varsNamed f)=true)
  (h5:(c.wf (OpenSpec.ofChange s)&&fn.params.all (P.readableRec ·)&&namedTie P c.named s.vars)=true) (a2:laidOutB P=true) (a3:mapsRowed P=true)
  (h6:(P.mayEnter&&(c.lifted==P.liftsFinal)&&(P.make==some c.make))=true)
  (h7:((c.plainKeys==P.plainKeys)&&P.stopsHeard&&(P.stops==[])&&(P.stopKnobs==[]))=true)
  (h8:((c.stops==[])&&(c.knobs==[])&&(c.maps==(fn.params.toList++s.plain.varTypes P).any (P.mapsRec ·))&&(c.ifaces==(fn.params.toList++s.plain.varTypes P).any (P.ifacesRec ·))&&(c.mapsOut==P.mapsAmong fn.resultTypes.toList)&&
   (c.loops==(fn.params.toList++s.plain.varTypes P).any (P.loopsFrom ·))&&(c.wideKeys==(fn.params.toList++s.plain.varTypes P++fn.resultTypes.toList).any (P.wideKeysFrom ·))&&
   s.vars.all (P.varReadable ·)&&fn.resultTypes.all (fun t=>P.readableRec t&&decide (t<P.types.size))&&(c.ifacesOut==fn.resultTypes.toList.any (P.ifacesRec ·))&&(c.loopsOut==fn.resultTypes.toList.any (P.loopsFrom ·))&&c.shortTexts.isNone&&(c.kinds==(if c.domain.isEmpty then []else fn.params.toList.map fun t=>match P.underlying t with|some (.int k)=>some k|_=>none))&&(c.pinned==c.pinnedBy)&&
   (c.veiled==(fn.params.toList++s.plain.varTypes P++fn.resultTypes.toList).any (P.veiledRec ·))&&c.veiledFits P fn.params.toList (fn.params.toList++s.plain.varTypes P++fn.resultTypes.toList))=true):joinedFacts P f fn s c=true:=by
 unfold joinedFacts;simp only[aaA]at h5 h6 h7 h8⊢;obtain⟨⟨a1,a4⟩,a5⟩:=h5;obtain⟨⟨b1,b2⟩,b3⟩:=h6;obtain⟨⟨⟨d1,d2⟩,d3⟩,d4⟩:=h7;obtain⟨⟨⟨⟨⟨⟨⟨⟨⟨⟨⟨⟨⟨⟨⟨e1,e2⟩,e3⟩,e4⟩,e5⟩,e6⟩,e7⟩,e8⟩,e9⟩,W8⟩,U9⟩,e12⟩,e13⟩,e14⟩,e15⟩,e16⟩:=h8;exact⟨⟨⟨⟨⟨⟨⟨⟨⟨⟨⟨⟨⟨⟨⟨⟨⟨⟨⟨⟨⟨⟨⟨⟨⟨⟨⟨⟨⟨⟨⟨a1,a2⟩,a3⟩,a4⟩,a5⟩,e1⟩,d3⟩,e2⟩,d4⟩,h1⟩,h2⟩,h3⟩,h4⟩,e3⟩,e4⟩,e5⟩,e6⟩,e7⟩,e8⟩,e9⟩,W8⟩,U9⟩,d1⟩,e12⟩,d2⟩,b1⟩,b2⟩,b3⟩,e13⟩,e14⟩,e15⟩,e16⟩
variable {L':List dc}
def oV(e:TypeId)(v:Value)(xs:List UInt8)(Lr:List dc):Prop:=
 (v= .slice none 0 0∧xs=[]∧Lr=[])∨ ∃br cap cur,v= .slice (vA br) xs.length cap∧Lr=[.obj br (.cells cur e (0,0))]∧xs.length≤cap∧cap≤maxLen∧cur.size=cap∧cur.toList.take xs.length=fq xs
theorem oV.nil(e:TypeId):oV e (.slice none 0 0) [] []:=.inl ⟨rfl,rfl,rfl⟩
theorem wS(s:List UInt8):Lib.strCells (bs s)=fq s:=by simp[Lib.strCells,fq,bs]
theorem pK(s:List UInt8):(fq s).length=s.length:=by simp[fq]
theorem Iu(s t:List UInt8):fq (s++t)=fq s++fq t:=by simp[fq]
theorem Iv{g:G}{w':World}(hg:g.w.grownBy w' none):bW g ⟨w',g.im,fun b h=>abp (g.lt b h) hg.size⟩:=
 ⟨⟨hg.os,hg.tape,hg.output,hg.size,fun k hk=>hg.block k hk (by simp)⟩,fun _ _=>aba⟩
theorem As{tb:Tb}(dS:tb.ok P){t u e ty:Nat}{ti ei ui:TI}{v:Value}{xs ys:List UInt8}{Lr:List dc}(hb:oV e v xs Lr)(hs:St g0 g (Lr++L))
  (hi:tl tb t=some ti) (hd:ti.desc= .slice e) (hu:tl tb u=some ui) (WQ:ui.desc= .string) (hj:tl tb e=some ei) (hk:ei.size=1) (xS:ei.bytes=1) (hz:ei.zero= .int .u8 0) (hlen:xs.length+ys.length≤140737488355328):
  ∃v' Ae g',(Builtin.append_ #[t,u] ty #[v,.string (bs ys)]).run P g.w= .ok v' g'.w∧oV e v' (xs++ys) Ae∧St g0 g' (Ae++L)∧g.le g':=by
 obtain⟨⟨dd,GD,he⟩,_⟩:=dS.at hi;rw[hd]at he;obtain rfl:=KD.of_slice he;obtain⟨⟨dd,MM,he⟩,_⟩:=dS.at hu;rw[WQ]at he;obtain rfl:=KD.of_string he;obtain⟨_,inf,e1,e2,e3,e4⟩:=dS.at hj;rw[hk]at e2;rw[xS]at e3;rw[hz]at e4;have dk:(bs ys).size=ys.length:=bX ys;have MB:xs.length+ys.length≤maxLen:=by unfold maxLen;omega
 have Ln: ∀(QR:Nat) (cs:List Value),cs.length=xs.length+ys.length→QR<xs.length+ys.length→cs=fq (xs++ys)→
   oV e (.slice (vA g.w.heap.size) (xs.length+ys.length) (grownCap g.w (xs.length+ys.length) QR e)) (xs++ys)
    [.obj g.w.heap.size (.cells (cs.toArray++Builtin.zeroCells (Value.int .u8 0).cells (grownCap g.w (xs.length+ys.length) QR e-(xs.length+ys.length))) e (0,0))]:=by
  intro QR cs je ho hc;have EK:=grownCap_ge g.w (xs.length+ys.length) QR e;have tG:grownCap g.w (xs.length+ys.length) QR e≤maxLen:=grownCap_le_maxLen g.w (xs.length+ys.length) QR e MB;refine .inr ⟨_,_,_,by rw[aal],rfl,by rw[aal];exact EK,tG,?_,?_⟩
  ·have WR:(Value.int IntKind.u8 0).cells.size=1:=rfl;simp only[Array.size_append,acC,size_zeroCells,WR,je];omega
  rw[←hc,aal,←je];simp only[Array.toList_append];exact acf
 rcases hb with⟨rfl,rfl,rfl⟩|⟨br,cap,cur,rfl,rfl,qP,tG,oR,ed⟩
 ·by_cases hm:ys.length=0
  ·have O8:ys=[]:=aa' hm;subst O8;refine⟨.slice none 0 0,[],g,?_,.inl ⟨rfl,rfl,rfl⟩,hs,G.le.refl g⟩;have hf:=Lib.run_firstCells_string (P:=P) g.w 1 (bs []);rw[dk,aay]at hf;simp[Builtin.append_,run_underlying GD,run_underlying MM,sizeOf,typeInfo,e1,e2,Builtin.lenOf,dk,hf]
  have hr:=run_append_nil_string (P:=P) (ty:=ty) g.w t u e inf (.int .u8 0) GD MM e1 e4 (bs ys) (by rw[dk];omega) (by rw[dk];omega) (by rw[e3,dk];omega);have e5:((bs ys).data.map fun b=>Value.int .u8 b.toNat)=(fq ys).toArray:=by apply abJ;simp[fq,bs]
  rw[e5,dk]at hr;have mP:=Ln 0 (fq ys) (by simp[fq]) (by simp only[aay];omega) (by simp);simp only[aay,abo]at mP;have hg:g.w.grownBy (g.w.drew.alloc (.cells ((fq ys).toArray++Builtin.zeroCells (Value.int .u8 0).cells (grownCap g.w ys.length 0 e-ys.length)) e)) none:=⟨rfl,rfl,rfl,by simp,fun k hk _=>heap_alloc_old g.w.drew _ k hk⟩
  let g':G:=⟨_,g.im,fun b h=>abp (g.lt b h) hg.size⟩
  have dj:=hs.add (g':=g') (e':=.obj g.w.heap.size (.cells ((fq ys).toArray++Builtin.zeroCells (Value.int .u8 0).cells (grownCap g.w ys.length 0 e-ys.length)) e)) hg (fun _ _=>aba)
   ⟨hs.below.size,heap_alloc_new g.w.drew _,fun h=>by have:=g.lt _ h;omega⟩ (fun b hb=>by simp only[dc.xy,aau]at hb;omega)
  exact⟨_,_,g',hr,mP,dj.1,dj.2⟩
 have eF:=hs.own 0 _ rfl;have hh:g.w.heap[br]? =some (.cells cur e (0,0)):=eF.2.1;by_cases Bj:xs.length+ys.length≤cap
 ·have hr:=Lib.run_append_room_string (P:=P) g.w t u ty e inf GD MM e1 e2 br xs.length cap cur hh (bs ys) (by rw[dk];exact Bj) (by rw[dk];omega);rw[dk,wS]at hr;have dj:=hs.sr (i:=0) (cs':=(cur.toList.take xs.length++fq ys++cur.toList.drop (xs.length+ys.length)).toArray) rfl;refine⟨_,_,_,hr,.inr ⟨br,cap,_,by rw[aal],rfl,by rw[aal];exact Bj,tG,?_,?_⟩,dj.1,dj.2⟩
  ·simp only[acC,aal,aat,aaM,Array.length_toList,pK];omega
  rw[ed,Iu,show(xs++ys).length=(fq xs++fq ys).length from by simp[fq]];exact acf
 have holds: ∀j u,(fq xs)[j]? =some u→g.w.cell? ((⟨br,0,none⟩:Addr).add j)=some u:=by intro j u WS;have hj:=(aaN.1 WS).1;rw[pK]at hj;rw[←ed,abt hj,acI]at WS;rw[abM];simp[World.cell?,hh,WS]
 have hr:=Lib.run_append_grow_string (P:=P) g.w t u ty e inf (.int .u8 0) GD MM e1 e4 ⟨br,0,none⟩ xs.length cap (fq xs) (by rw[e2,pK];omega) holds (bs ys) (by rw[dk];omega) (by rw[dk];omega) (by rw[e3,dk];exact growslice_fits (by omega) (by omega));rw[dk,wS,show(fq xs).toArray++(fq ys).toArray=(fq (xs++ys)).toArray from by simp[fq]]at hr;have mP:=Ln cap (fq (xs++ys)) (by simp[fq]) (by omega) rfl;have hg:g.w.grownBy (g.w.drew.alloc (.cells ((fq (xs++ys)).toArray++Builtin.zeroCells (Value.int .u8 0).cells (grownCap g.w (xs.length+ys.length) cap e-(xs.length+ys.length))) e)) (some br):=⟨rfl,rfl,rfl,by simp,fun k hk _=>heap_alloc_old g.w.drew _ k hk⟩
 let g':G:=⟨_,g.im,fun b h=>abp (g.lt b h) hg.size⟩
 have dj:=hs.MK (i:=0) (e:=.obj br (.cells cur e (0,0))) (g':=g') (e':=.obj g.w.heap.size (.cells ((fq (xs++ys)).toArray++Builtin.zeroCells (Value.int .u8 0).cells (grownCap g.w (xs.length+ys.length) cap e-(xs.length+ys.length))) e)) rfl hg (fun _ _=>aba)
  ⟨hs.below.size,heap_alloc_new g.w.drew _,fun h=>by have:=g.lt _ h;omega⟩ (fun b hb=>by simp only[dc.xy,aau]at hb;right;omega)
 exact⟨_,_,g',hr,mP,dj.1,dj.2⟩
theorem D5{tb:Tb}(dS:tb.ok P){t u e:Nat}{ti ei ui:TI}{s x:Operand}{v:Value}{xs ys:List UInt8}{Lr:List dc}(ho:o.op= .call {callee:=.builtin .append,args:=#[s,x],argTypes:=#[t,u]})
  (hb:oV e v xs Lr) (hs:St g0 g (Lr++L)) (hv:ev l s=some v) (hx:ev l x=some (.string (bs ys)))
  (hi:tl tb t=some ti) (hd:ti.desc= .slice e) (hu:tl tb u=some ui) (WQ:ui.desc= .string) (hj:tl tb e=some ei) (hk:ei.size=1) (xS:ei.bytes=1) (hz:ei.zero= .int .u8 0) (hlen:xs.length+ys.length≤140737488355328)
  (kk: ∀v' Ae g',oV e v' (xs++ys) Ae→St g0 g' (Ae++L)→g.le g'→K v' g'.w):cQ F P N ds o l g.w Q K:=by
 obtain⟨v',Ae,g',lz,h1,h2,h3⟩:=As (ty:=o.type) dS hb hs hi hd hu WQ hj hk xS hz hlen;refine gM ho (w':=g'.w) (fun a ha=>?_) (kk v' Ae g' h1 h2 h3);simp[resolve,invoke,builtin,ha.ev hv,ha.ev hx,lz]
theorem oV.U6{T e b:Nat}{p v:Value}{xs:List UInt8}{Lr:List dc}(hb:oV e v xs Lr)(hs:St g0 g (vO b [p,v] T::(Lr++L))):Lib.BuilderAtF T e g0.w.heap.size b p (Lib.byteCells xs) g.w:=by
 have h0:=hs.own 0 _ rfl;have hlen:(Lib.byteCells xs).length=xs.length:=by simp[Lib.byteCells]
 rcases hb with⟨rfl,rfl,rfl⟩|⟨br,cap,cur,rfl,rfl,qP,tG,oR,ed⟩
 ·exact⟨h0.1,_,h0.2.1,⟨rfl,.inl ⟨rfl,rfl⟩⟩,by simp[Value.ownBlock]⟩
 have h1:=hs.own 1 _ rfl;refine⟨h0.1,_,h0.2.1,⟨by rw[hlen,aaW],.inr ⟨br,cap,cur,(0,0),by rw[hlen],h1.1,h1.2.1,aar _,by rw[hlen];exact qP,tG,by rw[aaW];exact oR,by rw[hlen,aaW,ed];rfl⟩⟩,?_⟩;intro h;simp only[Value.ownBlock,aau]at h;exact hs.sep 0 1 _ _ (by omega) rfl rfl b rfl (by simp[dc.xy,h])
theorem D6{src dst:TypeId}{x:Operand}{v v':Value}(ho:o.op= .convert src dst x)(hx:ev l x=some v)(h:(convert src dst v).run P w= .ok v' w)(k:K v' w):cQ F P N ds o l w Q K:=
 bC (fun c=>⟨by rw[ho];simp,by rw[ho];simp⟩) (fun a ha=>by simp[execOp,ho,ha.ev hx,h]) k
theorem F0{f:FuncId}{fn:Func}{e:Array Value→Sem Value}(hf:P.funcs[f]? =some fn)(Tv:(fn.name== "runtime.NumGoroutine")=false)(hb:fn.body.isNone=true)(hn:Extern.findNext fn=none)(he:Extern.find fn=some e)(hF: ∀f,F.fn f)
  {x:Operand} {args:Array Operand} {ts:Array TypeId} {vs:List Value} {v:Value} (ho:o.op= .call {callee:=.value x,args,argTypes:=ts}) (hx:ev l x=some (.func (.func f) #[] #[])) (ha:xv l args.toList=some vs)
  (h:(e vs.toArray).run P w= .ok v w) (k:K v w):cQ F P N ds o l w Q K:=by
 intro a Jd;unfold Oper.wpIn;refine⟨fun f _=>hF f,?_⟩;have uX:args.map a.eval=vs.toArray:=by apply abJ;simpa using j9 Jd ha
 rw[abR _ _ _ (fun c e=>by rw[ho]at e;cases e)];have lz:(execOp a.eval o).run P w= .ok (.value v) w:=by
  simp only[execOp,ho,aaE,resolve,Jd.ev hx,Deferred.ofValue,aa5,aaH,invoke,uX];have e1:#[]++vs.toArray++#[]=vs.toArray:=by apply abJ;simp
  rw[e1,run_callFunc_extern hf Tv hb hn he,h];rfl
 rw[lz];exact⟨v,rfl,k⟩
theorem ze{t te t':TypeId}{j:TypeInfo}{x y:Operand}{ad:Addr}(ho:o.op= .binOp .neq t x y t')(hx:ev l x=some (.pointer (some ad)))(hy:ev l y=some (.pointer (some ad)))
  (hp:P.underlying t=some (.pointer te)) (H0:P.info? te=some j) (k:K (.bool false) w):cQ F P N ds o l w Q K:=by
 have hg: ∀op,(eqGuard op t x y (.pointer (some ad)) (.pointer (some ad))).run P w= .ok () w:=fun op=>by unfold eqGuard;split<;>rfl
 have hq:=Lib.run_neq_ptr_same (w:=w) ad hp H0;exact bC (fun c=>⟨by rw[ho];simp,by rw[ho];simp⟩) (fun a ha=>by simp[execOp,ho,ha.ev hx,ha.ev hy,hg,hq]) k
theorem St.tail{M:List dc}(hs:St g0 g (M++L)):St g0 g L:=by
 induction M with
 |nil=>exact hs
 |cons e M ih=>exact ih (hs.drop 0)
theorem Row.at{B:Nat}{e:TypeId}{k:Nat}{v:Value}{n:Nat}{xs:List Value}(h:Row B e k v n xs w){q:Nat}(hq:uj v=some q): ∃cur fz,w.heap[q]? =some (.cells cur e fz):=by
 rcases h.2 with⟨_,a',rfl⟩|⟨b',off,cap,cur,rfl,_,⟨fz,hh,_⟩,_⟩
 ·rw[mA]at hq;cases hq
 obtain⟨_,_,_,e1,_,e2⟩:=nH hq;simp only[aaK,aau]at e1;obtain⟨rfl,_⟩:=e1;subst e2;exact⟨_,_,hh⟩
def tM(tmps:Array Value):Env→Prop
 |[]=>True
 |(t,v)::r=>tmps[t]? =some v∧tM tmps r
theorem tM.get{tmps:Array Value}: ∀{l:Env},tM tmps l→ ∀t v,lk l t=some v→tmps[t]? =some v
 |[],_,t,v,h=>by simp[lk]at h
 |(k,u)::r,⟨h1,h2⟩,t,v,h=>by
  by_cases e:k=t
  ·subst e;rw[dz]at h;exact(aax h)▸h1
  rw[cG _ _ e]at h;exact h2.get t v h
theorem Fr.QT{tmps:Array Value}(hs:tmps.size=N)(h:tM tmps l):Fr N ds l {tmps,defers:=ds}:=⟨rfl,hs,h.get⟩
theorem Ha{c:Code}{QS:Exit→Act→List Frame→World→Prop}{cs:List Frame}{tmps:Array Value}{a:Act}(ha:a={tmps,defers:=[]})(hs:tmps.size=N)(hl:tM tmps l)(h:W Wd P N [] c (fun e a' w'=>QS e a' cs w') l w):
  c.wpSIn Wd 0 P QS a cs w:=by
 subst ha;exact wpSIn_of_wpIn rfl (h _ (Fr.QT hs hl))
theorem Tw{fn:Func}{c₀:Frame}{cs cs':List Frame}{RS:Ending→FrameMode→World→Prop}(u':FrameMode)(hr:fn.results=#[])(hc:cs'={c₀ with mode:=u'}::cs)(hR:RS (.returned (.tuple #[])) u' w)(a:Act)(ha:Fr N [] l a):bodyPostS P fn c₀ cs RS .normal a cs' w:=
 ⟨ha.defers,u',hc,_,results_none hr _ _ _,hR⟩
theorem D7{f:FuncId}{x:Operand}{first captured:Array Value}(Tg:F.round=none)(hF: ∀f,F.fn f)(hg:gd ops l o=some true)(hd:o.dst=none)(ho:o.op= .defer {callee:=.value x,args:=#[],argTypes:=#[]})(hx:ev l x=some (.func (.func f) first captured))
  (k:WL F P N (⟨.fn (.func f) captured,first⟩::ds) ops Q os l w):WL F P N ds ops Q (o::os) l w:=by
 intro a ha;simp only[wpListIn,N5 hg ha,if_true];unfold Oper.wpIn;refine⟨fun f _=>hF f,?_⟩;rw[Tg,Oper.semAt_none];have lz:(execOp a.eval o).run P w= .ok (.defer ⟨.fn (.func f) captured,first⟩) w:=by simp[execOp,ho,resolve,ha.ev hx,Deferred.ofValue]
 rw[lz];simp only[Oper.uponIn,hd,Act.put];exact k _ ⟨by simp[ha.defers],ha.size,ha.get⟩
theorem Lo{f:FuncId}{fn:Func}{c:Code}{args:Array Value}(hf:P.funcs[f]? =some fn)(hb:fn.body=some c)(hN:fn.ntmps=N)(hle:Nat.ble args.size N=true)
  (h:W Wd P N [] c (bodyPostDIn Wd 0 P fn R) (pL 0 args.toList) w):CallsIn Wd 0 P f args w R:=by
 refine callsIn_of_wp_defers hf hb trivial ?_;rw[hN];exact h _ (zf args N hle)
theorem Hb{fn:Func}{tmps:Array Value}{f:FuncId}{cap:Array Value}{u:FrameMode}(hc:cS P f)(hu:u≠ .run)
  (h:CallsDIn Wd 0 P f cap u w fun
   | .returned _,u',w'=>LeavesIn Wd 0 P fn tmps R [] (settle u') w'
   | .panicked chain,u',w'=>LeavesIn Wd 0 P fn tmps R [] (raised u' chain) w'
   | .outgrown,_,w'=>R .outgrown w'):LeavesIn Wd 0 P fn tmps R [⟨.fn (.func f) cap,#[]⟩] u w:=by
 refine leavesIn_cons (args:=cap) (f:=f) hu (fun h=>by cases h) ?_ (fun _ _=>trivial) h;have e:#[]++cap=cap:=by apply abJ;simp
 simp only[invoke];rw[e];exact jA hc cap
theorem QV{fn:Func}{f:FuncId}{cap:Array Value}(hc:cS P f)
  (h: ∀tmps:Array Value,(∀t v,lk l t=some v→tmps[t]? =some v)→CallsDIn Wd 0 P f cap .returning w fun
   | .returned _,u',w'=>LeavesIn Wd 0 P fn tmps R [] (settle u') w'
   | .panicked chain,u',w'=>LeavesIn Wd 0 P fn tmps R [] (raised u' chain) w'
   | .outgrown,_,w'=>R .outgrown w') (a:Act) (ha:Fr N [⟨.fn (.func f) cap,#[]⟩] l a):bodyPostDIn Wd 0 P fn R .ret a w:=by
 show LeavesIn Wd 0 P fn a.tmps R a.defers .returning w;rw[ha.defers];exact Hb hc (by simp) (h a.tmps ha.get)
theorem F1{fn:Func}{f:FuncId}{cap:Array Value}{ch:List PanicEntry}(hc:cS P f)
  (h: ∀tmps:Array Value,(∀t v,lk l t=some v→tmps[t]? =some v)→CallsDIn Wd 0 P f cap (.panicking ch) w fun
   | .returned _,u',w'=>LeavesIn Wd 0 P fn tmps R [] (settle u') w'
   | .panicked chain,u',w'=>LeavesIn Wd 0 P fn tmps R [] (raised u' chain) w'
   | .outgrown,_,w'=>R .outgrown w') (a:Act) (ha:Fr N [⟨.fn (.func f) cap,#[]⟩] l a):bodyPostDIn Wd 0 P fn R (.panic ch) a w:=by
 show LeavesIn Wd 0 P fn a.tmps R a.defers (.panicking ch) w;rw[ha.defers];exact Hb hc (by simp) (h a.tmps ha.get)
open Go.Sort
def eB(zs:List Int):List Value:=zs.map (Value.int .i64)
theorem oW(zs:List Int):(eB zs).length=zs.length:=by simp[eB]
theorem D8{zs:List Int}{off:Nat}{cur:Array Value}(j:Nat):(putCells (Value.int .i64) off zs.toArray cur)[j]? =(cur[j]?).map fun x=>if off≤j∧j<off+zs.length then Value.int .i64 (zs.toArray[j-off]!)else x:=by unfold putCells;rw[Array.getElem?_mapIdx];simp
theorem sY{zs:List Int}{off:Nat}{cur:Array Value}:(putCells (Value.int .i64) off zs.toArray cur).size=cur.size:=by unfold putCells;simp
theorem wT(w:World)(q b off:Nat)(d:Array Int)(os:Array Obj)(k:Nat)(hk:k<w.heap.size):
  (grow (putRow (Value.int .i64) (Sort.ahead w q) b off d) os).heap[k]? =if b=k then(w.heap[k]?).map (fun o=>match o with| .cells c e f=> .cells (putCells (Value.int .i64) off d c) e f|o=>o)else w.heap[k]?:=by
 have h1:(grow (putRow (Value.int .i64) (Sort.ahead w q) b off d) os).heap=(putRow (Value.int .i64) (Sort.ahead w q) b off d).heap++os:=rfl;have h2:(putRow (Value.int .i64) (Sort.ahead w q) b off d).heap=w.heap.modify b (onCells (putCells (Value.int .i64) off d)):=rfl;rw[h1,h2,Array.getElem?_append_left (by simpa using hk),ads];split
 ·cases w.heap[k]? with
  |none=>rfl
  |some o=>cases o<;>rfl
 rfl
theorem Cw(w:World)(q b off:Nat)(d:Array Int)(os:Array Obj):w.grownBy (grow (putRow (Value.int .i64) (Sort.ahead w q) b off d) os) (some b):=
 ⟨rfl,rfl,rfl,by show w.heap.size≤((putRow (Value.int .i64) (Sort.ahead w q) b off d).heap++os).size;rw[Array.size_append];show _≤(w.heap.modify b _).size+_;simp,fun k hk fL=>by rw[wT w q b off d os k hk,if_neg (fun e=>fL (by rw[e]))]⟩
theorem St.putRow{i b off n c q:Nat}{e:TypeId}{zs d:List Int}{os:Array Obj}(hs:St g0 g L)(hi:L[i]? =some (.row e 1 (.slice (some ⟨b,off,none⟩) n c) n (eB zs)))(hn:n≠0)(hd:d.length=n):
  ∃g':G,g'.w=grow (Sort.putRow (Value.int .i64) (Sort.ahead g.w q) b off d.toArray) os∧St g0 g' (L.set i (.row e 1 (.slice (some ⟨b,off,none⟩) n c) n (eB d)))∧g.le g':=by
 have eF:=hs.own i _ hi;have hr:=eF.1;obtain⟨nL,hr⟩:=hr;rcases hr with⟨h0,_⟩|⟨b',WT,cap,cur,e1,hB,⟨fz,hh,hz⟩,qP,tG,oR,ed⟩
 ·exact absurd h0 hn
 simp only[aaK,aau,adi,true_and,and_true]at e1;obtain⟨⟨rfl,rfl⟩,rfl⟩:=e1;rw[aaW]at oR ed;have hg:=Cw g.w q b off d.toArray os;have Aj:uj (.slice (some ⟨b,off,none⟩) n c)=some b:=lx (by omega);have aV:b<g.w.heap.size:=(ab6.1 hh).1;let g':G:=⟨grow (Sort.putRow (Value.int .i64) (Sort.ahead g.w q) b off d.toArray) os,g.im,fun x h=>abp (g.lt x h) hg.size⟩
 have dj:=hs.MK (g':=g') (e':=.row e 1 (.slice (some ⟨b,off,none⟩) n c) n (eB d)) hi (by rw[show(dc.row e 1 (.slice (some ⟨b,off,none⟩) n c) n (eB zs)).xy=some b from Aj];exact hg) (fun _ _=>aba)
  ⟨⟨by rw[oW,hd,aaW],.inr ⟨b,off,c,putCells (Value.int .i64) off d.toArray cur,rfl,hB,⟨fz,by
    show(grow (Sort.putRow (Value.int .i64) (Sort.ahead g.w q) b off d.toArray) os).heap[b]? =_;rw[wT g.w q b off d.toArray os b aV,if_pos rfl,hh];rfl,by rw[sY];exact hz⟩,qP,tG,by rw[sY,aaW];exact oR,by
    rw[aaW];apply abL;intro j;by_cases hj:j<n
    ·rw[abt hj,abB,acI,D8,ac' (by omega),abn,if_pos ⟨by omega,by omega⟩,abO];unfold eB;rw[abd,aas (by omega),abn];congr 2;rw[getElem!_pos d.toArray j (by simp;omega)];simp
    rw[abx (by rw[aat];omega),abx (by rw[oW];omega)]⟩⟩,
   fun x hx h=>eF.2 x hx h⟩ (fun x hx=> .inl hx)
 exact⟨g',rfl,dj.1,dj.2⟩
theorem Row.KE{B b off n c:Nat}{e:TypeId}{zs:List Int}(h:Row B e 1 (.slice (some ⟨b,off,none⟩) n c) n (eB zs) w)(hn:n≠0):Holds (Value.int .i64) w b off zs.toArray∧b<w.heap.size∧n=zs.length∧n≤c∧c≤maxLen:=by
 obtain⟨nL,hr⟩:=h;rw[oW,aaW]at nL;rcases hr with⟨h0,_⟩|⟨b',WT,cap,cur,e1,hB,⟨fz,hh,hz⟩,qP,tG,oR,ed⟩
 ·exact absurd h0 hn
 simp only[aaK,aau,adi,true_and,and_true]at e1;obtain⟨⟨rfl,rfl⟩,rfl⟩:=e1;rw[aaW]at oR ed;refine⟨fun j hj=>?_,(ab6.1 hh).1,nL.symm,qP,tG⟩;have hj:j<zs.length:=by simpa using hj
 have hc:cur[off+j]? =some (vI zs.toArray[j]!):=by
  have:(eB zs)[j]? =some (vI zs.toArray[j]!):=by unfold eB;rw[abd,aas hj,abn,getElem!_pos zs.toArray j (by simpa using hj)];simp
  rw[←ed,abt (by omega),abB,acI]at this;exact this
 refine⟨by simp[World.cell?,hh,hc],?_⟩;rcases hz with rfl|hz
 ·simp[World.frozen?,hh]
 simp only[World.frozen?,hh,acE,decide_eq_false_iff_not];left;omega
variable {φs:List Fact} {l0:Env} {gd:G}
def posOf:List Nat→Nat→Option Nat
 |[],_=>none
 |e::r,i=>bif Nat.beq e i then some 0 else(posOf r i).map (· +1)
theorem tN: ∀{es:List Nat} {i k:Nat},posOf es i=some k→es[k]? =some i
 |[],i,k,h=>by cases h
 |e::r,i,k,h=>by
  unfold posOf at h;cases hb:Nat.beq e i with
  |true=>
   rw[hb]at h;obtain rfl:=aax h;rw[abZ hb];rfl
  |false=>
   rw[hb]at h;cases hp:posOf r i with
   |none=>rw[hp]at h;cases h
   |some k'=>
    rw[hp]at h;obtain rfl:=aax h;exact tN (es:=r) hp
theorem zg: ∀{es:List Nat} {i:Nat},posOf es i=none→ ∀k:Nat,es[k]? ≠some i
 |[],i,_,k=>by simp
 |e::r,i,h,k=>by
  unfold posOf at h;cases hb:Nat.beq e i with
  |true=>rw[hb]at h;cases h
  |false=>
   rw[hb]at h;cases hp:posOf r i with
   |some k'=>rw[hp]at h;cases h
   |none=>
    cases k with
    |zero=>
     intro he;obtain rfl:e=i:=by simpa using he
     rw[Nat.beq_refl]at hb;cases hb
    |succ k=>exact zg hp k
def Cx(ops:Array Oper)(es:List Nat)(m:Nat):Bool:=
 (List.range es.length).all fun k=>match es[k]? with
  |some e=>(posOf es e==some k)&&Nat.blt e m&&(Nat.beq k 0||(match es[k-1]?,ops[e]? with|some p,some o=>(uU o).contains p|_,_=>false))
  |none=>false
theorem F2{es:List Nat}{m:Nat}(h:Cx ops es m=true): ∀k e,es[k]? =some e→posOf es e=some k∧e<m∧(k≠0→ ∃p o,es[k-1]? =some p∧ops[e]? =some o∧p∈uU o):=by
 intro k e hk;have aV:=(aaN.1 hk).1;have:=(aa2.1 h) k (aa9.2 aV);rw[hk]at this;simp only[aaA,beq_iff_eq,abz]at this;obtain⟨⟨h1,h2⟩,h3⟩:=this;refine⟨h1,by simpa [abQ]using h2,fun fL=>?_⟩;rcases h3 with h3|h3
 ·exact absurd (abZ h3) fL
 cases hp:es[k-1]? with
 |none=>rw[hp]at h3;simp at h3
 |some p=>
  cases ho:ops[e]? with
  |none=>rw[hp,ho]at h3;simp at h3
  |some o=>
   rw[hp,ho]at h3;exact⟨p,o,rfl,rfl,by simpa using h3⟩
def D9(es:List Nat)(J:Nat→G→Prop)(s i:Nat)(g g':G):Prop:=match posOf es i with
 |some _=>g.le g'∧J (s+1) g'
 |none=>bW g g'
def Pj(F:Fence)(P:Program)(N:Nat)(ds:List Deferred)(ops:Array Oper)(Q:Exit→Act→World→Prop)(φs:List Fact)(l0:Env)(gd:G)(es:List Nat)(J:Nat→G→Prop)(i:Nat)(o:Oper):Prop:=
 ∀s g',gd.le g'→J s g'→(∀k,posOf es i=some k→s=k)→QA φs g' (jn ops o) l0 fun env=>
  match rP ops env o.guard with
  |some true=>cQ F P N ds o env g'.w Q fun v w'=> ∃ez,ez.w=w'∧D9 es J s i g' ez∧(iT φs i).p v ez
  |some false=>posOf es i=none∧(iT φs i).p undef g'
  |none=>False
def Cy(F:Fence)(P:Program)(N:Nat)(ds:List Deferred)(ops:Array Oper)(Q:Exit→Act→World→Prop)(φs:List Fact)(l0:Env)(gd:G)(es:List Nat)(J:Nat→G→Prop):Nat→List Oper→Prop
 |_,[]=>True
 |i,o::os=>Pj F P N ds ops Q φs l0 gd es J i o∧Cy F P N ds ops Q φs l0 gd es J (i+1) os
theorem Cy.at{es:List Nat}{J:Nat→G→Prop}: ∀{l:List Oper} {i0:Nat},Cy F P N ds ops Q φs l0 gd es J i0 l→ ∀(j:Nat) o,l[j]? =some o→Pj F P N ds ops Q φs l0 gd es J (i0+j) o
 |[],_,_,j,o,h=>by simp at h
 |x::l,i0,hs,0,o,h=>by simp only[abF,aau]at h;subst h;exact hs.1
 |x::l,i0,hs,j+1,o,h=>by simp only[ab2]at h;have:=Cy.at (i0:=i0+1) hs.2 j o h;rw[show i0+(j+1)=i0+1+j from by omega];exact this
variable {es:List Nat} {J:Nat→G→Prop}
def DJ(F:Fence)(P:Program)(N:Nat)(ds:List Deferred)(ops:Array Oper)(Q:Exit→Act→World→Prop)(φ:Fact)(g':G)(J':G→Prop)(o:Oper)(env:Env):Prop:=
 rP ops env o.guard=some true∧cQ F P N ds o env g'.w Q fun v w'=> ∃ez,ez.w=w'∧(g'.le ez∧J' ez)∧φ.p v ez
variable {g1:G} {R:G→Value→Prop} {ch:List PanicEntry} {b:Prop}
def zZ(g:G)(R:G→Value→Prop)(ch:List PanicEntry)(b:Prop):Ending→World→Prop:=fun e w'=>ug g R e w'∨(b∧gj g ch (fun g'=>bW g g') e w')
theorem zZ.ok{e:Ending}{w':World}(h:ug g R e w'):zZ g R ch b e w':=.inl h
theorem zZ.xB(hb:b)(hf:bW g g1):zZ g R ch b (.panicked ch) g1.w:=.inr ⟨hb,g1,rfl,rfl,hf.le,hf⟩
theorem kh{f:FuncId}(hc:cS P f)(hF: ∀f,F.fn f)(y_:F.depth=none){x:Operand}{args:Array Operand}{ts:Array TypeId}{first captured:Array Value}{vs YX:List Value}
  (ho:o.op= .call {callee:=.value x,args,argTypes:=ts}) (hx:ev l x=some (.func (.func f) first captured)) (ha:xv l args.toList=some vs) (has:first.toList++vs++captured.toList=YX)
  (h:CallsIn F 0 P f YX.toArray g.w (zZ g R ch b)) (k: ∀g' v,bW g g'→R g' v→K v g'.w) (kb:b→ ∀g',bW g g'→ ∀a,Fr N ds l a→Q (.panic ch) a g'.w):cQ F P N ds o l g.w Q K:=
 rY hc hF y_ ho hx ha has (ab0 h fun _ _ hh=>by
  rcases hh with⟨g',v,hw,hf,he,hr⟩|⟨hb,g',hw,he,_,hf⟩
  ·exact .inl ⟨v,he,hw▸k g' v hf hr⟩
  exact .inr ⟨ch,he,hw▸kb hb g' hf⟩)
def N8:TypeDesc→Bool
 | .interface .. =>false
 |_=>true
theorem N9{t:TypeId}{d:TypeDesc}{x:Operand}{v:Value}(ho:o.op= .makeInterface t x)(hd:P.underlying t=some d)(hn:N8 d=true)(hx:ev l x=some v)(k:K (.iface t v) w):cQ F P N ds o l w Q K:=
 bC (fun c=>⟨by rw[ho];simp,by rw[ho];simp⟩) (fun a ha=>by cases d<;>first|(simp[N8]at hn;done)|simp[execOp,ho,ha.ev hx,Instr.makeInterface,run_underlying hd]) k
def F3:Value→Option Bool
 | .nilIface=>some true
 | .iface _ _=>some false
 |_=>none
theorem qX{t t':TypeId}{d:TypeDesc}{x:Operand}{v:Value}{b neg:Bool}(ho:o.op= .binOp (if neg then .neq else .eql) t x (.const .nilIface) t')(hd:P.underlying t=some d)(hn:N8 d=false)(hx:ev l x=some v)(hb:F3 v=some b)(k:K (.bool (neg !=b)) w):cQ F P N ds o l w Q K:=
 bC (fun c=>⟨by rw[ho];simp,by rw[ho];simp⟩) (fun a ha=>by
  have hq:(Op.equal t v .nilIface).run P w= .ok b w:=by show(Op.equalIn (9999+1) t v .nilIface).run P w=_;unfold Op.equalIn;cases d<;>first|(simp[N8]at hn;done)|(cases v<;>simp[F3]at hb<;>subst hb<;>simp[run_underlying hd])
  have hg: ∀op,(eqGuard op t x (.const .nilIface) v .nilIface).run P w= .ok () w:=fun op=>by unfold eqGuard;cases v<;>simp[F3]at hb<;>(split<;>simp)
  have he:a.eval (.const .nilIface)= .nilIface:=rfl;cases neg<;>simp[execOp,ho,ha.ev hx,he,hg,binOp,hq]) k
variable {R:Ending→World→Prop}
theorem qY{α:Type}[El α]{tb:Tb}(dS:tb.ok P){t e:Nat}{ti ei:TI}{s x:Operand}{ad QW:Option Addr}{n m c2:Nat}{xs ys:List α}
  (ho:o.op= .call {callee:=.builtin .append,args:=#[s,x],argTypes:=#[t,t]}) (hv:ev l s=some (.slice ad n n)) (hx:ev l x=some (.slice QW m c2)) (h1:Rs g (.slice ad n n) xs) (h2:Rs g (.slice QW m c2) ys)
  (hn:n≠0) (hm:m≠0) (hi:tl tb t=some ti) (hd:ti.desc= .slice e) (hj:tl tb e=some ei) (hk:ei.size=El.k α) (hz:ei.zero.cells.size=El.k α) (hb:(n+m)*ei.bytes≤140737488355328) (GM:n+m≤maxLen)
  (kk: ∀v g',bW g g'→Rs g' v (xs++ys)→K v g'.w):cQ F P N ds o l g.w Q K:=by
 obtain⟨⟨dd,GD,he⟩,_⟩:=dS.at hi;rw[hd]at he;obtain rfl:=KD.of_slice he;obtain⟨_,inf,e1,e2,e3,e4⟩:=dS.at hj;obtain⟨lH,QX,N_,pH⟩:=Src.jh h1;obtain⟨Dt,news,Lp,dm⟩:=Src.jh h2;obtain⟨b1,p1,rfl,Ry⟩:=pH.2.resolve_left hn;obtain⟨b2,p2,rfl,O0⟩:=dm.2.resolve_left hm;obtain⟨v',w',lz,eF,hg⟩:=run_append_arg_grows (P:=P) g.w t o.type e inf ei.zero (El.k α) ei.bytes GD e1 e4 (by rw[e2,hk]) e3 hz (El.pos (α:=α)) ⟨b1,p1,none⟩ n n QX pH.1
  (fun j u hu=>by rw[abM];exact Ry j u hu) ⟨b2,p2,none⟩ m c2 news dm.1 (fun j u hu=>by rw[abM];exact O0 j u hu) (by omega) GM hb
 have hf:=Iv (g:=g) hg;have hlen:n+m=(xs++ys).length:=by rw[aal,←lH,←Dt]
 have hO:lj e g (xs++ys) (⟨w',g.im,fun b h=>abp (g.lt b h) hg.size⟩:G) v':=by
  refine⟨QX++news,⟨?_,fun b hb hi=>?_⟩,cR.app (Lp.mono hf.le) (N_.mono hf.le)⟩
  ·rw[←hlen];exact Row.v_ eF
  have:=Oa eF b hb;have:=g.lt b hi;omega
 obtain⟨g2,fm,Cu,tq,uh⟩:=(St.start g).lS hf hO;refine gM ho (w':=w') (fun a ha=>?_) (by have h:=kk v' g2 Cu.p9 uh;rw[fm]at h;exact h);simp[resolve,invoke,builtin,ha.ev hv,ha.ev hx,lz]
def Ob(N:Nat)(ops:Array Oper)(l0:Env)(m _e:Nat):Bool:=jb N ops l0 m
theorem rZ{id:Nat}{g:G}(hF: ∀f,F.fn f)(hm:P.follows .mixedOrders=true)(φs:List Fact)(m:Nat)(outs:List (Nat×Nat))(own vm:List Nat)(e:Nat)(kQ:Ob N ops l0 m e=true)(hem:e<m)(eF:G6 ops own e m outs=true)(DT:sW ops vm e=true)(hsoft:kM (e::own) 0 φs)
  (houts:outs.all (fun p=>Nat.blt p.1 m&&(gC ops p.1==some p.2))=true)
  (iF:vX F P N ds ops Q φs l0 g.dr vm e 0 (ops.toList.take m))
  (lL: ∀g',g.dr.le g'→(∃v,(iT φs e).p v g')→QA φs g' outs l0 fun env=>WL F P N ds ops Q (ops.toList.drop m) env g'.w):W F P N ds (.region id ops true) Q l0 g.w:=
 DU hF hm φs m outs own vm e kQ eF DT hsoft houts iF fun g' h he=>lL g' h (he hem)
variable {Q':Exit→Act→World→Prop} {nP:List Oper} {x y:Code} {id:Nat}
variable {ks:List FK}
variable {d:Nat} {op:Op} {ty:TypeId} {pos:String} {af:Array Edge} {gu:Option (Nat×Bool)}
def adl:Env→Env→Option Env
  |[],_=>some []
  |(t,_)::r,l=>match lk l t,adl r l with
    |some v,some s=>some ((t,v)::s)
    |_,_=>none
theorem ac9: ∀{l' l s:Env},adl l' l=some s→Bd s l
  |[],_,s,h=>by cases h;trivial
  |(t,v)::r,l,s,h=>by
    unfold adl at h;cases h1:lk l t with
    |none=>rw[h1]at h;cases h
    |some v=>
      cases h2:adl r l with
      |none=>rw[h1,h2]at h;cases h
      |some s'=>rw[h1,h2]at h;cases h;exact⟨h1,ac9 h2⟩
theorem Fr.kp{a:Act}(h:Fr N ds l a)(hs:adl l' l=some l'):Fr N ds l' a:=h.keep (ac9 hs)
theorem bZ{z:Operand}(hz:ev l z=some (.bool true))(h:W F P N ds x Q l w):W F P N ds (.cond z x y) Q l w:=aG rfl hz h
theorem bI{z:Operand}(hz:ev l z=some (.bool false))(h:W F P N ds y Q l w):W F P N ds (.cond z x y) Q l w:=bg rfl hz h
theorem eC{R:Ending→World→Prop}{fn:Func}{t:Nat}{v:Value}(hr:(fn.results,lk l t)=(#[.tmp t],some v))(hR:R (.returned v) w)(a:Act)(ha:Fr N [] l a):bodyPost P fn R .ret a w:=by simp only[aaB]at hr;exact adw hr.1 hr.2 hR a ha
def clB(P:Program)(f:Nat):Bool:=match P.funcs[f]? with
  |some fn=> !(fn.name== "runtime.NumGoroutine")&& !fn.body.isNone
  |none=>false
theorem adt{f:FuncId}(h:clB P f=true):cS P f:=by
  unfold clB at h;unfold cS;cases e:P.funcs[f]? with
  |none=>rw[e]at h;cases h
  |some fn=>
    rw[e]at h;simp only[aaA,ab8]at h;simp[h.1,h.2]
class VE(P:Program) where
  l:List Nat
  ok:l.all (clB P)=true
theorem ZT[C:VE P]{f:FuncId}(h:(VE.l P).contains f=true):cS P f:=adt (aa2.1 VE.ok f (List.contains_iff_mem.1 h))
theorem dC[T:eE P](i:Nat){t:Nat}{ti:TI}{x y:Operand}{cs us cs':List Value}{off b:Nat}{T:TypeId}{v:Value}(hs:St g0 g L)
    (h:(rP ops l gu,op,L[i]?,ev l x,ev l y,tl (eE.tb P) t,v.cells,us.length,us.all Value.oneCell',Nat.ble (off+us.length) cs.length,nY cs off us)=
      (some true,.store t x y,some (.obj b (.cells cs.toArray T (0,0))),some (.pointer (some ⟨b,off,none⟩)),some v,some ti,us.toArray,ti.size,true,true,cs'))
    (k: ∀g',St g0 g' (L.set i (.obj b (.cells cs'.toArray T (0,0))))→g.le g'→WL F P N ds ops Q os l g'.w):WL F P N ds ops Q (⟨none,op,ty,pos,af,gu⟩::os) l g.w:=by
  simp only[aaB]at h;obtain⟨h1,h2,h3,h4,h5,h6,h7,h8,h9,ue,Ni⟩:=h;exact gw h1 (eT eE.ok i h2 hs h3 h4 h5 h6 h7 h8 h9 ue Ni k)
theorem fA[T:eE P]{T:TypeId}{i:TI}{cs:List Value}(hs:St g0 g L)
    (h:(rP ops l gu,Nat.blt d N,op,tl (eE.tb P) T,i.zero.cells)=(some true,true,.alloc T,some i,cs.toArray))
    (k: ∀b g',St g0 g' (.obj b (.cells cs.toArray T (0,0))::L)→g.le g'→WL F P N ds ops Q os ((d,.pointer (some ⟨b,0,none⟩))::l) g'.w):WL F P N ds ops Q (⟨some d,op,ty,pos,af,gu⟩::os) l g.w:=by
  simp only[aaB]at h;obtain⟨h1,h2,h3,h4,h5⟩:=h;exact aN h1 h2 (ik eE.ok h3 hs h4 h5 k)
theorem nX{T:TypeId}{x:Operand}{v:Value}{cs:List Value}(hs:St g0 g L)
    (h:(rP ops l gu,Nat.blt d N,op,ev l x,v.cells)=(some true,true,.box T x,some v,cs.toArray))
    (k: ∀b g',St g0 g' (.obj b (.cells cs.toArray T (0,0))::L)→g.le g'→WL F P N ds ops Q os ((d,.pointer (some ⟨b,0,none⟩))::l) g'.w):WL F P N ds ops Q (⟨some d,op,ty,pos,af,gu⟩::os) l g.w:=by
  simp only[aaB]at h;obtain⟨h1,h2,h3,h4,h5⟩:=h;exact aN h1 h2 (adp h3 hs h4 h5 k)
theorem fP{α:Type}[El α][T:eE P]{t e:Nat}{i j:TI}{x ix:Operand}{v:Value}{xs:List α}{kk:IntKind}{n:Int}{y:α}(hr:Rs g v xs)(hy:dq xs n=some y)
    (h:(rP ops l gu,Nat.blt d N,op,ev l x,ev l ix,tl (eE.tb P) t,i.desc,tl (eE.tb P) e,j.size)=(some true,true,.indexAddr t x ix,some v,some (.int kk n),some i,.slice e,some j,El.k α))
    (k: ∀b p ys,EP g b p ys→El.rc g ys y→WL F P N ds ops Q os ((d,.pointer (some ⟨b,p,none⟩))::l) g.w):WL F P N ds ops Q (⟨some d,op,ty,pos,af,gu⟩::os) l g.w:=by
  simp only[aaB]at h;obtain⟨h1,h2,h3,h4,h5,h6,h7,h8,h9⟩:=h;exact aN h1 h2 (dJ eE.ok h3 hr hy h4 h5 h6 h7 h8 h9 k)
theorem iX[T:eE P]{t e len:Nat}{ti ei:TI}{k:Nat}{parts:Array (Nat×Operand)}(vs:List (Nat×Value))(cells:List Value)(hs:St g0 g L)
    (h:(rP ops l gu,Nat.blt d N,op,xv l (parts.toList.map (·.2)),parts.toList.map (·.1),tl (eE.tb P) t,ti.desc,tl (eE.tb P) e,ei.size)=
      (some true,true,.buildSlice t len parts,some (vs.map (·.2)),vs.map (·.1),some ti,.slice e,some ei,k)) (je:cells.length=len*k)
    (kk: ∀b g',St g0 g' (.row e k (.slice (some ⟨b,0,none⟩) len len) len cells::L)→g.le g'→WL F P N ds ops Q os ((d,.slice (some ⟨b,0,none⟩) len len)::l) g'.w)
    (nv:0<k:=by decide) (hlen:len*k≤16777216:=by decide) (qK:Instr.fill (fun i=>some (i*k,k)) ((Array.range (len*k)).map (ei.zero.cells[· % ei.zero.cells.size]!)) vs=some cells.toArray:=by kernel_rfl):
    WL F P N ds ops Q (⟨some d,op,ty,pos,af,gu⟩::os) l g.w:=by
  simp only[aaB]at h;obtain⟨h1,h2,h3,h4,h5,h6,h7,h8,h9⟩:=h;exact aN h1 h2 (iD eE.ok h3 hs h4 h5 h6 h7 h8 h9 nv hlen qK je kk)
theorem hZ[T:eE P]{t:Nat}{ti:TI}{fs:List (TypeId×Nat)}{parts:Array (Nat×Operand)}(vs:List (Nat×Value))(cells:List Value)
    (pl:List (Nat×Nat)) (h:(rP ops l gu,Nat.blt d N,op,xv l (parts.toList.map (·.2)),parts.toList.map (·.1),tl (eE.tb P) t,ti.desc,places (eE.tb P) fs)=
      (some true,true,.build t parts,some (vs.map (·.2)),vs.map (·.1),some ti,.struct fs,pl.map some))
    (k:WL F P N ds ops Q os ((d,.agg cells.toArray)::l) w) (qK:Instr.fill (fun i=>pl.toArray[i]?) ti.zero.cells vs=some cells.toArray:=by kernel_rfl):WL F P N ds ops Q (⟨some d,op,ty,pos,af,gu⟩::os) l w:=by
  simp only[aaB]at h;obtain⟨h1,h2,h3,h4,h5,h6,h7,h8⟩:=h;exact aN h1 h2 (iS eE.ok h3 h4 h5 h6 h7 pl h8 qK k)
theorem gF{T:TypeId}{x:Operand}{v:Value}{cs:List Value}(hs:St g0 g L)
    (h:(rP ops l gu,Nat.blt d N,op,ev l x,v.cells)=(some true,true,.box T x,some v,cs.toArray))
    (k: ∀b g',St g0 g' L→g.le g'→EP g' b 0 cs→WL F P N ds ops Q os ((d,.pointer (some ⟨b,0,none⟩))::l) g'.w):WL F P N ds ops Q (⟨some d,op,ty,pos,af,gu⟩::os) l g.w:=
  nX hs h fun b g1 h1 h2=>by obtain⟨g2,e,h3,h4,h5⟩:=h1.fM (i:=0) rfl;rw[←e];exact k b g2 h3 (h2.trans h4) h5
theorem om[T:eE P](i:Nat){t:Nat}{ti:TI}{x y:Operand}{cs us cs':List Value}{off b:Nat}{T:TypeId}{v:Value}(hs:St g0 g L)
    (h:(rP ops l gu,op,L[i]?,ev l x,ev l y,tl (eE.tb P) t,v.cells,us.length,us.all Value.oneCell',Nat.ble (off+us.length) cs.length,nY cs off us)=
      (some true,.store t x y,some (.obj b (.cells cs.toArray T (0,0))),some (.pointer (some ⟨b,off,none⟩)),some v,some ti,us.toArray,ti.size,true,true,cs'))
    (k: ∀g',St g0 g' (L.eraseIdx i)→g.le g'→EP g' b 0 cs'→WL F P N ds ops Q os l g'.w):WL F P N ds ops Q (⟨none,op,ty,pos,af,gu⟩::os) l g.w:=
  dC i hs h fun g1 h1 h2=>by simp only[aaB]at h;obtain⟨g2,e,h3,h4,h5⟩:=h1.fM (i:=i) (List.getElem?_set_self (aaN.1 h.2.2.1).1);rw[←e];rw[List.eraseIdx_set_eq]at h3;exact k g2 h3 (h2.trans h4) h5
section
variable {R:G→Value→Prop} {f:FuncId} {x:Operand} {args:Array Operand} {ts:Array TypeId} {first captured:Array Value} {vs zs:List Value}
theorem d_[A:lO F][C:VE P](h:(rP ops l gu,Nat.blt d N,op,ev l x,xv l args.toList,first.toList++vs++captured.toList)=(some true,true,.call {callee:=.value x,args,argTypes:=ts},some (.func (.func f) first captured),some vs,zs))
    (hr:CallsIn F 0 P f zs.toArray g.w (ug g R)) (k: ∀g' v,bW g g'→R g' v→WL F P N ds ops Q os ((d,v)::l) g'.w) (hc:(VE.l P).contains f=true:=by kernel_rfl):WL F P N ds ops Q (⟨some d,op,ty,pos,af,gu⟩::os) l g.w:=by
  simp only[aaB]at h;obtain⟨h1,h2,h3,h4,h5,h6⟩:=h;exact aN h1 h2 (bu (ZT hc) lO.all lO.deep h3 h4 h5 h6 hr k)
theorem nb[A:lO F][C:VE P](h:(rP ops l gu,Nat.blt d N,op,ev l x,xv l args.toList,first.toList++vs++captured.toList)=(some true,true,.call {callee:=.value x,args,argTypes:=ts},some (.func (.func f) first captured),some vs,zs))
    (hr:CallsIn F 0 P f zs.toArray g.w (df g R)) (k: ∀g' v,g.le g'→R g' v→WL F P N ds ops Q os ((d,v)::l) g'.w) (hc:(VE.l P).contains f=true:=by kernel_rfl):WL F P N ds ops Q (⟨some d,op,ty,pos,af,gu⟩::os) l g.w:=by
  simp only[aaB]at h;obtain⟨h1,h2,h3,h4,h5,h6⟩:=h;exact aN h1 h2 (lu (ZT hc) lO.all lO.deep h3 h4 h5 h6 hr k)
theorem so[A:lO F][C:VE P](h:(rP ops l gu,Nat.blt d N,op,ev l x,xv l args.toList,first.toList++vs++captured.toList)=(some true,true,.call {callee:=.value x,args,argTypes:=ts},some (.func (.func f) first captured),some vs,zs))
    (hr:CallsIn F 0 P f zs.toArray g.w (zZ g R ch b)) (k: ∀g' v,bW g g'→R g' v→WL F P N ds ops Q os ((d,v)::l) g'.w) (kb:b→ ∀g',bW g g'→ ∀a,Fr N ds l a→Q (.panic ch) a g'.w) (hc:(VE.l P).contains f=true:=by kernel_rfl):WL F P N ds ops Q (⟨some d,op,ty,pos,af,gu⟩::os) l g.w:=by
  simp only[aaB]at h;obtain⟨h1,h2,h3,h4,h5,h6⟩:=h;exact aN h1 h2 (kh (ZT hc) lO.all lO.deep h3 h4 h5 h6 hr k kb)
theorem jN[A:lO F][C:VE P]{r:Value}(h:(rP ops l gu,Nat.blt d N,op,ev l x,xv l args.toList,first.toList++vs++captured.toList)=(some true,true,.call {callee:=.value x,args,argTypes:=ts},some (.func (.func f) first captured),some vs,zs))
    (hr:CallsIn F 0 P f zs.toArray g.w (ug g fun _ v=>v=r)) (hs:St g0 g L) (k: ∀g',St g0 g' L→g.le g'→WL F P N ds ops Q os ((d,r)::l) g'.w) (hc:(VE.l P).contains f=true:=by kernel_rfl):WL F P N ds ops Q (⟨some d,op,ty,pos,af,gu⟩::os) l g.w:=
  d_ h hr (fun g' _ h1 h2=>h2▸k g' (hs.call h1) h1.le) hc
theorem ji[A:lO F][C:VE P]{φ:Fact}{R:G→Value→Prop}(h:(rP ops l o.guard,o.op,ev l x,xv l args.toList,first.toList++vs++captured.toList)=(some true,.call {callee:=.value x,args,argTypes:=ts},some (.func (.func f) first captured),some vs,zs))
    (hr:CallsIn F 0 P f zs.toArray g.w (ug g R)) (k: ∀g' v,bW g g'→R g' v→φ.p v g':=by exact fun _ _ _ h=>h) (hc:(VE.l P).contains f=true:=by kernel_rfl):DK F P N ds ops Q φ g o l:=by
  simp only[aaB]at h;obtain⟨h1,h2,h3,h4,h5⟩:=h;exact ay h1 (bu (ZT hc) lO.all lO.deep h2 h3 h4 h5 hr fun g' v h1 h2=>⟨g',rfl,h1,k g' v h1 h2⟩)
end
theorem cY[eE P][hA:lO F]{i i':Nat}{A:List Value}(oc:List (List Nat))(ss:List (wV P g))(hs:St g0 g L)(h:q_ (eE.tb P) ops ks l0 L oc ss i os=some (A,A,nP,i'))
    (k:mM F P N ds ops Q (ks.map FK.fact) l0 g.dr i' nP) (hn:mq ops os oc=true:=by kernel_rfl):mM F P N ds ops Q (ks.map FK.fact) l0 g.dr i os:=Dm oc ss hs hn h k
theorem jV[eE P][lO F]{i i':Nat}{A:List Value}(oc:List (List Nat))(h:q_ (P:=P) (g:=g) (eE.tb P) ops ks l0 [] oc [] i os=some (A,A,nP,i'))
    (k:mM F P N ds ops Q (ks.map FK.fact) l0 g.dr i' nP) (hn:mq ops os oc=true:=by kernel_rfl):mM F P N ds ops Q (ks.map FK.fact) l0 g.dr i os:=Dx oc hn h k
theorem qo[eE P][lO F]{i i':Nat}{A:List Value}(oc:List (List Nat))(h:q_ (P:=P) (g:=g) (eE.tb P) ops ks l0 [] oc [] i os=some (A,A,[],i'))(hn:mq ops os oc=true:=by kernel_rfl):
    mM F P N ds ops Q (ks.map FK.fact) l0 g.dr i os:=Dy oc hn h
theorem mX[eE P][lO F]{i i':Nat}{A:List Value}(oc:List (List Nat))(ss:List (wV P g))(hs:St g0 g L)(h:q_ (eE.tb P) ops ks l0 L oc ss i os=some (A,A,[],i'))(hn:mq ops os oc=true:=by kernel_rfl):
    mM F P N ds ops Q (ks.map FK.fact) l0 g.dr i os:=Dz oc ss hs hn h
theorem aW{i:Nat}(js:List (Nat×Nat))(h: ∀g',bW gd g'→QA φs g' js l0 (DK F P N ds ops Q (iT φs i) g' o))(h2:mM F P N ds ops Q φs l0 gd (i+1) os)(hj:jn ops o=js:=by kernel_rfl):mM F P N ds ops Q φs l0 gd i (o::os):=adq (ado hj h) h2
section
variable {vm:List Nat} {e:Nat}
theorem fh{i:Nat}(js:List (Nat×Nat))(h: ∀g',bW gd g'→QA φs g' js l0 (DK F P N ds ops Q (iT φs i) g' o))(h2:vX F P N ds ops Q φs l0 gd vm e (i+1) os)
    (hj:jn ops o=js:=by kernel_rfl) (fL:Nat.beq i e=false:=by exact rfl) (ha:vm.contains i=true:=by exact rfl):vX F P N ds ops Q φs l0 gd vm e i (o::os):=jP (adv hj fL ha h) h2
end
section
variable {k:Env→Prop} {j1 j2 j3 j4 d1 d2 d3 d4:Nat} {x1 x2 x3 x4:Value} {φ:Fact} {r:List (Nat×Nat)}
theorem cj(he:iT φs j1=Fact.eq x1)(h:k ((d1,x1)::l)):QA φs g [(j1,d1)] l k:=bU he (az h)
theorem bN(he:(iT φs j1,iT φs j2)=(Fact.eq x1,Fact.eq x2))(h:k ((d2,x2)::(d1,x1)::l)):QA φs g [(j1,d1),(j2,d2)] l k:=by simp only[aaB]at he;exact bU he.1 (cj he.2 h)
theorem dD(he:(iT φs j1,iT φs j2,iT φs j3)=(Fact.eq x1,Fact.eq x2,Fact.eq x3))(h:k ((d3,x3)::(d2,x2)::(d1,x1)::l)):QA φs g [(j1,d1),(j2,d2),(j3,d3)] l k:=by simp only[aaB]at he;exact bU he.1 (bU he.2.1 (cj he.2.2 h))
theorem su(he:(iT φs j1,iT φs j2,iT φs j3,iT φs j4)=(Fact.eq x1,Fact.eq x2,Fact.eq x3,Fact.eq x4))(h:k ((d4,x4)::(d3,x3)::(d2,x2)::(d1,x1)::l)):QA φs g [(j1,d1),(j2,d2),(j3,d3),(j4,d4)] l k:=by simp only[aaB]at he;exact bU he.1 (bU he.2.1 (bU he.2.2.1 (cj he.2.2.2 h)))
theorem fD(he:(iT φs j1,iT φs j2)=(Fact.eq x1,Fact.eq x2))(h:QA φs g r ((d2,x2)::(d1,x1)::l) k):QA φs g ((j1,d1)::(j2,d2)::r) l k:=by simp only[aaB]at he;exact bU he.1 (bU he.2 h)
theorem lJ(he:(iT φs j1,iT φs j2,iT φs j3)=(Fact.eq x1,Fact.eq x2,Fact.eq x3))(h:QA φs g r ((d3,x3)::(d2,x2)::(d1,x1)::l) k):QA φs g ((j1,d1)::(j2,d2)::(j3,d3)::r) l k:=by simp only[aaB]at he;exact bU he.1 (bU he.2.1 (bU he.2.2 h))
end
theorem cC{φ:Fact}{v:Value}(h:φ.p v g): ∃ez,ez.w=g.w∧bW g ez∧φ.p v ez:=⟨g,rfl,bW.refl g,h⟩
theorem bj[T:eE P]{φ:Fact}{v:Value}(h:(rP ops l o.guard,WI (eE.tb P) l o.op)=(some true,some v))(hp:φ.p v g):DK F P N ds ops Q φ g o l:=by simp only[aaB]at h;exact ay h.1 (bR _ eE.ok h.2 ⟨g,rfl,bW.refl g,hp⟩)
theorem cg{R:G→Value→Prop}{fn:Func}{t:Nat}{v:Value}(hr:(fn.results,lk l t)=(#[.tmp t],some v))(hs:St g0 g L)(h:R g v)(a:Act)(ha:Fr N [] l a):bodyPost P fn (ug g0 R) .ret a g.w:=eC hr (hs.ret h) a ha
theorem wq{n:Int}(h: -9223372036854775808≤n∧n≤9223372036854775807:=by omega):IntKind.i64.wrap n=n:=wr h.1 h.2
theorem kJ{t:Nat}{k:IntKind}{m n:Int}(h:lk l t=some (.int k m))(e:m=n:=by omega):lk l t=some (.int k n):=kI h e
theorem kW{t:Nat}{k:IntKind}{m n:Int}(h:lk l t=some (.int k m))(e:m=n:=by rw[wq];omega):lk l t=some (.int k n):=kI h e
end Go.K
