/- Parts of the proof, from: A range over a function whose iterator turns something that is its own. -/
import Derived.Test.YtbfjdfecgiegpaaGreatDoorYb
import Derived.Test.YtbfjdfecgiegpaaGreatDoorYa
import Derived.Shelf.Strings.BuilderK
import Derived.Laws.Externs
import Derived.RecoverIn
import Derived.Sort.OwnSortedInts
import Derived.ArgAppend
namespace Go.K
open Go Go.RowKit
variable {F:Fence} {P:Program} {N:Nat} {ds:List Deferred} {l l':Env} {a:Act} {w:World} {Q:Exit→Act→World→Prop} {ops:Array Oper} {os:List Oper} {o:Oper}
variable {g0 g:G} {L:List df} {K:Value→World→Prop} {R:Ending→World→Prop}
def TK{α:Type}(P:Program)(lj:FuncId)(fp:Array Value)(gN:α→List Value)(xs:List α)(st:df)(g:G):Prop:=
 ∀(g1:G),g.le g1→ ∀(yv:Value) (J Jx:List α→df→G→Prop),
  (∀pre e g,J pre e g→ ∃(g0:G) (L:List df) (i:Nat),St g0 g L∧L[i]? =some e∧ ∀e' g',St g0 g' (L.set i e')→g.le g'→J pre e' g')→
  (∀pre x rest e g2,xs=pre++x::rest→g1.le g2→J pre e g2→jd P yv (gN x) g2.w fun en w'=> ∃g3 b,g3.w=w'∧en= .returned (.bool b)∧g2.le g3∧(b=true→J (pre++[x]) e g3)∧(b=false→Jx (pre++[x]) e g3))→
  J [] st g1→CallsIn Wd 0 P lj (yv::fp.toList).toArray g1.w fun en w'=> ∃g2 v,g2.w=w'∧en= .returned v∧g1.le g2∧((∃e,J xs e g2)∨ ∃pre e,pre<+:xs∧Jx pre e g2)
theorem I6{α:Type}{lj:FuncId}{fp:Array Value}{gN:α→List Value}{xs:List α}{f:Operand}{ps:Array Tmp}{assign body:Code}
  {st:df} (hs:St g0 g (st::L)) (hf:ev l f=some (.func (.func lj) #[] fp)) (pX:ag P lj) (uh:TK P lj fp gN xs st g) (sw:(ps.toList.all fun t=>Nat.blt t N)=true) (TZ: ∀x,(gN x).length=ps.size)
  (I:List α→List df→G→Prop) (Ix:Code→List α→List df→G→Prop) (hI: ∀pre L g g',g.le g'→I pre L g→I pre L g') (C3: ∀c pre L g g',g.le g'→Ix c pre L g→Ix c pre L g')
  (h0:I [] L g) (la:α→Env)
  (tf: ∀x ro w,W {Wd with round:=some ro} P N [] assign (Exit.then (fun a w'=>w'=w∧Fr N [] (la x) a) (fun _ _ _=>False)) (p_ ps.toList (gN x) l) w)
  (tg: ∀lp D ro pre x rest e gr Lr,xs=pre++x::rest→g.le gr→St g0 gr (.obj lp (ro .busy):: .obj D gC::e::Lr)→I pre Lr gr→
   W {Wd with round:=some lp} P N [] body (DV (fun L' g'=> ∃Lr,L'=e::Lr∧I (pre++[x]) Lr g') (fun c L' g'=> ∃Lr,L'=e::Lr∧Ix c (pre++[x]) Lr g') g0 gr lp D ro) (la x) gr.w)
  (kj: ∀lp D o e Lr ge,g.le ge→St g0 ge (.obj lp o:: .obj D gC::e::Lr)→I xs Lr ge→ ∀a,Fr N (⟨.collected D,#[]⟩::ds) l a→Q .normal a ge.w)
  (Cj: ∀c lp D o pre e Lr ge,pre<+:xs→g.le ge→St g0 ge (.obj lp o:: .obj D gC::e::Lr)→Ix c pre Lr ge→W Wd P N (⟨.collected D,#[]⟩::ds) c Q l ge.w):
  W Wd P N ds (.rangeFunc f ps assign body) Q l g.w:=by
 intro a ha;refine wpIn_rangeFunc fun fn _=>?_;let ro:LoopState→Obj:=fun st=>jE fn a.tmps ps assign body g.w.heap.size st none
 have tK:=hs.al gC;have aV:=tK.1.al (ro .ready);have cK:(g.al gC).w.heap.size=g.w.heap.size+1:=by simp[G.al]
 let g2:=(g.al gC).al (ro .ready)
 have rL:g.le g2:=tK.2.trans aV.2;refine⟨g.w.heap.size+1,[⟨.collected g.w.heap.size,#[]⟩],g2.w,⟨.fn (.func lj) fp,#[.func (.yield (g.w.heap.size+1)) #[] #[]]⟩,g2.w,lj,(.func (.yield (g.w.heap.size+1)) #[] #[]::fp.toList).toArray,g2.w,?_,?_,fun _ _=>trivial,?_,fun h=>(by cases h),?_⟩
 ·exact run_enterLoop_outer fn a.tmps ps assign body
 ·simp only[resolve,ha.ev hf,Deferred.ofValue];simp[Act.eval,g2]
 ·have e:#[Value.func (.yield (g.w.heap.size+1)) #[] #[]]++fp=(.func (.yield (g.w.heap.size+1)) #[] #[]::fp.toList).toArray:=by apply Array.ext';simp
  rw[←e];exact iO pX _
 --Bp xC s9,with T0 holds E9 Bp rounds
 have AW:St g0 g2 (.obj (g.w.heap.size+1) (ro .ready):: .obj g.w.heap.size gC::st::L):=by have:=aV.1;rw[cK]at this;exact this
 refine CallsIn.mono (uh g2 rL (.func (.yield (g.w.heap.size+1)) #[] #[])
  (fun pre e g'=>g.le g'∧ ∃Lr,St g0 g' (.obj (g.w.heap.size+1) (ro .ready):: .obj g.w.heap.size gC::e::Lr)∧I pre Lr g')
  (fun pre e g'=>g.le g'∧ ∃c Lr,St g0 g' (.obj (g.w.heap.size+1) (jE fn a.tmps ps assign body g.w.heap.size .done (some c)):: .obj g.w.heap.size gC::e::Lr)∧Ix c pre Lr g')
  (fun pre e ga ⟨h1,Lr,h2,h3⟩=>⟨g0,_,2,h2,rfl,fun e' gb dI gB=>⟨h1.trans gB,Lr,dI,hI _ _ _ _ gB h3⟩⟩) ?_ ⟨rL,L,AW,hI _ _ _ _ rL h0⟩) ?_
 ·--one round
  rintro pre x rest e0 gp nv T1 ⟨rZ,Lr,dI,hi⟩;have om:gp.w.heap[g.w.heap.size+1]? =some (ro .ready):=(dI.own 0 _ rfl).2.1;refine⟨fn,_,assign,body,run_yield om (by simpa [jE]using TZ x),?_⟩;refine roundIn_of_wpIn trivial ?_;have q_:Fr N [] (p_ ps.toList (gN x) l) {tmps:=(ps.zip (#[]++(gN x).toArray)).foldl (fun tmps (x:Nat×Value)=>tmps.setIfInBounds x.1 x.2) a.tmps,defers:=[]}:=by
   have h:=AX (N:=N) ps.toList (gN x) l a.tmps sw ⟨rfl,ha.size,ha.get⟩;have e:(ps.zip (#[]++(gN x).toArray)).foldl (fun tmps (x:Nat×Value)=>tmps.setIfInBounds x.1 x.2) a.tmps=(ps.toList.zip (gN x)).foldl (fun tmps (x:Nat×Value)=>tmps.setIfInBounds x.1 x.2) a.tmps:=by rw[←Array.foldl_toList];simp
   rw[e];exact h
  refine Go.wpIn_mono (tf x (g.w.heap.size+1) gp.w _ q_) fun e a1 w1 he=>?_;cases e with
  |normal=>
   obtain⟨rfl,AY⟩:=he;have hb:=dI.po (i:=0) (o':=ro .busy) rfl;refine⟨(gp.po (g.w.heap.size+1) (ro .busy)).w,run_beginRound om rfl,?_⟩;have Je:St g0 (gp.po (g.w.heap.size+1) (ro .busy)) (.obj (g.w.heap.size+1) (ro .busy):: .obj g.w.heap.size gC::e0::Lr):=hb.1;refine Go.wpIn_mono (tg _ _ ro pre x rest e0 _ Lr nv (rZ.trans hb.2) Je (hI _ _ _ _ hb.2 hi) a1 AY) fun e a2 w2 he=>?_;cases e with
   |normal=>
    obtain⟨L',g',rfl,aaG,gB,T2,rfl,hi'⟩:=he;have kX:g'.w.heap[g.w.heap.size+1]? =some (ro .busy):=(aaG.own 0 _ rfl).2.1;have hp:=aaG.po (i:=0) (o':=ro .ready) rfl;refine⟨_,_,run_endRound none kX,g'.po (g.w.heap.size+1) (ro .ready),true,rfl,rfl,(hb.2.trans gB).trans hp.2,fun _=>⟨((rZ.trans hb.2).trans gB).trans hp.2,T2,hp.1,hI _ _ _ _ hp.2 hi'⟩,fun h=>(by cases h)⟩
   |ret=>
    obtain⟨L',g',rfl,aaG,gB,T2,rfl,hi'⟩:=he;have kX:g'.w.heap[g.w.heap.size+1]? =some (ro .busy):=(aaG.own 0 _ rfl).2.1;have hp:=aaG.po (i:=0) (o':=jE fn a.tmps ps assign body g.w.heap.size .done (some .ret)) rfl;refine⟨_,_,run_endRound (some .ret) kX,g'.po (g.w.heap.size+1) (jE fn a.tmps ps assign body g.w.heap.size .done (some .ret)),false,rfl,rfl,(hb.2.trans gB).trans hp.2,fun h=>(by cases h),
     fun _=>⟨((rZ.trans hb.2).trans gB).trans hp.2,.ret,T2,hp.1,C3 _ _ _ _ _ hp.2 hi'⟩⟩
   |exit id=>
    obtain⟨L',g',rfl,aaG,gB,T2,rfl,hi'⟩:=he;have kX:g'.w.heap[g.w.heap.size+1]? =some (ro .busy):=(aaG.own 0 _ rfl).2.1;have hp:=aaG.po (i:=0) (o':=jE fn a.tmps ps assign body g.w.heap.size .done (some (.exit id))) rfl;refine⟨_,_,run_endRound (some (.exit id)) kX,g'.po (g.w.heap.size+1) (jE fn a.tmps ps assign body g.w.heap.size .done (some (.exit id))),false,rfl,rfl,(hb.2.trans gB).trans hp.2,fun h=>(by cases h),
     fun _=>⟨((rZ.trans hb.2).trans gB).trans hp.2,.exit id,T2,hp.1,C3 _ _ _ _ _ hp.2 hi'⟩⟩
   |goto t=>exact he.elim
   |panic c=>exact he.elim
   |outgrown=>exact he.elim
  |exit id=>exact he.elim
  |goto t=>exact he.elim
  |ret=>exact he.elim
  |panic c=>exact he.elim
  |outgrown=>exact he.elim
 --Bp iterator has ended
 rintro e w' ⟨ge,v,rfl,rfl,gB,h⟩;have Ck:Fr N (⟨.collected g.w.heap.size,#[]⟩::ds) l {a with defers:=[⟨.collected g.w.heap.size,#[]⟩]++a.defers}:=⟨by simp[ha.defers],ha.size,ha.get⟩;rcases h with⟨e0,hle,Lr,dI,hi⟩|⟨pre,e0,gM,hle,c,Lr,dI,hi⟩
 ·have om:ge.w.heap[g.w.heap.size+1]? =some (ro .ready):=(dI.own 0 _ rfl).2.1;have hp:=dI.po (i:=0) (o':=jE fn a.tmps ps assign body g.w.heap.size .exhausted none) rfl;exact⟨none,_,run_endLoop om (by simp),kj _ _ _ e0 Lr (ge.po _ _) (hle.trans hp.2) hp.1 (hI _ _ _ _ hp.2 hi) _ Ck⟩
 have om:ge.w.heap[g.w.heap.size+1]? =some (jE fn a.tmps ps assign body g.w.heap.size .done (some c)):=(dI.own 0 _ rfl).2.1;have hp:=dI.po (i:=0) (o':=jE fn a.tmps ps assign body g.w.heap.size .exhausted (some c)) rfl;exact⟨some c,_,run_endLoop om (by simp),Cj c _ _ _ pre e0 Lr (ge.po _ _) gM (hle.trans hp.2) hp.1 (C3 _ _ _ _ _ hp.2 hi) _ Ck⟩
end Go.K
namespace Go.K
open Go Go.RowKit
variable {F:Fence} {P:Program} {N:Nat} {ds:List Deferred} {l l':Env} {a:Act} {w:World} {Q:Exit→Act→World→Prop} {ops:Array Oper} {os:List Oper} {o:Oper}
variable {g0 g:G} {L:List df} {K:Value→World→Prop} {R:Ending→World→Prop}
theorem TM{fn:Func}{t t2 D:Nat}{v v2:Value}(i:Nat)(hr:fn.results=#[.tmp t,.tmp t2])(hs:St g0 g L)(hi:L[i]? =some (.obj D gC))(hl:lk l t=some v)(tP:lk l t2=some v2)
  (hR: ∀g',St g0 g' (L.eraseIdx i)→g.le g'→R (.returned (.tuple #[v,v2])) g'.w) (a:Act) (ha:Fr N [⟨.collected D,#[]⟩] l a):bodyPostM Wd 0 P fn R .ret a g.w:=by
 show LeavesInM Wd 0 P fn a.tmps R a.defers .returning g.w;rw[ha.defers];have hp:=hs.po (o':=.deferred none) hi;refine AN hs hi ⟨_,results_tmp2 hr _ _ _,?_⟩;have h1:a.tmps.getD t undef=v:=by simp[Array.getD_eq_getD_getElem?,ha.get t v hl]
 have h2:a.tmps.getD t2 undef=v2:=by simp[Array.getD_eq_getD_getElem?,ha.get t2 v2 tP]
 rw[h1,h2];refine hR _ ?_ hp.2;have h2:=hp.1.drop i;rwa [show(L.set i (df.obj D (.deferred none))).eraseIdx i=L.eraseIdx i from by apply List.ext_getElem?;intro j;simp only[List.getElem?_eraseIdx,List.getElem?_set];split<;>(rw[if_neg (by omega)])]at h2
theorem Ph{fn:Func}{t u x:Nat}{v1 v2 v3:Value}(hr:fn.results=#[.tmp t,.tmp u,.tmp x])(hl:lk l t=some v1)(tP:lk l u=some v2)(Qm:lk l x=some v3)(hR:R (.returned (.tuple #[v1,v2,v3])) w)(a:Act)(ha:Fr N [] l a):bodyPost P fn R .ret a w:=by refine⟨ha.defers,.tuple #[v1,v2,v3],?_,hR⟩;simp[results,hr,ha.get t _ hl,ha.get u _ tP,ha.get x _ Qm]
end Go.K
namespace Go.K
open Go Go.RowKit
variable {F:Fence} {P:Program} {N:Nat} {ds:List Deferred} {l l':Env} {a:Act} {w:World} {Q:Exit→Act→World→Prop} {ops:Array Oper} {os:List Oper} {o:Oper}
variable {g0 g:G} {L L':List df} {K:Value→World→Prop} {R:Ending→World→Prop}
theorem St.perm(hs:St g0 g L)(hp:L.Perm L'):St g0 g L':=by
 let S:df→df→Prop:=fun e e'=> ∀b,e.vJ=some b→e'.vJ≠some b
 have hS: ∀{x y},S x y→S y x:=fun h b hy hx=>h b hx hy;have h1:L.Pairwise S:=by rw[List.pairwise_iff_getElem];intro i j hi hj Bk;exact hs.sep i j _ _ (by omega) (List.getElem?_eq_getElem hi) (List.getElem?_eq_getElem hj)
 have h2:L'.Pairwise S:=(hp.pairwise_iff hS).1 h1;rw[List.pairwise_iff_getElem]at h2;refine⟨hs.below,hs.im,fun j e he=>?_,fun j k e e' eO hj hk=>?_⟩
 ·obtain⟨i,hi,e1⟩:=List.mem_iff_getElem.1 (hp.mem_iff.2 (List.mem_of_getElem? he));exact hs.own i e (by rw[←e1];exact List.getElem?_eq_getElem hi)
 obtain⟨Cd,rfl⟩:=List.getElem?_eq_some_iff.1 hj;obtain⟨rH,rfl⟩:=List.getElem?_eq_some_iff.1 hk;rcases Nat.lt_or_gt_of_ne eO with h|h
 ·exact h2 j k Cd rH h
 exact hS (h2 k j rH Cd h)
theorem St.swap{A B C:List df}(hs:St g0 g (A++(B++C))):St g0 g (B++(A++C)):=hs.perm (by rw[←List.append_assoc,←List.append_assoc];exact List.Perm.append_right _ List.perm_append_comm)
theorem cO.same{R:G→Value→Prop}{v:Value}(h:R g v):cO g R (.returned v) g.w:=⟨g,v,rfl,a_.refl g,rfl,h⟩
theorem cO.of{g':G}{R:G→Value→Prop}{v:Value}(hf:a_ g g')(h:R g' v):cO g R (.returned v) g'.w:=⟨g',v,rfl,hf,rfl,h⟩
theorem Row.pos{B:Nat}{e:TypeId}{k n c:Nat}{ad:Option Addr}{xs:List Value}(h:Row B e k (.slice ad n c) n xs w)(hn:n≠0): ∃b p,ad=some ⟨b,p,none⟩:=by
 rcases h.2 with⟨h0,_⟩|⟨b,off,cap,cur,e1,_⟩
 ·exact absurd h0 hn
 simp only[Value.slice.injEq]at e1;exact⟨b,off,e1.1⟩
end Go.K
namespace Go.K
open Go Go.RowKit
variable {F:Fence} {P:Program} {N:Nat} {ds:List Deferred} {l l':Env} {a:Act} {w:World} {Q:Exit→Act→World→Prop} {ops:Array Oper} {os:List Oper} {o:Oper}
variable {g0 g:G} {L L':List df} {K:Value→World→Prop} {R:Ending→World→Prop}
theorem St.RL{g0 g:G}{e:df}{B C:List df}(hs:St g0 g (e::(B++C))):St g0 g (B++(e::C)):=hs.perm List.perm_middle.symm
theorem St.XD{g0 g:G}{e:df}{B C:List df}(hs:St g0 g (B++(e::C))):St g0 g (e::(B++C)):=hs.perm List.perm_middle
end Go.K
namespace Go.K
open Go Go.RowKit
class eK(P:Program) where
 tb:Tb
 ok:tb.ok P
 mixed:P.follows .mixedOrders=true
class jY(F:Fence):Prop where
 all: ∀f,F.fn f
 fn:F.fn=Wd.fn
 deep:F.depth=none
 alive:F.alive=false
instance:jY Wd:=⟨fun _=>trivial,rfl,rfl,rfl⟩
instance{r:Option Nat}:jY {Wd with round:=r}:=⟨fun _=>trivial,rfl,rfl,rfl⟩
inductive uF(P:Program)(g:G) where
 |o (i:Nat)
 |e {b p:Nat} {ys:List Value} (h:EP g b p ys) (off:Nat)
 |z {b:Nat} {ys:List Value} (h:EP g b 0 ys)
 |c {f:Nat} {aa:List Value} {v:Value} (hc:ag P f) (h: ∀g',g.le g'→CallsIn Wd 0 P f aa.toArray g'.w (cO g' fun _ r=>r=v))
variable {F:Fence} {P:Program} {N:Nat} {ds:List Deferred} {l l':Env} {a:Act} {w:World} {Q Q':Exit→Act→World→Prop} {ops:Array Oper} {os kY:List Oper} {o:Oper}
variable {g0 g:G} {L:List df}
def Nz(tb:Tb)(l:Env)(L:List df)(t:Nat)(x:Operand):uF P g→Option (Addr×Addr×Value)
 | .o i=>
  match L[i]? with
  |some (.obj b (.cells c _ _))=>
   match ev l x with
   |some (.pointer (some ad))=>
    match Ar tb t c.toList ad.off with
    |some v=>some (ad,⟨b,ad.off,none⟩,v)
    |none=>none
   |_=>none
  |_=>none
 | @uF.e _ _ b p ys _ off=>
  match ev l x with
  |some (.pointer (some ad))=>
   match Ar tb t ys off with
   |some v=>some (ad,⟨b,p+off,none⟩,v)
   |none=>none
  |_=>none
 | @uF.z _ _ b ys _=>
  match ev l x with
  |some (.pointer (some ad))=>
   match Ar tb t ys ad.off with
   |some v=>some (ad,⟨b,ad.off,none⟩,v)
   |none=>none
  |_=>none
 | .c .. =>none
def Jh(tb:Tb)(l:Env)(op:Op):Option Value:=
 match Xx tb l op with
 |some v=>some v
 |none=>Pe tb l op
def fm(tb:Tb)(ops:Array Oper)(N:Nat)(L:List df):List (uF P g)→List Oper→Nat→Env→List Addr→List Addr→Option (List Addr×List Addr×List Oper×Env)
 |_,os,0,l,xs,ys=>some (xs,ys,os,l)
 |_,[],_+1,_,_,_=>none
 |hs,o::os,n+1,l,xs,ys=>
  match o9 ops l o.guard with
  |none=>none
  |some false=>
   match o.dst with
   |some d=>bif Nat.blt d N then fm tb ops N L hs os n ((d,undef)::l) xs ys else none
   |none=>fm tb ops N L hs os n l xs ys
  |some true=>
   match o.dst with
   |none=>none
   |some d=>bif Nat.blt d N then
     match o.op with
     | .load t x=>
      match hs with
      |[]=>none
      |h::hr=>
       match Nz tb l L t x h with
       |some (p,q,v)=>fm tb ops N L hr os n ((d,v)::l) (p::xs) (q::ys)
       |none=>none
     |op=>
      match Jh tb l op with
      |some v=>fm tb ops N L hs os n ((d,v)::l) xs ys
      |none=>none
    else none
theorem w8{K:Value→World→Prop}{tb:Tb}(dE:tb.ok P){t:Nat}{x:Operand}{ys:List Value}{b off:Nat}{v:Value}(ho:o.op= .load t x)(he:EP g b 0 ys)
  (hx:ev l x=some (.pointer (some ⟨b,off,none⟩))) (hv:Ar tb t ys off=some v) (k:K v g.w):cS F P N ds o l g.w Q K:=
 cI dE off (p:=0) ho he (by rw[Nat.zero_add];exact hx) hv k
theorem Fe{tb:Tb}(dE:tb.ok P)(hs:St g0 g L){t:Nat}{x:Operand}{h:uF P g}{p:Addr}{v:Value}{K:Value→World→Prop}(ho:o.op= .load t x)(hl:Nz tb l L t x h=some (p,p,v))(k:K v g.w):
  cS F P N ds o l g.w Q K:=by
 cases h with
 |o i=>
  simp only[Nz]at hl;split at hl
  ·rename_i b c E fz hi;split at hl
   ·rename_i ad hx;split at hl
    ·rename_i u hv;simp only[Option.some.injEq,Prod.mk.injEq]at hl;obtain⟨rfl,h2,rfl⟩:=hl;have RP:ev l x=some (.pointer (some ⟨b,ad.off,none⟩)):=by rw[hx,h2]
     exact cJ dE i (cs:=c.toList) ho hs (by simpa using hi) RP hv k
    cases hl
   cases hl
  cases hl
 | @e b q ys he off=>
  simp only[Nz]at hl;split at hl
  ·rename_i ad hx;split at hl
   ·rename_i u hv;simp only[Option.some.injEq,Prod.mk.injEq]at hl;obtain⟨rfl,h2,rfl⟩:=hl;exact cI dE off ho he (by rw[hx,h2]) hv k
   cases hl
  cases hl
 | @z b q he=>
  simp only[Nz]at hl;split at hl
  ·rename_i ad hx;split at hl
   ·rename_i u hv;simp only[Option.some.injEq,Prod.mk.injEq]at hl;obtain⟨rfl,h2,rfl⟩:=hl;exact w8 dE ho he (off:=ad.off) (by rw[hx,h2]) hv k
   cases hl
  cases hl
 |c hc h=>simp[Nz]at hl
theorem qg{tb:Tb}(dE:tb.ok P){v:Value}{K:Value→World→Prop}(h:Jh tb l o.op=some v)(k:K v w):cS F P N ds o l w Q K:=by
 unfold Jh at h;split at h
 ·rename_i u hu;simp only[Option.some.injEq]at h;subst h;exact aE tb dE hu k
 exact zA tb dE h k
def Vf:Op→Bool
 | .load .. =>true
 | .call {callee:=.value _,..}=>true
 |_=>false
def Cu(tb:Tb)(l:Env)(L:List df)(op:Op)(h:uF P g):Option (Value×Value×Value):=
 match h with
 | @uF.c _ _ f aa v _ _=>
  match op with
  | .call {callee:=.value x,args,argTypes:=_}=>
   match ev l x with
   |some (.func (.func f') first cap)=>
    match vF l args.toList with
    |some vs=>some (.func (.func f') #[] (first.toList++vs++cap.toList).toArray,.func (.func f) #[] aa.toArray,v)
    |none=>none
   |_=>none
  |_=>none
 |h=>
  match op with
  | .load t x=>
   match Nz tb l L t x h with
   |some (p,q,v)=>some (.pointer (some p),.pointer (some q),v)
   |none=>none
  |_=>none
def uF.mono{g':G}(h:uF P g)(hle:g.le g'):uF P g':=
 match h with
 | .o i=> .o i
 | .e h off=> .e (h.mono hle) off
 | .z h=> .z (h.mono hle)
 | .c hc h=> .c hc fun g2 h2=>h g2 (hle.trans h2)
theorem sd{g':G}{tb:Tb}{op:Op}(h:uF P g)(hle:g.le g'):Cu tb l L op (h.mono hle)=Cu tb l L op h:=by cases h<;>rfl
theorem xI{tb:Tb}(dE:tb.ok P)(hA:jY F)(hs:St g0 g L){h:uF P g}{p:Value}{v:Value}{K:Value→World→Prop}(hl:Cu tb l L o.op h=some (p,p,v))(k: ∀g',a_ g g'→K v g'.w):
  cS F P N ds o l g.w Q K:=by
 have ld: ∀h:uF P g,(match o.op with
   | .load t x=>match Nz tb l L t x h with
    |some (p,q,v)=>some (Value.pointer (some p),Value.pointer (some q),v)
    |none=>none
   |_=>none)=some (p,p,v)→cS F P N ds o l g.w Q K:=by
  intro h hl;split at hl
  ·rename_i t x ho;split at hl
   ·rename_i p' q' v' Pg;simp only[Option.some.injEq,Prod.mk.injEq]at hl;obtain⟨h1,h2,rfl⟩:=hl;rw[←h1]at h2;obtain rfl:q'=p':=by simpa using h2
    exact Fe dE hs ho Pg (k g (a_.refl g))
   cases hl
  cases hl
 cases h with
 |o i=>exact ld _ hl
 |e he off=>exact ld _ hl
 |z he=>exact ld _ hl
 | @c f aa v' hc pX=>
  simp only[Cu]at hl;split at hl
  ·rename_i x args ts ho;split at hl
   ·rename_i f' first cap hx
    split at hl
    ·rename_i vs XK;simp only[Option.some.injEq,Prod.mk.injEq]at hl;obtain⟨h1,h2,rfl⟩:=hl;rw[←h1]at h2;simp only[Value.func.injEq,Fn.func.injEq,true_and]at h2;obtain⟨h3,h4⟩:=h2;have h4:aa=first.toList++vs++cap.toList:=by simpa using h4
     subst h4;subst h3;refine aC hc hA.all hA.deep ho hx XK rfl (CallsIn.lQ hA.fn hA.deep hA.alive (pX g (G.le.refl g))) fun g' r hf hr=>?_;subst hr;exact k g' hf
    cases hl
   cases hl
  cases hl
theorem qh{tb:Tb}(dE:tb.ok P)(hF: ∀f,F.fn f)(dI:St g0 g L): ∀(n:Nat) (hs:List (uF P g)) (os:List Oper) (l:Env) (xs ys rs ts:List Addr) (kY:List Oper) (l':Env),
  fm tb ops N L hs os n l xs ys=some (rs,ts,kY,l')→ ∃zs us,rs=zs++xs∧ts=us++ys∧zs.length=us.length∧(zs=us→WL F P N ds ops Q kY l' g.w→WL F P N ds ops Q os l g.w)
 |0,hs,os,l,xs,ys,rs,ts,kY,l',h=>by simp only[fm,Option.some.injEq,Prod.mk.injEq]at h;obtain⟨rfl,rfl,rfl,rfl⟩:=h;exact⟨[],[],rfl,rfl,rfl,fun _ k=>k⟩
 |n+1,hs,[],l,xs,ys,rs,ts,kY,l',h=>by simp[fm]at h
 |n+1,hs,o::os,l,xs,ys,rs,ts,kY,l',h=>by
  simp only[fm]at h;split at h
  ·cases h
  ·rename_i hg;split at h
   ·rename_i d hd;cases hb:Nat.blt d N with
    |false=>simp[hb]at h
    |true=>
     simp only[hb,cond_true]at h;obtain⟨zs,us,e1,e2,e3,k⟩:=qh dE hF dI n _ _ _ _ _ _ _ _ _ h;refine⟨zs,us,e1,e2,e3,fun hz hk=>th hF hg (by rw[hd];exact hb) ?_⟩;rw[hd];exact k hz hk
   rename_i hd;obtain⟨zs,us,e1,e2,e3,k⟩:=qh dE hF dI n _ _ _ _ _ _ _ _ _ h;refine⟨zs,us,e1,e2,e3,fun hz hk=>th hF hg (by rw[hd];rfl) ?_⟩;rw[hd];exact k hz hk
  rename_i hg;split at h
  ·cases h
  rename_i d hd;cases hb:Nat.blt d N with
  |false=>simp[hb]at h
  |true=>
   simp only[hb,cond_true]at h;split at h
   ·rename_i t x ho;split at h
    ·cases h
    rename_i s hr;split at h
    ·rename_i p q v hl;obtain⟨zs,us,e1,e2,e3,k⟩:=qh dE hF dI n _ _ _ _ _ _ _ _ _ h;refine⟨zs++[p],us++[q],by rw[e1];simp,by rw[e2];simp,by simp[e3],fun hz hk=>?_⟩;obtain⟨XF,RQ⟩:=List.append_inj hz e3;obtain rfl:p=q:=by simpa using RQ
     refine xG hg (by rw[hd];exact hb)<|Fe dE dI ho hl ?_;rw[hd];exact k XF hk
    cases h
   rename_i op V2;split at h
   ·rename_i v hv;obtain⟨zs,us,e1,e2,e3,k⟩:=qh dE hF dI n _ _ _ _ _ _ _ _ _ h;refine⟨zs,us,e1,e2,e3,fun hz hk=>xG hg (by rw[hd];exact hb) (qg dE hv ?_)⟩;rw[hd];exact k hz hk
   cases h
theorem Wm[eK P][jY F](n:Nat)(ss:List (uF P g))(hs:St g0 g L){xs:List Addr}(h:fm (eK.tb P) ops N L ss os n l [] []=some (xs,xs,kY,l'))(k:WL F P N ds ops Q kY l' g.w):WL F P N ds ops Q os l g.w:=by obtain⟨zs,us,e1,e2,_,f⟩:=qh (F:=F) (P:=P) (ds:=ds) (Q:=Q) eK.ok jY.all hs n ss os l [] [] xs xs kY l' h;simp only[List.append_nil]at e1 e2;exact f (e1.symm.trans e2) k
theorem ot{α:Type}: ∀{l:List (α×α)},l.map Prod.fst=l.map Prod.snd→ ∀p∈l,p.1=p.2
 |[],_,p,h=>by simp at h
 |x::l,e,p,h=>by
  simp only[List.map_cons,List.cons.injEq]at e;rcases List.mem_cons.1 h with rfl|h
  ·exact e.1
  exact ot e.2 p h
def qi(tb:Tb)(ops:Array Oper)(N:Nat):List Oper→Nat→Env→Option (List Oper×Env)
 |os,0,l=>some (os,l)
 |[],_+1,_=>none
 |o::os,n+1,l=>
  match o9 ops l o.guard with
  |none=>none
  |some false=>
   match o.dst with
   |some d=>bif Nat.blt d N then qi tb ops N os n ((d,undef)::l)else none
   |none=>qi tb ops N os n l
  |some true=>
   match o.dst with
   |none=>none
   |some d=>bif Nat.blt d N then
     match Jh tb l o.op with
     |some v=>qi tb ops N os n ((d,v)::l)
     |none=>none
    else none
theorem tp{tb:Tb}(dE:tb.ok P)(hF: ∀f,F.fn f): ∀(n:Nat) (os:List Oper) (l:Env) (kY:List Oper) (l':Env),
  qi tb ops N os n l=some (kY,l')→WL F P N ds ops Q kY l' w→WL F P N ds ops Q os l w
 |0,os,l,kY,l',h,k=>by simp only[qi,Option.some.injEq,Prod.mk.injEq]at h;obtain⟨rfl,rfl⟩:=h;exact k
 |n+1,[],l,kY,l',h,k=>by simp[qi]at h
 |n+1,o::os,l,kY,l',h,k=>by
  simp only[qi]at h;split at h
  ·cases h
  ·rename_i hg;split at h
   ·rename_i d hd;cases hb:Nat.blt d N with
    |false=>simp[hb]at h
    |true=>
     simp only[hb,cond_true]at h;refine th hF hg (by rw[hd];exact hb) ?_;rw[hd];exact tp dE hF n _ _ _ _ h k
   rename_i hd;refine th hF hg (by rw[hd];rfl) ?_;rw[hd];exact tp dE hF n _ _ _ _ h k
  rename_i hg;split at h
  ·cases h
  rename_i d hd;cases hb:Nat.blt d N with
  |false=>simp[hb]at h
  |true=>
   simp only[hb,cond_true]at h;split at h
   ·rename_i v hv;refine xG hg (by rw[hd];exact hb)<|qg dE hv ?_;rw[hd];exact tp dE hF n _ _ _ _ h k
   cases h
theorem Wp[eK P][jY F](n:Nat)(h:qi (eK.tb P) ops N os n l=some (kY,l'))(k:WL F P N ds ops Q kY l' w):WL F P N ds ops Q os l w:=
 tp eK.ok jY.all n os l kY l' h k
variable {id:Nat} {y:Code}
theorem cR(h:WL F P N ds ops (Exit.then (y.wpIn F 0 P Q) Q) ops.toList l w):W F P N ds (.seq (.region id ops false) y) Q l w:=az (an h)
theorem b_(h:W F P N ds y Q' l w):WL F P N ds ops (Exit.then (y.wpIn F 0 P Q') Q) [] l w:=aA (aq h)
theorem aZ[eK P][jY F](h:qi (eK.tb P) ops N ops.toList ops.toList.length l=some ([],l'))(k:W F P N ds y Q l' w):W F P N ds (.seq (.region id ops false) y) Q l w:=cR (Wp _ h (b_ k))
theorem cG[eK P][jY F](n:Nat)(h:qi (eK.tb P) ops N ops.toList n l=some (kY,l'))(k:WL F P N ds ops (Exit.then (y.wpIn F 0 P Q) Q) kY l' w):W F P N ds (.seq (.region id ops false) y) Q l w:=cR (Wp _ h k)
theorem aX[eK P][jY F](h:qi (eK.tb P) ops N os os.length l=some ([],l'))(k:W F P N ds y Q' l' w):WL F P N ds ops (Exit.then (y.wpIn F 0 P Q') Q) os l w:=Wp _ h (b_ k)
theorem lJ[eK P][jY F](ss:List (uF P g))(hs:St g0 g L){xs:List Addr}(h:fm (eK.tb P) ops N L ss ops.toList ops.toList.length l [] []=some (xs,xs,[],l'))(k:W F P N ds y Q l' g.w):W F P N ds (.seq (.region id ops false) y) Q l g.w:=cR (Wm _ ss hs h (b_ k))
theorem c_[eK P][jY F](n:Nat)(ss:List (uF P g))(hs:St g0 g L){xs:List Addr}(h:fm (eK.tb P) ops N L ss ops.toList n l [] []=some (xs,xs,kY,l'))(k:WL F P N ds ops (Exit.then (y.wpIn F 0 P Q) Q) kY l' g.w):W F P N ds (.seq (.region id ops false) y) Q l g.w:=cR (Wm _ ss hs h k)
theorem yu[eK P][jY F](ss:List (uF P g))(hs:St g0 g L){xs:List Addr}(h:fm (eK.tb P) ops N L ss os os.length l [] []=some (xs,xs,[],l'))(k:W F P N ds y Q' l' g.w):WL F P N ds ops (Exit.then (y.wpIn F 0 P Q') Q) os l g.w:=Wm _ ss hs h (b_ k)
end Go.K
namespace Go.K
open Go Go.RowKit
inductive FK where
 |e (x:Value)
 |f (φ:Fact)
def FK.fact:FK→Fact
 | .e x=>Fact.eq x
 | .f φ=>φ
abbrev fe{a:Value}(r:List FK):List FK:=.e a::r
abbrev eF{a b:Value}(r:List FK):List FK:=.e a:: .e b::r
abbrev gU{a b c d:Value}(r:List FK):List FK:=.e a:: .e b:: .e c:: .e d::r
abbrev dn{a b c d e f g h:Value}(r:List FK):List FK:=.e a:: .e b:: .e c:: .e d:: .e e:: .e f:: .e g:: .e h::r
variable {F:Fence} {P:Program} {N:Nat} {ds:List Deferred} {l l' l0:Env} {a:Act} {w:World} {Q Q':Exit→Act→World→Prop} {ops:Array Oper} {os kY:List Oper} {o:Oper}
variable {g0 g gd g':G} {L:List df} {φs:List Fact} {ks:List FK}
def Pp(ks:List FK)(kv:List (Nat×Value))(j:Nat):Option Value:=
 match lk kv j with
 |some v=>some v
 |none=>
  match ks[j]? with
  |some (.e x)=>some x
  |_=>none
def Gx(ks:List FK)(kv:List (Nat×Value)):List (Nat×Nat)→Env→Option Env
 |[],l=>some l
 |(j,d)::r,l=>
  match Pp ks kv j with
  |some v=>Gx ks kv r ((d,v)::l)
  |none=>none
def Zx(ops:Array Oper)(js:List Nat):List (Nat×Nat):=js.filterMap fun j=>(dk ops j).map (j,·)
def iP(ops:Array Oper):List Oper→List (List Nat)→Bool
 |o::os,js::lW=>eM ops o==Zx ops js&&iP ops os lW
 |_,[]=>true
 |_,_=>false
def bj(tb:Tb)(ops:Array Oper)(ks:List FK)(l0:Env)(L:List df):List (List Nat)→List (uF P g)→Nat→List Oper→List (Nat×Value)→List (Value×Value)→Option (List (Value×Value)×List Oper×Nat)
 |[],_,i,os,_,us=>some (us,os,i)
 |_::_,_,_,[],_,_=>none
 |js::lW,hs,i,o::os,kv,us=>
  match Gx ks kv (Zx ops js) l0 with
  |none=>none
  |some env=>
   match ks[i]? with
   |some (.e x)=>
    match o9 ops env o.guard with
    |none=>none
    |some false=>bj tb ops ks l0 L lW hs (i+1) os ((i,undef)::kv) ((x,undef)::us)
    |some true=>
     bif Vf o.op then
      match hs with
      |[]=>none
      |h::hr=>
       match Cu tb env L o.op h with
       |some (p,q,v)=>bj tb ops ks l0 L lW hr (i+1) os ((i,v)::kv) ((p,q)::(x,v)::us)
       |none=>none
     else
      match Jh tb env o.op with
      |some v=>bj tb ops ks l0 L lW hs (i+1) os ((i,v)::kv) ((x,v)::us)
      |none=>none
   |_=>none
theorem wi(j:Nat){x:Value}(h:ks[j]? =some (.e x)):gT (ks.map FK.fact) j=Fact.eq x:=by unfold gT;rw[List.getD_eq_getElem?_getD,List.getElem?_map,h];rfl
theorem L1{kv:List (Nat×Value)}(Vg: ∀j v,lk kv j=some v→gT (ks.map FK.fact) j=Fact.eq v){j:Nat}{v:Value}(h:Pp ks kv j=some v):gT (ks.map FK.fact) j=Fact.eq v:=by
 unfold Pp at h;split at h
 ·rename_i u hu;simp only[Option.some.injEq]at h;subst h;exact Vg _ _ hu
 split at h
 ·rename_i x hx;simp only[Option.some.injEq]at h;subst h;exact wi _ hx
 cases h
theorem tq{kv:List (Nat×Value)}(Vg: ∀j v,lk kv j=some v→gT (ks.map FK.fact) j=Fact.eq v){k:Env→Prop}: ∀(r:List (Nat×Nat)) (l env:Env),Gx ks kv r l=some env→k env→QA (ks.map FK.fact) g r l k
 |[],l,env,h,hk=>by simp only[Gx,Option.some.injEq]at h;subst h;exact hk
 |(j,d)::r,l,env,h,hk=>by
  simp only[Gx]at h;split at h
  ·rename_i v hv;intro u hu;rw[L1 Vg hv]at hu;obtain rfl:u=v:=hu;exact tq Vg r _ _ h hk
  cases h
theorem tr{tb:Tb}(dE:tb.ok P)(hA:jY F)(dI:St g0 g L): ∀(lW:List (List Nat)) (hs:List (uF P g)) (i:Nat) (os:List Oper) (kv:List (Nat×Value)) (us ts:List (Value×Value)) (kY:List Oper) (i':Nat),
  bj tb ops ks l0 L lW hs i os kv us=some (ts,kY,i')→iP ops os lW=true→
  (∀p∈us,p∈ts)∧((∀p∈ts,p.1=p.2)→(∀j v,lk kv j=some v→gT (ks.map FK.fact) j=Fact.eq v)→iq F P N ds ops Q (ks.map FK.fact) l0 g.dr i' kY→iq F P N ds ops Q (ks.map FK.fact) l0 g.dr i os)
 |[],hs,i,os,kv,us,ts,kY,i',h,_=>by simp only[bj,Option.some.injEq,Prod.mk.injEq]at h;obtain⟨rfl,rfl,rfl⟩:=h;exact⟨fun _ h=>h,fun _ _ k=>k⟩
 |_::_,hs,i,[],kv,us,ts,kY,i',h,_=>by simp[bj]at h
 |js::lW,hs,i,o::os,kv,us,ts,kY,i',h,hn=>by
  simp only[iP,Bool.and_eq_true,beq_iff_eq]at hn;obtain⟨Ew,Ha⟩:=hn;simp only[bj]at h;split at h
  ·cases h
  rename_i env gR;split at h
  ·rename_i x hx;have we:=wi i hx;have xJ: ∀{v:Value},x=v→(∀j v,lk kv j=some v→gT (ks.map FK.fact) j=Fact.eq v)→ ∀j u,lk ((i,v)::kv) j=some u→gT (ks.map FK.fact) j=Fact.eq u:=by
    rintro v rfl hk j u hu;by_cases e:i=j
    ·subst e;rw[cZ]at hu;obtain rfl:=Option.some.inj hu;exact we
    rw[cq _ _ e]at hu;exact hk j u hu
   have one: ∀{v:Value},x=v→(∀j v,lk kv j=some v→gT (ks.map FK.fact) j=Fact.eq v)→(∀g',a_ g.dr g'→DK F P N ds ops Q (Fact.eq v) g' o env)→zw F P N ds ops Q (ks.map FK.fact) l0 g.dr i o:=by rintro v rfl hk hd;refine O_ fun g' hf=>?_;rw[Ew];refine tq hk _ _ _ gR ?_;rw[we];exact hd g' hf
   split at h
   ·cases h
   ·rename_i hg;obtain⟨m2,k⟩:=tr dE hA dI _ _ _ _ _ _ _ _ _ h Ha;refine⟨fun p hp=>m2 p (List.mem_cons_of_mem _ hp),fun e2 hk hr=>?_⟩;have he:x=undef:=e2 _ (m2 _ (List.mem_cons_self ..));exact⟨one he hk fun g' hf=>iB hg rfl,k e2 (xJ he hk) hr⟩
   rename_i hg;cases hh:Vf o.op with
   |true=>
    simp only[hh,cond_true]at h;split at h
    ·cases h
    rename_i s hr;split at h
    ·rename_i p q v hl;obtain⟨m2,k⟩:=tr dE hA dI _ _ _ _ _ _ _ _ _ h Ha;refine⟨fun p hp=>m2 p (List.mem_cons_of_mem _ (List.mem_cons_of_mem _ hp)),fun e2 hk hr=>?_⟩;have he:x=v:=e2 _ (m2 _ (List.mem_cons_of_mem _ (List.mem_cons_self ..)));obtain rfl:p=q:=e2 _ (m2 _ (List.mem_cons_self ..));refine⟨one he hk fun g' hf=>ay hg ?_,k e2 (xJ he hk) hr⟩;exact xI dE hA (dI.dr.call hf) ((sd s ((G.bI _).trans hf.le)).trans hl) fun g2 B2=>⟨g2,rfl,B2,rfl⟩
    cases h
   |false=>
    simp only[hh,cond_false]at h;split at h
    ·rename_i v hv;obtain⟨m2,k⟩:=tr dE hA dI _ _ _ _ _ _ _ _ _ h Ha;refine⟨fun p hp=>m2 p (List.mem_cons_of_mem _ hp),fun e2 hk hr=>?_⟩;have he:x=v:=e2 _ (m2 _ (List.mem_cons_self ..));exact⟨one he hk fun g' hf=>ay hg (qg dE hv ⟨g',rfl,a_.refl g',rfl⟩),k e2 (xJ he hk) hr⟩
    cases h
  cases h
def ou(tb:Tb)(ops:Array Oper)(ks:List FK)(l0:Env)(L:List df)(lW:List (List Nat))(ss:List (uF P g))(i:Nat)(os:List Oper):Option (List Value×List Value×List Oper×Nat):=
 match bj tb ops ks l0 L lW ss i os [] []with
 |some (ts,kY,i')=>some (ts.map Prod.fst,ts.map Prod.snd,kY,i')
 |none=>none
theorem Dm[eK P][hA:jY F]{i i':Nat}{A:List Value}(lW:List (List Nat))(ss:List (uF P g))(hs:St g0 g L)(hn:iP ops os lW=true)(h:ou (eK.tb P) ops ks l0 L lW ss i os=some (A,A,kY,i'))
  (k:iq F P N ds ops Q (ks.map FK.fact) l0 g.dr i' kY):iq F P N ds ops Q (ks.map FK.fact) l0 g.dr i os:=by
 unfold ou at h;split at h
 ·rename_i ts Zy i2 h2;simp only[Option.some.injEq,Prod.mk.injEq]at h;obtain⟨rfl,e2,rfl,rfl⟩:=h;exact(tr eK.ok hA hs lW ss i os [] [] _ _ _ h2 hn).2 (ot e2.symm) (fun j v hv=>by simp[lk]at hv) k
 cases h
theorem Dz[eK P][jY F]{i i':Nat}{A:List Value}(lW:List (List Nat))(ss:List (uF P g))(hs:St g0 g L)(hn:iP ops os lW=true)(h:ou (eK.tb P) ops ks l0 L lW ss i os=some (A,A,[],i')):
  iq F P N ds ops Q (ks.map FK.fact) l0 g.dr i os:=Dm lW ss hs hn h trivial
theorem Dx[eK P][jY F]{i i':Nat}{A:List Value}(lW:List (List Nat))(hn:iP ops os lW=true)(h:ou (P:=P) (g:=g) (eK.tb P) ops ks l0 [] lW [] i os=some (A,A,kY,i'))
  (k:iq F P N ds ops Q (ks.map FK.fact) l0 g.dr i' kY):iq F P N ds ops Q (ks.map FK.fact) l0 g.dr i os:=Dm lW [] (St.start g) hn h k
theorem Dy[eK P][jY F]{i i':Nat}{A:List Value}(lW:List (List Nat))(hn:iP ops os lW=true)(h:ou (P:=P) (g:=g) (eK.tb P) ops ks l0 [] lW [] i os=some (A,A,[],i')):
  iq F P N ds ops Q (ks.map FK.fact) l0 g.dr i os:=Dx lW hn h trivial
variable {id:Nat} {y:Code}
theorem ea[eK P][jY F](ks:List FK)(m:Nat)(outs:List (Nat×Nat))(l_:(uA N ops l0 m&&outs.all (fun p=>Nat.blt p.1 m&&(dk ops p.1==some p.2)))=true)
  (iC:iq F P N ds ops Q (ks.map FK.fact) l0 g.dr 0 (ops.toList.take m))
  (kj: ∀g',a_ g.dr g'→QA (ks.map FK.fact) g' outs l0 fun env=>WL F P N ds ops Q (ops.toList.drop m) env g'.w):W F P N ds (.region id ops true) Q l0 g.w:=by
 rw[Bool.and_eq_true]at l_;exact Pq jY.all eK.mixed (ks.map FK.fact) m outs l_.1 l_.2 iC kj
theorem bD[eK P][jY F](hs:St g0 g L)(ks:List FK)(m:Nat)(outs:List (Nat×Nat))(l_:(uA N ops l0 m&&outs.all (fun p=>Nat.blt p.1 m&&(dk ops p.1==some p.2)))=true){env:Env}(he:Gx ks [] outs l0=some env)
  (iC:iq F P N ds ops Q (ks.map FK.fact) l0 g.dr 0 (ops.toList.take m))
  (kj: ∀g',St g0 g' L→g.le g'→WL F P N ds ops Q (ops.toList.drop m) env g'.w):W F P N ds (.region id ops true) Q l0 g.w:=
 ea ks m outs l_ iC fun g' hf=>tq (fun j v hv=>by simp[lk]at hv) _ _ _ he (kj g' (hs.dr.call hf) ((G.bI _).trans hf.le))
end Go.K
namespace Go.K
open Go
variable {F:Fence} {P:Program} {N:Nat} {ds:List Deferred} {l l':Env} {a:Act} {w:World} {Q Q':Exit→Act→World→Prop} {ops:Array Oper} {os kY:List Oper} {x y:Code} {id:Nat} {g:G}
abbrev vO(b:Nat)(cs:List Value)(T:TypeId):df:=.obj b (.cells cs.toArray T (0,0))
abbrev cN(P:Program)(f:FuncId)(Zv:Array Value)(g:G)(R:G→Value→Prop):Prop:=CallsIn Wd 0 P f Zv g.w (cO g R)
theorem q5[eK P][jY F](n:Nat)(ss:List (uF P g)){xs:List Addr}(h:fm (eK.tb P) ops N [] ss os n l [] []=some (xs,xs,kY,l'))(k:WL F P N ds ops Q kY l' g.w):WL F P N ds ops Q os l g.w:=Wm n ss (St.start g) h k
theorem sP[eK P][jY F](n:Nat)(ss:List (uF P g)){xs:List Addr}(h:fm (eK.tb P) ops N [] ss ops.toList n l [] []=some (xs,xs,kY,l'))(k:WL F P N ds ops (Exit.then (y.wpIn F 0 P Q) Q) kY l' g.w):W F P N ds (.seq (.region id ops false) y) Q l g.w:=c_ n ss (St.start g) h k
theorem Hw[eK P][jY F](ss:List (uF P g)){xs:List Addr}(h:fm (eK.tb P) ops N [] ss ops.toList ops.toList.length l [] []=some (xs,xs,[],l'))(k:W F P N ds y Q l' g.w):W F P N ds (.seq (.region id ops false) y) Q l g.w:=lJ ss (St.start g) h k
theorem KY[eK P][jY F](ss:List (uF P g)){xs:List Addr}(h:fm (eK.tb P) ops N [] ss os os.length l [] []=some (xs,xs,[],l'))(k:W F P N ds y Q' l' g.w):WL F P N ds ops (Exit.then (y.wpIn F 0 P Q') Q) os l g.w:=yu ss (St.start g) h k
end Go.K
namespace Go.K
open Go Go.RowKit
variable {F:Fence} {P:Program} {N:Nat} {ds:List Deferred} {l l':Env} {a:Act} {w:World} {Q:Exit→Act→World→Prop} {ops:Array Oper} {os:List Oper} {o:Oper}
variable {g0 g:G} {L L':List df} {K:Value→World→Prop} {R:Ending→World→Prop}
def nz(e:TypeId)(v:Value)(xs:List UInt8)(Lr:List df):Prop:=
 (v= .slice none 0 0∧xs=[]∧Lr=[])∨ ∃br cap cur,v= .slice (vA br) xs.length cap∧Lr=[.obj br (.cells cur e (0,0))]∧xs.length≤cap∧cap≤maxLen∧cur.size=cap∧cur.toList.take xs.length=eU xs
theorem nz.nil(e:TypeId):nz e (.slice none 0 0) [] []:=.inl ⟨rfl,rfl,rfl⟩
theorem vd(s:List UInt8):Lib.strCells (bs s)=eU s:=by simp[Lib.strCells,eU,bs]
theorem oo(s:List UInt8):(eU s).length=s.length:=by simp[eU]
theorem Gv(s t:List UInt8):eU (s++t)=eU s++eU t:=by simp[eU]
theorem Gw{g:G}{w':World}(hg:g.w.grownBy w' none):a_ g ⟨w',g.im,fun b h=>Nat.lt_of_lt_of_le (g.lt b h) hg.size⟩:=
 ⟨⟨hg.os,hg.tape,hg.output,hg.size,fun k hk=>hg.block k hk (by simp)⟩,fun _ _=>Iff.rfl⟩
theorem yO{tb:Tb}(dE:tb.ok P){t u e ty:Nat}{ti ei ui:TI}{v:Value}{xs ys:List UInt8}{Lr:List df}(hb:nz e v xs Lr)(hs:St g0 g (Lr++L))
  (hi:tl tb t=some ti) (hd:ti.desc= .slice e) (hu:tl tb u=some ui) (XE:ui.desc= .string) (hj:tl tb e=some ei) (hk:ei.size=1) (yl:ei.bytes=1) (hz:ei.zero= .int .u8 0) (hlen:xs.length+ys.length≤140737488355328):
  ∃v' yD g',(Builtin.append_ #[t,u] ty #[v,.string (bs ys)]).run P g.w= .ok v' g'.w∧nz e v' (xs++ys) yD∧St g0 g' (yD++L)∧g.le g':=by
 obtain⟨⟨dd,Ez,he⟩,_⟩:=dE.at hi;rw[hd]at he;obtain rfl:=KD.of_slice he;obtain⟨⟨dd,Kr,he⟩,_⟩:=dE.at hu;rw[XE]at he;obtain rfl:=KD.of_string he;obtain⟨_,inf,e1,e2,e3,e4⟩:=dE.at hj;rw[hk]at e2;rw[yl]at e3;rw[hz]at e4;have cK:(bs ys).size=ys.length:=cg ys;have KP:xs.length+ys.length≤maxLen:=by unfold maxLen;omega
 have Jf: ∀(Pj:Nat) (cs:List Value),cs.length=xs.length+ys.length→Pj<xs.length+ys.length→cs=eU (xs++ys)→
   nz e (.slice (vA g.w.heap.size) (xs.length+ys.length) (grownCap g.w (xs.length+ys.length) Pj e)) (xs++ys)
    [.obj g.w.heap.size (.cells (cs.toArray++Builtin.zeroCells (Value.int .u8 0).cells (grownCap g.w (xs.length+ys.length) Pj e-(xs.length+ys.length))) e (0,0))]:=by
  intro Pj cs fw ho hc;have CU:=grownCap_ge g.w (xs.length+ys.length) Pj e;have tJ:grownCap g.w (xs.length+ys.length) Pj e≤maxLen:=grownCap_le_maxLen g.w (xs.length+ys.length) Pj e KP;refine .inr ⟨_,_,_,by rw[List.length_append],rfl,by rw[List.length_append];exact CU,tJ,?_,?_⟩
  ·have XF:(Value.int IntKind.u8 0).cells.size=1:=rfl;simp only[Array.size_append,List.size_toArray,size_zeroCells,XF,fw];omega
  rw[←hc,List.length_append,←fw];simp only[Array.toList_append];exact List.take_left
 rcases hb with⟨rfl,rfl,rfl⟩|⟨br,cap,cur,rfl,rfl,pU,tJ,ph,dP⟩
 ·by_cases hm:ys.length=0
  ·have Nj:ys=[]:=List.eq_nil_of_length_eq_zero hm;subst Nj;refine⟨.slice none 0 0,[],g,?_,.inl ⟨rfl,rfl,rfl⟩,hs,G.le.refl g⟩;have hf:=Lib.run_firstCells_string (P:=P) g.w 1 (bs []);rw[cK,List.length_nil]at hf;simp[Builtin.append_,run_underlying Ez,run_underlying Kr,sizeOf,typeInfo,e1,e2,Builtin.lenOf,cK,hf]
  have hr:=run_append_nil_string (P:=P) (ty:=ty) g.w t u e inf (.int .u8 0) Ez Kr e1 e4 (bs ys) (by rw[cK];omega) (by rw[cK];omega) (by rw[e3,cK];omega);have e5:((bs ys).data.map fun b=>Value.int .u8 b.toNat)=(eU ys).toArray:=by apply Array.ext';simp[eU,bs]
  rw[e5,cK]at hr;have lx:=Jf 0 (eU ys) (by simp[eU]) (by simp only[List.length_nil];omega) (by simp);simp only[List.length_nil,Nat.zero_add]at lx;have hg:g.w.grownBy (g.w.drew.alloc (.cells ((eU ys).toArray++Builtin.zeroCells (Value.int .u8 0).cells (grownCap g.w ys.length 0 e-ys.length)) e)) none:=⟨rfl,rfl,rfl,by simp,fun k hk _=>heap_alloc_old g.w.drew _ k hk⟩
  let g':G:=⟨_,g.im,fun b h=>Nat.lt_of_lt_of_le (g.lt b h) hg.size⟩
  have dI:=hs.add (g':=g') (e':=.obj g.w.heap.size (.cells ((eU ys).toArray++Builtin.zeroCells (Value.int .u8 0).cells (grownCap g.w ys.length 0 e-ys.length)) e)) hg (fun _ _=>Iff.rfl)
   ⟨hs.below.size,heap_alloc_new g.w.drew _,fun h=>by have:=g.lt _ h;omega⟩ (fun b hb=>by simp only[df.vJ,Option.some.injEq]at hb;omega)
  exact⟨_,_,g',hr,lx,dI.1,dI.2⟩
 have eh:=hs.own 0 _ rfl;have hh:g.w.heap[br]? =some (.cells cur e (0,0)):=eh.2.1;by_cases zB:xs.length+ys.length≤cap
 ·have hr:=Lib.run_append_room_string (P:=P) g.w t u ty e inf Ez Kr e1 e2 br xs.length cap cur hh (bs ys) (by rw[cK];exact zB) (by rw[cK];omega);rw[cK,vd]at hr;have dI:=hs.sr (i:=0) (cs':=(cur.toList.take xs.length++eU ys++cur.toList.drop (xs.length+ys.length)).toArray) rfl;refine⟨_,_,_,hr,.inr ⟨br,cap,_,by rw[List.length_append],rfl,by rw[List.length_append];exact zB,tJ,?_,?_⟩,dI.1,dI.2⟩
  ·simp only[List.size_toArray,List.length_append,List.length_take,List.length_drop,Array.length_toList,oo];omega
  rw[dP,Gv,show(xs++ys).length=(eU xs++eU ys).length from by simp[eU]];exact List.take_left
 have holds: ∀j u,(eU xs)[j]? =some u→g.w.cell? ((⟨br,0,none⟩:Addr).add j)=some u:=by intro j u XG;have hj:=(List.getElem?_eq_some_iff.1 XG).1;rw[oo]at hj;rw[←dP,List.getElem?_take_of_lt hj,Array.getElem?_toList]at XG;rw[Addr.add_lit];simp[World.cell?,hh,XG]
 have hr:=Lib.run_append_grow_string (P:=P) g.w t u ty e inf (.int .u8 0) Ez Kr e1 e4 ⟨br,0,none⟩ xs.length cap (eU xs) (by rw[e2,oo];omega) holds (bs ys) (by rw[cK];omega) (by rw[cK];omega) (by rw[e3,cK];exact growslice_fits (by omega) (by omega));rw[cK,vd,show(eU xs).toArray++(eU ys).toArray=(eU (xs++ys)).toArray from by simp[eU]]at hr;have lx:=Jf cap (eU (xs++ys)) (by simp[eU]) (by omega) rfl;have hg:g.w.grownBy (g.w.drew.alloc (.cells ((eU (xs++ys)).toArray++Builtin.zeroCells (Value.int .u8 0).cells (grownCap g.w (xs.length+ys.length) cap e-(xs.length+ys.length))) e)) (some br):=⟨rfl,rfl,rfl,by simp,fun k hk _=>heap_alloc_old g.w.drew _ k hk⟩
 let g':G:=⟨_,g.im,fun b h=>Nat.lt_of_lt_of_le (g.lt b h) hg.size⟩
 have dI:=hs.Kp (i:=0) (e:=.obj br (.cells cur e (0,0))) (g':=g') (e':=.obj g.w.heap.size (.cells ((eU (xs++ys)).toArray++Builtin.zeroCells (Value.int .u8 0).cells (grownCap g.w (xs.length+ys.length) cap e-(xs.length+ys.length))) e)) rfl hg (fun _ _=>Iff.rfl)
  ⟨hs.below.size,heap_alloc_new g.w.drew _,fun h=>by have:=g.lt _ h;omega⟩ (fun b hb=>by simp only[df.vJ,Option.some.injEq]at hb;right;omega)
 exact⟨_,_,g',hr,lx,dI.1,dI.2⟩
theorem Co{tb:Tb}(dE:tb.ok P){t u e:Nat}{ti ei ui:TI}{s x:Operand}{v:Value}{xs ys:List UInt8}{Lr:List df}(ho:o.op= .call {callee:=.builtin .append,args:=#[s,x],argTypes:=#[t,u]})
  (hb:nz e v xs Lr) (hs:St g0 g (Lr++L)) (hv:ev l s=some v) (hx:ev l x=some (.string (bs ys)))
  (hi:tl tb t=some ti) (hd:ti.desc= .slice e) (hu:tl tb u=some ui) (XE:ui.desc= .string) (hj:tl tb e=some ei) (hk:ei.size=1) (yl:ei.bytes=1) (hz:ei.zero= .int .u8 0) (hlen:xs.length+ys.length≤140737488355328)
  (kk: ∀v' yD g',nz e v' (xs++ys) yD→St g0 g' (yD++L)→g.le g'→K v' g'.w):cS F P N ds o l g.w Q K:=by
 obtain⟨v',yD,g',jX,h1,h2,h3⟩:=yO (ty:=o.type) dE hb hs hi hd hu XE hj hk yl hz hlen;refine fZ ho (w':=g'.w) (fun a ha=>?_) (kk v' yD g' h1 h2 h3);simp[resolve,invoke,builtin,ha.ev hv,ha.ev hx,jX]
theorem nz.Ve{T e b:Nat}{p v:Value}{xs:List UInt8}{Lr:List df}(hb:nz e v xs Lr)(hs:St g0 g (vO b [p,v] T::(Lr++L))):Lib.BuilderAtF T e g0.w.heap.size b p (Lib.byteCells xs) g.w:=by
 have h0:=hs.own 0 _ rfl;have hlen:(Lib.byteCells xs).length=xs.length:=by simp[Lib.byteCells]
 rcases hb with⟨rfl,rfl,rfl⟩|⟨br,cap,cur,rfl,rfl,pU,tJ,ph,dP⟩
 ·exact⟨h0.1,_,h0.2.1,⟨rfl,.inl ⟨rfl,rfl⟩⟩,by simp[Value.ownBlock]⟩
 have h1:=hs.own 1 _ rfl;refine⟨h0.1,_,h0.2.1,⟨by rw[hlen,Nat.mul_one],.inr ⟨br,cap,cur,(0,0),by rw[hlen],h1.1,h1.2.1,Nat.zero_le _,by rw[hlen];exact pU,tJ,by rw[Nat.mul_one];exact ph,by rw[hlen,Nat.mul_one,dP];rfl⟩⟩,?_⟩;intro h;simp only[Value.ownBlock,Option.some.injEq]at h;exact hs.sep 0 1 _ _ (by omega) rfl rfl b rfl (by simp[df.vJ,h])
end Go.K
namespace Go.K
open Go Go.RowKit
variable {F:Fence} {P:Program} {N:Nat} {ds:List Deferred} {l l':Env} {a:Act} {w:World} {Q:Exit→Act→World→Prop} {ops:Array Oper} {os:List Oper} {o:Oper}
variable {g0 g:G} {L L':List df} {K:Value→World→Prop} {R:Ending→World→Prop}
theorem Cp{src dst:TypeId}{x:Operand}{v v':Value}(ho:o.op= .convert src dst x)(hx:ev l x=some v)(h:(convert src dst v).run P w= .ok v' w)(k:K v' w):cS F P N ds o l w Q K:=
 bX (fun c=>⟨by rw[ho];simp,by rw[ho];simp⟩) (fun a ha=>by simp[execOp,ho,ha.ev hx,h]) k
theorem DW{f:FuncId}{fn:Func}{e:Array Value→Sem Value}(hf:P.funcs[f]? =some fn)(T4:(fn.name== "runtime.NumGoroutine")=false)(hb:fn.body.isNone=true)(hn:Extern.findNext fn=none)(he:Extern.find fn=some e)(hF: ∀f,F.fn f)
  {x:Operand} {args:Array Operand} {ts:Array TypeId} {vs:List Value} {v:Value} (ho:o.op= .call {callee:=.value x,args,argTypes:=ts}) (hx:ev l x=some (.func (.func f) #[] #[])) (ha:vF l args.toList=some vs)
  (h:(e vs.toArray).run P w= .ok v w) (k:K v w):cS F P N ds o l w Q K:=by
 intro a E7;unfold Oper.wpIn;refine⟨fun f _=>hF f,?_⟩;have rn:args.map a.eval=vs.toArray:=by apply Array.ext';simpa using jh E7 ha
 rw[Oper.semAt_eq _ _ _ (fun c e=>by rw[ho]at e;cases e)];have jX:(execOp a.eval o).run P w= .ok (.value v) w:=by
  simp only[execOp,ho,Sem.run_bind,resolve,E7.ev hx,Deferred.ofValue,Sem.run_pure,Result.andThen_ok,invoke,rn];have e1:#[]++vs.toArray++#[]=vs.toArray:=by apply Array.ext';simp
  rw[e1,run_callFunc_extern hf T4 hb hn he,h];rfl
 rw[jX];exact⟨v,rfl,k⟩
theorem xD{t te t':TypeId}{j:TypeInfo}{x y:Operand}{ad:Addr}(ho:o.op= .binOp .neq t x y t')(hx:ev l x=some (.pointer (some ad)))(hy:ev l y=some (.pointer (some ad)))
  (hp:P.underlying t=some (.pointer te)) (F4:P.info? te=some j) (k:K (.bool false) w):cS F P N ds o l w Q K:=by
 have hg: ∀op,(eqGuard op t x y (.pointer (some ad)) (.pointer (some ad))).run P w= .ok () w:=fun op=>by unfold eqGuard;split<;>rfl
 have hq:=Lib.run_neq_ptr_same (w:=w) ad hp F4;exact bX (fun c=>⟨by rw[ho];simp,by rw[ho];simp⟩) (fun a ha=>by simp[execOp,ho,ha.ev hx,ha.ev hy,hg,hq]) k
theorem St.tail{M:List df}(hs:St g0 g (M++L)):St g0 g L:=by
 induction M with
 |nil=>exact hs
 |cons e M ih=>exact ih (hs.drop 0)
theorem Row.at{B:Nat}{e:TypeId}{k:Nat}{v:Value}{n:Nat}{xs:List Value}(h:Row B e k v n xs w){q:Nat}(hq:sA v=some q): ∃cur fz,w.heap[q]? =some (.cells cur e fz):=by
 rcases h.2 with⟨_,a',rfl⟩|⟨b',off,cap,cur,rfl,_,⟨fz,hh,_⟩,_⟩
 ·rw[kT]at hq;cases hq
 obtain⟨_,_,_,e1,_,e2⟩:=lV hq;simp only[Value.slice.injEq,Option.some.injEq]at e1;obtain⟨rfl,_⟩:=e1;subst e2;exact⟨_,_,hh⟩
end Go.K
namespace Go.K
open Go Go.RowKit
variable {F:Fence} {P:Program} {N:Nat} {ds:List Deferred} {l l':Env} {a:Act} {w:World} {Q:Exit→Act→World→Prop} {ops:Array Oper} {os:List Oper} {o:Oper}
variable {g0 g:G} {L L':List df} {K:Value→World→Prop} {R:Ending→World→Prop}
def r_(tmps:Array Value):Env→Prop
 |[]=>True
 |(t,v)::r=>tmps[t]? =some v∧r_ tmps r
theorem r_.get{tmps:Array Value}: ∀{l:Env},r_ tmps l→ ∀t v,lk l t=some v→tmps[t]? =some v
 |[],_,t,v,h=>by simp[lk]at h
 |(k,u)::r,⟨h1,h2⟩,t,v,h=>by
  by_cases e:k=t
  ·subst e;rw[cZ]at h;exact(Option.some.inj h)▸h1
  rw[cq _ _ e]at h;exact h2.get t v h
theorem Fr.Pk{tmps:Array Value}(hs:tmps.size=N)(h:r_ tmps l):Fr N ds l {tmps,defers:=ds}:=⟨rfl,hs,h.get⟩
theorem Fa{c:Code}{QS:Exit→Act→List Frame→World→Prop}{cs:List Frame}{tmps:Array Value}{a:Act}(ha:a={tmps,defers:=[]})(hs:tmps.size=N)(hl:r_ tmps l)(h:W Wd P N [] c (fun e a' w'=>QS e a' cs w') l w):
  c.wpSIn Wd 0 P QS a cs w:=by
 subst ha;exact wpSIn_of_wpIn rfl (h _ (Fr.Pk hs hl))
theorem T5{fn:Func}{c₀:Frame}{cs cs':List Frame}{RS:Ending→FrameMode→World→Prop}(u':FrameMode)(hr:fn.results=#[])(hc:cs'={c₀ with mode:=u'}::cs)(hR:RS (.returned (.tuple #[])) u' w)(a:Act)(ha:Fr N [] l a):bodyPostS P fn c₀ cs RS .normal a cs' w:=
 ⟨ha.defers,u',hc,_,results_none hr _ _ _,hR⟩
theorem Cq{f:FuncId}{x:Operand}{first captured:Array Value}(TN:F.round=none)(hF: ∀f,F.fn f)(hg:gd ops l o=some true)(hd:o.dst=none)(ho:o.op= .defer {callee:=.value x,args:=#[],argTypes:=#[]})(hx:ev l x=some (.func (.func f) first captured))
  (k:WL F P N (⟨.fn (.func f) captured,first⟩::ds) ops Q os l w):WL F P N ds ops Q (o::os) l w:=by
 intro a ha;simp only[wpListIn,LR hg ha,if_true];unfold Oper.wpIn;refine⟨fun f _=>hF f,?_⟩;rw[TN,Oper.semAt_none];have jX:(execOp a.eval o).run P w= .ok (.defer ⟨.fn (.func f) captured,first⟩) w:=by simp[execOp,ho,resolve,ha.ev hx,Deferred.ofValue]
 rw[jX];simp only[Oper.uponIn,hd,Act.put];exact k _ ⟨by simp[ha.defers],ha.size,ha.get⟩
theorem Jg{f:FuncId}{fn:Func}{c:Code}{args:Array Value}(hf:P.funcs[f]? =some fn)(hb:fn.body=some c)(hN:fn.ntmps=N)(hle:Nat.ble args.size N=true)
  (h:W Wd P N [] c (bodyPostDIn Wd 0 P fn R) (oq 0 args.toList) w):CallsIn Wd 0 P f args w R:=by
 refine callsIn_of_wp_defers hf hb trivial ?_;rw[hN];exact h _ (xE args N hle)
theorem Fb{fn:Func}{tmps:Array Value}{f:FuncId}{cap:Array Value}{u:FrameMode}(hc:ag P f)(hu:u≠ .run)
  (h:CallsDIn Wd 0 P f cap u w fun
   | .returned _,u',w'=>LeavesIn Wd 0 P fn tmps R [] (settle u') w'
   | .panicked chain,u',w'=>LeavesIn Wd 0 P fn tmps R [] (raised u' chain) w'
   | .outgrown,_,w'=>R .outgrown w'):LeavesIn Wd 0 P fn tmps R [⟨.fn (.func f) cap,#[]⟩] u w:=by
 refine leavesIn_cons (args:=cap) (f:=f) hu (fun h=>by cases h) ?_ (fun _ _=>trivial) h;have e:#[]++cap=cap:=by apply Array.ext';simp
 simp only[invoke];rw[e];exact iO hc cap
theorem Pm{fn:Func}{f:FuncId}{cap:Array Value}(hc:ag P f)
  (h: ∀tmps:Array Value,(∀t v,lk l t=some v→tmps[t]? =some v)→CallsDIn Wd 0 P f cap .returning w fun
   | .returned _,u',w'=>LeavesIn Wd 0 P fn tmps R [] (settle u') w'
   | .panicked chain,u',w'=>LeavesIn Wd 0 P fn tmps R [] (raised u' chain) w'
   | .outgrown,_,w'=>R .outgrown w') (a:Act) (ha:Fr N [⟨.fn (.func f) cap,#[]⟩] l a):bodyPostDIn Wd 0 P fn R .ret a w:=by
 show LeavesIn Wd 0 P fn a.tmps R a.defers .returning w;rw[ha.defers];exact Fb hc (by simp) (h a.tmps ha.get)
theorem DX{fn:Func}{f:FuncId}{cap:Array Value}{ch:List PanicEntry}(hc:ag P f)
  (h: ∀tmps:Array Value,(∀t v,lk l t=some v→tmps[t]? =some v)→CallsDIn Wd 0 P f cap (.panicking ch) w fun
   | .returned _,u',w'=>LeavesIn Wd 0 P fn tmps R [] (settle u') w'
   | .panicked chain,u',w'=>LeavesIn Wd 0 P fn tmps R [] (raised u' chain) w'
   | .outgrown,_,w'=>R .outgrown w') (a:Act) (ha:Fr N [⟨.fn (.func f) cap,#[]⟩] l a):bodyPostDIn Wd 0 P fn R (.panic ch) a w:=by
 show LeavesIn Wd 0 P fn a.tmps R a.defers (.panicking ch) w;rw[ha.defers];exact Fb hc (by simp) (h a.tmps ha.get)
end Go.K
namespace Go.K
open Go Go.RowKit Go.Sort
variable {F:Fence} {P:Program} {N:Nat} {ds:List Deferred} {l l':Env} {a:Act} {w:World} {Q:Exit→Act→World→Prop} {ops:Array Oper} {os:List Oper} {o:Oper}
variable {g0 g:G} {L L':List df} {K:Value→World→Prop} {R:Ending→World→Prop}
def ec(zs:List Int):List Value:=zs.map (Value.int .i64)
theorem nB(zs:List Int):(ec zs).length=zs.length:=by simp[ec]
theorem Cr{zs:List Int}{off:Nat}{cur:Array Value}(j:Nat):(putCells (Value.int .i64) off zs.toArray cur)[j]? =(cur[j]?).map fun x=>if off≤j∧j<off+zs.length then Value.int .i64 (zs.toArray[j-off]!)else x:=by unfold putCells;rw[Array.getElem?_mapIdx];simp
theorem rq{zs:List Int}{off:Nat}{cur:Array Value}:(putCells (Value.int .i64) off zs.toArray cur).size=cur.size:=by unfold putCells;simp
theorem ve(w:World)(q b off:Nat)(d:Array Int)(os:Array Obj)(k:Nat)(hk:k<w.heap.size):
  (grow (putRow (Value.int .i64) (Sort.ahead w q) b off d) os).heap[k]? =if b=k then(w.heap[k]?).map (fun o=>match o with| .cells c e f=> .cells (putCells (Value.int .i64) off d c) e f|o=>o)else w.heap[k]?:=by
 have h1:(grow (putRow (Value.int .i64) (Sort.ahead w q) b off d) os).heap=(putRow (Value.int .i64) (Sort.ahead w q) b off d).heap++os:=rfl;have h2:(putRow (Value.int .i64) (Sort.ahead w q) b off d).heap=w.heap.modify b (onCells (putCells (Value.int .i64) off d)):=rfl;rw[h1,h2,Array.getElem?_append_left (by simpa using hk),Array.getElem?_modify];split
 ·cases w.heap[k]? with
  |none=>rfl
  |some o=>cases o<;>rfl
 rfl
theorem AZ(w:World)(q b off:Nat)(d:Array Int)(os:Array Obj):w.grownBy (grow (putRow (Value.int .i64) (Sort.ahead w q) b off d) os) (some b):=
 ⟨rfl,rfl,rfl,by show w.heap.size≤((putRow (Value.int .i64) (Sort.ahead w q) b off d).heap++os).size;rw[Array.size_append];show _≤(w.heap.modify b _).size+_;simp,fun k hk eO=>by rw[ve w q b off d os k hk,if_neg (fun e=>eO (by rw[e]))]⟩
theorem St.putRow{i b off n c q:Nat}{e:TypeId}{zs d:List Int}{os:Array Obj}(hs:St g0 g L)(hi:L[i]? =some (.row e 1 (.slice (some ⟨b,off,none⟩) n c) n (ec zs)))(hn:n≠0)(hd:d.length=n):
  ∃g':G,g'.w=grow (Sort.putRow (Value.int .i64) (Sort.ahead g.w q) b off d.toArray) os∧St g0 g' (L.set i (.row e 1 (.slice (some ⟨b,off,none⟩) n c) n (ec d)))∧g.le g':=by
 have eh:=hs.own i _ hi;have hr:=eh.1;obtain⟨so,hr⟩:=hr;rcases hr with⟨h0,_⟩|⟨b',XH,cap,cur,e1,hB,⟨fz,hh,hz⟩,pU,tJ,ph,dP⟩
 ·exact absurd h0 hn
 simp only[Value.slice.injEq,Option.some.injEq,Addr.mk.injEq,true_and,and_true]at e1;obtain⟨⟨rfl,rfl⟩,rfl⟩:=e1;rw[Nat.mul_one]at ph dP;have hg:=AZ g.w q b off d.toArray os;have EY:sA (.slice (some ⟨b,off,none⟩) n c)=some b:=jU (by omega);have bt:b<g.w.heap.size:=(Array.getElem?_eq_some_iff.1 hh).1;let g':G:=⟨grow (Sort.putRow (Value.int .i64) (Sort.ahead g.w q) b off d.toArray) os,g.im,fun x h=>Nat.lt_of_lt_of_le (g.lt x h) hg.size⟩
 have dI:=hs.Kp (g':=g') (e':=.row e 1 (.slice (some ⟨b,off,none⟩) n c) n (ec d)) hi (by rw[show(df.row e 1 (.slice (some ⟨b,off,none⟩) n c) n (ec zs)).vJ=some b from EY];exact hg) (fun _ _=>Iff.rfl)
  ⟨⟨by rw[nB,hd,Nat.mul_one],.inr ⟨b,off,c,putCells (Value.int .i64) off d.toArray cur,rfl,hB,⟨fz,by
    show(grow (Sort.putRow (Value.int .i64) (Sort.ahead g.w q) b off d.toArray) os).heap[b]? =_;rw[ve g.w q b off d.toArray os b bt,if_pos rfl,hh];rfl,by rw[rq];exact hz⟩,pU,tJ,by rw[rq,Nat.mul_one];exact ph,by
    rw[Nat.mul_one];apply List.ext_getElem?;intro j;by_cases hj:j<n
    ·rw[List.getElem?_take_of_lt hj,List.getElem?_drop,Array.getElem?_toList,Cr,Array.getElem?_eq_getElem (by omega),Option.map_some,if_pos ⟨by omega,by omega⟩,Nat.add_sub_cancel_left];unfold ec;rw[List.getElem?_map,List.getElem?_eq_getElem (by omega),Option.map_some];congr 2;rw[getElem!_pos d.toArray j (by simp;omega)];simp
    rw[List.getElem?_eq_none (by rw[List.length_take];omega),List.getElem?_eq_none (by rw[nB];omega)]⟩⟩,
   fun x hx h=>eh.2 x hx h⟩ (fun x hx=> .inl hx)
 exact⟨g',rfl,dI.1,dI.2⟩
theorem Row.IF{B b off n c:Nat}{e:TypeId}{zs:List Int}(h:Row B e 1 (.slice (some ⟨b,off,none⟩) n c) n (ec zs) w)(hn:n≠0):Holds (Value.int .i64) w b off zs.toArray∧b<w.heap.size∧n=zs.length∧n≤c∧c≤maxLen:=by
 obtain⟨so,hr⟩:=h;rw[nB,Nat.mul_one]at so;rcases hr with⟨h0,_⟩|⟨b',XH,cap,cur,e1,hB,⟨fz,hh,hz⟩,pU,tJ,ph,dP⟩
 ·exact absurd h0 hn
 simp only[Value.slice.injEq,Option.some.injEq,Addr.mk.injEq,true_and,and_true]at e1;obtain⟨⟨rfl,rfl⟩,rfl⟩:=e1;rw[Nat.mul_one]at ph dP;refine⟨fun j hj=>?_,(Array.getElem?_eq_some_iff.1 hh).1,so.symm,pU,tJ⟩;have hj:j<zs.length:=by simpa using hj
 have hc:cur[off+j]? =some (vI zs.toArray[j]!):=by
  have:(ec zs)[j]? =some (vI zs.toArray[j]!):=by unfold ec;rw[List.getElem?_map,List.getElem?_eq_getElem hj,Option.map_some,getElem!_pos zs.toArray j (by simpa using hj)];simp
  rw[←dP,List.getElem?_take_of_lt (by omega),List.getElem?_drop,Array.getElem?_toList]at this;exact this
 refine⟨by simp[World.cell?,hh,hc],?_⟩;rcases hz with rfl|hz
 ·simp[World.frozen?,hh]
 simp only[World.frozen?,hh,Bool.and_eq_false_iff,decide_eq_false_iff_not];left;omega
end Go.K
namespace Go.K
open Go Go.RowKit
variable {F:Fence} {P:Program} {N:Nat} {ds:List Deferred} {ops:Array Oper} {Q:Exit→Act→World→Prop} {φs:List Fact} {l0:Env} {gd:G}
def posOf:List Nat→Nat→Option Nat
 |[],_=>none
 |e::r,i=>bif Nat.beq e i then some 0 else(posOf r i).map (· +1)
theorem sb: ∀{es:List Nat} {i k:Nat},posOf es i=some k→es[k]? =some i
 |[],i,k,h=>by cases h
 |e::r,i,k,h=>by
  unfold posOf at h;cases hb:Nat.beq e i with
  |true=>
   rw[hb]at h;obtain rfl:=Option.some.inj h;rw[Nat.eq_of_beq_eq_true hb];rfl
  |false=>
   rw[hb]at h;cases hp:posOf r i with
   |none=>rw[hp]at h;cases h
   |some k'=>
    rw[hp]at h;obtain rfl:=Option.some.inj h;exact sb (es:=r) hp
theorem xF: ∀{es:List Nat} {i:Nat},posOf es i=none→ ∀k:Nat,es[k]? ≠some i
 |[],i,_,k=>by simp
 |e::r,i,h,k=>by
  unfold posOf at h;cases hb:Nat.beq e i with
  |true=>rw[hb]at h;cases h
  |false=>
   rw[hb]at h;cases hp:posOf r i with
   |some k'=>rw[hp]at h;cases h
   |none=>
    cases k with
    |zero=>
     intro he;obtain rfl:e=i:=by simpa using he
     rw[Nat.beq_refl]at hb;cases hb
    |succ k=>exact xF hp k
def A1(ops:Array Oper)(es:List Nat)(m:Nat):Bool:=
 (List.range es.length).all fun k=>match es[k]? with
  |some e=>(posOf es e==some k)&&Nat.blt e m&&(Nat.beq k 0||(match es[k-1]?,ops[e]? with|some p,some o=>(ll o).contains p|_,_=>false))
  |none=>false
theorem DY{es:List Nat}{m:Nat}(h:A1 ops es m=true): ∀k e,es[k]? =some e→posOf es e=some k∧e<m∧(k≠0→ ∃p o,es[k-1]? =some p∧ops[e]? =some o∧p∈ll o):=by
 intro k e hk;have bt:=(List.getElem?_eq_some_iff.1 hk).1;have:=(List.all_eq_true.1 h) k (List.mem_range.2 bt);rw[hk]at this;simp only[Bool.and_eq_true,beq_iff_eq,Bool.or_eq_true]at this;obtain⟨⟨h1,h2⟩,h3⟩:=this;refine⟨h1,by simpa [Nat.blt_eq]using h2,fun eO=>?_⟩;rcases h3 with h3|h3
 ·exact absurd (Nat.eq_of_beq_eq_true h3) eO
 cases hp:es[k-1]? with
 |none=>rw[hp]at h3;simp at h3
 |some p=>
  cases ho:ops[e]? with
  |none=>rw[hp,ho]at h3;simp at h3
  |some o=>
   rw[hp,ho]at h3;exact⟨p,o,rfl,rfl,by simpa using h3⟩
def Cs(es:List Nat)(J:Nat→G→Prop)(s i:Nat)(g g':G):Prop:=match posOf es i with
 |some _=>g.le g'∧J (s+1) g'
 |none=>a_ g g'
def Ny(F:Fence)(P:Program)(N:Nat)(ds:List Deferred)(ops:Array Oper)(Q:Exit→Act→World→Prop)(φs:List Fact)(l0:Env)(gd:G)(es:List Nat)(J:Nat→G→Prop)(i:Nat)(o:Oper):Prop:=
 ∀s g',gd.le g'→J s g'→(∀k,posOf es i=some k→s=k)→QA φs g' (eM ops o) l0 fun env=>
  match o9 ops env o.guard with
  |some true=>cS F P N ds o env g'.w Q fun v w'=> ∃dM,dM.w=w'∧Cs es J s i g' dM∧(gT φs i).p v dM
  |some false=>posOf es i=none∧(gT φs i).p undef g'
  |none=>False
def A2(F:Fence)(P:Program)(N:Nat)(ds:List Deferred)(ops:Array Oper)(Q:Exit→Act→World→Prop)(φs:List Fact)(l0:Env)(gd:G)(es:List Nat)(J:Nat→G→Prop):Nat→List Oper→Prop
 |_,[]=>True
 |i,o::os=>Ny F P N ds ops Q φs l0 gd es J i o∧A2 F P N ds ops Q φs l0 gd es J (i+1) os
theorem A2.at{es:List Nat}{J:Nat→G→Prop}: ∀{l:List Oper} {i0:Nat},A2 F P N ds ops Q φs l0 gd es J i0 l→ ∀(j:Nat) o,l[j]? =some o→Ny F P N ds ops Q φs l0 gd es J (i0+j) o
 |[],_,_,j,o,h=>by simp at h
 |x::l,i0,hs,0,o,h=>by simp only[List.getElem?_cons_zero,Option.some.injEq]at h;subst h;exact hs.1
 |x::l,i0,hs,j+1,o,h=>by simp only[List.getElem?_cons_succ]at h;have:=A2.at (i0:=i0+1) hs.2 j o h;rw[show i0+(j+1)=i0+1+j from by omega];exact this
variable {es:List Nat} {J:Nat→G→Prop} {os:List Oper} {o:Oper} {l:Env} {g:G}
def DJ(F:Fence)(P:Program)(N:Nat)(ds:List Deferred)(ops:Array Oper)(Q:Exit→Act→World→Prop)(φ:Fact)(g':G)(J':G→Prop)(o:Oper)(env:Env):Prop:=
 o9 ops env o.guard=some true∧cS F P N ds o env g'.w Q fun v w'=> ∃dM,dM.w=w'∧(g'.le dM∧J' dM)∧φ.p v dM
end Go.K
namespace Go.K
open Go Go.RowKit
variable {F:Fence} {P:Program} {N:Nat} {ds:List Deferred} {l l':Env} {a:Act} {w:World} {Q:Exit→Act→World→Prop} {ops:Array Oper} {os:List Oper} {o:Oper}
variable {g0 g g1:G} {L:List df} {K:Value→World→Prop} {R:G→Value→Prop} {ch:List PanicEntry} {b:Prop}
def yn(g:G)(R:G→Value→Prop)(ch:List PanicEntry)(b:Prop):Ending→World→Prop:=fun e w'=>cO g R e w'∨(b∧fJ g ch (fun g'=>a_ g g') e w')
theorem yn.ok{e:Ending}{w':World}(h:cO g R e w'):yn g R ch b e w':=.inl h
theorem yn.vM(hb:b)(hf:a_ g g1):yn g R ch b (.panicked ch) g1.w:=.inr ⟨hb,g1,rfl,rfl,hf.le,hf⟩
theorem cC{f:FuncId}(hc:ag P f)(hF: ∀f,F.fn f)(xz:F.depth=none){x:Operand}{args:Array Operand}{ts:Array TypeId}{first captured:Array Value}{vs Zv:List Value}
  (ho:o.op= .call {callee:=.value x,args,argTypes:=ts}) (hx:ev l x=some (.func (.func f) first captured)) (ha:vF l args.toList=some vs) (has:first.toList++vs++captured.toList=Zv)
  (h:CallsIn F 0 P f Zv.toArray g.w (yn g R ch b)) (k: ∀g' v,a_ g g'→R g' v→K v g'.w) (kb:b→ ∀g',a_ g g'→ ∀a,Fr N ds l a→Q (.panic ch) a g'.w):cS F P N ds o l g.w Q K:=
 qM hc hF xz ho hx ha has (CallsIn.mono h fun _ _ hh=>by
  rcases hh with⟨g',v,hw,hf,he,hr⟩|⟨hb,g',hw,he,_,hf⟩
  ·exact .inl ⟨v,he,hw▸k g' v hf hr⟩
  exact .inr ⟨ch,he,hw▸kb hb g' hf⟩)
def LY:TypeDesc→Bool
 | .interface .. =>false
 |_=>true
theorem LZ{t:TypeId}{d:TypeDesc}{x:Operand}{v:Value}(ho:o.op= .makeInterface t x)(hd:P.underlying t=some d)(hn:LY d=true)(hx:ev l x=some v)(k:K (.iface t v) w):cS F P N ds o l w Q K:=
 bX (fun c=>⟨by rw[ho];simp,by rw[ho];simp⟩) (fun a ha=>by cases d<;>first|(simp[LY]at hn;done)|simp[execOp,ho,ha.ev hx,Instr.makeInterface,run_underlying hd]) k
def DZ:Value→Option Bool
 | .nilIface=>some true
 | .iface _ _=>some false
 |_=>none
theorem qe{t t':TypeId}{d:TypeDesc}{x:Operand}{v:Value}{b neg:Bool}(ho:o.op= .binOp (if neg then .neq else .eql) t x (.const .nilIface) t')(hd:P.underlying t=some d)(hn:LY d=false)(hx:ev l x=some v)(hb:DZ v=some b)(k:K (.bool (neg !=b)) w):cS F P N ds o l w Q K:=
 bX (fun c=>⟨by rw[ho];simp,by rw[ho];simp⟩) (fun a ha=>by
  have hq:(Op.equal t v .nilIface).run P w= .ok b w:=by show(Op.equalIn (9999+1) t v .nilIface).run P w=_;unfold Op.equalIn;cases d<;>first|(simp[LY]at hn;done)|(cases v<;>simp[DZ]at hb<;>subst hb<;>simp[run_underlying hd])
  have hg: ∀op,(eqGuard op t x (.const .nilIface) v .nilIface).run P w= .ok () w:=fun op=>by unfold eqGuard;cases v<;>simp[DZ]at hb<;>(split<;>simp)
  have he:a.eval (.const .nilIface)= .nilIface:=rfl;cases neg<;>simp[execOp,ho,ha.ev hx,he,hg,binOp,hq]) k
end Go.K
namespace Go.K
open Go Go.RowKit
variable {F:Fence} {P:Program} {N:Nat} {ds:List Deferred} {l:Env} {w:World} {Q:Exit→Act→World→Prop} {o:Oper} {g:G} {K:Value→World→Prop}
theorem Rs.at{α:Type}[El α]{ad:Option Addr}{n c i:Nat}{xs:List α}{x:α}(h:Rs g (.slice ad n c) xs)(hx:xs[i]? =some x): ∃b p ys,ad=some ⟨b,p,none⟩∧EP g b (p+i*El.k α) ys∧El.rc g ys x:=by
 obtain⟨a,m,c',e,hn,_,hr⟩:=h;obtain⟨rfl,rfl,rfl⟩:=Value.slice.inj e;have bt:=(List.getElem?_eq_some_iff.1 hx).1;rcases hr with h0|⟨b,p,cells,rfl,p7,gw,hc⟩
 ·omega
 obtain⟨ys,h1,h2,_⟩:=gw.at hx;exact⟨b,p,ys,rfl,⟨p7,fun j y hy=>by rw[Nat.add_assoc];exact hc _ _ (h2 j y hy)⟩,h1⟩
theorem fH{tb:Tb}(dE:tb.ok P){t e:Nat}{i j:TI}{x ix:Operand}{kk:IntKind}{z:Int}{b p n c:Nat}(ho:o.op= .indexAddr t x ix)(hx:ev l x=some (.slice (some ⟨b,p,none⟩) n c))(Jd:ev l ix=some (.int kk z))(h0:0≤z)(bt:z.toNat<n)(hi:tl tb t=some i)(hd:i.desc= .slice e)(hj:tl tb e=some j)
  (k:K (.pointer (some ⟨b,p+z.toNat*j.size,none⟩)) w):cS F P N ds o l w Q K:=by
 refine bX (fun c=>⟨by rw[ho];simp,by rw[ho];simp⟩) (fun a ha=>?_) k;simp only[execOp,ho,ha.ev hx,ha.ev Jd,Sem.run_bind,qf dE hi hd hj h0 bt];rfl
end Go.K
namespace Go.K
open Go Go.RowKit
variable {F:Fence} {P:Program} {N:Nat} {ds:List Deferred} {l l':Env} {a:Act} {w:World} {Q:Exit→Act→World→Prop} {ops:Array Oper} {os:List Oper} {o:Oper}
variable {g0 g:G} {L L':List df} {K:Value→World→Prop} {R:Ending→World→Prop}
theorem Ct{α:Type}[El α]{tb:Tb}(dE:tb.ok P){t e:Nat}{ti ei:TI}{s x:Operand}{ad Pn:Option Addr}{n m c2:Nat}{xs ys:List α}
  (ho:o.op= .call {callee:=.builtin .append,args:=#[s,x],argTypes:=#[t,t]}) (hv:ev l s=some (.slice ad n n)) (hx:ev l x=some (.slice Pn m c2)) (h1:Rs g (.slice ad n n) xs) (h2:Rs g (.slice Pn m c2) ys)
  (hn:n≠0) (hm:m≠0) (hi:tl tb t=some ti) (hd:ti.desc= .slice e) (hj:tl tb e=some ei) (hk:ei.size=El.k α) (hz:ei.zero.cells.size=El.k α) (hb:(n+m)*ei.bytes≤140737488355328) (EJ:n+m≤maxLen)
  (kk: ∀v g',a_ g g'→Rs g' v (xs++ys)→K v g'.w):cS F P N ds o l g.w Q K:=by
 obtain⟨⟨dd,Ez,he⟩,_⟩:=dE.at hi;rw[hd]at he;obtain rfl:=KD.of_slice he;obtain⟨_,inf,e1,e2,e3,e4⟩:=dE.at hj;obtain⟨j_,Po,uy,tK⟩:=Src.jx h1;obtain⟨BY,news,Bq,aV⟩:=Src.jx h2;obtain⟨b1,p1,rfl,P6⟩:=tK.2.resolve_left hn;obtain⟨b2,p2,rfl,Na⟩:=aV.2.resolve_left hm;obtain⟨v',w',jX,eh,hg⟩:=run_append_arg_grows (P:=P) g.w t o.type e inf ei.zero (El.k α) ei.bytes Ez e1 e4 (by rw[e2,hk]) e3 hz (El.pos (α:=α)) ⟨b1,p1,none⟩ n n Po tK.1
  (fun j u hu=>by rw[Addr.add_lit];exact P6 j u hu) ⟨b2,p2,none⟩ m c2 news aV.1 (fun j u hu=>by rw[Addr.add_lit];exact Na j u hu) (by omega) EJ hb
 have hf:=Gw (g:=g) hg;have hlen:n+m=(xs++ys).length:=by rw[List.length_append,←j_,←BY]
 have hO:kh e g (xs++ys) (⟨w',g.im,fun b h=>Nat.lt_of_lt_of_le (g.lt b h) hg.size⟩:G) v':=by
  refine⟨Po++news,⟨?_,fun b hb hi=>?_⟩,cY.app (Bq.mono hf.le) (uy.mono hf.le)⟩
  ·rw[←hlen];exact Row.uD eh
  have:=L0 eh b hb;have:=g.lt b hi;omega
 obtain⟨g2,bS,AW,rL,sy⟩:=(St.start g).jO hf hO;refine fZ ho (w':=w') (fun a ha=>?_) (by have h:=kk v' g2 AW.rh sy;rw[bS]at h;exact h);simp[resolve,invoke,builtin,ha.ev hv,ha.ev hx,jX]
end Go.K
namespace Go.K
open Go Go.RowKit
variable {F:Fence} {P:Program} {N:Nat} {ds:List Deferred} {ops:Array Oper} {Q:Exit→Act→World→Prop} {φs:List Fact} {l0:Env} {gd:G}
def Fc(N:Nat)(ops:Array Oper)(l0:Env)(m e:Nat):Bool:=
 (List.range ops.size).all (fun i=>match ops[i]? with|some o=>(ll o).all (fun j=>Nat.blt j i)|none=>true)&&
 (List.range ops.size).all (fun j=>Nat.blt j m||(List.range j).all (fun k=>(List.range (j+1)).any (fun i=>Nat.blt k i&&(match ops[i]? with|some o=>(ll o).contains k|none=>false))))&&
 (List.range m).all (fun i=>i==e||match dk ops i with
  |some d=>Nat.blt d N&&(lk l0 d).isNone&&(List.range m).all (fun j=>j==i||j==e||(match dk ops j with|some e=>e !=d|none=>false))
  |none=>false)&&Nat.ble m ops.size&&(dk ops e).isNone
theorem qN{id:Nat}{g:G}(hF: ∀f,F.fn f)(hm:P.follows .mixedOrders=true)(φs:List Fact)(m:Nat)(outs:List (Nat×Nat))(own rY:List Nat)(e:Nat)(l_:Fc N ops l0 m e=true)(XJ:e<m)(eh:E5 ops own e m outs=true)(AQ:va ops rY e=true)(hsoft:jB (e::own) 0 φs)
  (houts:outs.all (fun p=>Nat.blt p.1 m&&(dk ops p.1==some p.2))=true)
  (iC:og F P N ds ops Q φs l0 g.dr rY e 0 (ops.toList.take m))
  (kj: ∀g',g.dr.le g'→(∃v,(gT φs e).p v g')→QA φs g' outs l0 fun env=>WL F P N ds ops Q (ops.toList.drop m) env g'.w):W F P N ds (.region id ops true) Q l0 g.w:=by
 intro a ha;simp only[Fc,Bool.and_eq_true,List.all_eq_true,List.mem_range]at l_;obtain⟨⟨⟨⟨c1,c2⟩,c3⟩,c4⟩,c5⟩:=l_;have MG:dk ops e=none:=by simpa using c5
 have c4:m≤ops.size:=Nat.le_of_ble_eq_true c4;have k1: ∀i o,ops[i]? =some o→ ∀j∈ll o,j<i:=by intro i o ho j hj;have:=c1 i (Array.getElem?_eq_some_iff.1 ho).1;rw[ho]at this;have:=(List.all_eq_true.1 this) j hj;simpa [Nat.blt_eq]using this
 have k2: ∀j o,m≤j→ops[j]? =some o→ ∀k,k<j→ ∃i' o',k<i'∧i'≤j∧ops[i']? =some o'∧k∈ll o':=by
  intro j o hj ho k hk;have:=c2 j (Array.getElem?_eq_some_iff.1 ho).1;simp only[Bool.or_eq_true]at this;rcases this with h|h
  ·have:j<m:=by simpa [Nat.blt_eq]using h
   omega
  have:=(List.all_eq_true.1 h) k (List.mem_range.2 hk);obtain⟨i',h1,h2⟩:=List.any_eq_true.1 this;simp only[Bool.and_eq_true]at h2;have h3:=List.mem_range.1 h1;cases pb:ops[i']? with
  |none=>rw[pb]at h2;simp at h2
  |some o'=>
   rw[pb]at h2;exact⟨i',o',by simpa [Nat.blt_eq]using h2.1,by omega,pb,by simpa using h2.2⟩
 have k4: ∀(listed:Array Bool),(∀k o,listed.getD k false=true→ops[k]? =some o→ ∀e∈ll o,listed.getD e false=true)→ ∀j o,m≤j→ops[j]? =some o→(∀e∈ll o,listed.getD e false=true)→ ∀k,k<j→listed.getD k false=true:=by
  intro listed fw j o hj ho dj;have: ∀d k,k<j→j-k=d→listed.getD k false=true:=by
   intro d
   induction d using Nat.strongRecOn with
   |_ d Cc=>
    intro k hk hd;obtain⟨i',o',h1,h2,h3,h4⟩:=k2 j o hj ho k hk;rcases Nat.lt_or_ge i' j with h|h
    ·exact fw i' o' (Cc (j-i') (by omega) i' h rfl) h3 k h4
    obtain rfl:i'=j:=by omega
    rw[ho]at h3;obtain rfl:=Option.some.inj h3;exact dj k h4
  exact fun k hk=>this _ k hk rfl
 have k3: ∀i,i<m→i≠e→ ∃d,dk ops i=some d∧d<N∧lk l0 d=none∧ ∀j,j<m→j≠i→j≠e→ ∃e,dk ops j=some e∧e≠d:=by
  intro i hi oh;have h0:=c3 i hi;simp only[Bool.or_eq_true]at h0;have this:=h0.resolve_left fun h=>oh (by simpa using h);cases hd:dk ops i with
  |none=>simp[hd]at this
  |some d=>
   simp only[hd,Bool.and_eq_true,List.all_eq_true,List.mem_range,Bool.or_eq_true]at this;refine⟨d,rfl,by simpa [Nat.blt_eq]using this.1.1,by simpa using this.1.2,fun j hj eO Gp=>?_⟩;rcases this.2 j hj with(h|h)|h
   ·exact absurd (by simpa using h) eO
   ·exact absurd (by simpa using h) Gp
   cases he:dk ops j with
   |none=>simp[he]at h
   |some e=>exact⟨e,rfl,by simpa [he]using h⟩
 simp only[E5,Bool.and_eq_true,List.all_eq_true,List.mem_range]at eh;have o1: ∀p∈outs,own.contains p.1=false:=fun p hp=>by simpa using eh.1 p hp
 have o2: ∀i o,i<m→i≠e→ops[i]? =some o→ ∀p∈eM ops o,own.contains p.1=false:=by
  intro i o hi eO ho p hp;have:=eh.2 i hi;rw[ho]at this;simp only[Bool.or_eq_true]at this;rcases this with h|h
  ·exact absurd (by simpa using h) eO
  simpa using(List.all_eq_true.1 h) p hp
 have O': ∀(listed:Array Bool),(∀k o,listed.getD k false=true→ops[k]? =some o→ ∀e∈ll o,listed.getD e false=true)→listed.getD e false=true→ ∀i,rY.contains i=true→listed.getD i false=true:=by
  intro listed fw hle;have: ∀d i,rY.contains i=true→e-i=d→listed.getD i false=true:=by
   intro d
   induction d using Nat.strongRecOn with
   |_ d Cc=>
    intro i hi hd;have h:=(List.all_eq_true.1 AQ) i (by simpa using hi);simp only[Bool.and_eq_true,List.any_eq_true]at h;obtain⟨oh,j,hj,sn⟩:=h;have oh:i<e:=by simpa [Nat.blt_eq]using oh
    cases pb:ops[j]? with
    |none=>rw[pb]at sn;simp at sn
    |some o'=>
     rw[pb]at sn;have Bk:=k1 j o' pb i (by simpa using sn);refine fw j o' ?_ pb i (by simpa using sn);rcases List.mem_cons.1 hj with rfl|hj
     ·exact hle
     have Gp:=(List.all_eq_true.1 AQ) j hj;simp only[Bool.and_eq_true]at Gp;have Gp:j<e:=by simpa [Nat.blt_eq]using Gp.1
     exact Cc (e-j) (by omega) j (by simpa using hj) rfl
  exact fun i hi=>this _ i hi rfl
 let waits:Nat→Array Bool→Prop:=fun j listed=>(∃p∈outs,p.1=j)∨ ∃i o,i<m∧listed.getD i false=false∧ops[i]? =some o∧ ∃p∈eM ops o,p.1=j
 refine wpIn_region_any hm ?_;have key: ∀(fuel:Nat) (listed:Array Bool) (a:Act) (g':G),listed.size=ops.size→(g.dr.le g'∧(listed.getD e false=false→a_ g.dr g'))→Fr N ds l0 a→
   (∀i,i<m→i≠e→listed.getD i false=true→ ∃d v,dk ops i=some d∧a.tmps[d]? =some v∧(waits i listed→(gT φs i).p v g'))→(listed.getD e false=true→ ∃v,(gT φs e).p v g')→(∀j,m≤j→j<ops.size→listed.getD j false=false)→(∀k o,listed.getD k false=true→ops[k]? =some o→ ∀e∈ll o,listed.getD e false=true)→
   (ops.size-((List.range ops.size).filter fun i=>listed.getD i false).length≤fuel)→wpAnyIn F 0 P .any ops Q fuel listed a g'.w:=by
  intro fuel
  induction fuel with
  |zero=>
   intro listed a g' cK hf ha eC hE f_ fw td;have dj: ∀j,j<ops.size→listed.getD j false=true:=by
    have hlen:((List.range ops.size).filter fun i=>listed.getD i false).length=(List.range ops.size).length:=by have:=List.length_filter_le (fun i=>listed.getD i false) (List.range ops.size);simp only[List.length_range]at this⊢;omega
    have:=List.length_filter_eq_length_iff.1 hlen;intro j hj;exact this j (List.mem_range.2 hj)
   have F5:m=ops.size:=by
    rcases Nat.lt_or_ge m ops.size with h|h
    ·have:=f_ m (Nat.le_refl _) h;rw[dj m h]at this;cases this
    omega
   obtain⟨env,hW,gR⟩:=kA outs (kj g' hf.1 (hE (dj _ (by omega)))) ha (fun p hp=>by
    have:=(List.all_eq_true.1 houts) p hp;simp only[Bool.and_eq_true,beq_iff_eq]at this;have bt:p.1<m:=by simpa [Nat.blt_eq]using this.1
    obtain⟨d,v,hd,hv,ke⟩:=eC p.1 bt (fun q=>by rw[q,MG]at this;cases this.2) (dj _ (by omega));replace ke:=ke (.inl ⟨p,hp,rfl⟩);rw[this.2]at hd;obtain rfl:=Option.some.inj hd;exact⟨v,hv,ke⟩)
   refine jg k1 0 ops.size listed a g'.w cK (Nat.le_refl _) (fun j o hj ho=>?_) (fun j hj=>⟨fun _=>hj,fun _=>dj j hj⟩) (by omega) (by rw[←F5];exact hW a gR);have:=(Array.getElem?_eq_some_iff.1 ho).1;omega
  |succ fuel ih=>
   intro listed a g' cK hf ha eC hE f_ fw td;by_cases gM: ∀j,j<m→listed.getD j false=true
   ·obtain⟨env,hW,gR⟩:=kA outs (kj g' hf.1 (hE (gM _ XJ))) ha (fun p hp=>by
     have:=(List.all_eq_true.1 houts) p hp;simp only[Bool.and_eq_true,beq_iff_eq]at this;have bt:p.1<m:=by simpa [Nat.blt_eq]using this.1
     obtain⟨d,v,hd,hv,ke⟩:=eC p.1 bt (fun q=>by rw[q,MG]at this;cases this.2) (gM _ bt);replace ke:=ke (.inl ⟨p,hp,rfl⟩);rw[this.2]at hd;obtain rfl:=Option.some.inj hd;exact⟨v,hv,ke⟩)
    refine jg k1 (fuel+1) m listed a g'.w cK c4 (fun j o hj ho=>k2 j o hj ho) (fun j hj=>⟨fun h=>?_,fun h=>gM j h⟩) ?_ (hW a gR)
    ·rcases Nat.lt_or_ge j m with h'|h'
     ·exact h'
     rw[f_ j h' hj]at h;cases h
    have hle:((List.range ops.size).filter fun i=>listed.getD i false).length≤m:=by
     have oi:((List.range ops.size).filter fun i=>listed.getD i false).length≤((List.range ops.size).filter fun i=>decide (i<m)).length:=by
      refine List.Sublist.length_le ?_;rw[show((List.range ops.size).filter fun i=>listed.getD i false)=((List.range ops.size).filter fun i=>decide (i<m)).filter (fun i=>listed.getD i false)from ?_]
      ·exact List.filter_sublist
      rw[List.filter_filter];refine List.filter_congr fun i hi=>?_;have hi:=List.mem_range.1 hi;by_cases h:i<m
      ·simp[h]
      rw[f_ i (by omega) hi];simp
     have:((List.range ops.size).filter fun i=>decide (i<m)).length=m:=by
      have e:ops.size=m+(ops.size-m):=by omega
      rw[e,List.range_add,List.filter_append,List.length_append,List.filter_eq_self.2 (by intro x hx;simpa using hx),List.filter_eq_nil_iff.2 (by intro x hx;obtain⟨y,_,rfl⟩:=List.mem_map.1 hx;simp)];simp
     omega
    omega
   --qK of Bp first part is not listed:Bp least LS is ready
   have hex: ∃j,j<m∧listed.getD j false=false∧ ∀k,k<j→listed.getD k false=true:=by
    have: ∃j,j<m∧listed.getD j false=false:=by
     apply Classical.byContradiction;intro de;apply gM;intro j hj;cases hc:listed.getD j false with
     |true=>rfl
     |false=>exact absurd ⟨j,hj,hc⟩ de
    obtain⟨j,hj⟩:=this
    induction j using Nat.strongRecOn with
    |_ j LU=>
     by_cases hk: ∃k,k<j∧listed.getD k false=false
     ·obtain⟨k,rH,yA⟩:=hk;exact LU k rH ⟨by omega,yA⟩
     refine⟨j,hj.1,hj.2,fun k rH=>?_⟩;cases hc:listed.getD k false with
     |true=>rfl
     |false=>exact absurd ⟨k,rH,hc⟩ hk
   obtain⟨j0,Vb,Cd,sn⟩:=hex;have iD:j0∈Region.ready .any ops listed:=by
    rw[fk];have bt:j0<ops.size:=by omega
    refine⟨by rw[getD_lt (cK▸bt) true false];exact Cd,_,Array.getElem?_eq_getElem bt,fun k hk=>sn k (k1 j0 _ (Array.getElem?_eq_getElem bt) k hk)⟩
   refine⟨fun h0=>(by rw[h0]at iD;cases iD),fun i hi=>?_⟩;obtain⟨h0,o,ho,dj⟩:=fk.1 hi;have mV:i<ops.size:=(Array.getElem?_eq_some_iff.1 ho).1;rw[getD_lt (cK▸mV) true false]at h0;have p7:i<m:=by
    rcases Nat.lt_or_ge i m with h|h
    ·exact h
    have:=k4 listed fw i o h ho dj j0 (by omega);rw[Cd]at this;cases this
   have jT:=iC.at (i0:=0) i o (by rw[List.getElem?_take_of_lt p7];simpa using ho);rw[Nat.zero_add]at jT;have Xu:(rY.contains i=true∨i=e)→a_ g.dr g':=by
    intro hi;refine hf.2 ?_;cases hle:listed.getD e false with
    |false=>rfl
    |true=>
     exfalso;rcases hi with hi|hi
     ·have:=O' listed fw hle i hi;rw[this]at h0;cases h0
     subst hi;rw[hle]at h0;cases h0
   have oj: ∀p∈eM ops o,∃v,a.tmps[p.2]? =some v∧(gT φs p.1).p v g':=by
    intro p hp;have MB:=hp;unfold eM at hp;obtain⟨j,hj,xx⟩:=List.mem_filterMap.1 hp;cases ym:dk ops j with
    |none=>simp[ym]at xx
    |some e=>
     simp only[ym]at xx;have LV:j<m:=by have:=k1 i o ho j hj;omega
     obtain⟨d',v,uB,hv,ke⟩:=eC j LV (fun q=>by rw[q,MG]at ym;cases ym) (dj j hj);rw[ym]at uB;obtain rfl:=Option.some.inj uB;have DR: ∀(c:Bool) (q:Nat×Nat),(bif c then some q else none)=some p→q=p:=by
      intro c q h;cases c with
      |true=>exact Option.some.inj h
      |false=>cases h
     obtain rfl:=DR _ _ xx;exact⟨v,hv,ke (.inr ⟨i,o,p7,h0,ho,_,MB,rfl⟩)⟩
   obtain⟨env,hk,gR⟩:=kA (eM ops o) (jT g' hf.1 Xu) ha oj;have kU: ∀(a':Act) (dM:G) (v:Value),a'=a.put o.dst v→uz e i g' dM→(gT φs i).p v dM→wpAnyIn F 0 P .any ops Q fuel (listed.setIfInBounds i true) a' dM.w:=by
    intro a' dM v he eR ke;have q_:g.dr.le dM∧((listed.setIfInBounds i true).getD e false=false→a_ g.dr dM):=by
     unfold uz at eR;split at eR
     ·rename_i oh;refine⟨hf.1.trans eR,fun hl=>?_⟩;subst oh;simp[cK,mV]at hl
     rename_i oh;refine⟨hf.1.trans eR.le,fun hl=>?_⟩;refine(hf.2 ?_).trans eR;have:(listed.setIfInBounds i true).getD e false=listed.getD e false:=by simp only[Array.getD_eq_getD_getElem?];rw[Array.getElem?_setIfInBounds_ne oh]
     rw[←this];exact hl
    have gL: ∀k,k≠i→(listed.setIfInBounds i true).getD k false=listed.getD k false:=fun k hk=>by simp only[Array.getD_eq_getD_getElem?];rw[Array.getElem?_setIfInBounds_ne (fun e=>hk e.symm)]
    have dF:(listed.setIfInBounds i true).getD i false=true:=by simp[cK,mV]
    have T6:Fr N ds l0 a'∧(∀k,k<m→k≠e→(listed.setIfInBounds i true).getD k false=true→ ∃d v,dk ops k=some d∧a'.tmps[d]? =some v∧(waits k (listed.setIfInBounds i true)→(gT φs k).p v dM)):=by
     have hold: ∀k,k<m→k≠e→k≠i→(listed.setIfInBounds i true).getD k false=true→ ∃d' v',dk ops k=some d'∧a.tmps[d']? =some v'∧(waits k (listed.setIfInBounds i true)→(gT φs k).p v' dM):=by
      intro k hk AS j9 jG;rw[gL k j9]at jG;obtain⟨d',v',uB,Ce,xy⟩:=eC k hk AS jG;refine⟨d',v',uB,Ce,fun TU=>?_⟩;have Pa:waits k listed:=by
       rcases TU with h|⟨i2,Pb,h1,h2,h3⟩
       ·exact .inl h
       refine .inr ⟨i2,Pb,h1,?_,h3⟩;by_cases h4:i2=i
       ·subst h4;rw[dF]at h2;cases h2
       rw[gL i2 h4]at h2;exact h2
      have hp:=xy Pa;unfold uz at eR;split at eR
      ·rename_i oh;rcases jB.at hsoft k with h|h
       ·rw[Nat.zero_add]at h;replace h:own.contains k=true:=by
         have AS:(k==e)=false:=by simp;exact fun q=>j9 (q.trans oh.symm)
         simp only[List.contains_cons,AS,Bool.false_or]at h;exact h
        rcases TU with⟨p,vD,Kq⟩|⟨i2,Pb,h1,h2,h3,p,vD,Kq⟩
        ·have:=o1 p vD;rw[Kq,h]at this;cases this
        by_cases h4:i2=e
        ·rw[h4,←oh,dF]at h2;cases h2
        have:=o2 i2 Pb h1 h4 h3 p vD;rw[Kq,h]at this;cases this
       exact h _ _ _ eR hp
      exact(gT φs k).mono _ _ _ eR hp
     by_cases oh:i=e
     ·have sB:o.dst=none:=by have h:=MG;rw[←oh]at h;unfold dk at h;rw[ho]at h;exact h
      have E7:a'=a:=by rw[he,sB];rfl
      rw[E7];exact⟨ha,fun k hk AS jG=>hold k hk AS (fun q=>AS (q.trans oh)) jG⟩
     obtain⟨d,hd,TS,TT,I8⟩:=k3 i p7 oh;have sB:o.dst=some d:=by unfold dk at hd;rw[ho]at hd;exact hd
     have pd: ∀t,t≠d→a'.tmps[t]? =a.tmps[t]?:=fun t ht=>by rw[he,sB];simp only[Act.put];rw[Array.getElem?_setIfInBounds_ne (fun e=>ht e.symm)]
     have o3:a'.tmps[d]? =some v:=by rw[he,sB];simp only[Act.put];rw[Array.getElem?_setIfInBounds_self,if_pos (by rw[ha.size];exact TS)]
     refine⟨⟨by rw[he,sB];exact ha.defers,by rw[he,sB];simp[Act.put,ha.size],fun t u hu=>?_⟩,fun k hk AS jG=>?_⟩
     ·have Nu:t≠d:=fun e=>by subst e;rw[TT]at hu;cases hu
      rw[pd t Nu];exact ha.get t u hu
     by_cases j9:k=i
     ·subst j9;exact⟨d,v,hd,o3,fun _=>ke⟩
     obtain⟨d',v',uB,Ce,xy⟩:=hold k hk AS j9 jG;obtain⟨e',KV,Nv⟩:=I8 k hk j9 AS;rw[uB]at KV;obtain rfl:=Option.some.inj KV;exact⟨d',v',uB,by rw[pd d' Nv];exact Ce,xy⟩
    have RN:(listed.setIfInBounds i true).getD e false=true→ ∃v,(gT φs e).p v dM:=by
     intro hl;by_cases oh:i=e
     ·subst oh;exact⟨v,ke⟩
     rw[gL e (fun q=>oh q.symm)]at hl;obtain⟨v0,RO⟩:=hE hl;unfold uz at eR;rw[if_neg oh]at eR;exact⟨v0,(gT φs e).mono _ _ _ eR RO⟩
    refine ih _ a' dM (by simpa using cK) q_ T6.1 T6.2 RN (fun j hj I9=>?_) (fun k o' hk AR e he=>?_) ?_
    ·rw[gL j (by omega)];exact f_ j hj I9
    ·have hle: ∀x,listed.getD x false=true→(listed.setIfInBounds i true).getD x false=true:=fun x hx=>by
      by_cases Bn:x=i
      ·subst Bn;exact dF
      rw[gL x Bn];exact hx
     by_cases j9:k=i
     ·subst j9;rw[ho]at AR;obtain rfl:=Option.some.inj AR;exact hle e (dj e he)
     rw[gL k j9]at hk;exact hle e (fw k o' hk AR e he)
    have bt:((List.range ops.size).filter fun k=>listed.getD k false).length<((List.range ops.size).filter fun k=>(listed.setIfInBounds i true).getD k false).length:=by
     have oi:List.Sublist ((List.range ops.size).filter fun k=>listed.getD k false) ((List.range ops.size).filter fun k=>(listed.setIfInBounds i true).getD k false):=by
      have e:((List.range ops.size).filter fun k=>listed.getD k false)=((List.range ops.size).filter fun k=>(listed.setIfInBounds i true).getD k false).filter (fun k=>listed.getD k false):=by
       rw[List.filter_filter];refine List.filter_congr fun k _=>?_;by_cases j9:k=i
       ·subst j9;rw[dF];simp
       rw[gL k j9];simp
      rw[e];exact List.filter_sublist
     refine Nat.lt_of_le_of_ne oi.length_le fun e=>?_;have:=oi.eq_of_length e;have sK:i∈((List.range ops.size).filter fun k=>(listed.setIfInBounds i true).getD k false):=List.mem_filter.2 ⟨List.mem_range.2 mV,dF⟩;rw[←this]at sK;have:=(List.mem_filter.1 sK).2;rw[h0]at this;cases this
    omega
   unfold wpOpIn;rw[ho];simp only;cases hg:o9 ops env o.guard with
   |none=>rw[hg]at hk;exact hk.elim
   |some b=>
    have mE:Region.wanted o (yielded ops a.tmps)=b:=jW (l:=env) (o:=o) hg gR;rw[hg]at hk;cases b with
    |true=>
     rw[if_pos mE];exact Oper.wpIn_mono (fun a' w' ⟨v,he,dM,hw,eR,ke⟩=>hw▸kU a' dM v he eR ke) (hk a gR)
    |false=>
     rw[if_neg (by rw[mE];simp)];exact⟨fun f _=>hF f,kU _ g' undef rfl (by unfold uz;split;exact G.le.refl _;exact a_.refl _) hk⟩
 refine key ops.size _ a g.dr (by simp) ⟨G.le.refl _,fun _=>a_.refl _⟩ ha (fun i hi _ hl=>?_) (fun hl=>?_) (fun j _ hj=>by simp[hj]) (fun k o hl=>?_) (by omega)
 ·simp only[Array.getD_eq_getD_getElem?,Array.getElem?_replicate]at hl;split at hl<;>simp at hl
 ·simp only[Array.getD_eq_getD_getElem?,Array.getElem?_replicate]at hl;split at hl<;>simp at hl
 simp only[Array.getD_eq_getD_getElem?,Array.getElem?_replicate]at hl;split at hl<;>simp at hl
end Go.K
namespace Go.K
open Go Go.RowKit
variable {F:Fence} {P:Program} {N:Nat} {ds:List Deferred} {l l':Env} {a:Act} {w:World} {Q Q':Exit→Act→World→Prop} {ops:Array Oper} {os kY:List Oper} {o:Oper} {c x y:Code} {id:Nat}
variable {g0 g gd:G} {L:List df} {K:Value→World→Prop} {φs:List Fact} {l0:Env} {ks:List FK} {ch:List PanicEntry} {b:Prop}
variable {d:Nat} {op:Op} {ty:TypeId} {pos:String} {af:Array Edge} {gu:Option (Nat×Bool)}
def aaK:Env→Env→Option Env
  |[],_=>some []
  |(t,_)::r,l=>match lk l t,aaK r l with
    |some v,some s=>some ((t,v)::s)
    |_,_=>none
theorem aaJ: ∀{l' l s:Env},aaK l' l=some s→zv s l
  |[],_,s,h=>by cases h;trivial
  |(t,v)::r,l,s,h=>by
    unfold aaK at h;cases h1:lk l t with
    |none=>rw[h1]at h;cases h
    |some v=>
      cases h2:aaK r l with
      |none=>rw[h1,h2]at h;cases h
      |some s'=>rw[h1,h2]at h;cases h;exact⟨h1,aaJ h2⟩
theorem Fr.kp{a:Act}(h:Fr N ds l a)(hs:aaK l' l=some l'):Fr N ds l' a:=h.keep (aaJ hs)
theorem aas{z:Operand}(hz:ev l z=some (.bool true))(h:W F P N ds x Q l w):W F P N ds (.cond z x y) Q l w:=aJ rfl hz h
theorem aar{z:Operand}(hz:ev l z=some (.bool false))(h:W F P N ds y Q l w):W F P N ds (.cond z x y) Q l w:=aQ rfl hz h
theorem aaq{R:Ending→World→Prop}{fn:Func}{t:Nat}{v:Value}(hr:(fn.results,lk l t)=(#[.tmp t],some v))(hR:R (.returned v) w)(a:Act)(ha:Fr N [] l a):bodyPost P fn R .ret a w:=by simp only[Prod.mk.injEq]at hr;exact aU hr.1 hr.2 hR a ha
def MK(P:Program)(f:Nat):Bool:=match P.funcs[f]? with
  |some fn=> !(fn.name== "runtime.NumGoroutine")&& !fn.body.isNone
  |none=>false
theorem ME{f:FuncId}(h:MK P f=true):ag P f:=by
  unfold MK at h;unfold ag;cases e:P.funcs[f]? with
  |none=>rw[e]at h;cases h
  |some fn=>
    rw[e]at h;simp only[Bool.and_eq_true,Bool.not_eq_true']at h;simp[h.1,h.2]
class HV(P:Program) where
  l:List Nat
  ok:l.all (MK P)=true
theorem MA[C:HV P]{f:FuncId}(h:(HV.l P).contains f=true):ag P f:=ME (List.all_eq_true.1 HV.ok f (List.contains_iff_mem.1 h))
theorem sN[T:eK P](i:Nat){t:Nat}{ti:TI}{x y:Operand}{cs us cs':List Value}{off b:Nat}{T:TypeId}{v:Value}(hs:St g0 g L)
    (h:(o9 ops l gu,op,L[i]?,ev l x,ev l y,tl (eK.tb P) t,v.cells,us.length,us.all Value.oneCell',Nat.ble (off+us.length) cs.length,nr cs off us)=
      (some true,.store t x y,some (vO b cs T),some (.pointer (some ⟨b,off,none⟩)),some v,some ti,us.toArray,ti.size,true,true,cs'))
    (k: ∀g',St g0 g' (L.set i (vO b cs' T))→g.le g'→WL F P N ds ops Q os l g'.w):WL F P N ds ops Q (⟨none,op,ty,pos,af,gu⟩::os) l g.w:=by
  simp only[Prod.mk.injEq]at h;obtain⟨h1,h2,h3,h4,h5,h6,h7,h8,h9,vG,K2⟩:=h;exact bu h1 (aw eK.ok i h2 hs h3 h4 h5 h6 h7 h8 h9 vG K2 k)
theorem w4[T:eK P]{T:TypeId}{i:TI}{cs:List Value}(hs:St g0 g L)
    (h:(o9 ops l gu,Nat.blt d N,op,tl (eK.tb P) T,i.zero.cells)=(some true,true,.alloc T,some i,cs.toArray))
    (k: ∀b g',St g0 g' (vO b cs T::L)→g.le g'→WL F P N ds ops Q os ((d,vP b)::l) g'.w):WL F P N ds ops Q (⟨some d,op,ty,pos,af,gu⟩::os) l g.w:=by
  simp only[Prod.mk.injEq]at h;obtain⟨h1,h2,h3,h4,h5⟩:=h;exact ak h1 h2 (aN eK.ok h3 hs h4 h5 k)
theorem EH{T:TypeId}{x:Operand}{v:Value}{cs:List Value}(hs:St g0 g L)
    (h:(o9 ops l gu,Nat.blt d N,op,ev l x,v.cells)=(some true,true,.box T x,some v,cs.toArray))
    (k: ∀b g',St g0 g' (vO b cs T::L)→g.le g'→WL F P N ds ops Q os ((d,vP b)::l) g'.w):WL F P N ds ops Q (⟨some d,op,ty,pos,af,gu⟩::os) l g.w:=by
  simp only[Prod.mk.injEq]at h;obtain⟨h1,h2,h3,h4,h5⟩:=h;exact ak h1 h2 (aO h3 hs h4 h5 k)
theorem zc{α:Type}[El α][T:eK P]{t e:Nat}{i j:TI}{x ix:Operand}{v:Value}{xs:List α}{kk:IntKind}{n:Int}{y:α}(hr:Rs g v xs)(hy:dJ xs n=some y)
    (h:(o9 ops l gu,Nat.blt d N,op,ev l x,ev l ix,tl (eK.tb P) t,i.desc,tl (eK.tb P) e,j.size)=(some true,true,.indexAddr t x ix,some v,some (.int kk n),some i,.slice e,some j,El.k α))
    (k: ∀b p ys,EP g b p ys→El.rc g ys y→WL F P N ds ops Q os ((d,.pointer (some ⟨b,p,none⟩))::l) g.w):WL F P N ds ops Q (⟨some d,op,ty,pos,af,gu⟩::os) l g.w:=by
  simp only[Prod.mk.injEq]at h;obtain⟨h1,h2,h3,h4,h5,h6,h7,h8,h9⟩:=h;exact ak h1 h2 (aR eK.ok h3 hr hy h4 h5 h6 h7 h8 h9 k)
theorem BP[T:eK P]{t e len:Nat}{ti ei:TI}{k:Nat}{parts:Array (Nat×Operand)}(vs:List (Nat×Value))(cells:List Value)(hs:St g0 g L)
    (h:(o9 ops l gu,Nat.blt d N,op,vF l (parts.toList.map (·.2)),parts.toList.map (·.1),tl (eK.tb P) t,ti.desc,tl (eK.tb P) e,ei.size)=
      (some true,true,.buildSlice t len parts,some (vs.map (·.2)),vs.map (·.1),some ti,.slice e,some ei,k)) (fw:cells.length=len*k)
    (kk: ∀b g',St g0 g' (.row e k (.slice (vA b) len len) len cells::L)→g.le g'→WL F P N ds ops Q os ((d,.slice (vA b) len len)::l) g'.w)
    (lK:0<k:=by decide) (hlen:len*k≤16777216:=by decide) (pP:Instr.fill (fun i=>some (i*k,k)) ((Array.range (len*k)).map (ei.zero.cells[· % ei.zero.cells.size]!)) vs=some cells.toArray:=by kernel_rfl):
    WL F P N ds ops Q (⟨some d,op,ty,pos,af,gu⟩::os) l g.w:=by
  simp only[Prod.mk.injEq]at h;obtain⟨h1,h2,h3,h4,h5,h6,h7,h8,h9⟩:=h;exact ak h1 h2 (bE eK.ok h3 hs h4 h5 h6 h7 h8 h9 lK hlen pP fw kk)
theorem BO[T:eK P]{t:Nat}{ti:TI}{fs:List (TypeId×Nat)}{parts:Array (Nat×Operand)}(vs:List (Nat×Value))(cells:List Value)
    (pl:List (Nat×Nat)) (h:(o9 ops l gu,Nat.blt d N,op,vF l (parts.toList.map (·.2)),parts.toList.map (·.1),tl (eK.tb P) t,ti.desc,places (eK.tb P) fs)=
      (some true,true,.build t parts,some (vs.map (·.2)),vs.map (·.1),some ti,.struct fs,pl.map some))
    (k:WL F P N ds ops Q os ((d,.agg cells.toArray)::l) w) (pP:Instr.fill (fun i=>pl.toArray[i]?) ti.zero.cells vs=some cells.toArray:=by kernel_rfl):WL F P N ds ops Q (⟨some d,op,ty,pos,af,gu⟩::os) l w:=by
  simp only[Prod.mk.injEq]at h;obtain⟨h1,h2,h3,h4,h5,h6,h7,h8⟩:=h;exact ak h1 h2 (aS eK.ok h3 h4 h5 h6 h7 pl h8 pP k)
theorem An{T:TypeId}{x:Operand}{v:Value}{cs:List Value}(hs:St g0 g L)
    (h:(o9 ops l gu,Nat.blt d N,op,ev l x,v.cells)=(some true,true,.box T x,some v,cs.toArray))
    (k: ∀b g',St g0 g' L→g.le g'→EP g' b 0 cs→WL F P N ds ops Q os ((d,vP b)::l) g'.w):WL F P N ds ops Q (⟨some d,op,ty,pos,af,gu⟩::os) l g.w:=
  EH hs h fun b g1 h1 h2=>by obtain⟨g2,e,h3,h4,h5⟩:=h1.bd (i:=0) rfl;rw[←e];exact k b g2 h3 (h2.trans h4) h5
theorem Hs[T:eK P](i:Nat){t:Nat}{ti:TI}{x y:Operand}{cs us cs':List Value}{off b:Nat}{T:TypeId}{v:Value}(hs:St g0 g L)
    (h:(o9 ops l gu,op,L[i]?,ev l x,ev l y,tl (eK.tb P) t,v.cells,us.length,us.all Value.oneCell',Nat.ble (off+us.length) cs.length,nr cs off us)=
      (some true,.store t x y,some (vO b cs T),some (.pointer (some ⟨b,off,none⟩)),some v,some ti,us.toArray,ti.size,true,true,cs'))
    (k: ∀g',St g0 g' (L.eraseIdx i)→g.le g'→EP g' b 0 cs'→WL F P N ds ops Q os l g'.w):WL F P N ds ops Q (⟨none,op,ty,pos,af,gu⟩::os) l g.w:=
  sN i hs h fun g1 h1 h2=>by simp only[Prod.mk.injEq]at h;obtain⟨g2,e,h3,h4,h5⟩:=h1.bd (i:=i) (List.getElem?_set_self (List.getElem?_eq_some_iff.1 h.2.2.1).1);rw[←e];rw[List.eraseIdx_set_eq]at h3;exact k g2 h3 (h2.trans h4) h5
section
variable {R:G→Value→Prop} {f:FuncId} {x:Operand} {args:Array Operand} {ts:Array TypeId} {first captured:Array Value} {vs zs:List Value}
theorem sO[A:jY F][C:HV P](h:(o9 ops l gu,Nat.blt d N,op,ev l x,vF l args.toList,first.toList++vs++captured.toList)=(some true,true,.call {callee:=.value x,args,argTypes:=ts},some (.func (.func f) first captured),some vs,zs))
    (hr:CallsIn F 0 P f zs.toArray g.w (cO g R)) (k: ∀g' v,a_ g g'→R g' v→WL F P N ds ops Q os ((d,v)::l) g'.w) (hc:(HV.l P).contains f=true:=by kernel_rfl):WL F P N ds ops Q (⟨some d,op,ty,pos,af,gu⟩::os) l g.w:=by
  simp only[Prod.mk.injEq]at h;obtain⟨h1,h2,h3,h4,h5,h6⟩:=h;exact ak h1 h2 (aC (MA hc) jY.all jY.deep h3 h4 h5 h6 hr k)
theorem Dj[A:jY F][C:HV P](h:(o9 ops l gu,Nat.blt d N,op,ev l x,vF l args.toList,first.toList++vs++captured.toList)=(some true,true,.call {callee:=.value x,args,argTypes:=ts},some (.func (.func f) first captured),some vs,zs))
    (hr:CallsIn F 0 P f zs.toArray g.w (db g R)) (k: ∀g' v,g.le g'→R g' v→WL F P N ds ops Q os ((d,v)::l) g'.w) (hc:(HV.l P).contains f=true:=by kernel_rfl):WL F P N ds ops Q (⟨some d,op,ty,pos,af,gu⟩::os) l g.w:=by
  simp only[Prod.mk.injEq]at h;obtain⟨h1,h2,h3,h4,h5,h6⟩:=h;exact ak h1 h2 (cp (MA hc) jY.all jY.deep h3 h4 h5 h6 hr k)
theorem HL[A:jY F][C:HV P](h:(o9 ops l gu,Nat.blt d N,op,ev l x,vF l args.toList,first.toList++vs++captured.toList)=(some true,true,.call {callee:=.value x,args,argTypes:=ts},some (.func (.func f) first captured),some vs,zs))
    (hr:CallsIn F 0 P f zs.toArray g.w (yn g R ch b)) (k: ∀g' v,a_ g g'→R g' v→WL F P N ds ops Q os ((d,v)::l) g'.w) (kb:b→ ∀g',a_ g g'→ ∀a,Fr N ds l a→Q (.panic ch) a g'.w) (hc:(HV.l P).contains f=true:=by kernel_rfl):WL F P N ds ops Q (⟨some d,op,ty,pos,af,gu⟩::os) l g.w:=by
  simp only[Prod.mk.injEq]at h;obtain⟨h1,h2,h3,h4,h5,h6⟩:=h;exact ak h1 h2 (cC (MA hc) jY.all jY.deep h3 h4 h5 h6 hr k kb)
theorem Ev[A:jY F][C:HV P]{r:Value}(h:(o9 ops l gu,Nat.blt d N,op,ev l x,vF l args.toList,first.toList++vs++captured.toList)=(some true,true,.call {callee:=.value x,args,argTypes:=ts},some (.func (.func f) first captured),some vs,zs))
    (hr:CallsIn F 0 P f zs.toArray g.w (cO g fun _ v=>v=r)) (hs:St g0 g L) (k: ∀g',St g0 g' L→g.le g'→WL F P N ds ops Q os ((d,r)::l) g'.w) (hc:(HV.l P).contains f=true:=by kernel_rfl):WL F P N ds ops Q (⟨some d,op,ty,pos,af,gu⟩::os) l g.w:=
  sO h hr (fun g' _ h1 h2=>h2▸k g' (hs.call h1) h1.le) hc
theorem aaz[A:jY F][C:HV P]{φ:Fact}{R:G→Value→Prop}(h:(o9 ops l o.guard,o.op,ev l x,vF l args.toList,first.toList++vs++captured.toList)=(some true,.call {callee:=.value x,args,argTypes:=ts},some (.func (.func f) first captured),some vs,zs))
    (hr:CallsIn F 0 P f zs.toArray g.w (cO g R)) (k: ∀g' v,a_ g g'→R g' v→φ.p v g':=by exact fun _ _ _ h=>h) (hc:(HV.l P).contains f=true:=by kernel_rfl):DK F P N ds ops Q φ g o l:=by
  simp only[Prod.mk.injEq]at h;obtain⟨h1,h2,h3,h4,h5⟩:=h;exact ay h1 (aC (MA hc) jY.all jY.deep h2 h3 h4 h5 hr fun g' v h1 h2=>⟨g',rfl,h1,k g' v h1 h2⟩)
end
theorem pO[eK P][hA:jY F]{i i':Nat}{A:List Value}(lW:List (List Nat))(ss:List (uF P g))(hs:St g0 g L)(h:ou (eK.tb P) ops ks l0 L lW ss i os=some (A,A,kY,i'))
    (k:iq F P N ds ops Q (ks.map FK.fact) l0 g.dr i' kY) (hn:iP ops os lW=true:=by kernel_rfl):iq F P N ds ops Q (ks.map FK.fact) l0 g.dr i os:=Dm lW ss hs hn h k
theorem EF[eK P][jY F]{i i':Nat}{A:List Value}(lW:List (List Nat))(h:ou (P:=P) (g:=g) (eK.tb P) ops ks l0 [] lW [] i os=some (A,A,kY,i'))
    (k:iq F P N ds ops Q (ks.map FK.fact) l0 g.dr i' kY) (hn:iP ops os lW=true:=by kernel_rfl):iq F P N ds ops Q (ks.map FK.fact) l0 g.dr i os:=Dx lW hn h k
theorem HW[eK P][jY F]{i i':Nat}{A:List Value}(lW:List (List Nat))(h:ou (P:=P) (g:=g) (eK.tb P) ops ks l0 [] lW [] i os=some (A,A,[],i'))(hn:iP ops os lW=true:=by kernel_rfl):
    iq F P N ds ops Q (ks.map FK.fact) l0 g.dr i os:=Dy lW hn h
theorem EG[eK P][jY F]{i i':Nat}{A:List Value}(lW:List (List Nat))(ss:List (uF P g))(hs:St g0 g L)(h:ou (eK.tb P) ops ks l0 L lW ss i os=some (A,A,[],i'))(hn:iP ops os lW=true:=by kernel_rfl):
    iq F P N ds ops Q (ks.map FK.fact) l0 g.dr i os:=Dz lW ss hs hn h
theorem fR{i:Nat}(js:List (Nat×Nat))(h: ∀g',a_ gd g'→QA φs g' js l0 (DK F P N ds ops Q (gT φs i) g' o))(h2:iq F P N ds ops Q φs l0 gd (i+1) os)(hj:eM ops o=js:=by kernel_rfl):iq F P N ds ops Q φs l0 gd i (o::os):=aB (au hj h) h2
section
variable {rY:List Nat} {e:Nat}
theorem w3{i:Nat}(js:List (Nat×Nat))(h: ∀g',a_ gd g'→QA φs g' js l0 (DK F P N ds ops Q (gT φs i) g' o))(h2:og F P N ds ops Q φs l0 gd rY e (i+1) os)
    (hj:eM ops o=js:=by kernel_rfl) (eO:Nat.beq i e=false:=by exact rfl) (ha:rY.contains i=true:=by exact rfl):og F P N ds ops Q φs l0 gd rY e i (o::os):=aY (bT hj eO ha h) h2
end
section
variable {k:Env→Prop} {j1 j2 j3 j4 d1 d2 d3 d4:Nat} {x1 x2 x3 x4:Value} {φ:Fact} {r:List (Nat×Nat)}
theorem aax(he:gT φs j1=Fact.eq x1)(h:k ((d1,x1)::l)):QA φs g [(j1,d1)] l k:=ah he (aj h)
theorem aaw(he:(gT φs j1,gT φs j2)=(Fact.eq x1,Fact.eq x2))(h:k ((d2,x2)::(d1,x1)::l)):QA φs g [(j1,d1),(j2,d2)] l k:=by simp only[Prod.mk.injEq]at he;exact ah he.1 (aax he.2 h)
theorem aay(he:(gT φs j1,gT φs j2,gT φs j3)=(Fact.eq x1,Fact.eq x2,Fact.eq x3))(h:k ((d3,x3)::(d2,x2)::(d1,x1)::l)):QA φs g [(j1,d1),(j2,d2),(j3,d3)] l k:=by simp only[Prod.mk.injEq]at he;exact ah he.1 (ah he.2.1 (aax he.2.2 h))
theorem aaH(he:(gT φs j1,gT φs j2,gT φs j3,gT φs j4)=(Fact.eq x1,Fact.eq x2,Fact.eq x3,Fact.eq x4))(h:k ((d4,x4)::(d3,x3)::(d2,x2)::(d1,x1)::l)):QA φs g [(j1,d1),(j2,d2),(j3,d3),(j4,d4)] l k:=by simp only[Prod.mk.injEq]at he;exact ah he.1 (ah he.2.1 (ah he.2.2.1 (aax he.2.2.2 h)))
theorem aat(he:(gT φs j1,gT φs j2)=(Fact.eq x1,Fact.eq x2))(h:QA φs g r ((d2,x2)::(d1,x1)::l) k):QA φs g ((j1,d1)::(j2,d2)::r) l k:=by simp only[Prod.mk.injEq]at he;exact ah he.1 (ah he.2 h)
theorem aau(he:(gT φs j1,gT φs j2,gT φs j3)=(Fact.eq x1,Fact.eq x2,Fact.eq x3))(h:QA φs g r ((d3,x3)::(d2,x2)::(d1,x1)::l) k):QA φs g ((j1,d1)::(j2,d2)::(j3,d3)::r) l k:=by simp only[Prod.mk.injEq]at he;exact ah he.1 (ah he.2.1 (ah he.2.2 h))
end
theorem aav{φ:Fact}{v:Value}(h:φ.p v g): ∃dM,dM.w=g.w∧a_ g dM∧φ.p v dM:=⟨g,rfl,a_.refl g,h⟩
theorem aaL[T:eK P]{φ:Fact}{v:Value}(h:(o9 ops l o.guard,Xx (eK.tb P) l o.op)=(some true,some v))(hp:φ.p v g):DK F P N ds ops Q φ g o l:=by simp only[Prod.mk.injEq]at h;exact ay h.1 (aE _ eK.ok h.2 ⟨g,rfl,a_.refl g,hp⟩)
theorem nw{R:G→Value→Prop}{fn:Func}{t:Nat}{v:Value}(hr:(fn.results,lk l t)=(#[.tmp t],some v))(hs:St g0 g L)(h:R g v)(a:Act)(ha:Fr N [] l a):bodyPost P fn (cO g0 R) .ret a g.w:=aaq hr (hs.ret h) a ha
theorem aaM(i:Nat){b:Nat}{cs:List Value}{E:TypeId}{fz:Nat×Nat}(hs:St g0 g L)(hi:L[i]? =some (.obj b (.cells cs.toArray E fz)))
    (k: ∀g',St g0 g' (L.eraseIdx i)→g.le g'→EP g' b 0 cs→WL F P N ds ops Q os l g'.w):WL F P N ds ops Q os l g.w:=by
  obtain⟨g2,e,h3,h4,h5⟩:=hs.bd hi;rw[←e];exact k g2 h3 h4 h5
theorem wq{n:Int}(h: -9223372036854775808≤n∧n≤9223372036854775807:=by omega):IntKind.i64.wrap n=n:=wr h.1 h.2
theorem kJ{t:Nat}{k:IntKind}{m n:Int}(h:lk l t=some (.int k m))(e:m=n:=by omega):lk l t=some (.int k n):=kI h e
theorem kW{t:Nat}{k:IntKind}{m n:Int}(h:lk l t=some (.int k m))(e:m=n:=by rw[wq];omega):lk l t=some (.int k n):=kI h e
end Go.K
