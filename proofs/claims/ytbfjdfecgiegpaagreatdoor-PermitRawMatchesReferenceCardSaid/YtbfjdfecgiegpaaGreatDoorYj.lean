/- Parts of the proof, from: A range over a function whose iterator owns something of its own between the rounds, and comes to its elements in an order that is not known ahead. -/
import Derived.Test.YtbfjdfecgiegpaaGreatDoorYc
import Derived.Test.YtbfjdfecgiegpaaGreatDoorYa
import Derived.Test.YtbfjdfecgiegpaaGreatDoorYi
import Derived.Test.YtbfjdfecgiegpaaGreatDoorYg
namespace Go.K
open Go Go.RowKit
variable {F:Fence} {P:Program} {N:Nat} {ds:List Deferred} {l l':Env} {a:Act} {w:World} {Q:Exit→Act→World→Prop} {ops:Array Oper} {os:List Oper} {o:Oper}
variable {g0 g:G} {L:List df} {K:Value→World→Prop} {R:Ending→World→Prop}
def AG{α:Type}(P:Program)(lj:FuncId)(fp:Array Value)(gN:α→List Value)(A Z:List α→Prop)(g:G):Prop:=
 ∀(g1:G),g.le g1→ ∀(yv:Value) (g0:G) (I Ix:List α→List df→G→Prop),(∀pre L g g',g.le g'→I pre L g→I pre L g')→(∀pre L g g',g.le g'→Ix pre L g→Ix pre L g')→
  (∀M pre x L g2,A (pre++[x])→g1.le g2→St g0 g2 (M++L)→I pre L g2→jd P yv (gN x) g2.w fun e w'=> ∃g3 b L',g3.w=w'∧e= .returned (.bool b)∧g2.le g3∧St g0 g3 (M++L')∧(b=true→I (pre++[x]) L' g3)∧(b=false→Ix (pre++[x]) L' g3))→
  ∀L,St g0 g1 L→I [] L g1→CallsIn Wd 0 P lj (yv::fp.toList).toArray g1.w fun e w'=> ∃g2 v L',g2.w=w'∧e= .returned v∧g1.le g2∧St g0 g2 L'∧((∃xs,Z xs∧I xs L' g2)∨ ∃pre,A pre∧Ix pre L' g2)
theorem AG.mono{α:Type}{lj:FuncId}{fp:Array Value}{gN:α→List Value}{A Z:List α→Prop}{g g':G}(h:AG P lj fp gN A Z g)(hle:g.le g'):AG P lj fp gN A Z g':=fun g1 h1=>h g1 (hle.trans h1)
theorem w7.Ze{α:Type}{lj:FuncId}{fp:Array Value}{gN:α→List Value}{xs:List α}(h:w7 P lj fp gN xs g):AG P lj fp gN (fun pre=>pre<+:xs) (fun ys=>ys=xs) g:=by
 intro g1 h1 yv g0 I Ix hI C3 hb L hs h0;refine CallsIn.mono (h g1 h1 yv (fun pre g=> ∃L,St g0 g L∧I pre L g) (fun pre g=> ∃L,St g0 g L∧Ix pre L g) (fun pre g g' hf ⟨L,a,b⟩=>⟨L,a.call hf,hI _ _ _ _ hf.le b⟩) (fun pre g g' hf ⟨L,a,b⟩=>⟨L,a.call hf,C3 _ _ _ _ hf.le b⟩)
  (fun pre x rest g2 nv hle ⟨L,a,b⟩=>(hb [] pre x L g2 ⟨rest,by rw[nv];simp⟩ hle a b).mono ?_) ⟨L,hs,h0⟩) ?_
 ·rintro e w' ⟨g3,bv,L',a1,a2,a3,a4,a5,a6⟩;exact⟨g3,bv,a1,a2,a3,fun h=>⟨L',a4,a5 h⟩,fun h=>⟨L',a4,a6 h⟩⟩
 rintro e w' ⟨g2,v,a1,a2,a3,⟨L',a4,a5⟩|⟨pre,hp,L',a4,a5⟩⟩
 ·exact⟨g2,v,L',a1,a2,a3,a4,.inl ⟨xs,rfl,a5⟩⟩
 exact⟨g2,v,L',a1,a2,a3,a4,.inr ⟨pre,hp,a5⟩⟩
theorem Fi{α:Type}(M:List α)(X:α){y:α}(L:List α):(M++(X::y::L)).Perm (X::y::(L++M)):=
 List.perm_middle.trans ((List.perm_middle.trans (List.perm_append_comm.cons y)).cons X)
theorem xj{α:Type}{lj:FuncId}{fp:Array Value}{gN:α→List Value}{A Z:List α→Prop}{f:Operand}{ps:Array Tmp}{assign body:Code}
  (hs:St g0 g L) (hf:ev l f=some (.func (.func lj) #[] fp)) (pX:ag P lj) (uh:AG P lj fp gN A Z g) (sw:(ps.toList.all fun t=>Nat.blt t N)=true) (TZ: ∀x,(gN x).length=ps.size)
  (I:List α→List df→G→Prop) (Ix:Code→List α→List df→G→Prop) (hI: ∀pre L g g',g.le g'→I pre L g→I pre L g') (C3: ∀c pre L g g',g.le g'→Ix c pre L g→Ix c pre L g')
  (h0:I [] L g) (B:List α→α→List df→Env→G→Prop) (hB: ∀pre x L la g g',g.le g'→B pre x L la g→B pre x L la g')
  (tf: ∀lp D (ro:LoopState→Obj) pre x gr Lr M,A (pre++[x])→g.le gr→St g0 gr (.obj lp (ro .ready):: .obj D gC::(Lr++M))→I pre Lr gr→
   W {Wd with round:=some lp} P N [] assign (Exit.then (fun a w'=> ∃g2 L2 la,w'=g2.w∧gr.le g2∧St g0 g2 (.obj lp (ro .ready):: .obj D gC::(L2++M))∧B pre x L2 la g2∧Fr N [] la a) (fun _ _ _=>False)) (p_ ps.toList (gN x) l) gr.w)
  (tg: ∀lp D (ro:LoopState→Obj) pre x gr Lr la M,A (pre++[x])→g.le gr→St g0 gr (.obj lp (ro .busy):: .obj D gC::(Lr++M))→B pre x Lr la gr→
   W {Wd with round:=some lp} P N [] body (DV (fun L' g'=> ∃yD,L'=yD++M∧I (pre++[x]) yD g') (fun c L' g'=> ∃yD,L'=yD++M∧Ix c (pre++[x]) yD g') g0 gr lp D ro) la gr.w)
  (kj: ∀lp D o xs Lr ge,Z xs→g.le ge→St g0 ge (.obj lp o:: .obj D gC::Lr)→I xs Lr ge→ ∀a,Fr N (⟨.collected D,#[]⟩::ds) l a→Q .normal a ge.w)
  (Cj: ∀c lp D o pre Lr ge,A pre→g.le ge→St g0 ge (.obj lp o:: .obj D gC::Lr)→Ix c pre Lr ge→W Wd P N (⟨.collected D,#[]⟩::ds) c Q l ge.w):
  W Wd P N ds (.rangeFunc f ps assign body) Q l g.w:=by
 intro a ha;refine wpIn_rangeFunc fun fn _=>?_;let ro:LoopState→Obj:=fun st=>jE fn a.tmps ps assign body g.w.heap.size st none
 have tK:=hs.al gC;have aV:=tK.1.al (ro .ready);have cK:(g.al gC).w.heap.size=g.w.heap.size+1:=by simp[G.al]
 let g2:=(g.al gC).al (ro .ready)
 have rL:g.le g2:=tK.2.trans aV.2;refine⟨g.w.heap.size+1,[⟨.collected g.w.heap.size,#[]⟩],g2.w,⟨.fn (.func lj) fp,#[.func (.yield (g.w.heap.size+1)) #[] #[]]⟩,g2.w,lj,(.func (.yield (g.w.heap.size+1)) #[] #[]::fp.toList).toArray,g2.w,?_,?_,fun _ _=>trivial,?_,fun h=>(by cases h),?_⟩
 ·exact run_enterLoop_outer fn a.tmps ps assign body
 ·simp only[resolve,ha.ev hf,Deferred.ofValue];simp[Act.eval,g2]
 ·have e:#[Value.func (.yield (g.w.heap.size+1)) #[] #[]]++fp=(.func (.yield (g.w.heap.size+1)) #[] #[]::fp.toList).toArray:=by apply Array.ext';simp
  rw[←e];exact iO pX _
 --Bp xC s9,with T0 holds E9 Bp rounds
 have AW:St g0 g2 (.obj (g.w.heap.size+1) (ro .ready):: .obj g.w.heap.size gC::L):=by have:=aV.1;rw[cK]at this;exact this
 refine CallsIn.mono (uh g2 rL (.func (.yield (g.w.heap.size+1)) #[] #[]) g0
  (fun pre L g'=>g.le g'∧ ∃Lr,L= .obj (g.w.heap.size+1) (ro .ready):: .obj g.w.heap.size gC::Lr∧I pre Lr g')
  (fun pre L g'=>g.le g'∧ ∃c Lr,L= .obj (g.w.heap.size+1) (jE fn a.tmps ps assign body g.w.heap.size .done (some c)):: .obj g.w.heap.size gC::Lr∧Ix c pre Lr g')
  (fun pre L ga gb hf ⟨h1,Lr,h2,h3⟩=>⟨h1.trans hf,Lr,h2,hI _ _ _ _ hf h3⟩)
  (fun pre L ga gb hf ⟨h1,c,Lr,h2,h3⟩=>⟨h1.trans hf,c,Lr,h2,C3 _ _ _ _ _ hf h3⟩) ?_ _ AW ⟨rL,L,rfl,hI _ _ _ _ rL h0⟩) ?_
 ·--one round
  rintro M pre x _ gp nv T1 XS ⟨rZ,Lr,rfl,hi⟩;have dI:St g0 gp (.obj (g.w.heap.size+1) (ro .ready):: .obj g.w.heap.size gC::(Lr++M)):=XS.perm (Fi M _ Lr);have om:gp.w.heap[g.w.heap.size+1]? =some (ro .ready):=(dI.own 0 _ rfl).2.1;refine⟨fn,_,assign,body,run_yield om (by simpa [jE]using TZ x),?_⟩;refine roundIn_of_wpIn trivial ?_;have q_:Fr N [] (p_ ps.toList (gN x) l) {tmps:=(ps.zip (#[]++(gN x).toArray)).foldl (fun tmps (x:Nat×Value)=>tmps.setIfInBounds x.1 x.2) a.tmps,defers:=[]}:=by
   have h:=AX (N:=N) ps.toList (gN x) l a.tmps sw ⟨rfl,ha.size,ha.get⟩;have e:(ps.zip (#[]++(gN x).toArray)).foldl (fun tmps (x:Nat×Value)=>tmps.setIfInBounds x.1 x.2) a.tmps=(ps.toList.zip (gN x)).foldl (fun tmps (x:Nat×Value)=>tmps.setIfInBounds x.1 x.2) a.tmps:=by rw[←Array.foldl_toList];simp
   rw[e];exact h
  refine Go.wpIn_mono (tf _ _ ro pre x _ Lr M nv rZ dI hi _ q_) fun e a1 w1 he=>?_;cases e with
  |normal=>
   obtain⟨gq,Lq,la,rfl,XT,T',RW,AY⟩:=he;have Ua:gq.w.heap[g.w.heap.size+1]? =some (ro .ready):=(T'.own 0 _ rfl).2.1;have hb:=T'.po (i:=0) (o':=ro .busy) rfl;have CX:=XT.trans hb.2;refine⟨(gq.po (g.w.heap.size+1) (ro .busy)).w,run_beginRound Ua rfl,?_⟩;have Je:St g0 (gq.po (g.w.heap.size+1) (ro .busy)) (.obj (g.w.heap.size+1) (ro .busy):: .obj g.w.heap.size gC::(Lq++M)):=hb.1;refine Go.wpIn_mono (tg _ _ ro pre x _ Lq la M nv (rZ.trans CX) Je (hB _ _ _ _ _ _ hb.2 RW) a1 AY) fun e a2 w2 he=>?_;cases e with
   |normal=>
    obtain⟨_,g',rfl,aaG,gB,L',rfl,hi'⟩:=he;have kX:g'.w.heap[g.w.heap.size+1]? =some (ro .busy):=(aaG.own 0 _ rfl).2.1;have hp:=aaG.po (i:=0) (o':=ro .ready) rfl;refine⟨_,_,run_endRound none kX,g'.po (g.w.heap.size+1) (ro .ready),true,_,rfl,rfl,(CX.trans gB).trans hp.2,hp.1.perm (Fi M _ L').symm,fun _=>⟨((rZ.trans CX).trans gB).trans hp.2,L',rfl,hI _ _ _ _ hp.2 hi'⟩,fun h=>(by cases h)⟩
   |ret=>
    obtain⟨_,g',rfl,aaG,gB,L',rfl,hi'⟩:=he;have kX:g'.w.heap[g.w.heap.size+1]? =some (ro .busy):=(aaG.own 0 _ rfl).2.1;have hp:=aaG.po (i:=0) (o':=jE fn a.tmps ps assign body g.w.heap.size .done (some .ret)) rfl;refine⟨_,_,run_endRound (some .ret) kX,g'.po (g.w.heap.size+1) (jE fn a.tmps ps assign body g.w.heap.size .done (some .ret)),false,_,rfl,rfl,(CX.trans gB).trans hp.2,hp.1.perm (Fi M _ L').symm,fun h=>(by cases h),
     fun _=>⟨((rZ.trans CX).trans gB).trans hp.2,.ret,L',rfl,C3 _ _ _ _ _ hp.2 hi'⟩⟩
   |exit id=>
    obtain⟨_,g',rfl,aaG,gB,L',rfl,hi'⟩:=he;have kX:g'.w.heap[g.w.heap.size+1]? =some (ro .busy):=(aaG.own 0 _ rfl).2.1;have hp:=aaG.po (i:=0) (o':=jE fn a.tmps ps assign body g.w.heap.size .done (some (.exit id))) rfl;refine⟨_,_,run_endRound (some (.exit id)) kX,g'.po (g.w.heap.size+1) (jE fn a.tmps ps assign body g.w.heap.size .done (some (.exit id))),false,_,rfl,rfl,(CX.trans gB).trans hp.2,hp.1.perm (Fi M _ L').symm,fun h=>(by cases h),
     fun _=>⟨((rZ.trans CX).trans gB).trans hp.2,.exit id,L',rfl,C3 _ _ _ _ _ hp.2 hi'⟩⟩
   |goto t=>exact he.elim
   |panic c=>exact he.elim
   |outgrown=>exact he.elim
  |exit id=>exact he.elim
  |goto t=>exact he.elim
  |ret=>exact he.elim
  |panic c=>exact he.elim
  |outgrown=>exact he.elim
 --Bp iterator has ended
 rintro e w' ⟨ge,v,_,rfl,rfl,gB,dI,h⟩;have Ck:Fr N (⟨.collected g.w.heap.size,#[]⟩::ds) l {a with defers:=[⟨.collected g.w.heap.size,#[]⟩]++a.defers}:=⟨by simp[ha.defers],ha.size,ha.get⟩;rcases h with⟨xs,hz,hle,Lr,rfl,hi⟩|⟨pre,gM,hle,c,Lr,rfl,hi⟩
 ·have om:ge.w.heap[g.w.heap.size+1]? =some (ro .ready):=(dI.own 0 _ rfl).2.1;have hp:=dI.po (i:=0) (o':=jE fn a.tmps ps assign body g.w.heap.size .exhausted none) rfl;exact⟨none,_,run_endLoop om (by simp),kj _ _ _ xs Lr (ge.po _ _) hz (hle.trans hp.2) hp.1 (hI _ _ _ _ hp.2 hi) _ Ck⟩
 have om:ge.w.heap[g.w.heap.size+1]? =some (jE fn a.tmps ps assign body g.w.heap.size .done (some c)):=(dI.own 0 _ rfl).2.1;have hp:=dI.po (i:=0) (o':=jE fn a.tmps ps assign body g.w.heap.size .exhausted (some c)) rfl;exact⟨some c,_,run_endLoop om (by simp),Cj c _ _ _ pre Lr (ge.po _ _) gM (hle.trans hp.2) hp.1 (C3 _ _ _ _ _ hp.2 hi) _ Ck⟩
end Go.K
namespace Go.Proofs.YtbfjdfecgiegpaaGreatDoor
open Go Go.K Tryz
set_option maxRecDepth 10000
attribute [local irreducible] W WL cS bh bY bB bA bC cL cD
set_option maxHeartbeats 1000000
structure rm where
 want:Int
 shift:Int
 is:Int
def rm.cells(c:rm):List Value:=[vI c.want,vI c.shift,vI c.is]
instance:El rm where
 k:=3
 pos:=by omega
 rc _ cs c:=cs=c.cells
 len h:=by rw[h];rfl
 mono _ h:=h
 one h:=by rw[h];simp[rm.cells,Value.oneCell']
abbrev rm.v(c:rm):Value:=.agg c.cells.toArray
def qY(c:rm):Bool:=c.want==0||(decide (c.is≤c.want)&&(IntKind.i64.wrap (c.want-c.shift)==c.is))
theorem Ly(c:rm)(g:G):cN prog 265 #[c.v] g fun _ r=>r= .bool (qY c):=by
 have hs:=St.start g;refine enter func265 rfl ntmps265 rfl<|cR<|An hs rfl fun b1 g2 hs ai aD=>aX rfl<|sP 4 [.z aD] rfl ?_;unfold qY;cases c.want==0 with
 |true=>
  exact aX rfl<|aG (nw rfl hs rfl)
 |false=>
  refine q5 6 [.z aD,.z aD] rfl ?_;cases decide (c.is≤c.want)with
  |true=>
   exact KY [.z aD,.z aD,.z aD] rfl<|aG (nw rfl hs rfl)
  |false=>
   exact aX rfl<|aG (nw rfl hs rfl)
theorem IN(c:rm)(g:G):cN prog 264 #[c.v] g fun _ r=>r= .bool (!qY c):=by have hs:=St.start g;exact enter func264 rfl ntmps264 rfl<|cR<|An hs rfl fun b1 g2 hs ai aD=>aX rfl<|sP 1 [.z aD] rfl<|Ev rfl (Ly c _) hs fun g1 hs ai=>aX rfl<|aG (nw rfl hs rfl)
theorem IP(v:Value)(l:List rm)(g:G)(hl:Rs g v l):
  cN prog 275 #[v,.func (.func 264) #[] #[]] g fun _ r=>r=vI (mT (fun c=> !qY c) l):=by
 obtain⟨a,c,rfl⟩:=hl.isSlice;have hlen:=hl.ef;unfold maxLen at hlen;have hs:=St.start g;refine enter func275 rfl ntmps275 rfl<|aZ rfl<|az<|aZ rfl<|aI ?_;refine bK (fun m a' w=> ∃(k:Nat) (g':G),w=g'.w∧St g g' []∧G.le g g'∧k≤l.length∧m=l.length-k∧(∀j (h:j<l.length),j<k→(!qY l[j])=false)∧
  Fr 19 [] [(0,.slice a l.length c),(1,.func (.func 264) #[] #[]),(7,vI l.length),(8,vI k)] a') l.length (fun a' ha=>⟨0,g,rfl,hs,G.le.refl g,Nat.zero_le _,rfl,by simp,ha.kp rfl⟩) ?_
 clear hs;rintro m a' _ ⟨k,g',rfl,hs,ar,hk,rfl,de,dW⟩;revert a';refine ct<|aZ rfl<|az ?_;by_cases bt:k<l.length
 ·refine aJ (b:=decide ((k:Int)<(l.length:Int))) (by simp;omega) rfl<|aF<|aq<|az<|aI<|aZ rfl<|cG 3 rfl<|zc (y:=l[k]) (hl.mono ar) (by simp[dJ,bt]) rfl ?_;rintro b q ys aL rfl;refine q5 1 [.e aL 0] rfl<|Ev rfl (IN l[k] _) hs fun g1 hs ai=>?_;replace ar:=G.le.trans ar ai;apply b_;cases AB:qY l[k]with
  |false=>
   exact aas rfl<|aZ rfl<|aG (nw rfl hs (by rw[vZ (p:=fun c=> !qY c) bt (by simp only[AB];rfl) de]))
  |true=>
   refine aar rfl<|aF<|bJ<|aq<|an<|Wp 2 rfl<|aA<|fun a ha=>⟨l.length-(k+1),by omega,k+1,_,rfl,hs,ar,by omega,rfl,?_,ha.keep ⟨rfl,rfl,rfl,kW rfl,trivial⟩⟩
   intro j hj Ey;by_cases e:j=k
   ·subst e;rw[AB];rfl
   exact de j hj (by omega)
 refine aQ (b:=decide ((k:Int)<(l.length:Int))) (by simp;omega) rfl<|bc<|bg<|bg<|cA<|aq<|aZ rfl ?_;obtain rfl:k=l.length:=by omega
 exact aG (nw rfl hs (by rw[v_ (p:=fun c=> !qY c) fun j h=>de j h h]))
theorem B6(v:Value)(l:List rm)(g:G)(hl:Rs g v l):cN prog 238 #[v] g fun _ r=>r= .bool (l.all qY):=by
 have h1:cN prog 263 #[v,.func (.func 264) #[] #[]] g fun _ r=>r= .bool (l.any fun c=> !qY c):=by have hs:=St.start g;exact enter func263 rfl ntmps263 rfl<|aZ rfl<|cG 2 rfl<|Ev rfl (IP _ l g hl) hs fun g1 hs ai=>aX rfl<|aG (nw rfl hs (by rw[←pV]))
 have hs:=St.start g;exact enter func238 rfl ntmps238 rfl<|aZ rfl<|cG 1 rfl<|Ev rfl (h1) hs fun g1 hs ai=>aX rfl<|aG (nw rfl hs (congrArg Value.bool (by rw[List.all_eq_not_any_not])))
abbrev fw(f:bO)(bb:Nat):List Value:=cB f++[vP bb]
abbrev KL(f:bO)(bb:Nat):Value:=.agg (fw f bb).toArray
def tS(f:bO)(time:Int):Bool:=(f.kind==7&&decide (f.time≤time))&&decide (time≤f.til)
theorem Lz(f:bO)(bb:Nat)(time:Int)(g:G):cN prog 262 #[KL f bb,vI time] g fun _ r=>r= .bool (tS f time):=by
 have hs:=St.start g;refine enter func262 rfl ntmps262 rfl<|cR<|An hs rfl fun b1 g2 hs ai aD=>aX rfl<|sP 5 [.z aD] rfl ?_;unfold tS;cases f.kind==7 with
 |false=>
  exact aX rfl<|aG (nw rfl hs rfl)
 |true=>
  refine q5 7 [.z aD] rfl ?_;cases decide (f.time≤time)with
  |false=>
   exact aX rfl<|aG (nw rfl hs rfl)
  |true=>
   exact KY [.z aD] rfl<|aG (nw rfl hs rfl)
end Go.Proofs.YtbfjdfecgiegpaaGreatDoor
namespace Go.Proofs.YtbfjdfecgiegpaaGreatDoor
open Go Go.K Tryz
set_option maxRecDepth 10000
attribute [local irreducible] W WL cS bh bY bB bA bC cL cD
set_option maxHeartbeats 1000000
def Ae(b:eL)(f:bO)(w time:Int):List rm:=[⟨f.waf,0,w⟩,⟨f.lot,0,((ni b w time).getD fS).lot⟩]
def tR(b:eL)(f:bO)(w time:Int):Bool:=tS f time&&(Ae b f w time).all qY
theorem LA(f:bO)(bb:Nat)(b:eL)(sl:Nat→Value)(w time:Int)(g:G)(aD:EP g bb 0 ((List.range 11).map sl))(aT:fV g (.agg ((List.range 11).map sl).toArray) b):
  cN prog 237 #[KL f bb,vI w,vI time] g fun _ r=>r= .bool (tR b f w time):=by
 have hs:=St.start g;have ar:=G.le.refl g;refine enter func237 rfl ntmps237 rfl<|cR<|An hs rfl fun b1 g2 hs ai aM=>?_;obtain⟨aD,aT⟩:=cr ai aD aT;refine aX rfl<|sP 6 [.z aM,.z aD] rfl<|sO rfl (Nk _ b w time _ aT) ?_;rintro g1 _ aP rfl;replace hs:=hs.call aP;have ai:=aP.le;replace aM:=aM.mono ai;refine aX rfl<|sP 2 [.z aM] rfl ?_;clear aP;refine sO rfl (Lz f bb time _) ?_;rintro g1 _ aP rfl;replace hs:=hs.call aP;have ai:=aP.le;replace aM:=aM.mono ai;unfold tR;cases tS f time with
 |false=>
  exact aX rfl<|aG (nw rfl hs rfl)
 |true=>
  refine q5 5 [.z aM] rfl<|BO [(0,vI (f.waf)),(1,vI 0),(2,vI (w))] ((rm.mk (f.waf) 0 (w)).cells) [(0,1),(1,1),(2,1)] rfl<|q5 4 [.z aM] rfl<|BO [(0,vI (f.lot)),(1,vI 0),(2,vI (((ni b w time).getD fS).lot))] ((rm.mk (f.lot) 0 (((ni b w time).getD fS).lot)).cells) [(0,1),(1,1),(2,1)] rfl<|BP [(0,(rm.mk f.waf 0 w).v),(1,(rm.mk f.lot 0 ((ni b w time).getD fS).lot).v)] ((rm.mk f.waf 0 w).cells++(rm.mk f.lot 0 ((ni b w time).getD fS).lot).cells) hs rfl rfl fun bl gl hs ai=>?_;obtain⟨gz,gF,cK,gW,Gd⟩:=hs.cP (α:=rm) (xs:=Ae b f w time) (i:=0) rfl ⟨_,_,rfl,rfl,_,_,(List.append_nil _).symm,rfl,rfl⟩;clear ai;have ai:=gW;rw[←gF];replace hs:=cK;clear cK;clear aP;exact Ev rfl (B6 _ (Ae b f w time) _ Gd) hs fun g1 hs ai=>aX rfl<|aG (nw rfl hs rfl)
def nk(a:gi):List Value:=[vI a.waf,vI a.step,vI a.tool,vI a.cham,vI a.rcp,vI a.rvn,vI a.time]
abbrev CV(a:gi):Value:=.agg (nk a).toArray
def wR(f:bO)(a:gi):List rm:=[⟨f.tool,1,a.tool⟩,⟨f.cham,1,a.cham⟩,⟨f.step,1,a.step⟩,⟨f.rcp,0,a.rcp⟩,⟨f.rvn,0,a.rvn⟩]
def mL(b:eL)(f:bO)(a:gi):Bool:=tR b f a.waf a.time&&(wR f a).all qY
theorem Lk(f:bO)(bb:Nat)(b:eL)(sl:Nat→Value)(a:gi)(g:G)(aD:EP g bb 0 ((List.range 11).map sl))(aT:fV g (.agg ((List.range 11).map sl).toArray) b):
  cN prog 188 #[KL f bb,CV a] g fun _ r=>r= .bool (mL b f a):=by
 have hs:=St.start g;have ar:=G.le.refl g;refine enter func188 rfl ntmps188 rfl<|cR<|An hs rfl fun b1 g2 hs ai aM=>?_;obtain⟨aD,aT⟩:=cr ai aD aT;refine An hs rfl fun b2 g2 hs ai cE=>?_;obtain⟨aD,aM,aT⟩:=dR ai aD aM aT;refine aX rfl<|sP 5 [.z aM,.z cE,.z cE] rfl<|sO rfl (LA f bb b sl a.waf a.time _ aD aT) ?_;rintro g1 _ aP rfl;replace hs:=hs.call aP;have ai:=aP.le;obtain⟨aM,cE⟩:=cr ai aM cE;unfold mL;cases tR b f a.waf a.time with
 |false=>
  exact aX rfl<|aG (nw rfl hs rfl)
 |true=>
  refine q5 6 [.z aM,.z cE] rfl<|BO [(0,vI (f.tool)),(1,vI 1),(2,vI (a.tool))] ((rm.mk (f.tool) 1 (a.tool)).cells) [(0,1),(1,1),(2,1)] rfl<|q5 5 [.z aM,.z cE] rfl<|BO [(0,vI (f.cham)),(1,vI 1),(2,vI (a.cham))] ((rm.mk (f.cham) 1 (a.cham)).cells) [(0,1),(1,1),(2,1)] rfl<|q5 5 [.z aM,.z cE] rfl<|BO [(0,vI (f.step)),(1,vI 1),(2,vI (a.step))] ((rm.mk (f.step) 1 (a.step)).cells) [(0,1),(1,1),(2,1)] rfl<|q5 5 [.z aM,.z cE] rfl<|BO [(0,vI (f.rcp)),(1,vI 0),(2,vI (a.rcp))] ((rm.mk (f.rcp) 0 (a.rcp)).cells) [(0,1),(1,1),(2,1)] rfl<|q5 5 [.z aM,.z cE] rfl<|BO [(0,vI (f.rvn)),(1,vI 0),(2,vI (a.rvn))] ((rm.mk (f.rvn) 0 (a.rvn)).cells) [(0,1),(1,1),(2,1)] rfl<|BP [(0,(rm.mk f.tool 1 a.tool).v),(1,(rm.mk f.cham 1 a.cham).v),(2,(rm.mk f.step 1 a.step).v),(3,(rm.mk f.rcp 0 a.rcp).v),(4,(rm.mk f.rvn 0 a.rvn).v)] ((wR f a).flatMap rm.cells) hs rfl rfl fun bl gl hs ai=>?_;obtain⟨gz,gF,cK,gW,Gd⟩:=hs.cP (α:=rm) (xs:=wR f a) (i:=0) rfl ⟨_,_,rfl,rfl,_,_,rfl,rfl,_,_,rfl,rfl,_,_,rfl,rfl,_,_,(List.append_nil _).symm,rfl,rfl⟩;clear ai;have ai:=gW;rw[←gF];replace hs:=cK;clear cK;clear aP;exact Ev rfl (B6 _ (wR f a) _ Gd) hs fun g1 hs ai=>aX rfl<|aG (nw rfl hs rfl)
end Go.Proofs.YtbfjdfecgiegpaaGreatDoor
namespace Go.Proofs.YtbfjdfecgiegpaaGreatDoor
open Go Go.K Tryz
set_option maxRecDepth 10000
attribute [local irreducible] W WL cS bh bY bB bA bC cL cD
set_option maxHeartbeats 1000000
def oS(id time:Int)(n:Int)(r:bO):Int:=if r.oth==id&&decide (r.time≤time)then bY .i64 n r.par else n
def kQ(b:eL)(id time:Int):Int:=b.lq.foldl (oS id time) 0
theorem Gf(bb:Nat)(b:eL)(sl:Nat→Value)(id time:Int)(g:G)(aD:EP g bb 0 ((List.range 11).map sl))(aH:Rs g (sl 7) b.lq):
  cN prog 239 #[vP bb,vI id,vI time] g fun _ r=>r=vI (kQ b id time):=by
 have hs:=St.start g;have ar:=G.le.refl g;obtain⟨a,c,yI⟩:=aH.isSlice;have hlen:=aH.ef;unfold maxLen at hlen;refine enter func239 rfl ntmps239 rfl<|aZ rfl<|az<|sP 4 [.z aD] rfl<|cX (.slice a b.lq.length c) (t:=12) rfl yI ?_;rw[yI]at aH;refine aX rfl<|aI ?_
 refine bK (fun m a' w'=> ∃(i:Nat) (n:Int) (g':G),w'=g'.w∧St g g' []∧G.le g g'∧Rs g' (.slice a b.lq.length c) b.lq∧i≤b.lq.length∧(b.lq.take i).foldl (oS id time) 0=n∧m=b.lq.length-i∧
   Fr 34 [] [(1,vI id),(2,vI time),(6,vI n),(12,.slice a b.lq.length c),(13,vI (b.lq.length:Nat)),(14,vI (i:Nat))] a') b.lq.length
  (fun a' ha=>⟨0,0,_,rfl,hs,ar,aH,Nat.zero_le _,rfl,rfl,ha.kp rfl⟩) ?_
 clear hs aH ar aD;rintro m a' _ ⟨i,n,g',rfl,hs,ar,aH,hi,lg,rfl,dW⟩;revert a';refine ct<|aZ rfl<|az ?_;by_cases bt:i<b.lq.length
 ·refine aJ (b:=decide ((i:Int)<(b.lq.length:Int))) (decide_eq_true (by omega)) rfl ?_;have eH:dJ b.lq (i:Int)=some b.lq[i]:=bZ rfl bt;have dP:(b.lq.take (i+1)).foldl (oS id time) 0=oS id time n b.lq[i]:=by rw[List.take_add_one,List.getElem?_eq_getElem bt,List.foldl_append,lg];rfl
  generalize b.lq[i]=x at*;clear lg;refine aF<|aq<|az<|aI<|cR<|zc (y:=x) aH eH rfl ?_;rintro b9 q9 ys aL rfl;have aD:=aL;clear aL;refine q5 1 [.e aD 0] rfl<|w4 hs rfl fun b8 g1 hs ai=>?_;obtain⟨ar,aH⟩:=cr ai ar aH;refine Hs 0 hs rfl fun g2 hs ai aM=>?_;obtain⟨ar,aH⟩:=cr ai ar aH;clear aD;replace hs:St g _ []:=hs;refine b_<|sP 5 [.z aM] rfl ?_;unfold oS at dP;cases h1:x.oth==id with
  |false=>
   rw[h1]at dP;exact aX rfl<|aar rfl<|aF<|bJ<|aq<|an<|Wp 2 rfl<|aA<|fun a ha=>⟨b.lq.length-(i+1),by omega,i+1,n,_,rfl,hs,ar,aH,by omega,dP,rfl,ha.keep ⟨rfl,rfl,rfl,rfl,rfl,kW rfl,trivial⟩⟩
  |true=>
   rw[h1]at dP;refine KY [.z aM] rfl ?_;cases h2:decide (x.time≤time)with
   |false=>
    rw[h2]at dP;exact aar rfl<|aF<|bJ<|aq<|an<|Wp 2 rfl<|aA<|fun a ha=>⟨b.lq.length-(i+1),by omega,i+1,n,_,rfl,hs,ar,aH,by omega,dP,rfl,ha.keep ⟨rfl,rfl,rfl,rfl,rfl,kW rfl,trivial⟩⟩
   |true=>
    rw[h2]at dP;exact aas rfl<|an<|q5 5 [.z aM] rfl<|aA<|bJ<|aq<|an<|Wp 2 rfl<|aA<|fun a ha=>⟨b.lq.length-(i+1),by omega,i+1,_,_,rfl,hs,ar,aH,by omega,dP,rfl,ha.keep ⟨rfl,rfl,rfl,rfl,rfl,kW rfl,trivial⟩⟩
 refine aQ (b:=decide ((i:Int)<(b.lq.length:Int))) (decide_eq_false (by omega)) rfl ?_;rw[List.take_of_length_le (by omega)]at lg;unfold kQ;rw[lg];exact bc<|bg<|bg<|cA<|aq<|aZ rfl<|aG (nw rfl hs rfl)
def y7(b:eL)(f:bO)(time:Int):Bool:=bA .i64 f.par (kQ b f.idn time)==0
theorem OO(f:bO)(bb:Nat)(b:eL)(sl:Nat→Value)(time:Int)(g:G)(aD:EP g bb 0 ((List.range 11).map sl))(aH:Rs g (sl 7) b.lq):
  cN prog 189 #[KL f bb,vI time] g fun _ r=>r= .bool (y7 b f time):=by
 have hs:=St.start g;have ar:=G.le.refl g;refine enter func189 rfl ntmps189 rfl<|cR<|An hs rfl fun b1 g2 hs ai aM=>?_;obtain⟨aD,aH⟩:=cr ai aD aH;refine aX rfl<|az ?_;apply bD hs (dn (gU [])) 12 [(11,16)] (by kernel_rfl) rfl
 ·exact EG [[],[0],[1],[],[3],[],[5],[6],[],[4,7,8],[2,9],[10]] [.z aM,.z aM,.z aM,.c (Wc 239) fun g' h=>Gf bb b sl f.idn time g' (aD.mono h) (aH.mono h)] hs rfl
 clear hs;intro g6 hs ai;exact aX rfl<|aG (nw rfl hs rfl)
def tT(b:eL):List bO:=b.holds.filter fun f=>f.kind==7
theorem Iw(bp bb:Nat)(b:eL)(sl:Nat→Value)(g:G)(Tq:EP g bp 0 [vP bb])(Rf:EP g bb 0 ((List.range 11).map sl))(OS:Rs g (sl 6) b.holds):
  w7 prog 236 #[vP bp] (fun f=>[KL f bb]) (tT b) g:=by
 obtain⟨a,c,yI⟩:=OS.isSlice;intro g1 hle yv J Jx hJ WD hy Ds;have hlen:=OS.ef;unfold maxLen at hlen;have ar:=G.le.refl g1;have aD:=Tq.mono hle;have Nb:=OS.mono hle;have aM:=Rf.mono hle;have mP:=aD;refine enter func236 rfl ntmps236 rfl<|sP 4 [.z aD,.z aM] rfl<|cX (.slice a b.holds.length c) (t:=8) rfl yI ?_;rw[yI]at Nb;refine aX rfl<|aI ?_;refine bK (fun m a' w=> ∃(k:Nat) (g':G),w=g'.w∧G.le g1 g'∧k≤b.holds.length∧m=b.holds.length-k∧J ((b.holds.take k).filter fun f=>f.kind==7) g'∧
   Fr 26 [] [(0,yv),(1,vP bp),(8,.slice a b.holds.length c),(9,vI (b.holds.length:Nat)),(10,vI (k:Nat))] a') b.holds.length
  (fun a' ha=>⟨0,g1,rfl,ar,Nat.zero_le _,rfl,Ds,ha.kp rfl⟩) ?_
 clear aD ar aM;rintro m a' _ ⟨k,g',rfl,ar,hk,rfl,sR,dW⟩;have aD:=mP.mono ar;have fh:=Nb.mono ar;have hs:=St.start g';revert a';refine ct<|aZ rfl<|az ?_;by_cases bt:k<b.holds.length
 ·refine aJ (b:=decide ((k:Int)<(b.holds.length:Int))) (by simp;omega) rfl ?_;have eH:=bZ (n:=((k:Nat):Int)) rfl bt;have rG:b.holds.filter (fun f=>f.kind==7)=(b.holds.take k).filter (fun f=>f.kind==7)++([b.holds[k]].filter (fun f=>f.kind==7)++(b.holds.drop (k+1)).filter (fun f=>f.kind==7)):=by
   conv=>lhs;rw[←List.take_append_drop k b.holds,List.drop_eq_getElem_cons bt]
   rw[List.filter_append,←List.singleton_append,List.filter_append]
  have dP:(b.holds.take (k+1)).filter (fun f=>f.kind==7)=(b.holds.take k).filter (fun f=>f.kind==7)++[b.holds[k]].filter (fun f=>f.kind==7):=by rw[List.take_succ_eq_append_getElem bt,List.filter_append]
  generalize b.holds[k]=x at*;refine aF<|aq<|az<|aI<|cR<|zc (y:=x) fh eH rfl ?_;rintro bq pq ys aL rfl;have aM:=aL;clear aL;refine q5 1 [.e aM 0] rfl<|w4 hs rfl fun bx g1 hs ai=>?_;obtain⟨ar,aD,aM⟩:=dR ai ar aD aM;refine Hs 0 hs rfl fun g2 hs ai aL=>?_;obtain⟨ar,aD,aM⟩:=dR ai ar aD aM;clear aM;have aM:=aL;clear aL;replace hs:St g' _ []:=hs;refine b_<|sP 4 [.z aM] rfl ?_;cases h7:x.kind==7 with
  |false=>
   rw[List.filter_cons,h7]at dP;refine aX rfl<|aar rfl<|aF<|bJ<|aq<|an<|Wp 2 rfl<|aA<|fun a ha=>⟨b.holds.length-(k+1),by omega,k+1,_,rfl,ar,by omega,rfl,?_,ha.keep ⟨rfl,rfl,rfl,rfl,kW rfl,trivial⟩⟩
   rw[dP];simpa using hJ _ _ _ hs.rh sR
  |true=>
   rw[List.filter_cons,h7]at dP rG;refine q5 3 [.z aM,.z aD] rfl<|BO [(0,fv x),(1,vP bb)] (fw x bb) [(0,19),(19,1)] rfl ?_;have Kj:=hJ _ _ _ hs.rh sR;refine ak rfl rfl (fC rfl rfl rfl rfl rfl rfl ((hy _ x _ _ rG ar Kj).mono ?_));rintro _ _ ⟨g5,bv,rfl,rfl,ai,ht,hf⟩;refine⟨_,rfl,?_⟩;clear hs Kj;replace ar:=G.le.trans ar ai;cases bv with
   |false=>
    exact aX rfl<|aas rfl<|aG<|gQ<|dO<|dO<|gQ<|rO rfl<|⟨g5,_,rfl,rfl,ar,.inr ⟨_,⟨(b.holds.drop (k+1)).filter (fun f=>f.kind==7),by rw[List.append_assoc];exact rG.symm⟩,hf rfl⟩⟩
   |true=>
    exact aX rfl<|aar rfl<|aF<|bJ<|aq<|an<|Wp 2 rfl<|aA<|fun a ha=>⟨b.holds.length-(k+1),by omega,k+1,_,rfl,ar,by omega,rfl,by rw[dP];exact ht rfl,ha.keep ⟨rfl,rfl,rfl,rfl,kW rfl,trivial⟩⟩
 refine aQ (b:=decide ((k:Int)<(b.holds.length:Int))) (by simp;omega) rfl<|bc<|bg<|bg<|cA<|lC rfl ⟨g',_,rfl,rfl,ar,.inl ?_⟩;rw[List.take_of_length_le (by omega)]at sR;exact sR
end Go.Proofs.YtbfjdfecgiegpaaGreatDoor
namespace Go.Proofs.YtbfjdfecgiegpaaGreatDoor
open Go Go.K Tryz
set_option maxRecDepth 10000
attribute [local irreducible] W WL cS bh bY bB bA bC cL cD
set_option maxHeartbeats 1000000
def o_(m:List Int):List (Int×Value):=m.map fun k=>(k,.agg #[])
theorem IQ(m:List Int):(o_ m).length=m.length:=List.length_map ..
theorem LB{m:List Int}{j:Nat}{q:Int×Value}(h:(o_ m)[j]? =some q): ∃k,m[j]? =some k∧q=(k,.agg #[]):=by
 unfold o_ at h;rw[List.getElem?_map]at h;cases hm:m[j]? with
 |none=>rw[hm]at h;cases h
 |some p=>rw[hm]at h;exact⟨p,rfl,(Option.some.inj h).symm⟩
def o7(a:Int)(m:List Int):List Int:=if a∈m then m else m++[a]
theorem B1(a:Int): ∀m:List Int,jK a (.agg #[]) (o_ m)=o_ (o7 a m)
 |[]=>rfl
 |k::r=>by
  show(if a=k then(k,.agg #[])::o_ r else(k,.agg #[])::jK a (.agg #[]) (o_ r))=o_ (o7 a (k::r));unfold o7;by_cases h:a=k
  ·subst h;rw[if_pos rfl,if_pos (List.mem_cons_self ..)];rfl
  rw[if_neg h,B1 a r];unfold o7;by_cases h2:a∈r
  ·rw[if_pos h2,if_pos (List.mem_cons_of_mem _ h2)];rfl
  rw[if_neg h2,if_neg (by simp[h,h2])];rfl
theorem Tc:um Int prog 207 (.agg #[]):=by have h:=Dk (P:=prog) (κ:=Int) T.ok (T:=207) rfl rfl rfl rfl rfl;exact h
theorem Ll(bp bm:Nat)(m:List Int)(g:G)(Tq:EP g bp 0 [.map (some bm)])(mk:w_ g bm (o_ m)):
  AG prog 241 #[vP bp] (fun k:Int=>[vI k]) (fun pre=>pre.length≤m.length) (fun xs=>xs.Perm m) g:=by
 intro g1 hle yv g0 I Ix hI C3 hy L hs U5;have ar:=G.le.refl g1;have aD:=Tq.mono hle;have lU:=mk.mono hle;refine enter func241 rfl ntmps241 rfl<|sP 1 [.z aD] rfl<|ak rfl rfl<|uq Tc rfl lU.2 rfl hs fun r1 g2 hs ai=>?_;replace U5:=hI _ _ _ _ ai U5;replace ar:=G.le.trans ar ai;replace lU:=lU.mono ai;refine b_<|aI ?_
 refine bK (fun n a' w=> ∃(seen:Array Nat) (L':List df) (g':G),w=g'.w∧St g0 g' ([.obj r1 (Ay bm (o_ m).length seen)]++L')∧G.le g1 g'∧w_ g' bm (o_ m)∧seen.toList.Nodup∧(∀j∈seen.toList,j<m.length)∧n=m.length-seen.toList.length∧I (tO m seen.toList) L' g'∧
   Fr 14 [] [(0,yv),(5,vP r1)] a') m.length
  (fun a' ha=>⟨#[],L,g2,rfl,hs,ar,lU,by simp,by simp,rfl,U5,ha.kp rfl⟩) ?_
 clear hs ar lU aD U5;rintro n a' _ ⟨seen,L',g',rfl,hs,ar,lU,yq,bt,rfl,sR,dW⟩;have nd:=lT _ _ yq bt;revert a';refine ct<|cR<|ak rfl rfl (xe 0 rfl hs rfl lU.2 rfl (fun dj=>?_) (fun j q g6 hq hj Ni ai=>?_))
 ·have sq:(tO m seen.toList).Perm m:=Ep yq bt fun j hj=>by simpa using dj j (by rw[IQ];exact hj)
  exact aX rfl<|az<|aar rfl<|bc<|bg<|bg<|cA<|lC rfl ⟨g',_,L',rfl,rfl,ar,hs.drop 0,.inl ⟨_,sq,sR⟩⟩
 obtain⟨k,hk,rfl⟩:=LB hq;have WS:j<m.length:=(List.getElem?_eq_some_iff.1 hk).1;have Az:(seen.toList++[j]).Nodup:=List.nodup_append.2 ⟨yq,by simp,by intro a ha b hb;rw[List.mem_singleton.1 hb];rintro rfl;exact hj (by simpa using ha)⟩;have xf: ∀k∈seen.toList++[j],k<m.length:=by intro k hk;rcases List.mem_append.1 hk with hk|hk;exact bt k hk;rw[List.mem_singleton.1 hk];exact WS
 have F7:=lT _ _ Az xf;have Gg:=Nat.le_trans (z' m (seen.toList++[j])) F7;rw[wC hk]at Gg;rw[List.length_append,List.length_singleton]at F7;clear hs;replace hs:St g0 g6 ([.obj r1 (Ay bm (o_ m).length (seen.push j))]++L'):=Ni;replace sR:=hI _ _ _ _ ai sR;clear Ni;replace ar:=G.le.trans ar ai;replace lU:=lU.mono ai;refine aX rfl<|az<|aas rfl<|aF<|aq<|aI<|cR<|ak rfl rfl<|ur 0 rfl hs rfl lU.2 rfl hq<|aX rfl<|cG 2 rfl<|ak rfl rfl (fC rfl rfl rfl rfl rfl rfl ((hy _ _ k _ _ Gg ar hs sR).mono ?_));rintro _ _ ⟨g7,bv,L7,rfl,rfl,ai,CW,ht,hf⟩;refine⟨_,rfl,?_⟩;clear hs;replace hs:=CW;clear CW;replace ar:=G.le.trans ar ai;replace lU:=lU.mono ai;cases bv with
 |false=>
  exact aX rfl<|aas rfl<|aG<|gQ<|dO<|gQ<|rO rfl<|⟨g7,_,L7,rfl,rfl,ar,hs.drop 0,.inr ⟨_,Gg,hf rfl⟩⟩
 |true=>
  exact aX rfl<|aar rfl<|aF<|bJ<|fun a ha=>⟨m.length-(seen.push j).toList.length,by rw[Array.toList_push,List.length_append,List.length_singleton];omega,seen.push j,L7,_,rfl,hs,ar,lU,by rw[Array.toList_push];exact Az,by rw[Array.toList_push];exact xf,rfl,by rw[Array.toList_push,wC hk];exact ht rfl,ha.kp rfl⟩
theorem OP(bm:Nat)(_m:List Int)(g:G):cN prog 191 #[.map (some bm)] g fun g' r=> ∃bp,r= .func (.func 241) #[] #[vP bp]∧EP g' bp 0 [.map (some bm)]:=by have hs:=St.start g;exact enter func191 rfl ntmps191 rfl<|cR<|An hs rfl fun b1 g2 hs ai aD=>aX rfl<|aZ rfl<|aG (nw rfl hs ⟨b1,rfl,aD⟩)
theorem AH{lj:FuncId}{fp:Array Value}(fw:ag prog lj){A Z:List Int→Prop}(hA: ∀pre,A pre→pre.length≤1000000)(g:G)(uh:AG prog lj fp (fun x:Int=>[vI x]) A Z g):
  cN prog 266 #[.slice none 0 0,.func (.func lj) #[] fp] g fun g' r=> ∃xs,Z xs∧kh 3 g xs g' r:=by
 have hs:=St.start g;have ar:=G.le.refl g;refine uj func266 rfl ntmps266 rfl<|cR<|EH hs rfl fun bo g1 hs ai=>?_;replace ar:=G.le.trans ar ai;replace hs:=hs.eP 3 1 none;refine aX rfl<|az<|aZ rfl<|aI ?_
 refine xj (N:=13) hs rfl fw (uh.mono ar) rfl (fun _=>rfl)
  (fun pre L _=> ∃v,L=[.row 3 1 v pre.length (ec pre),.obj bo (.cells #[v] 31 (0,0))]) (fun _ _ _ _=>False)
  (fun _ _ _ _ _ h=>h) (fun _ _ _ _ _ _ h=>h) ⟨_,rfl⟩ (fun pre x L la _=>la=[(5,vI x),(2,vP bo)]∧ ∃v,L=[.row 3 1 v pre.length (ec pre),.obj bo (.cells #[v] 31 (0,0))]) (fun _ _ _ _ _ _ _ h=>h) ?_ ?_ ?_ ?_
 ·rintro lp D ro pre x gr Lr M nv hle hs hI;exact an<|Wp 1 rfl<|aA<|fun a ha=>⟨gr,Lr,_,rfl,G.le.refl _,hs,⟨rfl,hI⟩,ha.kp rfl⟩
 ·rintro lp D ro pre x gr Lr la M nv hle hs ⟨rfl,v,rfl⟩;have dL:=G.le.refl gr;have Dq:=hA _ nv;rw[List.length_append,List.length_singleton]at Dq;obtain⟨av,cv,rfl⟩:=(hs.own 2 _ rfl).1.form;refine aI<|an<|Wm 2 [.o 3] hs rfl<|BP [(0,vI x)] [vI x] hs rfl rfl fun b2 g2 hs ai=>?_;replace dL:=G.le.trans dL ai;refine ak rfl rfl<|bU T.ok 3 rfl hs rfl rfl rfl rfl rfl rfl rfl (by decide) rfl (Src.eI (hs.own 0 _ rfl).1).2 (by simp[Value.oneCell']) (by show(pre.length+1)*8≤_;omega) (by unfold maxLen;omega) fun a9 c9 g3 hs ai=>?_;replace dL:=G.le.trans dL ai;refine sN 4 hs rfl fun g1 hs ai=>?_;replace dL:=G.le.trans dL ai;exact aA<|bJ<|fun a ha=>⟨_,_,rfl,hs.drop 0,dL,[.row 3 1 (.slice a9 (pre.length+1) c9) (pre.length+1) (ec pre++[vI x]),.obj bo (.cells #[.slice a9 (pre.length+1) c9] 31 (0,0))],rfl,.slice a9 (pre.length+1) c9,by simp[ec]⟩
 ·rintro lp D o xs Lr ge hz hle hs ⟨v,rfl⟩;obtain⟨av,cv,rfl⟩:=(hs.own 2 _ rfl).1.form;refine bJ<|aq<|lJ [.o 3] hs rfl<|aG<|Iy 1 rfl hs rfl rfl (fun g' lB gB=>?_);exact lB.ret ⟨xs,hz,ec xs,lB.own 1 _ rfl,cY.ints _ _⟩
 rintro c lp D o pre Lr ge _ _ _ h;exact h.elim
theorem DL{lj:FuncId}{fp:Array Value}(fw:ag prog lj){A Z:List Int→Prop}(hA: ∀pre,A pre→pre.length≤1000000)(g:G)(uh:AG prog lj fp (fun x:Int=>[vI x]) A Z g):
  cN prog 240 #[.func (.func lj) #[] fp] g fun g' r=> ∃xs,Z xs∧kh 3 g xs g' r:=by
 refine enter func240 rfl ntmps240 rfl<|aZ rfl<|cG 1 rfl<|sO rfl (AH fw hA g uh) ?_;rintro g1 r aP ⟨xs,hz,eh⟩;exact aX rfl<|aG (aaq rfl ⟨g1,r,rfl,aP,rfl,xs,hz,eh⟩)
end Go.Proofs.YtbfjdfecgiegpaaGreatDoor
namespace Go.Proofs.YtbfjdfecgiegpaaGreatDoor
open Go Go.K Tryz
set_option maxRecDepth 10000
attribute [local irreducible] W WL cS bh bY bB bA bC cL cD
set_option maxHeartbeats 1000000
theorem cY.np{g:G}: ∀{xs:List Int} {cells:List Value},cY g cells xs→cells=jf xs
 |[],_,h=>h
 |x::xs,_,⟨c1,c2,e,h1,h2⟩=>by rw[e,cY.np h2,show c1=[Value.int .i64 x]from h1];rfl
theorem EW(v:Value)(xs:List Int)(g:G)(aH:Rs g v xs)(hlen:xs.length≤1000000):
  cN prog 87 #[v] g (kh 3 g xs):=by
 obtain⟨ad,n,c,rfl,hn,hc,hr⟩:=id aH;have hs:=St.start g;have ar:=G.le.refl g;refine enter func87 rfl ntmps87 rfl<|aZ rfl<|az<|cG 1 rfl<|ak rfl rfl<|gK T.ok (neg:=false) rfl rfl rfl rfl rfl<|b_ ?_;cases ad with
 |none=>
  refine aas rfl<|aZ rfl<|aG<|nw rfl hs ?_
  have:xs=[]:=by
   rcases hr with h|⟨b,o,cells,h,_⟩
   ·exact List.eq_nil_of_length_eq_zero (by omega)
   cases h
  subst this;exact kh.nil _ _ _ _
 |some ad=>
  refine aar rfl<|aF<|aq<|cR<|BP [] [] hs rfl rfl fun b2 g2 hs ai=>?_;replace aH:=aH.mono ai;refine Wp 1 rfl ?_;obtain⟨hm,news,gw,iu⟩:=Src.jx aH;subst hm;obtain rfl:=cY.np gw;exact ak rfl rfl<|bU T.ok 0 rfl hs rfl rfl rfl rfl rfl rfl rfl (by decide) rfl iu (by simp[jf,Value.oneCell']) (by show(0+xs.length)*8≤_;omega) (by unfold maxLen;omega) fun a' c' g3 hs ai=>aX rfl<|aG (nw rfl hs (hs.mw (i:=0) rfl (cY.ints _ _)))
end Go.Proofs.YtbfjdfecgiegpaaGreatDoor
namespace Go.Proofs.YtbfjdfecgiegpaaGreatDoor
open Go Go.K Tryz
set_option maxRecDepth 10000
attribute [local irreducible] W WL cS bh bY bB bA bC cL cD
set_option maxHeartbeats 1000000
def iW(xs:List Int):List Int:=xs.mergeSort fun x y=>decide (x≤y)
theorem zq(xs:List Int):(iW xs).length=xs.length:=by unfold iW;exact List.length_mergeSort _
theorem tQ(xs:List Int):Bs (fun x=>(x,0)) (iW xs):=by have h:=List.pairwise_mergeSort (le:=fun x y:Int=>decide (x≤y)) (by intro a b c h1 h2;simp at*;omega) (by intro a b;simp;omega) xs;refine List.Pairwise.imp (fun {a b} h=>?_) h;simp only[decide_eq_true_eq]at h;rw[iZ];simp only;omega
theorem DN{xs ys:List Int}(h:xs.Perm ys):iW xs=iW ys:=
 rC (((List.mergeSort_perm xs _).trans h).trans (List.mergeSort_perm ys _).symm) (tQ xs) (tQ ys) fun _ _ _ _ e=>congrArg Prod.fst e
theorem DE{ad:Option Addr}{n c:Nat}{zs:List Int}{g0 g:G}{L:List df}(hl:zs.length≤1000000)(hs:St g0 g (.row 3 1 (.slice ad n c) n (ec zs)::L)):
  CallsIn Wd 0 prog 27 #[.slice ad n c] g.w (db g fun g' r=>r= .tuple #[]∧St g0 g' (.row 3 1 (.slice ad n c) n (ec (iW zs))::L)):=by
 have hr:=hs.own 0 _ rfl;by_cases h0:n=0
 ·subst h0;have hz:zs=[]:=by have:=hr.1.1;rw[nB,Nat.zero_mul]at this;exact List.eq_nil_of_length_eq_zero this
  subst hz;refine callsIn_wide.2<|(Tryz.slices_Sort_int_none ad c g.w).mono ?_;rintro e w' ⟨rfl,rfl⟩;refine⟨g,_,rfl,rfl,G.le.refl g,rfl,?_⟩;have e0:iW []=[]:=by unfold iW;simp
  rw[e0];exact hs
 obtain⟨bk,off,rfl⟩:=hr.1.pos h0;obtain⟨hH,DD,rfl,pU,tJ⟩:=hr.1.IF h0;refine callsIn_wide.2<|(Tryz.slices_Sort_int bk off c zs g.w hH DD (by omega)).mono ?_;rintro e w' ⟨rfl,q,os,rfl⟩;obtain⟨g2,bS,aV,ai⟩:=hs.putRow (i:=0) (q:=q) (os:=os) (d:=iW zs) rfl h0 (zq zs);exact⟨g2,_,bS,rfl,ai,rfl,aV⟩
theorem F9{lj:FuncId}{fp:Array Value}(fw:ag prog lj){A:List Int→Prop}{m:List Int}(hA: ∀pre,A pre→pre.length≤1000000)(hm:m.length≤1000000)(g:G)(uh:AG prog lj fp (fun x:Int=>[vI x]) A (fun xs=>xs.Perm m) g):
  cN prog 190 #[.func (.func lj) #[] fp] g fun g' r=>kh 3 g (iW m) g' r:=by
 have hs:=St.start g;refine enter func190 rfl ntmps190 rfl<|aZ rfl<|cG 1 rfl<|sO rfl (DL fw hA g uh) ?_;rintro g1 r aP ⟨xs,hp,cells,eh,gw⟩;obtain rfl:cells=ec xs:=cY.np gw;obtain⟨ad,c,rfl⟩:=eh.1.form;replace hs:=hs.lr aP eh;clear gw eh;have so:=hp.length_eq;refine aX rfl<|cG 1 rfl<|Dj rfl (DE (zs:=xs) (by omega) hs) ?_;clear hs;rintro g6 _ ai ⟨rfl,hs⟩;rw[DN hp]at hs;refine b_<|aZ rfl<|aG (nw rfl hs ⟨ec (iW m),?_,cY.ints _ _⟩);rw[zq,←so];exact hs.own 0 _ rfl
end Go.Proofs.YtbfjdfecgiegpaaGreatDoor
namespace Go.Proofs.YtbfjdfecgiegpaaGreatDoor
open Go Go.K Tryz
set_option maxRecDepth 10000
attribute [local irreducible] W WL cS bh bY bB bA bC cL cD
set_option maxHeartbeats 1000000
theorem Li(bb:Nat)(g:G):cN prog 187 #[vP bb] g fun g' r=> ∃bp,r= .func (.func 236) #[] #[vP bp]∧EP g' bp 0 [vP bb]:=by have hs:=St.start g;exact enter func187 rfl ntmps187 rfl<|cR<|An hs rfl fun b1 g2 hs ai aD=>aX rfl<|aZ rfl<|aG (nw rfl hs ⟨b1,rfl,aD⟩)
def ml(b:eL)(a:gi)(m:List Int)(f:bO):List Int:=if mL b f a&& !y7 b f a.time then o7 f.idn m else m
def Ho(b:eL)(a:gi):List Int:=(tT b).foldl (ml b a) []
def pD(b:eL)(a:gi):List Int:=iW (Ho b a)
theorem zm(b:eL)(a:gi): ∀(l:List bO) (m:List Int),(l.foldl (ml b a) m).length≤m.length+l.length
 |[],m=>Nat.le_refl _
 |f::l,m=>by
  rw[List.foldl_cons];have ih:=zm b a l (ml b a m f);have h1:(ml b a m f).length≤m.length+1:=by
   unfold ml o7;split
   ·split
    ·omega
    simp
   omega
  rw[List.length_cons];omega
def u3(b:eL)(a:gi)(sl:Nat→Value)(bm b2 b3 b5:Nat)(g:G)(pre:List bO)(L:List df)(g':G):Prop:=
 L=[.obj bm (eV (o_ (pre.foldl (ml b a) [])))]∧EP g' b5 0 [.map (some bm)]∧EP g' b2 0 ((List.range 11).map sl)∧EP g' b3 0 (nk a)∧fV g' (.agg ((List.range 11).map sl).toArray) b∧Rs g' (sl 7) b.lq∧G.le g g'
theorem u3.mono{b:eL}{a:gi}{sl:Nat→Value}{bm b2 b3 b5:Nat}{g:G}(pre:List bO)(L:List df)(g1 g2:G)(hle:g1.le g2)(h:u3 b a sl bm b2 b3 b5 g pre L g1):u3 b a sl bm b2 b3 b5 g pre L g2:=by obtain⟨e,h1,h2,h3,h4,h5,h6⟩:=h;exact⟨e,h1.mono hle,h2.mono hle,h3.mono hle,h4.mono hle,h5.mono hle,h6.trans hle⟩
theorem Lj(v:Value)(b:eL)(a:gi)(g:G)(aT:fV g v b)(hb:vQ b):cN prog 139 #[v,CV a] g fun g' r=>Rs g' r (pD b a):=by
 have hs:=St.start g;have ar:=G.le.refl g;obtain⟨sl,rfl,dS⟩:=aT;have aT:fV g (.agg ((List.range 11).map sl).toArray) b:=⟨sl,rfl,dS⟩;have aH:Rs g (sl 6) b.holds:=dS 6 (by decide);have aW:Rs g (sl 7) b.lq:=dS 7 (by decide);refine uj func139 rfl ntmps139 rfl<|cR<|An hs rfl fun b2 g2 hs ai aD=>?_;obtain⟨ar,aH,aW,aT⟩:=dK ai ar aH aW aT;refine An hs rfl fun b3 g2 hs ai aM=>?_;obtain⟨ar,aD,aH,aW,aT⟩:=nX ai ar aD aH aW aT;refine aX rfl<|cR<|ak rfl rfl<|kS (κ:=Int) rfl hs fun bm g1 hs ai=>?_;obtain⟨ar,aD,aM,aH,aW,aT⟩:=hZ ai ar aD aM aH aW aT;refine w4 hs rfl fun b5 g1 hs ai=>?_;obtain⟨ar,aD,aM,aH,aW,aT⟩:=hZ ai ar aD aM aH aW aT;refine Hs 0 hs rfl fun g2 hs ai cE=>?_;obtain⟨ar,aD,aM,aH,aW,aT⟩:=hZ ai ar aD aM aH aW aT;replace hs:St g _ [.obj bm (eV (o_ []))]:=hs;refine b_<|az<|cR<|ak rfl rfl<|aC (Wc 187) (fun _=>trivial) rfl rfl rfl rfl rfl (Li b2 _) ?_;rintro g6 _ nY ⟨bp,rfl,MB⟩;replace hs:=hs.call nY;have ai:=nY.le;obtain⟨ar,aD,aM,cE,aH,aW⟩:=hZ ai ar aD aM cE aH aW;replace aT:=aT.mono ai;refine b_<|aI ?_
 refine xj (N:=28) hs rfl (Wc 236) (Iw bp b2 b sl g6 MB aD aH).Ze rfl (fun _=>rfl)
  (u3 b a sl bm b2 b3 b5 g) (fun _ _ _ _=>False) u3.mono (fun _ _ _ _ _ _ h=>h) ⟨rfl,cE,aD,aM,aT,aW,ar⟩
  (fun pre x L la g'=>(∃b6,la=[(5,vP b5),(3,vP b3),(6,vP b6)]∧EP g' b6 0 (fw x b2))∧u3 b a sl bm b2 b3 b5 g pre L g')
  (fun _ _ _ _ _ _ hle ⟨⟨b6,e,h1⟩,h2⟩=>⟨⟨b6,e,h1.mono hle⟩,u3.mono _ _ _ _ hle h2⟩) ?_ ?_ ?_ ?_
 ·rintro lp D ro pre x gr Lr M nv hle hs hI;have dL:=G.le.refl gr;refine an<|w4 hs rfl fun b6 g1 hs ai=>?_;replace dL:=G.le.trans dL ai;refine Hs 0 hs rfl fun g2 hs ai aL=>?_;replace dL:=G.le.trans dL ai;exact aA<|fun a ha=>⟨_,Lr,_,rfl,dL,hs,⟨⟨b6,rfl,aL⟩,u3.mono _ _ _ _ dL hI⟩,ha.kp rfl⟩
 ·rintro lp D ro pre x gr Lr la M nv hle hs ⟨⟨b6,rfl,aD⟩,rfl,aM,dc,cE,aT,aW,ar⟩;have dL:=G.le.refl gr;have Ac:(pre++[x]).foldl (ml b a) []=if mL b x a&& !y7 b x a.time then o7 x.idn (pre.foldl (ml b a) [])else pre.foldl (ml b a) []:=by rw[List.foldl_append];rfl
  generalize pre.foldl (ml b a) []=M0 at*;refine aI<|sP 2 [.z aD,.z cE] rfl<|ak rfl rfl<|aC (Wc 188) (fun _=>trivial) rfl rfl rfl rfl rfl (CallsIn.lQ rfl rfl rfl (Lk x b2 b sl a _ dc aT)) ?_;rintro g7 _ C2 rfl;replace hs:=hs.call C2;have ai:=C2.le;obtain⟨ar,dL,aD,aM,cE,aW⟩:=hZ ai ar dL aD aM cE aW;obtain⟨dc,aT⟩:=cr ai dc aT;cases h1:mL b x a with
  |false=>
   rw[h1]at Ac;exact aX rfl<|aar rfl<|aF<|bJ<|fun a' ha=>⟨_,_,rfl,hs,dL,[.obj bm (eV (o_ (M0)))],rfl,by rw[Ac];rfl,aM,dc,cE,aT,aW,ar⟩
  |true=>
   rw[h1]at Ac;refine q5 4 [.z aD,.z cE] rfl ?_;clear C2;refine ak rfl rfl<|aC (Wc 189) (fun _=>trivial) rfl rfl rfl rfl rfl (CallsIn.lQ rfl rfl rfl (OO x b2 b sl a.time _ dc aW)) ?_;rintro g8 _ C2 rfl;replace hs:=hs.call C2;have ai:=C2.le;obtain⟨ar,dL,aD,aM,cE,aW⟩:=hZ ai ar dL aD aM cE aW;obtain⟨dc,aT⟩:=cr ai dc aT;cases h2:y7 b x a.time with
   |true=>
    rw[h2]at Ac;exact aX rfl<|aar rfl<|aF<|bJ<|fun a' ha=>⟨_,_,rfl,hs,dL,[.obj bm (eV (o_ (M0)))],rfl,by rw[Ac];rfl,aM,dc,cE,aT,aW,ar⟩
   |false=>
    rw[h2]at Ac;refine aX rfl<|aas rfl<|an<|q5 4 [.z aM,.z aD] rfl<|BO [] [] [] rfl<|bu rfl<|dQ Tc 2 (.inl rfl) hs rfl rfl (a:=x.idn) rfl rfl fun g9 hs ai=>?_;obtain⟨ar,dL,aD,aM,cE,aW⟩:=hZ ai ar dL aD aM cE aW;obtain⟨dc,aT⟩:=cr ai dc aT;replace hs:St g g9 (.obj lp (ro .busy):: .obj D gC::([.obj bm (eV (jK x.idn (.agg #[]) (o_ M0)))]++M)):=hs;rw[B1]at hs;exact aA<|bJ<|fun a' ha=>⟨_,_,rfl,hs,dL,[.obj bm (eV (o_ (o7 x.idn M0)))],rfl,by rw[Ac];rfl,aM,dc,cE,aT,aW,ar⟩
 ·rintro lp D o xs Lr ge rfl hle hs ⟨rfl,aD,_,_,_,_,ar⟩;have hM:=zm b a (tT b) [];have hh:(tT b).length≤1000000:=Nat.le_trans (List.length_filter_le ..) (hb 6);unfold pD Ho;generalize(tT b).foldl (ml b a) []=m at*;have KP:m.length≤1000000:=by simp only[List.length_nil]at hM;omega
  obtain⟨g8,KG,tW,ai,lU⟩:=Ip hs (i:=2) rfl;rw[←KG];clear hs;replace hs:=tW;clear tW;replace aD:=aD.mono ai;clear KG;refine bJ<|aq<|sP 1 [.z aD] rfl<|ak rfl rfl<|aC (Wc 191) (fun _=>trivial) rfl rfl rfl rfl rfl (OP bm m _) ?_;rintro g9 _ FM ⟨bq,rfl,YJ⟩;replace hs:=hs.call FM;have ai:=FM.le;replace lU:=lU.mono ai;refine ak rfl rfl<|aC (Wc 190) (fun _=>trivial) rfl rfl rfl rfl rfl (F9 (Wc 241) (fun pre h=>Nat.le_trans h KP) KP _ (Ll bq bm m _ YJ lU)) fun g10 v10 Td vG=>?_;obtain⟨g11,Te,Tf,ai,sy⟩:=hs.jO Td vG;have ai:=Td.le.trans ai;rw[←Te];clear hs;replace hs:=Tf;clear Tf;clear Te;exact aX rfl<|aG<|Iy 1 rfl hs rfl rfl (fun g' lB gB=>lB.ret (sy.mono gB))
 rintro c lp D o pre Lr ge _ _ _ h;exact h.elim
end Go.Proofs.YtbfjdfecgiegpaaGreatDoor
namespace Go.Proofs.YtbfjdfecgiegpaaGreatDoor
open Go Go.K Tryz
set_option maxRecDepth 10000
attribute [local irreducible] W WL cS bh bY bB bA bC cL cD
set_option maxHeartbeats 1000000
theorem rD(g:G)(xs:List bO): ∀u∈fl xs,u.oneCell'=true:=cY.one (cY.fl g xs)
theorem Iz(v:Value)(xs:List bO)(g:G)(aH:Rs g v xs)(hlen:xs.length≤1000000):
  cN prog 66 #[v] g (kh 40 g xs):=by
 obtain⟨ad,n,c,rfl,hn,hc,hr⟩:=id aH;have hs:=St.start g;have ar:=G.le.refl g;refine enter func66 rfl ntmps66 rfl<|aZ rfl<|az<|cG 1 rfl<|ak rfl rfl<|gK T.ok (neg:=false) rfl rfl rfl rfl rfl<|b_ ?_;cases ad with
 |none=>
  refine aas rfl<|aZ rfl<|aG<|nw rfl hs ?_
  have:xs=[]:=by
   rcases hr with h|⟨b,o,cells,h,_⟩
   ·exact List.eq_nil_of_length_eq_zero (by omega)
   cases h
  subst this;exact kh.nil _ _ _ _
 |some ad=>
  refine aar rfl<|aF<|aq<|cR<|BP [] [] hs rfl rfl fun b2 g2 hs ai=>?_;replace aH:=aH.mono ai;refine Wp 1 rfl ?_;obtain⟨hm,news,gw,iu⟩:=Src.jx aH;subst hm;obtain rfl:=qx gw;exact ak rfl rfl<|bU T.ok 0 rfl hs rfl rfl rfl rfl rfl rfl rfl (by decide) rfl iu (rD g xs) (by show(0+xs.length)*160≤_;omega) (by unfold maxLen;omega) fun a' c' g3 hs ai=>aX rfl<|aG (nw rfl hs (hs.mw (i:=0) rfl (cY.fl _ _)))
theorem yG{p:bO→Bool}(xs:List bO)(k:Nat)(h:k<xs.length)(hp:p xs[k]=true)(de: ∀j (h:j<xs.length),j<k→p xs[j]=false):
  xs.take k=(xs.take (k+1)).filter (fun x=> !p x):=by
 rw[List.take_succ_eq_append_getElem h,List.filter_append];have:(xs.take k).filter (fun x=> !p x)=xs.take k:=by rw[List.filter_eq_self];intro x hx;obtain⟨j,hj,rfl⟩:=List.mem_iff_getElem.1 hx;simp only[List.length_take]at hj;rw[List.getElem_take,de j (by omega) (by omega)];rfl
 rw[this];simp[hp]
theorem Ln(xs:List bO)(i:Nat):(fl xs).take (i*19)=fl (xs.take i):=by
 rcases Nat.lt_or_ge xs.length i with h|h
 ·rw[List.take_of_length_le (l:=xs) (by omega),List.take_of_length_le];rw[rU];show xs.length*19≤_;omega
 have e:=rU (xs.take i);rw[List.length_take,Nat.min_eq_left h]at e;conv=>lhs;rw[←List.take_append_drop i xs,mN]
 exact List.take_left' e
theorem F_(p:bO→Bool)(g0 g:G)(L:List df)(v fo:Value)(xs:List bO)(hs:St g0 g (.row 40 19 v xs.length (fl xs)::L))(hlen:xs.length≤1000000)(hp:B0 fo p xs g):
  CallsIn Wd 0 prog 65 #[v,fo] g.w (db g fun g' v'=>St g0 g' (.row 40 19 v' (xs.filter fun x=> !p x).length (fl (xs.filter fun x=> !p x))::L)):=by
 have ar:=G.le.refl g;obtain⟨ad,cap,rfl⟩:=(hs.own 0 _ rfl).1.form;refine enter func65 rfl ntmps65 rfl<|aZ rfl<|cG 2 rfl ?_;obtain⟨gf,WU,FV,sy,EU⟩:=hs.Tg (α:=bO) (i:=0) rfl (cY.fl _ _);rw[←WU];refine sO rfl (xi _ _ xs p gf sy (hp.mono FV)) ?_;rintro g2 _ B2 rfl;obtain⟨g3,vT,fD⟩:=EU g2 B2;rw[←vT];replace hs:=hs.call fD;have ai:=fD.le;replace ar:=G.le.trans ar ai;refine aX rfl<|az<|aZ rfl ?_;rcases oc p xs with⟨we,de⟩|⟨k0,De,we,AB,de⟩
 ·refine aJ (b:=mT p xs== -1) (by simp[we]) rfl<|aZ rfl ?_;have OQ:(xs.filter fun x=> !p x)=xs:=List.filter_eq_self.2 fun x hx=>by simp[de x hx]
  rw[OQ];exact aG (aaq rfl (db.intro ar hs))
 refine aQ (b:=mT p xs== -1) (by simp only[we,beq_eq_false_iff_ne];omega) rfl ?_;rw[we];obtain⟨⟨b0,p0,rfl⟩,rK⟩:(∃b p,ad=some ⟨b,p,none⟩)∧xs.length≤cap∧cap≤maxLen:=by
  rcases(hs.own 0 _ rfl).1.2 with⟨h,_⟩|⟨b,q,c,cur,e1,_,_,h1,h2,_⟩
  ·omega
  simp only[Value.slice.injEq]at e1;obtain⟨rfl,_,rfl⟩:=e1;exact⟨⟨b,q,rfl⟩,h1,h2⟩
 unfold maxLen at rK;refine aF<|aq<|az<|aZ rfl<|aI ?_
 refine bK (fun m a' w=> ∃(j i':Nat) (cs:List bO) (g':G),w=g'.w∧St g0 g' (fW 40 (some ⟨b0,p0,none⟩) xs.length cap cs::L)∧G.le g g'∧j≤xs.length∧m=xs.length-j∧
  cs.length=xs.length∧i'<j∧cs.take i'=(xs.take j).filter (fun x=> !p x)∧cs.drop j=xs.drop j∧
  Fr 42 [] [(0,.slice (some ⟨b0,p0,none⟩) xs.length cap),(1,fo),(5,vI i'),(6,vI j)] a') (xs.length-(k0+1))
  (fun a' ha=>⟨k0+1,k0,xs,g3,rfl,hs,ar,De,rfl,rfl,Nat.lt_succ_self _,yG xs k0 De AB de,rfl,ha.keep ⟨rfl,rfl,rfl,kW rfl,trivial⟩⟩) ?_
 clear hs ar;rintro m a' _ ⟨j,i',cs,g',rfl,hs,ar,hj,rfl,fw,Bk,dP,vB,dW⟩;revert a';refine ct<|az<|aZ rfl ?_;by_cases bt:j<xs.length
 ·refine aJ (b:=decide ((j:Int)<(xs.length:Int))) (by simp;omega) rfl ?_;have WV:cs[j]? =some xs[j]:=by have:=congrArg (fun l=>l[0]?) vB;simpa [List.getElem?_eq_getElem bt]using this
  refine aF<|aq<|az<|aI<|cG 2 rfl<|ak rfl rfl<|dz (α:=bO) 0 rfl hs rfl (by omega) (by omega) rfl rfl rfl rfl rfl rfl fun b q hh=>?_;obtain⟨rfl,rfl⟩:b0=b∧p0=q:=by simpa using hh
  rw[Int.toNat_natCast];refine ak rfl rfl<|et (α:=bO) 0 rfl hs rfl rfl (j:=j) WV rfl rfl rfl ?_;have kP:=List.getElem_mem bt
  have Lo:(xs.take (j+1)).filter (fun x=> !p x)=(xs.take j).filter (fun x=> !p x)++(if p xs[j]then []else [xs[j]]):=by rw[List.take_succ_eq_append_getElem bt,List.filter_append];cases WW:p xs[j]<;>simp[WW]
  have sY:cs.drop (j+1)=xs.drop (j+1):=by have:=congrArg (List.drop 1) vB;simpa [List.drop_drop]using this
  generalize xs[j]=x at*;refine w4 hs rfl fun b7 g1 hs ai=>?_;replace ar:=G.le.trans ar ai;refine Hs 0 hs rfl fun g2 hs ai aD=>?_;replace ar:=G.le.trans ar ai;replace hs:St g0 _ (fW 40 (some ⟨b0,p0,none⟩) xs.length cap cs::L):=hs;refine b_<|sP 2 [.z aD] rfl<|ak rfl rfl<|fb rfl rfl rfl rfl rfl rfl (hp _ x kP ar) ?_;rintro g4 _ mg rfl;replace hs:=hs.call mg;have ai:=mg.le;obtain⟨ar,aD⟩:=cr ai ar aD;cases hb:p x with
  |true=>
   refine aX rfl<|aar rfl ?_;rw[hb,if_pos rfl,List.append_nil]at Lo;exact aF<|bJ<|aq<|an<|Wp 3 rfl<|aA<|fun a ha=>⟨xs.length-(j+1),by omega,j+1,i',cs,_,rfl,hs,ar,by omega,rfl,fw,by omega,by rw[dP,Lo],sY,ha.keep ⟨rfl,rfl,rfl,kW rfl,trivial⟩⟩
  |false=>
   refine aX rfl<|aas rfl ?_;rw[hb,if_neg (by simp)]at Lo;refine sP 3 [.z aD] rfl<|ak rfl rfl<|dz (α:=bO) 0 rfl hs rfl (by omega) (by omega) rfl rfl rfl rfl rfl rfl fun b q hh=>?_;obtain⟨rfl,rfl⟩:b0=b∧p0=q:=by simpa using hh
   rw[Int.toNat_natCast];refine bu rfl<|gX (α:=bO) 0 rfl hs rfl rfl rfl (v:=x) (j:=i') (by omega) rfl rfl fun g5 hs ai=>?_;replace ar:=G.le.trans ar ai;replace hs:St g0 g5 (fW 40 (some ⟨b0,p0,none⟩) xs.length cap (cs.set i' x)::L):=hs;refine b_<|an<|Wp 3 rfl<|aA<|bJ<|aq<|an<|Wp 3 rfl<|aA ?_
   exact fun a ha=>⟨xs.length-(j+1),by omega,j+1,i'+1,cs.set i' x,_,rfl,hs,ar,by omega,rfl,by simp[fw],by omega,
    by rw[Lo,←dP,rl (by omega)],
    by rw[List.drop_set_of_lt (by omega)];exact sY,ha.keep ⟨rfl,rfl,kW rfl,kW rfl,trivial⟩⟩
 refine aQ (b:=decide ((j:Int)<(xs.length:Int))) (by simp;omega) rfl ?_;obtain rfl:j=xs.length:=by omega
 rw[List.take_length]at dP;refine bc<|bg<|bg<|cA<|aq<|cG 2 rfl<|ak rfl rfl<|gV T.ok rfl rfl rfl rfl rfl (a:=i') (b:=xs.length) ⟨_,rfl⟩ rfl (by omega) (by omega)<|bu rfl (zn T.ok 0 (a:=i') (xs':=fl (cs.take i')++(List.replicate (xs.length-i') (cB fS)).flatten) rfl hs rfl rfl rfl rfl rfl rfl (by decide) rfl (by decide) ?_ (by omega) (by rw[Ln];rfl) ?_)
 ·by_cases QZ:cap=i'
  ·exact .inl (by omega)
  right;rw[if_neg QZ];simp[Addr.add_lit]
 clear hs;rintro g5 hs ai;replace ar:=G.le.trans ar ai;refine b_<|cG 2 rfl<|ak rfl rfl<|gV T.ok rfl rfl rfl rfl rfl (a:=0) (b:=i') rfl ⟨_,rfl⟩ (by omega) (by omega)<|aX rfl<|aG (aaq rfl (db.intro ar ?_));have xk:=hs.B3 (i:=0) (a:=i') rfl (by omega);have hl:(xs.filter fun x=> !p x).length=i':=by rw[←dP,List.length_take];omega
 rw[hl,←dP];have he:List.take (i'*19) (fl (cs.take i')++(List.replicate (xs.length-i') (cB fS)).flatten)=fl (cs.take i'):=by rw[List.take_left' (by rw[rU,List.length_take];show _*19=_;omega)]
 rw[he]at xk;exact xk
def fI(b:eL)(w time:Int):List bO:=(lu b w).filter fun f=> !decide (time<f.time)
theorem nq{b:eL}(hb:vQ b)(w:Int):(lu b w).length≤1000000:=by
 unfold lu;split
 ·rw[fG];exact Nat.le_trans (List.length_filter_le ..) (hb 0)
 simp
theorem IA(x:bO)(time:Int)(b1:Nat)(g:G)(aD:EP g b1 0 [vI time]):cN prog 67 #[fv x,vP b1] g fun _ r=>r= .bool (decide (time<x.time)):=by have hs:=St.start g;refine enter func67 rfl ntmps67 rfl<|cR<|An hs rfl fun b2 g2 hs ai aM=>?_;replace aD:=aD.mono ai;exact aX rfl<|Hw [.z aM,.z aD] rfl<|aG (nw rfl hs rfl)
theorem AD(v:Value)(b:eL)(w time:Int)(g:G)(aT:fV g v b)(hb:vQ b):cN prog 20 #[v,vI w,vI time] g fun g' r=>Rs g' r (fI b w time):=by have hs:=St.start g;have ar:=G.le.refl g;obtain⟨sl,rfl,dS⟩:=aT;have aT:fV g (.agg ((List.range 11).map sl).toArray) b:=⟨sl,rfl,dS⟩;refine enter func20 rfl ntmps20 rfl<|cR<|An hs rfl fun b2 g2 hs ai aD=>?_;replace aT:=aT.mono ai;refine An hs rfl fun b3 g2 hs ai aM=>?_;obtain⟨aD,aT⟩:=cr ai aD aT;refine aX rfl<|sP 2 [.z aD] rfl<|sO rfl (IB _ b w _ aT hb) fun g1 _ aP aH=>?_;replace hs:=hs.call aP;have ai:=aP.le;replace aM:=aM.mono ai;have P5:=nq hb w;unfold fI;generalize lu b w=h at*;clear aP;refine sO rfl (Iz _ h _ aH P5) ?_;rintro g6 v6 nY ⟨cells,hh,hr⟩;obtain rfl:=qx hr;replace hs:=hs.lr nY hh;have ai:=nY.le;replace aM:=aM.mono ai;clear hr hh nY;refine Wp 1 rfl<|Dj rfl (F_ (fun f=>decide (time<f.time)) g _ _ v6 _ h hs P5 (fun g' x _ hle=>dy (first:=#[]) (args:=[fv x]) (captured:=#[vP b3]) (Wc 67) rfl (IA x time b3 g' (aM.mono hle)))) fun g7 v7 ai hs=>?_;obtain⟨g8,KG,tW,ai,sy⟩:=hs.cP (α:=bO) (i:=0) rfl (cY.fl _ _);rw[←KG];clear hs;replace hs:=tW;clear tW;clear KG;exact aX rfl<|aG (nw rfl hs sy)
end Go.Proofs.YtbfjdfecgiegpaaGreatDoor
namespace Go.Proofs.YtbfjdfecgiegpaaGreatDoor
def ck(l:List Int):Int:=l.getLastD 0
def fM(live:List Bool)(first:Int)(l:List Int):List Int→List (List Int)→List Bool→Option (List (List Int)×List Bool)
 |[],q,seen=>some (q,seen)
 |n::r,q,seen=>
  if n=first then none
  else if first<n∧live.getD n.toNat false=true∧seen.getD n.toNat true=false then fM live first l r (q++[l++[n]]) (seen.set n.toNat true)
  else fM live first l r q seen
def je(f:bG)(live:List Bool)(first:Int):Nat→List (List Int)→List Bool→List Int
 |_,[],_=>[]
 |0,_::_,_=>[]
 |k+1,l::rest,seen=>
  match fM live first l (bj f (ck l)).next rest seen with
  |none=>l
  |some (q,du)=>je f live first k q du
def dT(f:bG)(live:List Bool)(first:Int):List Int:=je f live first (1+f.steps.length) [[first]] (List.replicate f.steps.length false)
end Go.Proofs.YtbfjdfecgiegpaaGreatDoor
namespace Go.Proofs.YtbfjdfecgiegpaaGreatDoor
open Go Go.K Tryz
set_option maxRecDepth 10000
attribute [local irreducible] W WL cS bh bY bB bA bC cL cD
set_option maxHeartbeats 2000000
def LN(v:Value)(n:Nat)(cells:List Value):df:=.row 31 1 v n cells
def vS(off:Nat)(s:Step):Fact:=
 ⟨fun v g=> ∃b p ys,v= .pointer (some ⟨b,p+off,none⟩)∧EP g b p ys∧sW g ys s,fun _ _ _ hf ⟨b,p,ys,e,h1,h2⟩=>⟨b,p,ys,e,h1.mono hf.le,El.mono (α:=Step) hf.le h2⟩⟩
def Ai(n:Int):Fact:=
 ⟨fun v g=> ∃b p,v= .pointer (some ⟨b,p,none⟩)∧EP g b p [vI n],fun _ _ _ hf ⟨b,p,e,h1⟩=>⟨b,p,e,h1.mono hf.le⟩⟩
theorem LJ(v lv:Value)(f:bG)(live:List Bool)(first:Int)(g:G)(dt:fP g v f)(cd:Rs g lv live)(cF:valid f=true)(vz:live.length=f.steps.length)(h0:0≤first)(h1:first<f.steps.length):
  cN prog 165 #[v,lv,vI first] g fun g' r=>Rs g' r (dT f live first):=by
 obtain⟨a1,n1,c1,a2,n2,c2,rfl,aH,aW⟩:=id dt;obtain⟨_,_,e⟩:=aH.isSlice;obtain⟨rfl,rfl,rfl⟩:=Value.slice.inj e;clear e;obtain⟨a3,c3,rfl⟩:=cd.isSlice;have Ob:=qJ cF;have hs:=St.start g;have ar:=G.le.refl g;refine enter func165 rfl ntmps165 rfl<|cR<|An hs rfl fun bf g2 hs ai aD=>?_;obtain⟨aH,aW,cd⟩:=dR ai aH aW cd;refine aX rfl<|cG 1 rfl<|BP [(0,vI first)] [vI first] hs rfl rfl fun b2 g2 hs ai=>?_;obtain⟨aD,aH,aW,cd⟩:=dK ai aD aH aW cd;obtain⟨g3,vT,ED,Ak,oZ⟩:=hs.cP (α:=Int) (xs:=[first]) (i:=0) rfl (cY.ints _ [first]);clear ai;have ai:=Ak;rw[←vT];replace hs:=ED;obtain⟨aD,aH,aW,cd⟩:=dK ai aD aH aW cd;refine BP [(0,.slice (vA b2) 1 1)] [.slice (vA b2) 1 1] hs rfl rfl fun b3 g4 hs ai=>?_;obtain⟨aD,aH,aW,cd⟩:=dK ai aD aH aW cd;replace oZ:=oZ.mono ai;refine aX rfl<|sP 3 [.z aD] rfl<|ak rfl rfl<|sJ T.ok rfl hs rfl rfl rfl rfl rfl rfl (by decide) rfl (by show 1*f.steps.length≤_;omega) (by unfold maxLen;omega) fun ob g1 hs ai=>?_;obtain⟨aD,aH,aW,cd⟩:=dK ai aD aH aW cd;replace oZ:=oZ.mono ai;refine aX rfl<|az<|aI ?_;have pg:(List.replicate f.steps.length [Value.bool false]).flatten=(List.replicate f.steps.length false).map Value.bool:=by simp
 have dI:St g g1 [o8 ob f.steps.length (List.replicate f.steps.length false),LN (.slice (vA b3) 1 1) 1 [.slice (vA b2) 1 1]]:=by unfold o8 LN;rw[←pg];exact hs
 clear hs;have mP:=aD;have pL:=aH;have wX:=cd;have dL:=G.le.refl g1;refine bK (fun m a' w=> ∃(q:List (List Int)) (cells:List Value) (seen:List Bool) (qv:Value) (g':G),w=g'.w∧St g g' [o8 ob f.steps.length seen,LN qv q.length cells]∧G.le g1 g'∧cY g' cells q∧
   m=q.length+seen.count false∧seen.length=f.steps.length∧(∀l∈q,l≠[]∧0≤ck l∧ck l<f.steps.length∧l.length+m≤f.steps.length+2)∧
   je f live first m q seen=dT f live first∧
   Fr 75 [] [(1,.slice a3 live.length c3),(2,vI first),(3,vP bf),(7,qv),(8,.slice (vA ob) f.steps.length f.steps.length)] a') (1+f.steps.length)
  (fun a' ha=>⟨[[first]],_,_,_,g1,rfl,dI,dL,⟨[_],[],rfl,⟨_,rfl,oZ⟩,rfl⟩,by simp,by simp,by intro l hl;simp at hl;subst hl;refine⟨by simp,h0,h1,by simp;omega⟩,rfl,ha.kp rfl⟩) ?_
 clear dI ar dL;rintro m a' _ ⟨q,cells,seen,qv,g',rfl,hs,dL,gw,rfl,dS,hq,de,dW⟩;have aD:=mP.mono dL;have aH:=pL.mono dL;have cd:=wX.mono dL;obtain⟨qa,qc,rfl⟩:=(hs.own 1 _ rfl).1.form;revert a';refine ct<|az<|aZ rfl ?_;cases q with
 |nil=>
  refine aQ (b:=decide ((0:Int)<([]:List (List Int)).length)) (by simp) rfl<|bc<|bg<|bg<|cA<|aq<|aZ rfl<|aG<|nw rfl hs ?_;rw[←de,je];exact Rs.nil _
 |cons l rest=>
  refine aJ (b:=decide ((0:Int)<(l::rest).length)) (by simp) rfl ?_;obtain⟨_,O2,rfl,⟨vl,rfl,oZ⟩,E1⟩:=gw;obtain⟨Ql,Wu,tP,Qm⟩:=hq l List.mem_cons_self;have Zn:0<l.length:=List.length_pos_iff.2 Ql;have Qb:(l::rest).length+seen.count false=(rest.length+seen.count false)+1:=by simp;omega
  rw[Qb]at de Qm;rw[je]at de;have Rj:=(hs.own 1 _ rfl).1;have rK:(l::rest).length≤qc:=by
   rcases Rj.2 with⟨h,_⟩|⟨b,p,cap,cur,e1,_,_,h2,_⟩
   ·simp at h
   simp only[Value.slice.injEq]at e1;omega
  refine aF<|aq<|aI<|cG 1 rfl<|ak rfl rfl<|eo T.ok rfl (hs.own 1 _ rfl).1 (by decide) (by simp) rfl rfl rfl rfl rfl rfl ?_;rintro bq pq rfl;refine ak rfl rfl<|fB T.ok (Int.toNat 0*1) rfl (hs.own 1 _ rfl).1 rfl (v:=vl) rfl<|aX rfl<|cG 1 rfl<|ak rfl rfl<|gV T.ok rfl rfl rfl rfl rfl (a:=1) (b:=(l::rest).length) ⟨_,rfl⟩ rfl (by simp) rK ?_;replace hs:=hs.cutFrom (i:=1) (a:=1) rfl (by simp);refine aX rfl<|az ?_;obtain⟨al,cl,rfl⟩:=oZ.isSlice;have Xd:=oZ.ef;unfold maxLen at Xd
  have E2:dJ l (IntKind.i64.wrap ((l.length:Int)-1))=some (ck l):=by rw[bZ (j:=l.length-1) (by rw[wq];omega) (by omega)];unfold ck;rw[List.getLastD_eq_getLast?,List.getLast?_eq_getElem?,List.getElem?_eq_getElem (by omega)];rfl
  apply ea (gU (eF (.f (Ai (ck l))::(fe (.f (vS 0 (bj f (ck l)))::(.f (vS 4 (bj f (ck l)))::(.f (Fact.rs (bj f (ck l)).next)::(eF [])))))))) 13 [(10,37),(11,38),(12,39),(2,29)] (by kernel_rfl)
  ·refine pO [[],[0],[],[],[3],[4]] [.e aD 2] (St.start _) rfl<|fR [(2,29),(5,32)] (fun gd hf=>?_) ?_
   ·have eT:=(G.bI _).trans hf.le;exact aat rfl<|aj<|ay rfl<|aR T.ok rfl (oZ.mono eT) (y:=ck l) E2 rfl rfl rfl rfl rfl rfl fun b p ys aL gw=>⟨_,rfl,a_.refl _,b,p,rfl,by rw[←show ys=[Value.int .i64 (ck l)]from gw];exact aL⟩
   refine fR [(6,33)] (fun gd hf=>?_) ?_
   ·skip;refine ba fun v6 h6=>?_;apply aj;obtain⟨b,p,rfl,aL⟩:=h6;refine ay rfl<|cI T.ok 0 rfl aL rfl rfl<|⟨_,rfl,a_.refl _,?_⟩;exact rfl
   refine fR [(1,28),(7,34)] (fun gd hf=>?_) ?_
   ·have eT:=(G.bI _).trans hf.le;refine aat rfl<|aj<|ay rfl<|aR T.ok rfl (aH.mono eT) (y:=bj f (ck l)) (by unfold bj;rw[bZ (j:=(ck l).toNat) (by omega) (by omega)];simp[List.getD_eq_getElem?_getD,show(ck l).toNat<f.steps.length from by omega]) rfl rfl rfl rfl rfl rfl ?_;intro b p ys aL gw;exact⟨_,rfl,a_.refl _,b,p,ys,rfl,aL,gw⟩
   refine fR [(8,35)] (fun gd hf=>?_) ?_
   ·skip;refine ba fun v8 h8=>?_;apply aj;obtain⟨b,p,ys,rfl,aL,gw⟩:=h8;exact ay rfl<|aE _ T.ok rfl<|⟨_,rfl,a_.refl _,b,p,ys,rfl,aL,gw⟩
   refine fR [(9,36)] (fun gd hf=>?_) ?_
   ·skip;refine ba fun v9 h9=>?_;apply aj;obtain⟨b,p,ys,rfl,aL,gw⟩:=h9;obtain⟨b1,b2,b3,b4,b5,b6,rfl,Df,P3⟩:=gw;exact ay rfl<|cI T.ok 4 rfl aL rfl rfl<|⟨_,rfl,a_.refl _,P3⟩
   refine fR [(10,37)] (fun gd hf=>?_) ?_
   ·skip;refine ba fun v10 vG=>?_;apply aj;obtain⟨a5,c5,rfl⟩:=Rs.isSlice vG;refine ay rfl<|aE _ T.ok rfl<|⟨_,rfl,a_.refl _,?_⟩;exact rfl
   exact HW [[]] rfl
  intro g1 aP;refine ba fun v10 vG=>?_;refine aau rfl ?_;apply aj;replace hs:=hs.dr.call aP;have ai:=(G.bI _).trans aP.le;obtain⟨dL,aD,aH,cd⟩:=dK ai dL aD aH cd;replace oZ:=oZ.mono ai;replace E1:=E1.mono ai;have bR:Rs g1 v10 (bj f (ck l)).next:=vG;obtain⟨a5,c5,rfl⟩:=bR.isSlice;have j_:=rT (kz cF Wu tP);have aak:=xg (kz cF Wu tP);generalize aal:(bj f (ck l)).next=nx at*;have Xe:=oZ;have HN:=aH;have ud:=cd;have HQ:=bR;have pN:=aD;have jH:=G.le.refl g1;refine b_<|aI ?_
  refine bK (fun m a' w=> ∃(k:Nat) (q':List (List Int)) (rV:List Value) (du:List Bool) (Xf:Value) (g':G),w=g'.w∧St g g' [o8 ob f.steps.length du,LN Xf q'.length rV]∧G.le g1 g'∧cY g' rV q'∧
    k≤nx.length∧m=nx.length-k∧du.length=f.steps.length∧q'.length+du.count false=rest.length+seen.count false∧
    (∀l'∈q',l'≠[]∧0≤ck l'∧ck l'<f.steps.length∧l'.length+(rest.length+seen.count false)≤f.steps.length+2)∧
    fM live first l (nx.drop k) q' du=fM live first l nx rest seen∧
    Fr 75 [] [(1,.slice a3 live.length c3),(2,vI first),(3,vP bf),(7,Xf),(8,.slice (vA ob) f.steps.length f.steps.length),(9,.slice al l.length cl),(37,.slice a5 nx.length c5),(38,vI nx.length),(39,vI k)] a') nx.length
   (fun a' ha=>⟨0,rest,O2,seen,_,g1,rfl,hs,jH,E1,Nat.zero_le _,rfl,dS,rfl,fun l' z7=>?_,by rw[List.drop_zero],ha.kp rfl⟩) ?_
  ·obtain⟨x1,x2,x3,x4⟩:=hq l' (List.mem_cons_of_mem _ z7);exact⟨x1,x2,x3,by rw[Qb]at x4;omega⟩
  clear hs jH E1 oZ aH cd bR aD;rintro m a' _ ⟨k,q',rV,du,Xf,g',rfl,hs,jH,mU,hk,rfl,O3,KR,Xg,E3,dW⟩;have aD:=pN.mono jH;have aH:=HN.mono jH;have cd:=ud.mono jH;have bR:=HQ.mono jH;have aW:=Xe.mono jH;obtain⟨Vw,Vx,rfl⟩:=(hs.own 1 _ rfl).1.form;revert a';refine ct<|aZ rfl<|az ?_;by_cases bt:k<nx.length
  ·refine aJ (b:=decide ((k:Int)<(nx.length:Int))) (by simp;omega) rfl ?_;rw[List.drop_eq_getElem_cons bt,fM]at E3;obtain⟨Xh,Ew⟩:=j_ nx[k] (List.getElem_mem bt);refine aF<|aq<|az<|aI<|cR<|zc (y:=nx[k]) bR (by simp[dJ,bt]) rfl ?_;rintro b p ys aL rfl;refine q5 1 [.e aL 0] rfl<|aX rfl<|az<|aZ rfl ?_;by_cases Nq:nx[k]=first
   ·refine aJ (b:=nx[k]==first) (by simp[Nq]) rfl ?_;rw[if_pos Nq]at E3;refine aZ rfl<|aG<|nw rfl hs ?_;rw[←E3]at de;rw[←de];exact aW
   refine aQ (b:=nx[k]==first) (by simp[Nq]) rfl ?_;rw[if_neg Nq]at E3;have EA:nx[k].toNat<live.length:=by omega
   have IY:nx[k].toNat<du.length:=by omega
   have Rk:live.getD nx[k].toNat false=live[nx[k].toNat]:=by rw[List.getD_eq_getElem?_getD,List.getElem?_eq_getElem EA];rfl
   have Xi:du.getD nx[k].toNat true=du[nx[k].toNat]:=by rw[List.getD_eq_getElem?_getD,List.getElem?_eq_getElem IY];rfl
   rw[Rk,Xi]at E3;refine aF<|aq<|cG 4 rfl<|cH (want:=true) (x:=live[nx[k].toNat]) 4 aK rfl rfl rfl rfl (.inl ⟨rfl,rfl,rfl⟩) rfl rfl rfl rfl (fun hb Q' eS=>?_) (fun g' hf=>?_)
   ·refine Wp 2 rfl<|zc (y:=live[nx[k].toNat]) cd (bZ (by omega) EA) rfl ?_;rintro b p ys aL rfl;exact q5 1 [.e aL 0] rfl<|aA<|fun a ha=>eS _ a (a_.refl _) (ha.kp rfl)
   replace hs:=hs.call hf;have ai:=hf.le;replace aW:=aW.mono ai;replace mU:=mU.mono ai;replace jH:=jH.trans ai;refine Wp 1 rfl<|cH (want:=true) (x:=!du[nx[k].toNat]) 5 aK rfl rfl rfl rfl (.inl ⟨rfl,rfl,rfl⟩) rfl rfl rfl rfl (fun hb Q' eS=>?_) (fun g' hf=>?_)
   ·refine Wp 2 rfl<|ak rfl rfl<|eo T.ok rfl (hs.own 0 _ rfl).1 Xh (by omega) rfl rfl rfl rfl rfl rfl fun b p hh=>?_;obtain⟨rfl,rfl⟩:ob=b∧0=p:=by simpa using hh
    refine ak rfl rfl (fB T.ok (nx[k].toNat*1) rfl (hs.own 0 _ rfl).1 rfl (v:=.bool (du[nx[k].toNat])) (by show(List.map Value.bool _)[nx[k].toNat*1]? =_;rw[Nat.mul_one,List.getElem?_map,List.getElem?_eq_getElem IY];rfl) ?_);exact Wp 1 rfl<|aA<|fun a ha=>eS _ a (a_.refl _) (ha.kp rfl)
   replace hs:=hs.call hf;have ai:=hf.le;replace aW:=aW.mono ai;replace mU:=mU.mono ai;replace jH:=jH.trans ai;apply b_;by_cases lh:first<nx[k]∧live[nx[k].toNat]=true∧du[nx[k].toNat]=false
   ·refine aJ (b:=(decide (first<nx[k])&&live[nx[k].toNat])&& !du[nx[k].toNat]) (by simp[lh]) rfl ?_;rw[if_pos lh]at E3;have aam:=Qm;refine cG 2 rfl<|ak rfl rfl<|eo T.ok rfl (hs.own 0 _ rfl).1 Xh (by omega) rfl rfl rfl rfl rfl rfl fun b p hh=>?_;obtain⟨rfl,rfl⟩:ob=b∧0=p:=by simpa using hh
    refine bu rfl (iA T.ok 0 (nx[k].toNat*1) (us:=[.bool true]) rfl hs rfl rfl rfl rfl rfl rfl rfl (by decide) (by simp;omega) (xs':=(du.set nx[k].toNat true).map Value.bool) ?_ ?_)
    ·rw[Nat.mul_one,List.map_set];unfold nr;rw[List.set_eq_take_append_cons_drop];simp[IY]
    rintro g5 hs ai;replace aW:=aW.mono ai;replace mU:=mU.mono ai;replace jH:=jH.trans ai;refine b_<|an<|Wp 2 rfl<|sO rfl (EW _ l _ aW (by omega)) ?_;rintro g6 v nY ⟨Xj,Rl,TE⟩;replace hs:=hs.lr nY Rl;have ai:=nY.le;replace mU:=mU.mono ai;replace jH:=jH.trans ai;obtain⟨ca,cc,rfl⟩:=(hs.own 0 _ rfl).1.form;refine Wp 1 rfl<|BP [(0,vI nx[k])] [vI nx[k]] hs rfl rfl fun b2 g7 hs ai=>?_;replace mU:=mU.mono ai;replace jH:=jH.trans ai;replace TE:=TE.mono ai;refine ak rfl rfl<|bU T.ok 1 rfl hs rfl rfl rfl rfl rfl rfl rfl (by decide) rfl (Src.eI (hs.own 0 _ rfl).1).2 (by simp[Value.oneCell']) (by show(l.length+1)*8≤_;omega) (by unfold maxLen;omega) fun a' c' g8 hs ai=>?_;replace mU:=mU.mono ai;replace jH:=jH.trans ai;replace TE:=TE.mono ai;obtain⟨g9,U4,Kk,Xk,CZ⟩:=hs.cP (α:=Int) (xs:=l++[nx[k]]) (i:=1) rfl (cY.app (cY.ints _ [nx[k]]) TE);clear ai;have ai:=Xk;rw[←U4];replace hs:=Kk;replace mU:=mU.mono ai;replace jH:=jH.trans ai;refine BP [(0,.slice a' (l.length+1) c')] [.slice a' (l.length+1) c'] hs rfl rfl fun b3 g10 hs ai=>?_;replace mU:=mU.mono ai;replace jH:=jH.trans ai;replace CZ:=CZ.mono ai;have ph:du.count false≤du.length:=List.count_le_length;refine ak rfl rfl<|bU T.ok 3 rfl hs rfl rfl rfl rfl rfl rfl rfl (by decide) rfl (Src.eI (hs.own 0 _ rfl).1).2 (by simp[Value.oneCell']) (by show(q'.length+1)*24≤_;omega) (by unfold maxLen;omega) fun a9 c9 g11 hs ai=>?_;replace mU:=mU.mono ai;replace jH:=jH.trans ai;replace CZ:=CZ.mono ai;refine Wp 1 rfl<|aA<|bJ<|aq<|an<|Wp 2 rfl<|aA ?_;have Qn:cY g11 (rV++[Value.slice a' (l.length+1) c']) (q'++[l++[nx[k]]]):=cY.app (α:=List Int) (ys:=[l++[nx[k]]]) (ds:=[Value.slice a' (l.length+1) c']) ⟨[Value.slice a' (l.length+1) c'],[],rfl,(show ∃v,[Value.slice a' (l.length+1) c']=[v]∧Rs g11 v (l++[nx[k]])from⟨_,rfl,CZ⟩),rfl⟩ mU;refine fun a ha=>⟨nx.length-(k+1),by omega,k+1,q'++[l++[nx[k]]],rV++[.slice a' (l.length+1) c'],du.set nx[k].toNat true,.slice a9 (q'.length+1) c9,_,rfl,?_,jH,
     Qn,by omega,rfl,by simp[O3],?_,?_,E3,ha.keep ⟨rfl,rfl,rfl,rfl,rfl,rfl,rfl,rfl,kW rfl,trivial⟩⟩
    ·have hd:=(hs.drop 0).drop 0;have:(q'++[l++[nx[k]]]).length=q'.length+1:=by simp
     rw[this];exact hd
    ·have:=iK (o:=du) (i:=nx[k].toNat) (by rw[List.getElem?_eq_getElem IY,lh.2.2]);simp;omega
    intro l' z7;rcases List.mem_append.1 z7 with h|h
    ·exact Xg l' h
    simp at h;subst h;refine⟨by simp,?_,?_,by simp;omega⟩
    ·simpa [ck]using Xh
    simpa [ck]using Ew
   refine aQ (b:=(decide (first<nx[k])&&live[nx[k].toNat])&& !du[nx[k].toNat]) ?_ rfl ?_
   ·rw[Bool.eq_false_iff];intro h;simp only[Bool.and_eq_true,decide_eq_true_eq,Bool.not_eq_true']at h;exact lh ⟨h.1.1,h.1.2,h.2⟩
   rw[if_neg lh]at E3;exact aF<|bJ<|aq<|an<|Wp 2 rfl<|aA<|fun a ha=>⟨nx.length-(k+1),by omega,k+1,q',rV,du,_,_,rfl,hs,jH,mU,by omega,rfl,O3,KR,Xg,E3,ha.keep ⟨rfl,rfl,rfl,rfl,rfl,rfl,rfl,rfl,kW rfl,trivial⟩⟩
  refine aQ (b:=decide ((k:Int)<(nx.length:Int))) (by simp;omega) rfl ?_;obtain rfl:k=nx.length:=by omega
  rw[List.drop_length,fM]at E3;refine bc<|bg<|bg<|cA<|bJ ?_;rw[←E3]at de;exact fun a ha=>⟨_,by rw[Qb];exact Nat.lt_succ_self _,q',rV,du,_,_,rfl,hs,dL.trans jH,mU,KR.symm,O3,Xg,de,ha.kp rfl⟩
end Go.Proofs.YtbfjdfecgiegpaaGreatDoor
namespace Go.Proofs.YtbfjdfecgiegpaaGreatDoor
def alive(f:bG)(n:Int):Bool:=(ends f).any fun e=>(cu f n).getD e.toNat false
def rj(f:bG)(l:List Int):Option Int:=l.find? fun n=> !alive f n
def sM(f:bG)(OM:List Int)(n:Int):List Int:=
 if 0<(dT f (cu f 0) n).length∧(OM=[]∨(dT f (cu f 0) n).length<OM.length)then dT f (cu f 0) n else OM
def aaE(f:bG)(l:List Int):List Int:=l.foldl (sM f) []
def check(f:bG):Int×List Int:=
 match rj f (reach f 0)with
 |some n=>(1,[n])
 |none=>if aaE f (reach f 0)=[]then(0,[])else(2,aaE f (reach f 0))
theorem wZ(f:bG)(l:List Int)(n:Int):aaE f (l++[n])=sM f (aaE f l) n:=by unfold aaE;rw[List.foldl_append];rfl
def dh(o:List Bool)(m:Int):Prop:=o.getD m.toNat false=true
def gH(f:bG)(m:Int):Prop:=0≤m∧m<f.steps.length
inductive BJ(f:bG):Int→Int→Prop where
 |refl (a:Int):BJ f a a
 |step {a b c:Int}:BJ f a b→c∈eB (bj f b)→BJ f a c
theorem BJ.trans{f:bG}{a b c:Int}(h:BJ f a b)(r:BJ f b c):BJ f a c:=by
 induction r with
 |refl=>exact h
 |step _ h2 ih=>exact .step ih h2
theorem BJ.head{f:bG}{a b c:Int}(h:b∈eB (bj f a))(r:BJ f b c):BJ f a c:=BJ.trans (.step (.refl a) h) r
theorem BJ.VC{f:bG}(cF:valid f=true){a b:Int}(h:BJ f a b)(ha:gH f a):gH f b:=by
 induction h with
 |refl=>exact ha
 |step _ h2 ih=>exact gS cF ih.1 ih.2 _ h2
theorem uG{f:bG}{o:List Bool}(hl:o.length=f.steps.length){m:Int}(hm:gH f m)(b:Bool):o.getD m.toNat b=true↔dh o m:=by
 unfold dh;have:m.toNat<o.length:=by have:=hm.1;have:=hm.2;omega
 simp[List.getD_eq_getElem?_getD,List.getElem?_eq_getElem this]
theorem iz{f:bG}{o:List Bool}(hl:o.length=f.steps.length){n m:Int}(hn:gH f n)(hm:gH f m):dh (o.set n.toNat true) m↔m=n∨dh o m:=by
 unfold dh;have h1:m.toNat<o.length:=by have:=hm.1;have:=hm.2;omega
 simp only[List.getD_eq_getElem?_getD,List.getElem?_set];by_cases h:n.toNat=m.toNat
 ·have Gz:m=n:=by have:=hm.1;have:=hn.1;omega
  subst Gz;simp[h1]
 have Gz:m≠n:=fun e=>h (by rw[e]);simp[h,Gz]
structure XY(f:bG)(src:Int→Prop)(o o':List Bool):Prop where
 len:o'.length=o.length
 mono: ∀m,gH f m→dh o m→dh o' m
 fresh: ∀m,gH f m→dh o' m→ ¬dh o m→(∃b,src b∧BJ f b m)∧ ∀c∈eB (bj f m),dh o' c
theorem Ba(f:bG)(cF:valid f=true)(k:Nat)
  (ih: ∀out n,out.length=f.steps.length→gH f n→ ¬dh out n→out.count false≤k→XY f (· =n) out (visit f k out n)∧dh (visit f k out n) n):
  ∀(l:List Int) (o:List Bool),o.length=f.steps.length→(∀m∈l,gH f m)→o.count false≤k→XY f (· ∈l) o (dB f k o l)∧ ∀m∈l,dh (dB f k o l) m:=by
 intro l
 induction l with
 |nil=>exact fun o _ _ _=>⟨⟨rfl,fun _ _ h=>h,fun m _ h1 h2=>absurd h1 h2⟩,by simp⟩
 |cons b r ZB=>
  intro o hl hr hc;have hb:=hr b (by simp);have jT:dB f k o (b::r)=dB f k (if o.getD b.toNat true=true then o else visit f k o b) r:=by unfold dB;rw[List.foldl_cons]
  rw[jT];by_cases hm:o.getD b.toNat true=true
  ·rw[if_pos hm];have XZ:=(uG hl hb true).1 hm;obtain⟨h1,h2⟩:=ZB o hl (fun m h=>hr m (by simp[h])) hc;refine⟨⟨h1.len,h1.mono,fun m FP h3 h4=>?_⟩,fun m Uc=>?_⟩
   ·obtain⟨⟨s,h5,h6⟩,h7⟩:=h1.fresh m FP h3 h4;exact⟨⟨s,by simp[h5],h6⟩,h7⟩
   rcases List.mem_cons.1 Uc with rfl|h
   ·exact h1.mono _ hb XZ
   exact h2 m h
  rw[if_neg hm];have XZ: ¬dh o b:=fun h=>hm ((uG hl hb true).2 h);obtain⟨v1,v2⟩:=ih o b hl hb XZ hc;have hk:=mC f k o b;obtain⟨h1,h2⟩:=ZB (visit f k o b) (by rw[hk.1,hl]) (fun m h=>hr m (by simp[h])) (Nat.le_trans hk.2 hc);refine⟨⟨by rw[h1.len,v1.len],fun m FP h=>h1.mono m FP (v1.mono m FP h),fun m FP h3 h4=>?_⟩,fun m Uc=>?_⟩
  ·by_cases h5:dh (visit f k o b) m
   ·obtain⟨⟨s,rfl,h6⟩,h7⟩:=v1.fresh m FP h5 h4;exact⟨⟨s,by simp,h6⟩,fun c Vj=>h1.mono c (gS cF FP.1 FP.2 c Vj) (h7 c Vj)⟩
   obtain⟨⟨s,h6,h7⟩,h8⟩:=h1.fresh m FP h3 h5;exact⟨⟨s,by simp[h6],h7⟩,h8⟩
  rcases List.mem_cons.1 Uc with rfl|h
  ·exact h1.mono _ hb v2
  exact h2 m h
theorem GA(f:bG)(cF:valid f=true): ∀(k:Nat) (out:List Bool) (n:Int),out.length=f.steps.length→gH f n→ ¬dh out n→out.count false≤k→XY f (· =n) out (visit f k out n)∧dh (visit f k out n) n:=by
 intro k
 induction k with
 |zero=>
  intro out n hl hn ho hc;exfalso;have bt:n.toNat<out.length:=by have:=hn.1;have:=hn.2;omega
  have:out[n.toNat]=false:=by have h:=ho;unfold dh at h;simp only[List.getD_eq_getElem?_getD,List.getElem?_eq_getElem bt,Option.getD_some]at h;simpa using h
  have:0<out.count false:=List.count_pos_iff.2 (List.mem_iff_getElem.2 ⟨_,bt,this⟩);omega
 |succ k ih=>
  intro out n hl hn ho hc;have bt:n.toNat<out.length:=by have:=hn.1;have:=hn.2;omega
  have hf:out[n.toNat]? =some false:=by have h:=ho;unfold dh at h;simp only[List.getD_eq_getElem?_getD,List.getElem?_eq_getElem bt,Option.getD_some]at h;rw[List.getElem?_eq_getElem bt];simpa using h
  have ph:=iK hf;rw[rS];have R4:=gS cF hn.1 hn.2;obtain⟨h1,h2⟩:=Ba f cF k ih (eB (bj f n)) (out.set n.toNat true) (by simpa using hl) R4 (by omega);have o3:dh (dB f k (out.set n.toNat true) (eB (bj f n))) n:=h1.mono n hn ((iz hl hn hn).2 (.inl rfl));refine⟨⟨by rw[h1.len];simp,fun m hm h=>h1.mono m hm ((iz hl hn hm).2 (.inr h)),fun m hm h3 h4=>?_⟩,o3⟩;by_cases Gz:m=n
  ·subst Gz;exact⟨⟨m,rfl,.refl m⟩,h2⟩
  obtain⟨⟨b,h5,h6⟩,h7⟩:=h1.fresh m hm h3 (fun h=>by
   rcases(iz hl hn hm).1 h with h|h
   ·exact Gz h
   exact h4 h)
  exact⟨⟨n,rfl,BJ.head h5 h6⟩,h7⟩
theorem gI(n:Nat)(m:Int): ¬dh (List.replicate n false) m:=by unfold dh;rw[List.getD_eq_getElem?_getD,List.getElem?_replicate];split<;>simp
theorem pM(f:bG)(n:Int):(cu f n).length=f.steps.length:=by unfold cu;rw[(mC f _ _ _).1];simp
theorem BK{f:bG}(cF:valid f=true){n m:Int}(hn:gH f n)(hm:gH f m):dh (cu f n) m↔BJ f n m:=by
 obtain⟨h1,h2⟩:=GA f cF f.steps.length (List.replicate f.steps.length false) n (by simp) hn (gI _ _) (by simp);constructor
 ·intro h;obtain⟨⟨b,rfl,h3⟩,_⟩:=h1.fresh m hm h (gI _ _);exact h3
 intro h;clear hm
 induction h with
 |refl=>exact h2
 |step Fh Vk ih=>
  have hb:=Fh.VC cF hn;exact(h1.fresh _ hb ih (gI _ _)).2 _ Vk
theorem GB{l:List Bool}{j:Nat}{x:Int}:x∈ib j l↔ ∃i:Nat,l[i]? =some true∧x=((j+i:Nat):Int):=by
 induction l generalizing j with
 |nil=>simp[ib]
 |cons b r ih=>
  simp only[ib,List.mem_append,ih];constructor
  ·rintro(h|⟨i,h1,h2⟩)
   ·cases b with
    |true=>exact⟨0,by simp,by simpa using h⟩
    |false=>simp at h
   exact⟨i+1,by simpa using h1,by rw[h2];congr 1;omega⟩
  rintro⟨i,h1,h2⟩;cases i with
  |zero=>
   left;simp only[List.getElem?_cons_zero,Option.some.injEq]at h1;subst h1;simpa using h2
  |succ i=>exact .inr ⟨i,by simpa using h1,by rw[h2];congr 1;omega⟩
theorem wV{l:List Bool}{x:Int}:x∈ib 0 l↔(0≤x∧x<l.length)∧dh l x:=by
 rw[GB];unfold dh;constructor
 ·rintro⟨i,h1,rfl⟩;have:=(List.getElem?_eq_some_iff.1 h1).1;refine⟨⟨by omega,by omega⟩,?_⟩;rw[List.getD_eq_getElem?_getD];simp[h1]
 rintro⟨⟨h1,h2⟩,h3⟩;refine⟨x.toNat,?_,by omega⟩;have:x.toNat<l.length:=by omega
 rw[List.getD_eq_getElem?_getD,List.getElem?_eq_getElem this]at h3;rw[List.getElem?_eq_getElem this];simpa using h3
theorem ky{f:bG}{n:Int}:given f [n]=true↔valid f=true∧gH f n:=by unfold given qH gH;simp
theorem follow_eq{f:bG}{n:Int}(cF:valid f=true)(hn:gH f n):follow f n=eB (bj f n):=by unfold follow;rw[if_pos (ky.2 ⟨cF,hn⟩)]
end Go.Proofs.YtbfjdfecgiegpaaGreatDoor
namespace Go.Proofs.YtbfjdfecgiegpaaGreatDoor
open Go Go.K Tryz
set_option maxRecDepth 10000
attribute [local irreducible] W WL cS bh bY bB bA bC cL cD
set_option maxHeartbeats 4000000
def y8(g:G)(v:Value)(p:Int×List Int):Prop:=∃a n c,v= .agg #[vI p.1,.slice a n c]∧Rs g (.slice a n c) p.2
theorem y8.mono{g g':G}{v:Value}{p:Int×List Int}(hle:g.le g')(h:y8 g v p):y8 g' v p:=by obtain⟨a,n,c,e,h1⟩:=h;exact⟨a,n,c,e,h1.mono hle⟩
def zt(g:G)(v:Value)(l:List Int):Prop:=(l=[]∧v= .slice none 0 0)∨(l≠[]∧ ∃a c,v= .slice (some a) l.length c∧Rs g v l)
theorem zt.mono{g g':G}{v:Value}{l:List Int}(h:zt g v l)(hle:g.le g'):zt g' v l:=by
 rcases h with h|⟨h1,a,c,h2,h3⟩
 ·exact .inl h
 exact .inr ⟨h1,a,c,h2,h3.mono hle⟩
theorem zt.of{g:G}{v:Value}{l:List Int}(h:Rs g v l)(h0:l≠[]):zt g v l:=by
 obtain⟨a,n,c,rfl,rfl,_,h3⟩:=id h;rcases h3 with h3|⟨b,o,cells,rfl,_⟩
 ·exact absurd (List.eq_nil_of_length_eq_zero h3) h0
 exact .inr ⟨h0,_,_,rfl,h⟩
theorem Lu(v:Value)(f:bG)(g:G)(dt:fP g v f):
  cN prog 85 #[v] g fun g' r=>y8 g' r (check f):=by
 obtain⟨a1,n1,c1,a2,n2,c2,rfl,aH,aW⟩:=id dt;obtain⟨_,_,e⟩:=aH.isSlice;obtain⟨rfl,rfl,rfl⟩:=Value.slice.inj e;clear e;have hs:=St.start g;have ar:=G.le.refl g;refine enter func85 rfl ntmps85 rfl<|cR<|An hs rfl fun bf g2 hs ai aD=>?_;obtain⟨aW,dt⟩:=cr ai aW dt;refine w4 hs rfl fun br g1 hs ai=>?_;obtain⟨aD,aW,dt⟩:=dR ai aD aW dt;refine b_<|LH<|az ?_;apply ea (fe (.f (Fact.rs (reach f 0))::(fe (.f (Fact.rs (ends f))::(.f (Fact.rs (reach f 0))::(.f (Fact.rs (ends f))::[])))))) 6 [(4,3),(5,4)] (by kernel_rfl)
 ·refine pO [[]] [.e aD 0] (St.start _) rfl<|fR [(0,14)] (fun gd hf=>?_) ?_
  ·have eT:=(G.bI _).trans hf.le;refine ah rfl<|aj<|ay rfl<|aC (Wc 162) aK rfl rfl rfl rfl rfl (E0 _ f 0 _ (dt.mono eT)) fun g' v h1 h2=>?_
   obtain⟨g2,e1,e2,e3,e4⟩:=(St.start gd).jO h1 h2;exact⟨g2,e1,e2.rh,e4⟩
  refine pO [[]] [.e aD 0] (St.start _) rfl<|fR [(2,16)] (fun gd hf=>?_) ?_
  ·have eT:=(G.bI _).trans hf.le;refine ah rfl<|aj<|ay rfl<|aC (Wc 163) aK rfl rfl rfl rfl rfl (O0 _ f _ (dt.mono eT)) fun g' v h1 h2=>?_
   obtain⟨g2,e1,e2,e3,e4⟩:=(St.start gd).jO h1 h2;exact⟨g2,e1,e2.rh,e4⟩
  exact fR [(1,15),(1,15)] (fun gd hf=>ba fun v1 h1=>(ba fun v1 h1=>(aj (aaL rfl h1))))<|fR [(3,17),(3,17)] (fun gd hf=>ba fun v3 h3=>(ba fun v3 h3=>(aj (aaL rfl h3))))<|gG
 intro g1 aP;refine ba fun v4 h4=>?_;refine ba fun v5 h5=>?_;apply aj;replace hs:=hs.dr.call aP;have ai:=(G.bI _).trans aP.le;obtain⟨aD,aW,dt⟩:=dR ai aD aW dt;have cd:Rs g1 v4 (reach f 0):=h4;have bR:Rs g1 v5 (ends f):=h5;obtain⟨al,cl,rfl⟩:=cd.isSlice;obtain⟨ae,ce,rfl⟩:=bR.isSlice;have vz:=qB f 0;have Oh:(ends f).length≤40:=by unfold ends;exact Nat.le_trans (List.length_filter_le _ _) vz
 have HM: ∀x∈reach f 0,valid f=true∧gH f x:=fun x hx=>by
  have h1:=jA hx;unfold reach at hx;split at hx
  ·rename_i hg;exact⟨(ky.1 hg).1,h1⟩
  simp at hx
 have VK: ∀x∈ends f,gH f x:=fun x hx=>by unfold ends at hx;exact jA (List.mem_filter.1 hx).1
 clear h4 h5;refine b_<|az<|LI<|aq<|az<|aZ rfl<|aI ?_;have HI:=dt;have mP:=aD;have wX:=cd;have HQ:=bR;have jH:=G.le.refl g1
 refine bK (fun m a' w=> ∃(k:Nat) (g2:G),w=g2.w∧St g g2 [vO br [vI 0,.slice none 0 0] 124]∧G.le g1 g2∧k≤(reach f 0).length∧m=(reach f 0).length-k∧rj f ((reach f 0).drop k)=rj f (reach f 0)∧
   Fr 74 [] [(1,vP bf),(2,vP br),(3,.slice al (reach f 0).length cl),(4,.slice ae (ends f).length ce),(18,.slice al (reach f 0).length cl),(19,vI (reach f 0).length),(20,vI k)] a') (reach f 0).length
  (fun a' ha=>⟨0,g1,rfl,hs,jH,Nat.zero_le _,rfl,by rw[List.drop_zero],ha.kp rfl⟩) ?_
 clear hs jH aD aH aW cd bR dt;rintro m a' _ ⟨k,g2,rfl,hs,jH,hk,rfl,de,dW⟩;have aD:=mP.mono jH;have dt:=HI.mono jH;have cd:=wX.mono jH;have bR:=HQ.mono jH;revert a';refine ct<|aZ rfl<|az ?_;by_cases bt:k<(reach f 0).length
 ·refine aJ (b:=decide ((k:Int)<((reach f 0).length:Int))) (by simp;omega) rfl ?_;rw[List.drop_eq_getElem_cons bt]at de;unfold rj at de;rw[List.find?_cons]at de;obtain⟨cF,lx⟩:=HM _ (List.getElem_mem bt);generalize eO:(reach f 0)[k]=n at*;refine aF<|aq<|az<|aI<|cR<|zc (y:=n) cd (by rw[bZ (j:=k) rfl bt,eO]) rfl ?_;rintro b p ys aL rfl;refine q5 1 [.e aL 0] rfl<|aX rfl<|sP 2 [.z aD] rfl<|sO rfl (uw _ f n _ dt cF lx.1 lx.2) fun g3 v fD eh=>?_;obtain⟨g4,Qk,Ko,W5,oZ⟩:=hs.jO fD eh;have ai:=fD.le.trans W5;rw[←Qk];replace hs:=Ko;obtain⟨aD,cd,bR,dt⟩:=dK ai aD cd bR dt;replace jH:=jH.trans ai;obtain⟨am,cm,rfl⟩:=oZ.isSlice;rw[eG]at oZ;rw[eG];refine aX rfl<|az<|aZ rfl<|aI ?_;have Di:=dt;have pN:=aD;have ud:=cd;have HK:=bR;have W6:=oZ;have lG:=G.le.refl g4
  refine bK (fun m a' w=> ∃(j:Nat) (g5:G),w=g5.w∧St g g5 [vO br [vI 0,.slice none 0 0] 124]∧G.le g4 g5∧j≤(ends f).length∧m=(ends f).length-j∧alive f n=((ends f).drop j).any (fun e=>(cu f n).getD e.toNat false)∧
    Fr 74 [] [(1,vP bf),(2,vP br),(3,.slice al (reach f 0).length cl),(4,.slice ae (ends f).length ce),(18,.slice al (reach f 0).length cl),(19,vI (reach f 0).length),(20,vI k),
     (6,vI n),(7,.slice am f.steps.length cm),(27,.slice ae (ends f).length ce),(28,vI (ends f).length),(29,vI j)] a') (ends f).length
   (fun a' ha=>⟨0,g4,rfl,hs,lG,Nat.zero_le _,rfl,rfl,ha.kp rfl⟩) ?_
  clear hs lG aD cd bR dt oZ;rintro m a' _ ⟨j,g5,rfl,hs,lG,hj,rfl,vE,dW⟩;have aD:=pN.mono lG;have dt:=Di.mono lG;have cd:=ud.mono lG;have bR:=HK.mono lG;have aW:=W6.mono lG;revert a';refine ct<|aZ rfl<|az ?_;by_cases CY:j<(ends f).length
  ·refine aJ (b:=decide ((j:Int)<((ends f).length:Int))) (by simp;omega) rfl ?_;rw[List.drop_eq_getElem_cons CY,List.any_cons]at vE;have FY:=VK _ (List.getElem_mem CY);generalize OR:(ends f)[j]=e at*;have HR:e.toNat<(cu f n).length:=by rw[eG];have:=FY.1;have:=FY.2;omega
   have VM:(cu f n).getD e.toNat false=(cu f n)[e.toNat]:=by rw[List.getD_eq_getElem?_getD,List.getElem?_eq_getElem HR];rfl
   rw[VM]at vE;refine aF<|aq<|az<|aI<|cR<|zc (y:=e) bR (by rw[bZ (j:=j) rfl CY,OR]) rfl ?_;rintro b p ys aL rfl;refine q5 1 [.e aL 0] rfl<|aX rfl<|cG 2 rfl<|zc (y:=(cu f n)[e.toNat]) aW (bZ (by have:=FY.1;omega) HR) rfl ?_;rintro b p ys aL rfl;refine q5 1 [.e aL 0] rfl<|b_ ?_;cases hb:(cu f n)[e.toNat]with
   |true=>
    rw[hb,Bool.true_or]at vE;refine aas rfl<|bc ?_;((with_reducible refine Og ?_ ?_);exact rfl);refine bg<|bg ?_;((with_reducible refine Og ?_ ?_);exact rfl);exact bg<|cA<|aq<|an<|Wp 2 rfl<|aA<|fun a ha=>⟨(reach f 0).length-(k+1),by omega,k+1,_,rfl,hs,jH.trans lG,by omega,rfl,by unfold rj;rw[←de,vE];rfl,ha.keep ⟨rfl,rfl,rfl,rfl,rfl,rfl,kW rfl,trivial⟩⟩
   |false=>
    rw[hb,Bool.false_or]at vE;exact aar rfl<|aF<|bJ<|aq<|an<|Wp 2 rfl<|aA<|fun a ha=>⟨(ends f).length-(j+1),by omega,j+1,_,rfl,hs,lG,by omega,rfl,vE,ha.keep ⟨rfl,rfl,rfl,rfl,rfl,rfl,rfl,rfl,rfl,rfl,rfl,kW rfl,trivial⟩⟩
  refine aQ (b:=decide ((j:Int)<((ends f).length:Int))) (by simp;omega) rfl ?_;rw[List.drop_of_length_le (by omega)]at vE;rw[show alive f n=false from vE]at de;refine bc<|bg<|bg<|cA<|aq<|cG 1 rfl<|BP [(0,vI n)] [vI n] hs rfl rfl fun b2 g2 hs ai=>?_;obtain⟨aD,cd,bR,dt⟩:=dK ai aD cd bR dt;obtain⟨g3,vT,ED,Ak,CZ⟩:=hs.cP (α:=Int) (xs:=[n]) (i:=0) rfl (cY.ints _ [n]);clear ai;have ai:=Ak;rw[←vT];replace hs:=ED;obtain⟨aD,cd,bR,dt⟩:=dK ai aD cd bR dt;refine BO [(0,vI 1),(1,.slice (vA b2) 1 1)] [vI 1,.slice (vA b2) 1 1] [(0,1),(1,1)] rfl<|sN 0 hs rfl fun g9 hs ai=>?_;obtain⟨aD,cd,bR,dt⟩:=dK ai aD cd bR dt;replace CZ:=CZ.mono ai;refine b_<|aG<|gQ<|dO<|dO<|gQ<|dO ?_;apply O1;refine me T.ok 0 rfl hs rfl rfl rfl<|hs.ret ?_;have vC:check f=(1,[n]):=by unfold check rj;rw[←de];rfl
  rw[vC];exact⟨_,_,_,rfl,CZ⟩
 refine aQ (b:=decide ((k:Int)<((reach f 0).length:Int))) (by simp;omega) rfl ?_;rw[List.drop_of_length_le (by omega)]at de;refine bc<|bg<|bg<|cA<|aq<|aZ rfl<|az<|aZ rfl<|aI ?_;have Di:=dt;have pN:=aD;have ud:=cd;have lG:=G.le.refl g2
 refine bK (fun m a' w=> ∃(j:Nat) (bv:Value) (g5:G),w=g5.w∧St g g5 [vO br [vI 0,.slice none 0 0] 124]∧G.le g2 g5∧j≤(reach f 0).length∧m=(reach f 0).length-j∧zt g5 bv (aaE f ((reach f 0).take j))∧
   Fr 74 [] [(1,vP bf),(2,vP br),(10,bv),(42,.slice al (reach f 0).length cl),(43,vI (reach f 0).length),(44,vI j)] a') (reach f 0).length
  (fun a' ha=>⟨0,_,g2,rfl,hs,lG,Nat.zero_le _,rfl,.inl ⟨rfl,rfl⟩,ha.kp rfl⟩) ?_
 clear hs lG aD cd bR dt;rintro m a' _ ⟨j,bv,g5,rfl,hs,lG,hj,rfl,ly,dW⟩;have aD:=pN.mono lG;have dt:=Di.mono lG;have cd:=ud.mono lG;revert a';refine ct<|aZ rfl<|az ?_;by_cases CY:j<(reach f 0).length
 ·refine aJ (b:=decide ((j:Int)<((reach f 0).length:Int))) (by simp;omega) rfl ?_;have ri:=wZ f ((reach f 0).take j) (reach f 0)[j];rw[←List.take_succ_eq_append_getElem CY]at ri;obtain⟨cF,lx⟩:=HM _ (List.getElem_mem CY);have UX:gH f 0:=⟨by omega,by have:=lx.1;have:=lx.2;omega⟩;generalize eO:(reach f 0)[j]=n at*;refine aF<|aq<|az<|aI<|cR<|zc (y:=n) cd (by rw[bZ (j:=j) rfl CY,eO]) rfl ?_;rintro b p ys aL rfl;refine q5 1 [.e aL 0] rfl<|aX rfl<|az ?_;apply ea (eF (.f (Fact.rs (cu f 0))::(fe (.f (Fact.rs (dT f (cu f 0) n))::(.f (Fact.rs (dT f (cu f 0) n))::[]))))) 6 [(5,13)] (by kernel_rfl)
  ·refine pO [[],[]] [.e aD 0,.e aD 0] (St.start _) rfl<|fR [(1,49)] (fun gd hf=>?_) ?_
   ·have eT:=(G.bI _).trans hf.le;refine ah rfl<|aj<|ay rfl<|aC (Wc 164) aK rfl rfl rfl rfl rfl (uw _ f 0 _ (dt.mono eT) cF UX.1 UX.2) fun g' v h1 h2=>?_
    obtain⟨g2,e1,e2,e3,e4⟩:=(St.start gd).jO h1 h2;exact⟨g2,e1,e2.rh,e4⟩
   refine EF [[]] rfl<|fR [(0,48),(2,50),(3,51),(2,50)] (fun gd hf=>?_) ?_
   ·have eT:=(G.bI _).trans hf.le;refine ah rfl<|ba fun v2 h2=>?_;refine ah rfl ?_;refine ba fun v2 h2=>?_
    refine aj<|ay rfl<|aC (Wc 165) aK rfl rfl rfl rfl rfl (LJ _ _ f (cu f 0) n _ (dt.mono eT) h2 cF (eG f 0) lx.1 lx.2) fun g' v h1 h2=>?_
    exact⟨g',rfl,h1,h2⟩
   exact fR [(4,52),(4,52),(4,52)] (fun gd hf=>ba fun v4 h4=>(ba fun v4 h4=>(ba fun v4 h4=>(aj (aaL rfl h4)))))<|gG
  intro g1 aP;refine ba fun v5 h5=>?_;apply aj;replace hs:=hs.dr.call aP;have ai:=(G.bI _).trans aP.le;replace lG:=lG.trans ai;replace ly:=ly.mono ai;have bR:Rs g1 v5 (dT f (cu f 0) n):=h5;clear h5;unfold sM at ri;generalize MO:dT f (cu f 0) n=cy at*;obtain⟨ac,cc,rfl⟩:=bR.isSlice;refine b_<|cG 4 rfl ?_;by_cases nS:0<cy.length
  ·refine bM 56 (b':=true) (decide_eq_true (by omega)) rfl ?_;have MD:cy≠[]:=List.length_pos_iff.1 nS;rcases ly with⟨yy,rfl⟩|⟨yy,ab,cb,rfl,TA⟩
   ·rw[if_pos ⟨nS,.inl yy⟩]at ri;exact Wp 1 rfl<|ak rfl rfl<|gK T.ok (neg:=false) rfl rfl rfl rfl rfl<|aX rfl<|aas rfl<|an<|Wp 2 rfl<|aA<|bJ<|aq<|an<|Wp 2 rfl<|aA<|fun a ha=>⟨(reach f 0).length-(j+1),by omega,j+1,_,_,rfl,hs,lG,by omega,rfl,by rw[ri];exact .of bR MD,ha.keep ⟨rfl,rfl,rfl,rfl,rfl,kW rfl,trivial⟩⟩
   refine Wp 1 rfl<|ak rfl rfl<|gK T.ok (neg:=false) rfl rfl rfl rfl rfl<|aX rfl ?_;by_cases fw:cy.length<(aaE f ((reach f 0).take j)).length
   ·rw[if_pos ⟨nS,.inr fw⟩]at ri;exact aJ (b:=decide ((cy.length:Int)<((aaE f ((reach f 0).take j)).length:Int))) (by simp;omega) rfl<|an<|Wp 2 rfl<|aA<|bJ<|aq<|an<|Wp 2 rfl<|aA<|fun a ha=>⟨(reach f 0).length-(j+1),by omega,j+1,_,_,rfl,hs,lG,by omega,rfl,by rw[ri];exact .of bR MD,ha.keep ⟨rfl,rfl,rfl,rfl,rfl,kW rfl,trivial⟩⟩
   rw[if_neg (fun h=>h.2.elim yy fw)]at ri;exact aQ (b:=decide ((cy.length:Int)<((aaE f ((reach f 0).take j)).length:Int))) (by simp;omega) rfl<|aF<|bJ<|aq<|an<|Wp 2 rfl<|aA<|fun a ha=>⟨(reach f 0).length-(j+1),by omega,j+1,_,_,rfl,hs,lG,by omega,rfl,by rw[ri];exact .inr ⟨yy,_,_,rfl,TA⟩,ha.keep ⟨rfl,rfl,rfl,rfl,rfl,kW rfl,trivial⟩⟩
  refine bM 56 (b':=false) (decide_eq_false (by omega)) rfl ?_;rw[if_neg (fun h=>nS h.1)]at ri;exact aX rfl<|aar rfl<|aF<|bJ<|aq<|an<|Wp 2 rfl<|aA<|fun a ha=>⟨(reach f 0).length-(j+1),by omega,j+1,_,_,rfl,hs,lG,by omega,rfl,by rw[ri];exact ly,ha.keep ⟨rfl,rfl,rfl,rfl,rfl,kW rfl,trivial⟩⟩
 refine aQ (b:=decide ((j:Int)<((reach f 0).length:Int))) (by simp;omega) rfl ?_;rw[List.take_of_length_le (by omega)]at ly;refine bc<|bg<|bg<|cA<|aq<|az<|cG 1 rfl ?_;have vC:check f=if aaE f (reach f 0)=[]then(0,[])else(2,aaE f (reach f 0)):=by unfold check;rw[←de];rfl
 rcases ly with⟨yy,rfl⟩|⟨yy,ab,cb,rfl,TA⟩
 ·rw[if_pos yy]at vC;refine ak rfl rfl<|gK T.ok (neg:=false) rfl rfl rfl rfl rfl<|b_<|aas rfl<|cR<|BO [] [vI 0,.slice none 0 0] [(0,1),(1,1)] rfl<|sN 0 hs rfl fun g9 hs ai=>b_<|aG<|dO ?_;apply O1;refine me T.ok 0 rfl hs rfl rfl rfl<|hs.ret ?_;rw[vC];exact⟨_,_,_,rfl,Rs.nil _⟩
 rw[if_neg yy]at vC;refine ak rfl rfl<|gK T.ok (neg:=false) rfl rfl rfl rfl rfl<|b_<|aar rfl<|aF<|aq<|cG 1 rfl<|BO [(0,vI 2),(1,.slice (some ab) (aaE f (reach f 0)).length cb)] [vI 2,.slice (some ab) (aaE f (reach f 0)).length cb] [(0,1),(1,1)] rfl<|sN 0 hs rfl fun g9 hs ai=>?_;replace TA:=TA.mono ai;refine b_<|aG ?_;apply O1;refine me T.ok 0 rfl hs rfl rfl rfl<|hs.ret ?_;rw[vC];exact⟨_,_,_,rfl,TA⟩
end Go.Proofs.YtbfjdfecgiegpaaGreatDoor
namespace Go.Proofs.YtbfjdfecgiegpaaGreatDoor
open Go Go.K Tryz
set_option maxRecDepth 10000
attribute [local irreducible] W WL cS bh bY bB bA bC cL cD
set_option maxHeartbeats 1000000
def zo:bG:=⟨0,0,[],[]⟩
def Qe(g:G)(cs:List Value)(o:Option bG)(h:List bO):Prop:=
 ∃a1 n1 c1 a2 n2 c2 a3 c3,cs=[vI (o.getD zo).dm,vI (o.getD zo).dv,.slice a1 n1 c1,.slice a2 n2 c2,.bool o.isSome,.slice a3 h.length c3]∧Rs g (.slice a1 n1 c1) (o.getD zo).steps∧Rs g (.slice a2 n2 c2) (o.getD zo).windows∧Rs g (.slice a3 h.length c3) h
theorem Qe.mono{g g':G}{cs:List Value}{o:Option bG}{h:List bO}(k:Qe g cs o h)(hle:g.le g'):Qe g' cs o h:=by obtain⟨a1,n1,c1,a2,n2,c2,a3,c3,e,h1,h2,h3⟩:=k;exact⟨a1,n1,c1,a2,n2,c2,a3,c3,e,h1.mono hle,h2.mono hle,h3.mono hle⟩
def Kl(g:G)(v:Value)(o:Option bG)(h:List bO):Prop:=∃cs,v= .agg cs.toArray∧Qe g cs o h
theorem Kl.mono{g g':G}{v:Value}{o:Option bG}{h:List bO}(k:Kl g v o h)(hle:g.le g'):Kl g' v o h:=by obtain⟨cs,e,k⟩:=k;exact⟨cs,e,k.mono hle⟩
def fQ(b:eL)(w time:Int):Option bG:=
 if((ni b w time).getD fS).prod=0 then none
 else match b.pw.find? fun f=>f.prod==((ni b w time).getD fS).prod with
  |none=>none
  |some t=>match kx t.text with
   | .inl f=>if(check f).1=0 then some f else none
   | .inr _=>none
def Zf(b:eL):Prop:=∀f∈b.pw,f.text.length≤999999
theorem EV(v u:Value)(b:eL)(w time:Int)(h:List bO)(g:G)(aT:fV g v b)(aH:Rs g u h)(hb:Zf b)(cw:jo g):cN prog 33 #[v,vI w,vI time,u] g fun g' r=>Kl g' r (fQ b w time) h:=by
 have hs:=St.start g;have ar:=G.le.refl g;obtain⟨sl,rfl,dS⟩:=aT;have aT:fV g (.agg ((List.range 11).map sl).toArray) b:=⟨sl,rfl,dS⟩;obtain⟨a3,c3,rfl⟩:=aH.isSlice;refine enter func33 rfl ntmps33 rfl<|cR<|An hs rfl fun b4 g2 hs ai aD=>?_;obtain⟨aH,aT,cw⟩:=dR ai aH aT cw;refine w4 hs rfl fun b8 g1 hs ai=>?_;obtain⟨aD,aH,aT,cw⟩:=dK ai aD aH aT cw;refine b_<|cG 1 rfl<|BO [(2,.slice a3 h.length c3)] [vI 0,vI 0,.slice none 0 0,.slice none 0 0,.bool false,.slice a3 h.length c3] [(0,4),(4,1),(5,1)] rfl<|w4 hs rfl fun b9 g1 hs ai=>?_;obtain⟨aD,aH,aT,cw⟩:=dK ai aD aH aT cw;refine sN 0 hs rfl fun g1 hs ai=>?_;obtain⟨aD,aH,aT,cw⟩:=dK ai aD aH aT cw;refine b_<|sP 3 [.z aD] rfl<|sO rfl (Nk _ b w time _ aT) ?_;rintro g1 _ aP rfl;replace hs:=hs.call aP;have ai:=aP.le;obtain⟨aD,aH,aT,cw⟩:=dK ai aD aH aT cw
 have oT:fQ b w time=if((ni b w time).getD fS).prod=0 then none else match b.pw.find? fun f=>f.prod==((ni b w time).getD fS).prod with
  |none=>none
  |some t=>match kx t.text with
   | .inl f=>if(check f).1=0 then some f else none
   | .inr _=>none:=rfl
 generalize((ni b w time).getD fS).prod=pr at oT⊢;clear aP;refine aX rfl<|az<|aZ rfl ?_;by_cases KH:pr=0
 ·rw[if_pos KH]at oT;rw[oT];refine aJ (b:=pr==0) (by simp[KH]) rfl<|c_ 1 [.o 0] hs rfl<|sN 1 hs rfl fun g1 hs ai=>?_;obtain⟨aD,aH,aT,cw⟩:=dK ai aD aH aT cw;refine b_<|aG (me T.ok 1 rfl hs rfl rfl rfl (hs.ret ⟨_,rfl,none,0,0,none,0,0,a3,c3,rfl,Rs.nil _,Rs.nil _,aH⟩))
 rw[if_neg KH]at oT;refine aQ (b:=pr==0) (by simp[KH]) rfl<|aF<|aq<|sP 2 [.z aD] rfl<|sO rfl (Lg _ b pr _ aT) ?_;rintro g1 _ aP rfl;replace hs:=hs.call aP;have ai:=aP.le;obtain⟨aH,cw⟩:=cr ai aH cw;clear aP;cases Ac:b.pw.find? (fun f=>f.prod==pr)with
 |none=>
  rw[Ac]at oT;rw[show fQ b w time=none from oT];refine Wp 3 rfl<|w4 hs rfl fun P2 g1 hs ai=>?_;obtain⟨aH,cw⟩:=cr ai aH cw;refine Hs 0 hs rfl fun g2 hs ai aL=>?_;obtain⟨aH,cw⟩:=cr ai aH cw;clear aL;refine aX rfl<|az<|aZ rfl<|aas rfl<|c_ 1 [.o 0] hs rfl<|sN 1 hs rfl fun g1 hs ai=>?_;obtain⟨aH,cw⟩:=cr ai aH cw;refine b_<|aG (me T.ok 1 rfl hs rfl rfl rfl (hs.ret ⟨_,rfl,none,0,0,none,0,0,a3,c3,rfl,Rs.nil _,Rs.nil _,aH⟩))
 |some t=>
  rw[Ac]at oT;replace oT:fQ b w time=match kx t.text with| .inl f=>if(check f).1=0 then some f else none| .inr _=>none:=oT
  have KI:=hb t (List.mem_of_find?_eq_some Ac);refine Wp 3 rfl<|w4 hs rfl fun P2 g1 hs ai=>?_;obtain⟨aH,cw⟩:=cr ai aH cw;refine Hs 0 hs rfl fun g2 hs ai aM=>?_;obtain⟨aH,cw⟩:=cr ai aH cw;refine aX rfl<|az<|aZ rfl<|aar rfl<|aF<|aq<|sP 2 [.z aM] rfl<|sO rfl (Lp t.text _ KI cw) fun g6 v6 nY h6=>?_;replace hs:=hs.call nY;have ai:=nY.le;replace aH:=aH.mono ai;unfold jy at h6;cases sq:kx t.text with
  |inr k=>
   rw[sq]at h6 oT;rw[show fQ b w time=none from oT];obtain rfl:=h6;refine Wp 4 rfl<|w4 hs rfl fun Qy g1 hs ai=>?_;replace aH:=aH.mono ai;refine Hs 0 hs rfl fun g2 hs ai aL=>?_;replace aH:=aH.mono ai;clear aL;refine aX rfl<|az<|aZ rfl<|aar rfl<|aF<|aq<|c_ 1 [.o 0] hs rfl<|sN 1 hs rfl fun g1 hs ai=>?_;replace aH:=aH.mono ai;refine b_<|aG (me T.ok 1 rfl hs rfl rfl rfl (hs.ret ⟨_,rfl,none,0,0,none,0,0,a3,c3,rfl,Rs.nil _,Rs.nil _,aH⟩))
  |inl f=>
   rw[sq]at h6 oT;replace oT:fQ b w time=if(check f).1=0 then some f else none:=oT;obtain⟨v7,rfl,a1,n1,c1,a2,n2,c2,rfl,aW,cd⟩:=h6;refine Wp 4 rfl<|w4 hs rfl fun Qy g1 hs ai=>?_;obtain⟨aH,aW,cd⟩:=dR ai aH aW cd;refine Hs 0 hs rfl fun g2 hs ai cE=>?_;obtain⟨aH,aW,cd⟩:=dR ai aH aW cd;refine aX rfl<|az<|sP 4 [.z cE] rfl ?_;clear nY;refine sO rfl (Lu _ f _ ⟨a1,n1,c1,a2,n2,c2,rfl,aW,cd⟩) ?_;rintro g8 v8 IC ⟨a6,n6,c6,rfl,_⟩;replace hs:=hs.call IC;have ai:=IC.le;obtain⟨cE,aH,aW,cd⟩:=dK ai cE aH aW cd;refine aX rfl ?_;by_cases vC:(check f).1=0
   ·refine aJ (b:=(check f).1==0) (by simp[vC]) rfl<|an<|q5 2 [.z cE] rfl<|sN 0 hs rfl fun g1 hs ai=>?_;obtain⟨aH,aW,cd⟩:=dR ai aH aW cd;refine Wp 1 rfl<|sN 0 hs rfl fun g1 hs ai=>?_;obtain⟨aH,aW,cd⟩:=dR ai aH aW cd;refine b_<|c_ 1 [.o 0] hs rfl<|sN 1 hs rfl fun g1 hs ai=>?_;obtain⟨aH,aW,cd⟩:=dR ai aH aW cd;refine b_<|aG (me T.ok 1 rfl hs rfl rfl rfl (hs.ret ?_));rw[oT,if_pos vC];exact⟨_,rfl,a1,n1,c1,a2,n2,c2,a3,c3,rfl,aW,cd,aH⟩
   refine aQ (b:=(check f).1==0) (by simp[vC]) rfl<|aF<|aq<|c_ 1 [.o 0] hs rfl<|sN 1 hs rfl fun g1 hs ai=>?_;replace aH:=aH.mono ai;refine b_<|aG (me T.ok 1 rfl hs rfl rfl rfl (hs.ret ?_));rw[oT,if_neg vC];exact⟨_,rfl,none,0,0,none,0,0,a3,c3,rfl,Rs.nil _,Rs.nil _,aH⟩
end Go.Proofs.YtbfjdfecgiegpaaGreatDoor
