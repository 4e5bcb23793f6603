/- Parts of the proof, from: The walk through the shapes of facts. Printed by a program (mkB2.py) out of the region's operations. -/
import Derived.Test.YtbfjdfecgiegpaaGreatDoorYa
import Derived.Test.YtbfjdfecgiegpaaGreatDoorYc
import Derived.Test.YtbfjdfecgiegpaaGreatDoorYd
import Derived.Laws.StructEq
import Derived.Test.YtbfjdfecgiegpaaGreatDoorYb
import Derived.Lib.UnsafeStr
import Derived.Lib.ItoaNum
import Derived.Lib.AtoiAll
import Derived.Lib.SplitLaws
import Derived.Lib.CutLaws
import Derived.Lib.AppendIntMem
import Derived.Test.YtbfjdfecgiegpaaGreatDoorShelfP
namespace Go.Proofs.YtbfjdfecgiegpaaGreatDoor
open Go Go.K Tryz
set_option maxRecDepth 10000
attribute [local irreducible] W WL cS bh bY bB bA bC cL cD
set_option maxHeartbeats 4000000
def Kh:Nat→Nat
 |1=>112
 |2=>101
 |_=>114
def BQ(g:G)(v:Value)(s:CT):Prop:=∃a b,v= .agg #[a,b,.func (.func (Kh s.rest)) #[] #[],.bool s.jI]∧Rs g a s.fields∧Rs g b s.key
theorem BQ.mono{g g':G}{v:Value}{s:CT}(h:BQ g v s)(hle:g.le g'):BQ g' v s:=by obtain⟨a,b,e,h1,h2⟩:=h;exact⟨a,b,e,h1.mono hle,h2.mono hle⟩
def ue(s:CT):Fact:=⟨fun v g=>BQ g v s,fun _ _ _ hf h=>h.mono hf.le⟩
theorem gJ(s:CT):wN (ue s):=fun _ _ _ hle h=>BQ.mono h hle
abbrev OC(x:kK):Value:=.agg #[gA x.at_,vI x.lo,vI x.hi]
def q7(i:Nat):CT:=nT.getD i ⟨[],[],0,false⟩
variable {N:Nat} {ds:List Deferred} {ops:Array Oper} {Q:Exit→Act→World→Prop} {g g0:G} {o:Oper} {l:Env}
theorem lN{α:Type}[El α]{φs:List Fact}{es:List Nat}{ρ:Nat→Option Value}{k:Env→Prop}{j d:Nat}{r:List (Nat×Nat)}{xs:List α}(he:gT φs j=Fact.rs xs)(h: ∀a c,Rs g (.slice a xs.length c) xs→QU φs es ρ g r ((d,.slice a xs.length c)::l) k):QU φs es ρ g ((j,d)::r) l k:=by intro v hv _;rw[he]at hv;have hv:Rs g v xs:=hv;obtain⟨a,c,rfl⟩:=hv.isSlice;exact h a c hv
theorem lO{α:Type}[El α]{g g':G}{e:TypeId}{v:Value}{n:Nat}{cells:List Value}{xs:List α}(hs:St g g' [.row e (El.k α) v n cells])(hr:cY g' cells xs): ∃g2,g2.w=g'.w∧a_ g g2∧Rs g2 v xs:=by obtain⟨g2,e1,e2,_,e4⟩:=hs.cP (i:=0) rfl hr;exact⟨g2,e1,e2.rh,e4⟩
theorem H2(x:kK){parts:Array (Nat×Operand)}(hg:o9 ops l o.guard=some true)(ho:o.op= .build 132 parts)(hp:vF l (parts.toList.map (·.2))=some [gA x.at_,vI x.lo,vI x.hi])(vD:parts.toList.map (·.1)=[0,1,2]):
  DK Wd prog N ds ops Q (Fact.eq (OC x)) g o l:=
 ay hg (aS T.ok ho (vs:=[(0,gA x.at_),(1,vI x.lo),(2,vI x.hi)]) (cells:=[gA x.at_,vI x.lo,vI x.hi]) hp vD rfl rfl [(0,1),(1,1),(2,1)] rfl (by kernel_rfl) ⟨g,rfl,a_.refl g,rfl⟩)
theorem jq(xs:List kK){len:Nat}{parts:Array (Nat×Operand)}(hg:o9 ops l o.guard=some true)(ho:o.op= .buildSlice 87 len parts)(hp:vF l (parts.toList.map (·.2))=some (xs.map OC))(vD:parts.toList.map (·.1)=List.range len)(hl:xs.length=len)(hn:len*3≤1000)
  (pP:Instr.fill (fun i=>some (i*3,3)) ((Array.range (len*3)).map ((Value.agg #[.nilFunc,vI 0,vI 0]).cells[· % 3]!)) ((List.range len).zip (xs.map OC))=some (jP xs).toArray):DK Wd prog N ds ops Q (Fact.rs xs) g o l:=by
 refine ay hg (bE T.ok ho (St.start g) (vs:=(List.range len).zip (xs.map OC)) (cells:=jP xs) ?_ ?_ rfl rfl rfl rfl (by decide) (by show len*3≤16777216;omega) pP ?_ fun b g' hs hle=>?_)
 ·rw[hp,List.map_snd_zip (by simp[hl])]
 ·rw[vD,List.map_fst_zip (by simp[hl])]
 ·rw[(gj g xs).len,hl];rfl
 obtain⟨g2,e1,e2,e3⟩:=lO hs (gj g' xs);exact⟨g2,e1,e2,e3⟩
theorem n9(xs:List (List kK)){us:List Value}{len:Nat}{parts:Array (Nat×Operand)}(hg:o9 ops l o.guard=some true)(ho:o.op= .buildSlice 201 len parts)(hp:vF l (parts.toList.map (·.2))=some us)(vD:parts.toList.map (·.1)=List.range len)(hl:us.length=len)(hn:len*1≤1000)
  (pP:Instr.fill (fun i=>some (i*1,1)) ((Array.range (len*1)).map ((Value.slice none 0 0).cells[· % 1]!)) ((List.range len).zip us)=some us.toArray) (hr:cY g us xs):DK Wd prog N ds ops Q (Fact.rs xs) g o l:=by
 refine ay hg (bE T.ok ho (St.start g) (vs:=(List.range len).zip us) (cells:=us) ?_ ?_ rfl rfl rfl rfl (by decide) (by show len*1≤16777216;omega) pP (by show us.length=len*1;omega) fun b g' hs hle=>?_)
 ·rw[hp,List.map_snd_zip (by simp[hl])]
 ·rw[vD,List.map_fst_zip (by simp[hl])]
 obtain⟨g2,e1,e2,e3⟩:=lO hs (hr.mono hle);exact⟨g2,e1,e2,e3⟩
theorem jr{xs:List kK}{f:FuncId}(hc:ag prog f){x:Operand}{args:Array Operand}{ts:Array TypeId}{first captured:Array Value}{vs av:List Value}(hg:o9 ops l o.guard=some true)(ho:o.op= .call {callee:=.value x,args,argTypes:=ts})(hx:ev l x=some (.func (.func f) first captured))(ha:vF l args.toList=some vs)(has:first.toList++vs++captured.toList=av)
  (h:cN prog f av.toArray g (kh 132 g xs)):DK Wd prog N ds ops Q (Fact.rs xs) g o l:=
 ay hg (aC hc aK rfl ho hx ha has h fun g' v hf ⟨cells,h1,h2⟩=>by obtain⟨g2,e1,e2,e3⟩:=lO ((St.start g).lr hf h1) h2;exact⟨g2,e1,e2,e3⟩)
theorem lP(s:CT){v1 v2:Value}{parts:Array (Nat×Operand)}(hg:o9 ops l o.guard=some true)(ho:o.op= .build 89 parts)(hp:vF l (parts.toList.map (·.2))=some [v1,v2,.func (.func (Kh s.rest)) #[] #[],.bool s.jI])(vD:parts.toList.map (·.1)=[0,1,2,3])
  (h1:Rs g v1 s.fields) (h2:Rs g v2 s.key):DK Wd prog N ds ops Q (ue s) g o l:=by
 obtain⟨a1,c1,rfl⟩:=h1.isSlice;obtain⟨a2,c2,rfl⟩:=h2.isSlice;exact ay hg (aS T.ok ho (vs:=[(0,.slice a1 s.fields.length c1),(1,.slice a2 s.key.length c2),(2,.func (.func (Kh s.rest)) #[] #[]),(3,.bool s.jI)]) (cells:=[.slice a1 s.fields.length c1,.slice a2 s.key.length c2,.func (.func (Kh s.rest)) #[] #[],.bool s.jI]) hp vD rfl rfl [(0,1),(1,1),(2,1),(3,1)] rfl (by kernel_rfl) ⟨g,rfl,a_.refl g,_,_,rfl,h1,h2⟩)
def Ao:List (Int×Nat):=[(1,15),(2,24),(3,35),(4,45),(5,51),(6,60),(7,70),(8,79),(9,88),(10,97),(11,105)]
def M9(g0:G)(ρ:Nat→Option Value)(g:G):Prop:=
 (ρ 0=none∧(∀p∈Ao,ρ p.2=none)∧St g0 g [])∨
 ∃b oW,ρ 0=some (.map (some b))∧St g0 g [.obj b (eV oW)]∧(∀k v,jb k oW=some v→ ∃s,ee k=some s∧BQ g v s)∧ ∀p∈Ao,ρ p.2≠none→(jb p.1 oW).isSome=true
theorem H3{g0:G}(ρ:Nat→Option Value)(g g':G)(hf:a_ g g')(h:M9 g0 ρ g):M9 g0 ρ g':=by
 rcases h with⟨h1,h2,h3⟩|⟨b,oW,h1,h2,h3,h4⟩
 ·exact .inl ⟨h1,h2,h3.call hf⟩
 refine .inr ⟨b,oW,h1,h2.call hf,fun k v hk=>?_,h4⟩;obtain⟨s,e,hs⟩:=h3 k v hk;exact⟨s,e,hs.mono hf.le⟩
theorem uf{ρ:Nat→Option Value}{i j:Nat}{v:Value}(h:j≠i):su ρ i v j=ρ j:=if_neg h
theorem H4{ρ:Nat→Option Value}(hr:ρ 0=none)(hJ:M9 g0 ρ g)(ho:o.op= .makeMap 90 none):
  cS Wd prog N ds o l g.w Q fun u w'=> ∃dM,dM.w=w'∧(g.le dM∧M9 g0 (su ρ 0 u) dM)∧Fact.any.p u dM:=by
 rcases hJ with⟨_,h2,h3⟩|⟨b,oW,h1,_⟩
 ·refine kS (κ:=Int) ho h3 fun b g' hs hle=>⟨g',rfl,⟨hle,.inr ⟨b,[],rfl,hs,fun k v h=>(by cases h),fun p hp h=>?_⟩⟩,trivial⟩
  have eO:p.2≠0:=by
   have: ∀p∈Ao,p.2≠0:=by decide
   exact this p hp
  rw[uf eO,h2 p hp]at h;exact absurd rfl h
 rw[hr]at h1;cases h1
theorem jQ{ρ:Nat→Option Value}{k:Int}{i:Nat}(j9:(k,i)∈Ao){s:CT}(pQ:ee k=some s){m v:Value}(hr:ρ 0=some m)(hJ:M9 g0 ρ g)(hv:BQ g v s){mo ko vo:Operand}(ho:o.op= .insert 90 mo ko vo)
  (hm:ev l mo=some m) (hk:ev l ko=some (vI k)) (hx:ev l vo=some v):cS Wd prog N ds o l g.w Q fun u w'=> ∃dM,dM.w=w'∧(g.le dM∧M9 g0 (su ρ i u) dM)∧Fact.any.p u dM:=by
 rcases hJ with⟨h1,_⟩|⟨b,oW,h1,h2,h3,h4⟩
 ·rw[hr]at h1;cases h1
 rw[hr]at h1;obtain rfl:=Option.some.inj h1;refine dQ (κ:=Int) (a:=k) (Dk T.ok rfl rfl rfl rfl rfl) 0 (.inr ho) h2 rfl hm hk hx fun g' hs hle=>⟨g',rfl,⟨hle,.inr ⟨b,jK k v oW,?_,hs,fun k' v' Ki=>?_,fun p hp h=>?_⟩⟩,trivial⟩
 ·have eO:i≠0:=by
   have: ∀p∈Ao,p.2≠0:=by decide
   exact this _ j9
  rw[uf (fun h=>eO h.symm)];exact hr
 ·rw[ug]at Ki;split at Ki
  ·rename_i e;obtain rfl:=Option.some.inj Ki;exact⟨s,by rw[e];exact pQ,hv.mono hle⟩
  obtain⟨s',e,lB⟩:=h3 k' v' Ki;exact⟨s',e,lB.mono hle⟩
 rw[ug];split
 ·rfl
 rename_i eO;refine h4 p hp fun e=>h ?_;have M_:p.2≠i:=by
  intro e2;have: ∀p∈Ao,∀q∈Ao,p.2=q.2→p.1=q.1:=by decide
  exact eO (this p hp _ j9 e2)
 rw[uf M_];exact e
def K0(g:G)(oW:List (Int×Value)):Prop:=∀k,match ee k with
 |some s=> ∃v,jb k oW=some v∧BQ g v s
 |none=>jb k oW=none
def Dl(g:G)(b:Nat)(oW:List (Int×Value)):Prop:=g.im b∧g.w.heap[b]? =some (eV oW)
theorem Dl.mono{g g':G}{b:Nat}{oW:List (Int×Value)}(h:Dl g b oW)(hle:g.le g'):Dl g' b oW:=⟨(hle b h.1).1,(hle b h.1).2.trans h.2⟩
theorem K1{ρ:Nat→Option Value}(hJ:M9 g0 ρ g)(dj: ∀e,[0,15,24,35,45,51,60,70,79,88,97,105].contains e=true→ρ e≠none): ∃b oW g2,ρ 0=some (.map (some b))∧g2.w=g.w∧St g0 g2 []∧g.le g2∧Dl g2 b oW∧K0 g2 oW:=by
 rcases hJ with⟨h1,_⟩|⟨b,oW,h1,h2,h3,h4⟩
 ·exact absurd h1 (dj 0 rfl)
 have hle:=G.sQ g (some b) (fun b' hb=>by obtain rfl:=Option.some.inj hb;exact((h2.own 0 _ rfl).lt b rfl).2.1);refine⟨b,oW,g.fz (some b) _,h1,rfl,h2.fz (i:=0) rfl,hle,⟨.inr rfl,(h2.own 0 _ rfl).2.1⟩,fun k=>?_⟩;cases pQ:ee k with
 |none=>
  simp only;cases hm:jb k oW with
  |none=>rfl
  |some v=>obtain⟨s,e,_⟩:=h3 k v hm;rw[pQ]at e;cases e
 |some s=>
  simp only;have hk: ∃i,(k,i)∈Ao∧[0,15,24,35,45,51,60,70,79,88,97,105].contains i=true:=by
   unfold ee at pQ;split at pQ
   ·cases pQ
   have bt:=(List.getElem?_eq_some_iff.1 pQ).1;have hl:nT.length=11:=rfl;rw[hl]at bt;have:k=1∨k=2∨k=3∨k=4∨k=5∨k=6∨k=7∨k=8∨k=9∨k=10∨k=11:=by omega
   rcases this with rfl|rfl|rfl|rfl|rfl|rfl|rfl|rfl|rfl|rfl|rfl
   all_goals exact⟨_,by unfold Ao;simp only[List.mem_cons,Prod.mk.injEq];simp;rfl,by decide⟩
  obtain⟨i,hi,MT⟩:=hk;have:=h4 _ hi (dj i MT);cases hm:jb k oW with
  |none=>rw[hm]at this;cases this
  |some v=>
   obtain⟨s',e,hv⟩:=h3 k v hm;rw[pQ]at e;obtain rfl:=Option.some.inj e;exact⟨v,rfl,hv.mono hle⟩
theorem w5(g:G):cN prog 41 #[] g fun g' r=> ∃b oW,r= .map (some b)∧Dl g' b oW∧K0 g' oW:=by
 have hs:=St.start g;refine enter func41 rfl ntmps41 rfl<|aZ rfl<|cR<|Ev rfl (eE 1 _) hs fun g1 hs ai=>?_
 refine BP ((List.range (nR).length).zip ((nR).map OC)) (jP nR) hs rfl rfl fun b1 g1 hs ai=>?_;obtain⟨gz,gF,cK,gW,aW⟩:=hs.cP (i:=0) rfl (gj _ nR);clear ai;have ai:=gW;rw[←gF];replace hs:=cK;clear cK;refine aX rfl<|cR<|Ev rfl (eE 14 _) hs fun g1 hs ai=>?_;replace aW:=aW.mono ai;refine Ev rfl (eE 15 _) hs fun g1 hs ai=>?_;replace aW:=aW.mono ai;refine BP ((List.range (vv).length).zip ((vv).map OC)) (jP vv) hs rfl rfl fun b2 g1 hs ai=>?_;replace aW:=aW.mono ai;obtain⟨gz,gF,cK,gW,cd⟩:=hs.cP (i:=0) rfl (gj _ vv);clear ai;have ai:=gW;rw[←gF];replace hs:=cK;clear cK;replace aW:=aW.mono ai;refine aX rfl<|aZ rfl<|cR ?_
 refine BO [(0,gA 7),(1,vI (0)),(2,vI (1000000))] [gA 7,vI (0),vI (1000000)] [(0,1),(1,1),(2,1)] rfl<|BO [(0,gA 9),(1,vI (0)),(2,vI (1000000))] [gA 9,vI (0),vI (1000000)] [(0,1),(1,1),(2,1)] rfl<|BO [(0,gA 11),(1,vI (0)),(2,vI (60))] [gA 11,vI (0),vI (60)] [(0,1),(1,1),(2,1)] rfl<|BO [(0,gA 12),(1,vI (0)),(2,vI (4))] [gA 12,vI (0),vI (4)] [(0,1),(1,1),(2,1)] rfl<|BO [(0,gA 13),(1,vI (0)),(2,vI (40))] [gA 13,vI (0),vI (40)] [(0,1),(1,1),(2,1)] rfl<|BO [(0,gA 14),(1,vI (0)),(2,vI (1000000))] [gA 14,vI (0),vI (1000000)] [(0,1),(1,1),(2,1)] rfl<|BO [(0,gA 15),(1,vI (0)),(2,vI (1000000))] [gA 15,vI (0),vI (1000000)] [(0,1),(1,1),(2,1)] rfl<|BP ((List.range (pn).length).zip ((pn).map OC)) (jP pn) hs rfl rfl fun b4 g1 hs ai=>?_;obtain⟨aW,cd⟩:=cr ai aW cd;obtain⟨gz,gF,cK,gW,cj⟩:=hs.cP (i:=0) rfl (gj _ pn);clear ai;have ai:=gW;rw[←gF];replace hs:=cK;clear cK;obtain⟨aW,cd⟩:=cr ai aW cd;refine aX rfl<|cR<|BO [(0,gA 17),(1,vI (1)),(2,vI (255))] [gA 17,vI (1),vI (255)] [(0,1),(1,1),(2,1)] rfl<|w4 hs rfl fun b1 g1 hs ai=>?_;obtain⟨aW,cd,cj⟩:=dR ai aW cd cj;refine Hs 0 hs rfl fun g2 hs ai aD=>?_;obtain⟨aW,cd,cj⟩:=dR ai aW cd cj;refine b_<|cR<|BO [(0,gA 16),(1,vI (-1000000)),(2,vI (1000000))] [gA 16,vI (-1000000),vI (1000000)] [(0,1),(1,1),(2,1)] rfl<|w4 hs rfl fun b1 g1 hs ai=>?_;obtain⟨aD,aW,cd,cj⟩:=dK ai aD aW cd cj;refine Hs 0 hs rfl fun g2 hs ai aM=>?_;obtain⟨aD,aW,cd,cj⟩:=dK ai aD aW cd cj;refine b_<|az ?_;apply ny (.f Fact.any::(eF (.f (Fact.rs [(fj 7)])::(.f (Fact.rs fF)::(fe (.f (Fact.rs [(⟨13,0,39⟩:kK)])::(fe (.f (Fact.rs iw)::(fe (.f (Fact.rs [(⟨16,-10000000,10000000⟩:kK)])::(.f (Fact.rs (α:=List kK) [nR,[(fj 7)],fF,[(⟨13,0,39⟩:kK)],vv,iw,[(⟨16,-10000000,10000000⟩:kK)]])::(.f (Fact.rs (α:=kK) [nR,[(fj 7)],fF,[(⟨13,0,39⟩:kK)],vv,iw,[(⟨16,-10000000,10000000⟩:kK)]].flatten)::(fe (.f (ue (q7 0))::(.f Fact.any::(fe (eF (.f (Fact.rs [eZ,zZ])::(.f (Fact.rs (α:=List kK) [nR,[eZ,zZ]])::(.f (Fact.rs (α:=kK) [nR,[eZ,zZ]].flatten)::(fe (.f (ue (q7 1))::(.f Fact.any::(gU (.f (Fact.rs [(fj 7),(fj 8),eZ])::(.f (Fact.rs (α:=List kK) [nR,[(fj 7),(fj 8),eZ]])::(.f (Fact.rs (α:=kK) [nR,[(fj 7),(fj 8),eZ]].flatten)::(eF (.f (ue (q7 2))::(.f Fact.any::(gU (.f (Fact.rs [(fj 7),(fj 9),(fj 10),eZ])::(eF (.f (Fact.rs [(fj 7),eZ])::(.f (ue (q7 3))::(.f Fact.any::(fe (.f (Fact.rs [(fj 10)])::(fe (.f (Fact.rs [(fj 10)])::(.f (ue (q7 4))::(.f Fact.any::(fe (.f (Fact.rs fF)::(fe (.f (Fact.rs iw)::(.f (Fact.rs (α:=List kK) [nR,fF,vv,iw])::(.f (Fact.rs (α:=kK) [nR,fF,vv,iw].flatten)::(fe (.f (ue (q7 5))::(.f Fact.any::(eF (.f (Fact.rs iw)::(fe (.f (Fact.rs [tL])::(.f (Fact.rs (α:=List kK) [nR,pn,iw,[tL]])::(.f (Fact.rs (α:=kK) [nR,pn,iw,[tL]].flatten)::(fe (.f (ue (q7 6))::(.f Fact.any::(fe (eF (.f (Fact.rs [(fj 8),tL,eZ])::(eF (.f (Fact.rs [(fj 8),tL])::(.f (ue (q7 7))::(.f Fact.any::(fe (.f (Fact.rs fF)::(fe (.f (Fact.rs [eZ])::(.f (Fact.rs (α:=List kK) [nR,fF,[eZ]])::(.f (Fact.rs (α:=kK) [nR,fF,[eZ]].flatten)::(fe (.f (ue (q7 8))::(.f Fact.any::(fe (eF (.f (Fact.rs [(fj 14),eZ,zZ])::(eF (.f (Fact.rs [(fj 14),eZ])::(.f (ue (q7 9))::(.f Fact.any::(fe (.f (Fact.rs fF)::(.f (Fact.rs iw)::(.f (Fact.rs (α:=List kK) [nR,fF,iw])::(.f (Fact.rs (α:=kK) [nR,fF,iw].flatten)::(fe (.f (ue (q7 10))::(.f Fact.any::[]))))))))))))))))))))))))))))))))))))))))))))))))))))))))))))))))))))))))))))))))))))))))))) 106 [(0,22)] [0,15,24,35,45,51,60,70,79,88,97,105] [] (M9 g) H3 (.inl ⟨rfl,fun _ _=>rfl,hs.dr⟩) (by kernel_rfl) ⟨dq,⟨cz _,⟨cz _,⟨cz _,⟨cz _,⟨cz _,⟨cz _,⟨cz _,⟨gJ _,⟨dq,⟨cz _,⟨cz _,⟨cz _,⟨gJ _,⟨dq,⟨cz _,⟨cz _,⟨cz _,⟨gJ _,⟨dq,⟨cz _,⟨cz _,⟨gJ _,⟨dq,⟨cz _,⟨cz _,⟨gJ _,⟨dq,⟨cz _,⟨cz _,⟨cz _,⟨cz _,⟨gJ _,⟨dq,⟨cz _,⟨cz _,⟨cz _,⟨cz _,⟨gJ _,⟨dq,⟨cz _,⟨cz _,⟨gJ _,⟨dq,⟨cz _,⟨cz _,⟨cz _,⟨cz _,⟨gJ _,⟨dq,⟨cz _,⟨cz _,⟨gJ _,⟨dq,⟨cz _,⟨cz _,⟨cz _,⟨cz _,⟨gJ _,⟨dq,trivial⟩⟩⟩⟩⟩⟩⟩⟩⟩⟩⟩⟩⟩⟩⟩⟩⟩⟩⟩⟩⟩⟩⟩⟩⟩⟩⟩⟩⟩⟩⟩⟩⟩⟩⟩⟩⟩⟩⟩⟩⟩⟩⟩⟩⟩⟩⟩⟩⟩⟩⟩⟩⟩⟩⟩⟩⟩⟩⟩⟩
 ·have pR:=G.bI g2;exact bV (jc (js:=[]) (by kernel_rfl) rfl fun ρ g2 _ _ FZ _ hJ=>bN ⟨rfl,H4 FZ hJ rfl⟩)<|Um [[],[]] [.c (Wc 97) fun g _=>eE 7 g] (by kernel_rfl) rfl<|bV (cT (js:=[(2,24)]) (by kernel_rfl) rfl fun _ g2 _ _ _ _=>cV rfl (bN (jq [(fj 7)] rfl rfl rfl rfl rfl (by decide) (by kernel_rfl))))<|bV (cT (js:=[]) (by kernel_rfl) rfl fun _ g2 _ _ _ _=>bN (jr (Wc 110) rfl rfl rfl rfl rfl (vV g2)))<|bV (cT (js:=[]) (by kernel_rfl) rfl fun _ g2 _ _ _ _=>bN (H2 ⟨13,0,39⟩ rfl rfl rfl rfl))<|bV (cT (js:=[(5,27)]) (by kernel_rfl) rfl fun _ g2 _ _ _ _=>cV rfl (bN (jq [(⟨13,0,39⟩:kK)] rfl rfl rfl rfl rfl (by decide) (by kernel_rfl))))<|Um [[]] [] (by kernel_rfl) rfl<|bV (cT (js:=[]) (by kernel_rfl) rfl fun _ g2 _ _ _ _=>bN (jr (Wc 111) rfl rfl rfl rfl rfl (vW g2)))<|bV (cT (js:=[]) (by kernel_rfl) rfl fun _ g2 _ _ _ _=>bN (H2 ⟨16,-10000000,10000000⟩ rfl rfl rfl rfl))<|bV (cT (js:=[(9,31)]) (by kernel_rfl) rfl fun _ g2 _ _ _ _=>cV rfl (bN (jq [(⟨16,-10000000,10000000⟩:kK)] rfl rfl rfl rfl rfl (by decide) (by kernel_rfl))))<|bV (cT (js:=[(1,23),(3,25),(4,26),(6,28),(7,29),(8,30),(10,32)]) (by kernel_rfl) rfl fun _ g2 _ _ hle _=>cV rfl (lN rfl fun _ _ h3=>lN rfl fun _ _ h4=>lN rfl fun _ _ h6=>cV rfl (lN rfl fun _ _ h8=>lN rfl fun _ _ vG=>bN (n9 [nR,[(fj 7)],fF,[(⟨13,0,39⟩:kK)],vv,iw,[(⟨16,-10000000,10000000⟩:kK)]] rfl rfl rfl rfl rfl (by decide) (by kernel_rfl) ⟨[_],_,rfl,⟨_,rfl,(aW.mono (pR.trans hle))⟩,⟨[_],_,rfl,⟨_,rfl,h3⟩,⟨[_],_,rfl,⟨_,rfl,h4⟩,⟨[_],_,rfl,⟨_,rfl,h6⟩,⟨[_],_,rfl,⟨_,rfl,(cd.mono (pR.trans hle))⟩,⟨[_],_,rfl,⟨_,rfl,h8⟩,⟨[_],_,rfl,⟨_,rfl,vG⟩,rfl⟩⟩⟩⟩⟩⟩⟩))))<|bV (cT (js:=[(11,33)]) (by kernel_rfl) rfl fun _ g2 _ _ _ _=>cW fun v11 K2=>bN (jr (Wc 109) rfl rfl rfl rfl rfl (rM v11 _ g2 K2 (by decide))))<|Um [[]] [] (by kernel_rfl) rfl<|bV (cT (js:=[(12,34),(13,35)]) (by kernel_rfl) rfl fun _ g2 _ _ hle _=>cW fun v12 P8=>cV rfl (bN (lP (q7 0) rfl rfl rfl rfl P8 (aW.mono (pR.trans hle)))))<|bV (jc (js:=[(0,22),(14,36)]) (by kernel_rfl) rfl fun ρ g2 _ _ _ _ hJ=>gk rfl fun v0 _ r0=>cW fun MU P9=>bN (⟨rfl,jQ (k:=1) (i:=15) (by decide) (s:=q7 0) rfl r0 hJ P9 rfl rfl rfl rfl⟩))<|Um [[],[],[]] [.c (Wc 113) fun g _=>n5 g,.e aM 0] (by kernel_rfl) rfl<|bV (cT (js:=[(17,38),(18,39)]) (by kernel_rfl) rfl fun _ g2 _ _ _ _=>cV rfl (cV rfl (bN (jq [eZ,zZ] rfl rfl rfl rfl rfl (by decide) (by kernel_rfl)))))<|bV (cT (js:=[(16,37),(19,40)]) (by kernel_rfl) rfl fun _ g2 _ _ hle _=>cV rfl (lN rfl fun _ _ Wv=>bN (n9 [nR,[eZ,zZ]] rfl rfl rfl rfl rfl (by decide) (by kernel_rfl) ⟨[_],_,rfl,⟨_,rfl,(aW.mono (pR.trans hle))⟩,⟨[_],_,rfl,⟨_,rfl,Wv⟩,rfl⟩⟩)))<|bV (cT (js:=[(20,41)]) (by kernel_rfl) rfl fun _ g2 _ _ _ _=>cW fun v20 YV=>bN (jr (Wc 109) rfl rfl rfl rfl rfl (rM v20 _ g2 YV (by decide))))<|Um [[]] [] (by kernel_rfl) rfl<|bV (cT (js:=[(21,42),(22,43)]) (by kernel_rfl) rfl fun _ g2 _ _ hle _=>cW fun v21 SX=>cV rfl (bN (lP (q7 1) rfl rfl rfl rfl SX (aW.mono (pR.trans hle)))))<|bV (jc (js:=[(0,22),(23,44)]) (by kernel_rfl) rfl fun ρ g2 _ _ _ _ hJ=>gk rfl fun v0 _ r0=>cW fun v23 MV=>bN (⟨rfl,jQ (k:=2) (i:=24) (by decide) (s:=q7 1) rfl r0 hJ MV rfl rfl rfl rfl⟩))<|Um [[],[],[],[]] [.c (Wc 97) fun g _=>eE 7 g,.c (Wc 97) fun g _=>eE 8 g,.c (Wc 113) fun g _=>n5 g] (by kernel_rfl) rfl<|bV (cT (js:=[(26,46),(27,47),(28,48)]) (by kernel_rfl) rfl fun _ g2 _ _ _ _=>cV rfl (cV rfl (cV rfl (bN (jq [(fj 7),(fj 8),eZ] rfl rfl rfl rfl rfl (by decide) (by kernel_rfl))))))<|bV (cT (js:=[(25,45),(29,49)]) (by kernel_rfl) rfl fun _ g2 _ _ hle _=>cV rfl (lN rfl fun _ _ MW=>bN (n9 [nR,[(fj 7),(fj 8),eZ]] rfl rfl rfl rfl rfl (by decide) (by kernel_rfl) ⟨[_],_,rfl,⟨_,rfl,(aW.mono (pR.trans hle))⟩,⟨[_],_,rfl,⟨_,rfl,MW⟩,rfl⟩⟩)))<|bV (cT (js:=[(30,50)]) (by kernel_rfl) rfl fun _ g2 _ _ _ _=>cW fun v30 MX=>bN (jr (Wc 109) rfl rfl rfl rfl rfl (rM v30 _ g2 MX (by decide))))<|Um [[],[]] [] (by kernel_rfl) rfl<|bV (cT (js:=[(31,51),(32,52),(33,53)]) (by kernel_rfl) rfl fun _ g2 _ _ hle _=>cW fun v31 MY=>cV rfl (cV rfl (bN (lP (q7 2) rfl rfl rfl rfl MY (aW.mono (pR.trans hle))))))<|bV (jc (js:=[(0,22),(34,54)]) (by kernel_rfl) rfl fun ρ g2 _ _ _ _ hJ=>gk rfl fun v0 _ r0=>cW fun SD MZ=>bN (⟨rfl,jQ (k:=3) (i:=35) (by decide) (s:=q7 2) rfl r0 hJ MZ rfl rfl rfl rfl⟩))<|Um [[],[],[],[]] [.c (Wc 97) fun g _=>eE 7 g,.c (Wc 97) fun g _=>eE 9 g,.c (Wc 97) fun g _=>eE 10 g,.c (Wc 113) fun g _=>n5 g] (by kernel_rfl) rfl<|bV (cT (js:=[(36,55),(37,56),(38,57),(39,58)]) (by kernel_rfl) rfl fun _ g2 _ _ _ _=>cV rfl (cV rfl (cV rfl (cV rfl (bN (jq [(fj 7),(fj 9),(fj 10),eZ] rfl rfl rfl rfl rfl (by decide) (by kernel_rfl)))))))<|Um [[],[]] [.c (Wc 97) fun g _=>eE 7 g,.c (Wc 113) fun g _=>n5 g] (by kernel_rfl) rfl<|bV (cT (js:=[(41,60),(42,61)]) (by kernel_rfl) rfl fun _ g2 _ _ _ _=>cV rfl (cV rfl (bN (jq [(fj 7),eZ] rfl rfl rfl rfl rfl (by decide) (by kernel_rfl)))))<|bV (cT (js:=[(40,59),(43,62)]) (by kernel_rfl) rfl fun _ g2 _ _ hle _=>cW fun v40 YW=>cW fun SE M3=>bN (lP (q7 3) rfl rfl rfl rfl YW M3))<|bV (jc (js:=[(0,22),(44,63)]) (by kernel_rfl) rfl fun ρ g2 _ _ _ _ hJ=>gk rfl fun v0 _ r0=>cW fun SF K3=>bN (⟨rfl,jQ (k:=4) (i:=45) (by decide) (s:=q7 3) rfl r0 hJ K3 rfl rfl rfl rfl⟩))<|Um [[]] [.c (Wc 97) fun g _=>eE 10 g] (by kernel_rfl) rfl<|bV (cT (js:=[(46,64)]) (by kernel_rfl) rfl fun _ g2 _ _ _ _=>cV rfl (bN (jq [(fj 10)] rfl rfl rfl rfl rfl (by decide) (by kernel_rfl))))<|Um [[]] [.c (Wc 97) fun g _=>eE 10 g] (by kernel_rfl) rfl<|bV (cT (js:=[(48,66)]) (by kernel_rfl) rfl fun _ g2 _ _ _ _=>cV rfl (bN (jq [(fj 10)] rfl rfl rfl rfl rfl (by decide) (by kernel_rfl))))<|bV (cT (js:=[(47,65),(49,67)]) (by kernel_rfl) rfl fun _ g2 _ _ hle _=>cW fun SG M4=>cW fun v49 M5=>bN (lP (q7 4) rfl rfl rfl rfl M4 M5))<|bV (jc (js:=[(0,22),(50,68)]) (by kernel_rfl) rfl fun ρ g2 _ _ _ _ hJ=>gk rfl fun v0 _ r0=>cW fun SH M6=>bN (⟨rfl,jQ (k:=5) (i:=51) (by decide) (s:=q7 4) rfl r0 hJ M6 rfl rfl rfl rfl⟩))<|Um [[]] [] (by kernel_rfl) rfl<|bV (cT (js:=[]) (by kernel_rfl) rfl fun _ g2 _ _ _ _=>bN (jr (Wc 110) rfl rfl rfl rfl rfl (vV g2)))<|Um [[]] [] (by kernel_rfl) rfl<|bV (cT (js:=[]) (by kernel_rfl) rfl fun _ g2 _ _ _ _=>bN (jr (Wc 111) rfl rfl rfl rfl rfl (vW g2)))<|bV (cT (js:=[(52,69),(53,70),(54,71),(55,72)]) (by kernel_rfl) rfl fun _ g2 _ _ hle _=>cV rfl (lN rfl fun _ _ M7=>cV rfl (lN rfl fun _ _ N3=>bN (n9 [nR,fF,vv,iw] rfl rfl rfl rfl rfl (by decide) (by kernel_rfl) ⟨[_],_,rfl,⟨_,rfl,(aW.mono (pR.trans hle))⟩,⟨[_],_,rfl,⟨_,rfl,M7⟩,⟨[_],_,rfl,⟨_,rfl,(cd.mono (pR.trans hle))⟩,⟨[_],_,rfl,⟨_,rfl,N3⟩,rfl⟩⟩⟩⟩))))<|bV (cT (js:=[(56,73)]) (by kernel_rfl) rfl fun _ g2 _ _ _ _=>cW fun N8 On=>bN (jr (Wc 109) rfl rfl rfl rfl rfl (rM N8 _ g2 On (by decide))))<|Um [[]] [] (by kernel_rfl) rfl<|bV (cT (js:=[(57,74),(58,75)]) (by kernel_rfl) rfl fun _ g2 _ _ hle _=>cW fun SI Oo=>cV rfl (bN (lP (q7 5) rfl rfl rfl rfl Oo (aW.mono (pR.trans hle)))))<|bV (jc (js:=[(0,22),(59,76)]) (by kernel_rfl) rfl fun ρ g2 _ _ _ _ hJ=>gk rfl fun v0 _ r0=>cW fun v59 Oq=>bN (⟨rfl,jQ (k:=6) (i:=60) (by decide) (s:=q7 5) rfl r0 hJ Oq rfl rfl rfl rfl⟩))<|Um [[],[]] [] (by kernel_rfl) rfl<|bV (cT (js:=[]) (by kernel_rfl) rfl fun _ g2 _ _ _ _=>bN (jr (Wc 111) rfl rfl rfl rfl rfl (vW g2)))<|Um [[]] [.e aD 0] (by kernel_rfl) rfl<|bV (cT (js:=[(64,80)]) (by kernel_rfl) rfl fun _ g2 _ _ _ _=>cV rfl (bN (jq [tL] rfl rfl rfl rfl rfl (by decide) (by kernel_rfl))))<|bV (cT (js:=[(61,77),(62,78),(63,79),(65,81)]) (by kernel_rfl) rfl fun _ g2 _ _ hle _=>cV rfl (cV rfl (lN rfl fun _ _ EJ=>lN rfl fun _ _ Ot=>bN (n9 [nR,pn,iw,[tL]] rfl rfl rfl rfl rfl (by decide) (by kernel_rfl) ⟨[_],_,rfl,⟨_,rfl,(aW.mono (pR.trans hle))⟩,⟨[_],_,rfl,⟨_,rfl,(cj.mono (pR.trans hle))⟩,⟨[_],_,rfl,⟨_,rfl,EJ⟩,⟨[_],_,rfl,⟨_,rfl,Ot⟩,rfl⟩⟩⟩⟩))))<|bV (cT (js:=[(66,82)]) (by kernel_rfl) rfl fun _ g2 _ _ _ _=>cW fun Ou Ov=>bN (jr (Wc 109) rfl rfl rfl rfl rfl (rM Ou _ g2 Ov (by decide))))<|Um [[]] [] (by kernel_rfl) rfl<|bV (cT (js:=[(67,83),(68,84)]) (by kernel_rfl) rfl fun _ g2 _ _ hle _=>cW fun SJ Ow=>cV rfl (bN (lP (q7 6) rfl rfl rfl rfl Ow (aW.mono (pR.trans hle)))))<|bV (jc (js:=[(0,22),(69,85)]) (by kernel_rfl) rfl fun ρ g2 _ _ _ _ hJ=>gk rfl fun v0 _ r0=>cW fun SK Ox=>bN (⟨rfl,jQ (k:=7) (i:=70) (by decide) (s:=q7 6) rfl r0 hJ Ox rfl rfl rfl rfl⟩))<|Um [[],[],[]] [.c (Wc 97) fun g _=>eE 8 g,.e aD 0,.c (Wc 113) fun g _=>n5 g] (by kernel_rfl) rfl<|bV (cT (js:=[(71,86),(72,87),(73,88)]) (by kernel_rfl) rfl fun _ g2 _ _ _ _=>cV rfl (cV rfl (cV rfl (bN (jq [(fj 8),tL,eZ] rfl rfl rfl rfl rfl (by decide) (by kernel_rfl))))))<|Um [[],[]] [.c (Wc 97) fun g _=>eE 8 g,.e aD 0] (by kernel_rfl) rfl<|bV (cT (js:=[(75,90),(76,91)]) (by kernel_rfl) rfl fun _ g2 _ _ _ _=>cV rfl (cV rfl (bN (jq [(fj 8),tL] rfl rfl rfl rfl rfl (by decide) (by kernel_rfl)))))<|bV (cT (js:=[(74,89),(77,92)]) (by kernel_rfl) rfl fun _ g2 _ _ hle _=>cW fun SL Oy=>cW fun SM Oz=>bN (lP (q7 7) rfl rfl rfl rfl Oy Oz))<|bV (jc (js:=[(0,22),(78,93)]) (by kernel_rfl) rfl fun ρ g2 _ _ _ _ hJ=>gk rfl fun v0 _ r0=>cW fun SN OA=>bN (⟨rfl,jQ (k:=8) (i:=79) (by decide) (s:=q7 7) rfl r0 hJ OA rfl rfl rfl rfl⟩))<|Um [[]] [] (by kernel_rfl) rfl<|bV (cT (js:=[]) (by kernel_rfl) rfl fun _ g2 _ _ _ _=>bN (jr (Wc 110) rfl rfl rfl rfl rfl (vV g2)))<|Um [[]] [.c (Wc 113) fun g _=>n5 g] (by kernel_rfl) rfl<|bV (cT (js:=[(82,96)]) (by kernel_rfl) rfl fun _ g2 _ _ _ _=>cV rfl (bN (jq [eZ] rfl rfl rfl rfl rfl (by decide) (by kernel_rfl))))<|bV (cT (js:=[(80,94),(81,95),(83,97)]) (by kernel_rfl) rfl fun _ g2 _ _ hle _=>cV rfl (lN rfl fun _ _ Qz=>lN rfl fun _ _ QC=>bN (n9 [nR,fF,[eZ]] rfl rfl rfl rfl rfl (by decide) (by kernel_rfl) ⟨[_],_,rfl,⟨_,rfl,(aW.mono (pR.trans hle))⟩,⟨[_],_,rfl,⟨_,rfl,Qz⟩,⟨[_],_,rfl,⟨_,rfl,QC⟩,rfl⟩⟩⟩)))<|bV (cT (js:=[(84,98)]) (by kernel_rfl) rfl fun _ g2 _ _ _ _=>cW fun QD QE=>bN (jr (Wc 109) rfl rfl rfl rfl rfl (rM QD _ g2 QE (by decide))))<|Um [[]] [] (by kernel_rfl) rfl<|bV (cT (js:=[(85,99),(86,100)]) (by kernel_rfl) rfl fun _ g2 _ _ hle _=>cW fun v85 QF=>cV rfl (bN (lP (q7 8) rfl rfl rfl rfl QF (aW.mono (pR.trans hle)))))<|bV (jc (js:=[(0,22),(87,101)]) (by kernel_rfl) rfl fun ρ g2 _ _ _ _ hJ=>gk rfl fun v0 _ r0=>cW fun v87 QG=>bN (⟨rfl,jQ (k:=9) (i:=88) (by decide) (s:=q7 8) rfl r0 hJ QG rfl rfl rfl rfl⟩))<|Um [[],[],[]] [.c (Wc 97) fun g _=>eE 14 g,.c (Wc 113) fun g _=>n5 g,.e aM 0] (by kernel_rfl) rfl<|bV (cT (js:=[(89,102),(90,103),(91,104)]) (by kernel_rfl) rfl fun _ g2 _ _ _ _=>cV rfl (cV rfl (cV rfl (bN (jq [(fj 14),eZ,zZ] rfl rfl rfl rfl rfl (by decide) (by kernel_rfl))))))<|Um [[],[]] [.c (Wc 97) fun g _=>eE 14 g,.c (Wc 113) fun g _=>n5 g] (by kernel_rfl) rfl<|bV (cT (js:=[(93,106),(94,107)]) (by kernel_rfl) rfl fun _ g2 _ _ _ _=>cV rfl (cV rfl (bN (jq [(fj 14),eZ] rfl rfl rfl rfl rfl (by decide) (by kernel_rfl)))))<|bV (cT (js:=[(92,105),(95,108)]) (by kernel_rfl) rfl fun _ g2 _ _ hle _=>cW fun SO QH=>cW fun SP QI=>bN (lP (q7 9) rfl rfl rfl rfl QH QI))<|bV (jc (js:=[(0,22),(96,109)]) (by kernel_rfl) rfl fun ρ g2 _ _ _ _ hJ=>gk rfl fun v0 _ r0=>cW fun SQ QJ=>bN (⟨rfl,jQ (k:=10) (i:=97) (by decide) (s:=q7 9) rfl r0 hJ QJ rfl rfl rfl rfl⟩))<|Um [[]] [] (by kernel_rfl) rfl<|bV (cT (js:=[]) (by kernel_rfl) rfl fun _ g2 _ _ _ _=>bN (jr (Wc 110) rfl rfl rfl rfl rfl (vV g2)))<|bV (cT (js:=[]) (by kernel_rfl) rfl fun _ g2 _ _ _ _=>bN (jr (Wc 111) rfl rfl rfl rfl rfl (vW g2)))<|bV (cT (js:=[(98,110),(99,111),(100,112)]) (by kernel_rfl) rfl fun _ g2 _ _ hle _=>cV rfl (lN rfl fun _ _ QK=>lN rfl fun _ _ Ww=>bN (n9 [nR,fF,iw] rfl rfl rfl rfl rfl (by decide) (by kernel_rfl) ⟨[_],_,rfl,⟨_,rfl,(aW.mono (pR.trans hle))⟩,⟨[_],_,rfl,⟨_,rfl,QK⟩,⟨[_],_,rfl,⟨_,rfl,Ww⟩,rfl⟩⟩⟩)))<|bV (cT (js:=[(101,113)]) (by kernel_rfl) rfl fun _ g2 _ _ _ _=>cW fun Wx Wz=>bN (jr (Wc 109) rfl rfl rfl rfl rfl (rM Wx _ g2 Wz (by decide))))<|Um [[]] [] (by kernel_rfl) rfl<|bV (cT (js:=[(102,114),(103,115)]) (by kernel_rfl) rfl fun _ g2 _ _ hle _=>cW fun aad WA=>cV rfl (bN (lP (q7 10) rfl rfl rfl rfl WA (aW.mono (pR.trans hle)))))<|bV (jc (js:=[(0,22),(104,116)]) (by kernel_rfl) rfl fun ρ g2 _ _ _ _ hJ=>gk rfl fun v0 _ r0=>cW fun aae WB=>bN (⟨rfl,jQ (k:=11) (i:=105) (by decide) (s:=q7 10) rfl r0 hJ WB rfl rfl rfl rfl⟩))<|zd
 intro ρ g3 hle hJ dj;refine gk rfl fun v _ hr=>bN ?_;obtain⟨b,oW,g4,h1,h2,hs,_,hM,hS⟩:=K1 hJ dj;rw[hr]at h1;obtain rfl:=Option.some.inj h1;rw[←h2];exact aX rfl<|aG (nw rfl hs ⟨_,_,rfl,hM,hS⟩)
end Go.Proofs.YtbfjdfecgiegpaaGreatDoor
namespace Go.K
open Go Go.RowKit
variable {F:Fence} {P:Program} {N:Nat} {ds:List Deferred} {Q:Exit→Act→World→Prop} {l:Env} {o:Oper} {g0 g g':G} {L:List df} {ρ:Nat→Option Value}
def C0(g0:G)(L:List df)(T:TypeId)(zero:List Value)(C:List Value→G→Prop)(ia vg:Nat)(ρ:Nat→Option Value)(g:G):Prop:=
 match ρ ia with
 |none=>St g0 g L
 |some v=> ∃b,v=vP b∧
  match ρ vg with
  |none=>St g0 g (vO b zero T::L)
  |some _=> ∃cs,St g0 g (vO b cs T::L)∧C cs g
theorem BS{T:TypeId}{zero:List Value}{C:List Value→G→Prop}{ia vg:Nat}(hC: ∀cs g g',g.le g'→C cs g→C cs g')(ρ:Nat→Option Value)(g g':G)(hf:a_ g g')(h:C0 g0 L T zero C ia vg ρ g):C0 g0 L T zero C ia vg ρ g':=by
 unfold C0 at h⊢;cases h1:ρ ia with
 |none=>rw[h1]at h;exact h.call hf
 |some v=>
  rw[h1]at h;obtain⟨b,e,h⟩:=h;refine⟨b,e,?_⟩;cases h2:ρ vg with
  |none=>rw[h2]at h;exact h.call hf
  |some u=>
   rw[h2]at h;obtain⟨cs,h3,h4⟩:=h;exact⟨cs,h3.call hf,hC _ _ _ hf.le h4⟩
theorem M'{T:TypeId}{zero:List Value}{C:List Value→G→Prop}{ia vg:Nat}(hs:St g0 g L):C0 g0 L T zero C ia vg (fun _=>none) g:=hs
theorem zf{T:TypeId}{zero:List Value}{C:List Value→G→Prop}{ia vg:Nat}{ti:TI}[eK P](eO:Nat.beq vg ia=false)(h1:ρ ia=none)(h2:ρ vg=none)(hJ:C0 g0 L T zero C ia vg ρ g)(ho:o.op= .alloc T)(hi:tl (eK.tb P) T=some ti)(hz:ti.zero.cells=zero.toArray):
  cS F P N ds o l g.w Q fun v w'=> ∃dM,dM.w=w'∧(g.le dM∧C0 g0 L T zero C ia vg (su ρ ia v) dM)∧Fact.any.p v dM:=by
 unfold C0 at hJ;rw[h1]at hJ;refine aN eK.ok ho hJ hi hz fun b g' hs hle=>⟨g',rfl,⟨hle,?_⟩,trivial⟩
 unfold C0;have e1:su ρ ia (vP b) ia=some (vP b):=if_pos rfl;have e2:su ρ ia (vP b) vg=none:=by unfold su;rw[if_neg (fun e=>by subst e;simp at eO)];exact h2
 rw[e1];refine⟨b,rfl,?_⟩;rw[e2];exact hs
theorem zg{T:TypeId}{zero:List Value}{C:List Value→G→Prop}{ia vg:Nat}{ti:TI}[eK P](hC: ∀cs g g',g.le g'→C cs g→C cs g')(eO:Nat.beq vg ia=false){p:Value}(h1:ρ ia=some p)(h2:ρ vg=none)(hJ:C0 g0 L T zero C ia vg ρ g){x y:Operand}{v:Value}(ho:o.op= .store T x y)(hx:ev l x=some p)(hy:ev l y=some v)
  (hi:tl (eK.tb P) T=some ti) (cs:List Value) (hc:v.cells=cs.toArray) (hl:cs.length=ti.size) (hz:zero.length=ti.size) (Al:cs.all Value.oneCell'=true) (hk:C cs g):
  cS F P N ds o l g.w Q fun v w'=> ∃dM,dM.w=w'∧(g.le dM∧C0 g0 L T zero C ia vg (su ρ vg v) dM)∧Fact.any.p v dM:=by
 unfold C0 at hJ;rw[h1]at hJ;obtain⟨b,rfl,hJ⟩:=hJ;rw[h2]at hJ;have rG:nr zero 0 cs=cs:=by unfold nr;simp[hl,←hz]
 refine aw eK.ok 0 ho hJ rfl hx hy hi hc hl Al (Nat.ble_eq_true_of_le (by omega)) rfl fun g' hs hle=>⟨g',rfl,⟨hle,?_⟩,trivial⟩
 unfold C0;have e1: ∀u,su ρ vg u ia=some (vP b):=fun u=>by unfold su;rw[if_neg (fun e=>by subst e;simp at eO)];exact h1
 have e2: ∀u,su ρ vg u vg=some u:=fun u=>if_pos rfl;rw[e1];refine⟨b,rfl,?_⟩;rw[e2];refine⟨cs,?_,hC _ _ _ hle hk⟩;rw[rG]at hs;exact hs
theorem EK{T:TypeId}{zero:List Value}{C:List Value→G→Prop}{ia vg:Nat}{p:Value}(h1:ρ ia=some p)(h2:ρ vg≠none)(hJ:C0 g0 L T zero C ia vg ρ g): ∃b cs,p=vP b∧St g0 g (vO b cs T::L)∧C cs g:=by
 unfold C0 at hJ;rw[h1]at hJ;obtain⟨b,e,hJ⟩:=hJ;cases hr:ρ vg with
 |none=>exact absurd hr h2
 |some u=>rw[hr]at hJ;obtain⟨cs,h3,h4⟩:=hJ;exact⟨b,cs,e,h3,h4⟩
end Go.K
namespace Go.Proofs.YtbfjdfecgiegpaaGreatDoor
open Go Go.K Tryz
set_option maxRecDepth 10000
attribute [local irreducible] W WL cS bh bY bB bA bC cL cD
theorem tM{F:Fence}{P:Program}{N:Nat}{ds:List Deferred}{l:Env}{w:World}{Q:Exit→Act→World→Prop}{o:Oper}{K:Value→World→Prop}{t t':TypeId}{x y:Operand}{neg b:Bool}{xs ys:Array Value}(ho:o.op= .binOp (if neg then .neq else .eql) t x y t')(hx:ev l x=some (.agg xs))(hy:ev l y=some (.agg ys))
  (hg:P.eqGuardType P.depth t=false) (he:(Op.equal t (.agg xs) (.agg ys)).run P w= .ok b w) (k:K (.bool (neg !=b)) w):cS F P N ds o l w Q K:=by
 refine bX (fun c=>⟨by rw[ho];simp,by rw[ho];simp⟩) (fun a ha=>?_) k;have hq: ∀op,(eqGuard op t x y (.agg xs) (.agg ys)).run P w= .ok () w:=fun op=>by unfold eqGuard;split<;>simp[hg]
 have FF:(Op.equalIn 10000 t (.agg xs) (.agg ys)).run P w= .ok b w:=he;cases neg<;>simp[execOp,ho,ha.ev hx,ha.ev hy,hq,run_eql_struct,run_neq_struct,FF]
def KW(P:Program)(d:Nat)(xs ys:Array Value)(p:Bool×TypeId×Nat)(r:Bool):Prop:=
 p.1=false∧ ∀w,∃x y,(part p.2.1 xs p.2.2).run P w= .ok x w∧(part p.2.1 ys p.2.2).run P w= .ok y w∧(Op.equalIn d p.2.1 x y).run P w= .ok r w
def Br(P:Program)(d:Nat)(xs ys:Array Value):List (Bool×TypeId×Nat)→List Bool→Prop
 |[],[]=>True
 |p::ps,r::rs=>KW P d xs ys p r∧Br P d xs ys ps rs
 |_,_=>False
theorem sD{P:Program}{d:Nat}{xs ys:Array Value}(w:World): ∀(fs:List Field) (ps:List (Bool×TypeId×Nat)) (rs:List Bool),fs.map (fun f=>(f.name== "_",f.type,f.offset))=ps→Br P d xs ys ps rs→(Op.eqFields d xs ys fs).run P w= .ok (rs.all id) w
 |[],ps,rs,h,hq=>by
  subst h;cases rs with
  |nil=>simp[Op.eqFields]
  |cons r rs=>exact hq.elim
 |f::fs,ps,rs,h,hq=>by
  subst h;cases rs with
  |nil=>exact hq.elim
  |cons r rs=>
   obtain⟨⟨h1,h2⟩,h3⟩:=hq;obtain⟨x,y,e1,e2,e3⟩:=h2 w;have ih:=sD w fs _ rs rfl h3;have hn:f.name≠ "_":=by simpa using h1
   simp only[Op.eqFields,hn,ne_eq,not_false_eq_true,if_true,Sem.run_bind];rw[e1];simp only[Result.andThen_ok];rw[e2];simp only[Result.andThen_ok];rw[e3];simp only[Result.andThen_ok];cases r with
   |false=>simp
   |true=>simpa using ih
theorem py(xs ys:Array Value)(i:Nat){a b:Int}(h1:xs[i]? =some (vI a))(h2:ys[i]? =some (vI b)):KW prog 9999 xs ys (false,3,i) (a==b):=
 ⟨rfl,fun w=>⟨.int .i64 a,vI b,by simp[part,jw T.ok (show tl T 3=some _ from rfl),wy,h1],by simp[part,jw T.ok (show tl T 3=some _ from rfl),wy,h2],run_equalIn_int w 9998 3 .i64 .i64 a b (by kernel_rfl)⟩⟩
theorem Qx(xs ys:Array Value)(i:Nat){a b:Bool}(h1:xs[i]? =some (.bool a))(h2:ys[i]? =some (.bool b)):KW prog 9999 xs ys (false,4,i) (a==b):=
 ⟨rfl,fun w=>⟨.bool a,.bool b,by simp[part,jw T.ok (show tl T 4=some _ from rfl),wy,h1],by simp[part,jw T.ok (show tl T 4=some _ from rfl),wy,h2],run_equalIn_bool' w 9998 4 a b (by kernel_rfl)⟩⟩
theorem Vs(xs ys:Array Value)(i:Nat){a b:List UInt8}(h1:xs[i]? =some (.string (bs a)))(h2:ys[i]? =some (.string (bs b))):KW prog 9999 xs ys (false,9,i) (a==b):=
 ⟨rfl,fun w=>⟨.string (bs a),.string (bs b),by simp[part,jw T.ok (show tl T 9=some _ from rfl),wy,h1],by simp[part,jw T.ok (show tl T 9=some _ from rfl),wy,h2],by
  rw[run_equalIn_string w 9998 9 (bs a) (bs b) (by kernel_rfl),cM,cM]⟩⟩
theorem YB(f h:bO)(w:World):(Op.equal 40 (fv f) (fv h)).run prog w= .ok (decide (f=h)) w:=by show(Op.equalIn (9999+1) _ _ _).run _ _=_;rw[run_equalIn_struct w 9999 _ _ _ (by kernel_rfl) (by kernel_rfl)];rw[sD w _ _ [f.kind==h.kind,f.idn==h.idn,f.ver==h.ver,f.day==h.day,f.gone==h.gone,f.time==h.time,f.til==h.til,f.waf==h.waf,f.oth==h.oth,f.lot==h.lot,f.prod==h.prod,f.tool==h.tool,f.cham==h.cham,f.step==h.step,f.rcp==h.rcp,f.rvn==h.rvn,f.val==h.val,f.par==h.par,f.text==h.text] (by kernel_rfl:_=[(false,3,0),(false,3,1),(false,3,2),(false,3,3),(false,4,4),(false,3,5),(false,3,6),(false,3,7),(false,3,8),(false,3,9),(false,3,10),(false,3,11),(false,3,12),(false,3,13),(false,3,14),(false,3,15),(false,3,16),(false,3,17),(false,9,18)]) ⟨py _ _ 0 rfl rfl,py _ _ 1 rfl rfl,py _ _ 2 rfl rfl,py _ _ 3 rfl rfl,Qx _ _ 4 rfl rfl,py _ _ 5 rfl rfl,py _ _ 6 rfl rfl,py _ _ 7 rfl rfl,py _ _ 8 rfl rfl,py _ _ 9 rfl rfl,py _ _ 10 rfl rfl,py _ _ 11 rfl rfl,py _ _ 12 rfl rfl,py _ _ 13 rfl rfl,py _ _ 14 rfl rfl,py _ _ 15 rfl rfl,py _ _ 16 rfl rfl,py _ _ 17 rfl rfl,Vs _ _ 18 rfl rfl,trivial⟩];congr 1;rw[Bool.eq_iff_iff];obtain⟨a0,a1,a2,a3,a4,a5,a6,a7,a8,a9,Kd,Z0,a12,Z1,YC,G5,Sr,Ss,Su⟩:=f;obtain⟨b0,b1,b2,b3,b4,b5,b6,b7,b8,b9,P1,z6,P2,Vt,Qy,Sv,Sw,Z2,Sx⟩:=h;simp[bO.mk.injEq]
end Go.Proofs.YtbfjdfecgiegpaaGreatDoor
namespace Go.Proofs.YtbfjdfecgiegpaaGreatDoor
open Go Go.K Tryz
set_option maxRecDepth 10000
attribute [local irreducible] W WL cS bh bY bB bA bC cL cD
set_option maxHeartbeats 8000000
def H5:List Value:=[.slice none 0 0,.slice none 0 0,.nilFunc,.bool false]
def rN(s? :Option CT)(cs:List Value)(g:G):Prop:=match s? with
 |some s=> ∃a b,cs=[a,b,.func (.func (Kh s.rest)) #[] #[],.bool s.jI]∧Rs g a s.fields∧Rs g b s.key
 |none=>cs=H5
theorem rN.mono{s? :Option CT}(cs:List Value)(g g':G)(hle:g.le g')(h:rN s? cs g):rN s? cs g':=by
 unfold rN at h⊢;cases s? with
 |none=>exact h
 |some s=>obtain⟨a,b,e,h1,h2⟩:=h;exact⟨a,b,e,h1.mono hle,h2.mono hle⟩
theorem rN.len{s? :Option CT}{cs:List Value}{g:G}(h:rN s? cs g):cs.length=4∧cs.all Value.oneCell'=true:=by
 unfold rN at h;cases s? with
 |none=>obtain rfl:cs=H5:=h;exact⟨rfl,rfl⟩
 |some s=>
  obtain⟨a,b,rfl,h1,h2⟩:=h;obtain⟨_,_,rfl⟩:=h1.isSlice;obtain⟨_,_,rfl⟩:=h2.isSlice;exact⟨rfl,rfl⟩
def K4:Fact:=⟨fun v g=> ∃b oW,v= .map (some b)∧Dl g b oW∧K0 g oW,fun v g g' hf ⟨b,oW,e,h1,h2⟩=>⟨b,oW,e,h1.mono hf.le,fun k=>by
 have:=h2 k;cases hk:ee k with
 |none=>rw[hk]at this;exact this
 |some s=>rw[hk]at this;obtain⟨v,e,h⟩:=this;exact⟨v,e,h.mono hf.le⟩⟩⟩
theorem ze:wN K4:=fun v g g' hle ⟨b,oW,e,h1,h2⟩=>⟨b,oW,e,h1.mono hle,fun k=>by
 have:=h2 k;cases hk:ee k with
 |none=>rw[hk]at this;exact this
 |some s=>rw[hk]at this;obtain⟨v,e,h⟩:=this;exact⟨v,e,h.mono hle⟩⟩
def F0(s? :Option CT)(w:Value→Value):Fact:=⟨fun v g=> ∃cs,v=w (.agg cs.toArray)∧rN s? cs g,by rintro v g g' hf ⟨cs,e,h⟩;exact⟨cs,e,h.mono _ _ _ hf.le⟩⟩
theorem qF(s? :Option CT)(w:Value→Value):wN (F0 s? w):=by rintro v g g' hle ⟨cs,e,h⟩;exact⟨cs,e,h.mono _ _ _ hle⟩
theorem Ap{N:Nat}{ds:List Deferred}{Q:Exit→Act→World→Prop}{g:G}{o:Oper}{l:Env}{K:Value→World→Prop}{m kk:Operand}{ok:Bool}{b:Nat}{oW:List (Int×Value)}{k:Int}(ho:o.op= .lookup 90 m kk ok)(hm:Dl g b oW)(hS:K0 g oW)
  (h1:ev l m=some (.map (some b))) (h2:ev l kk=some (vI k)) (kq: ∀cs,rN (ee k) cs g→K (if ok then .tuple #[.agg cs.toArray,.bool (ee k).isSome]else .agg cs.toArray) g.w):cS Wd prog N ds o l g.w Q K:=by
 refine n_ (κ:=Int) (a:=k) (Dk T.ok rfl rfl rfl rfl rfl) ho hm.2 h1 h2 ?_;have:=hS k;cases hk:ee k with
 |none=>
  rw[hk]at this kq;simp only at this;rw[this];exact kq H5 rfl
 |some s=>
  rw[hk]at this kq;obtain⟨v,e,a,b,rfl,hr⟩:=this;rw[e];exact kq _ ⟨a,b,rfl,hr⟩
theorem OD(r:Nat)(f:bO)(g:G):cN prog (Kh r) #[fv f] g fun _ v=>v= .bool (sC r f):=
 match r with
 |0=>EI f g
 |1=>H0 f g
 |2=>KZ f g
 |_+3=>EI f g
theorem K5: ∀r:Nat,ag prog (Kh r)
 |0=>(Wc 114)
 |1=>(Wc 112)
 |2=>(Wc 101)
 |_+3=>(Wc 114)
theorem Aq{k:Nat}(hk:mi k)(f:bO):Ar T 3 (cB f) k=some (vI (f.num k)):=by rcases hk with rfl|rfl|rfl|rfl|rfl|rfl|rfl|rfl|rfl|rfl|rfl|rfl|rfl|rfl<;>rfl
theorem H6{k:Nat}(hk:mi k)(f:bO)(n:Int):nr (cB f) k [vI n]=cB (f.put k n)∧k<19:=by rcases hk with rfl|rfl|rfl|rfl|rfl|rfl|rfl|rfl|rfl|rfl|rfl|rfl|rfl|rfl<;>exact⟨rfl,by decide⟩
theorem nW{k:Int}{s:CT}(h:ee k=some s):(∀x∈s.fields,mi x.at_)∧ ∀x∈s.key,mi x.at_:=by
 unfold ee at h;split at h
 ·cases h
 have hm:=List.mem_of_getElem? h;have: ∀s∈nT,(∀x∈s.fields,mi x.at_)∧ ∀x∈s.key,mi x.at_:=by unfold mi;decide
 exact this s hm
theorem uV(x:kK)(l:List kK)(f:bO):nU (x::l) f=if(decide (f.num x.at_<x.lo)||decide (x.hi<f.num x.at_))=true then none else nU l (f.put x.at_ 0):=rfl
theorem BR(f:bO)(g:G):cN prog 37 #[fv f] g fun _ r=>r= .bool (fT f):=by
 have hs:=St.start g;have ar:=G.le.refl g;refine enter func37 rfl ntmps37 rfl<|cR<|EH hs rfl fun bf g1 hs ai=>aX rfl<|az ?_;obtain⟨g2,bS,aV,ai,aL⟩:=hs.bd (i:=0) rfl;replace hs:=aV;clear aV;rw[←bS];have aD:=aL;clear aL;apply ny (.f K4::(eF (.f (F0 (ee f.kind) fun u=> .tuple #[u,.bool (ee f.kind).isSome]):: .f (F0 (ee f.kind) fun u=> .tuple #[u,.bool (ee f.kind).isSome]):: .f (F0 (ee f.kind) id)::(fe (.f Fact.any:: .f Fact.any::[]))))) 9 [(7,3),(6,15)] [7,8] [[],[7]] (C0 g [] 89 H5 (rN (ee f.kind)) 7 8) (BS rN.mono) (M' hs.dr) (by kernel_rfl) ⟨ze,qF _ _,qF _ _,qF _ _,dq,dq,trivial⟩
 ·refine bV (cT (js:=[]) (by kernel_rfl) rfl fun _ g2 _ _ _ _=>bN (ay rfl (aC (Wc 41) aK rfl rfl rfl rfl rfl (w5 g2) fun g' v hf ⟨b,oW,e,h1,h2⟩=>⟨g',rfl,hf,b,oW,e,h1,h2⟩)))<|Um [[],[1]] [.e aD 0] (by kernel_rfl) rfl<|bV (cT (js:=[(0,10),(2,12)]) (by kernel_rfl) rfl fun _ g2 _ _ _ _=>cW fun v0 h0=>cV rfl (bN ?_)) ?_
  ·obtain⟨b,oW,rfl,h1,h2⟩:=h0;exact ay rfl (Ap rfl h1 h2 rfl rfl fun cs h=>⟨g2,rfl,a_.refl _,cs,rfl,h⟩)
  refine bV (cT (js:=[(3,13)]) (by kernel_rfl) rfl fun _ g2 _ _ _ _=>cW fun v3 h3=>bN ?_) ?_
  ·obtain⟨cs,rfl,h⟩:=h3;exact ay rfl (aE _ T.ok rfl ⟨g2,rfl,a_.refl _,cs,rfl,h⟩)
  refine bV (cT (js:=[(4,9)]) (by kernel_rfl) rfl fun _ g2 _ _ _ _=>cW fun v3 h3=>bN ?_) ?_
  ·obtain⟨cs,rfl,h⟩:=h3;exact ay rfl (aE _ T.ok rfl ⟨g2,rfl,a_.refl _,cs,rfl,h⟩)
  refine bV (cT (js:=[(4,9)]) (by kernel_rfl) rfl fun _ g2 _ _ _ _=>cW fun v3 h3=>bN ?_) ?_
  ·obtain⟨cs,rfl,h⟩:=h3;exact ay rfl (aE _ T.ok rfl ⟨g2,rfl,a_.refl _,rfl⟩)
  refine bV (jc (js:=[]) (by kernel_rfl) rfl fun ρ g2 h1 _ h3 _ hJ=>bN ⟨rfl,zf rfl h3 (h1 1 [7] 8 rfl rfl (by simp)) hJ rfl rfl rfl⟩)<|bV (jc (js:=[(7,3),(5,14),(5,14),(7,3)]) (by kernel_rfl) rfl fun ρ g2 _ _ h3 _ hJ=>cW fun _ _=>cW fun _ _=>cW fun v5 h5=>gk rfl fun v7 _ r7=>bN ⟨rfl,?_⟩) ?_
  ·obtain⟨cs,rfl,h⟩:=h5;exact zg rN.mono rfl r7 h3 hJ rfl rfl rfl rfl cs rfl h.len.1 rfl h.len.2 h
  exact zd
 intro ρ g3 hle hJ dj;refine gk rfl fun v7 _ r7=>cV rfl (bN ?_);obtain⟨b3,cs,rfl,hs,hO⟩:=EK r7 (dj 8 rfl) hJ;clear hJ dj r7;have ai:=(G.bI _).trans hle;replace aD:=aD.mono ai;clear hle ρ;refine aX rfl<|az<|cG 3 rfl ?_;cases pQ:ee f.kind with
 |none=>
  refine aX rfl<|aas rfl<|aZ rfl<|aG<|dO<|nw rfl hs ?_;unfold fT;rw[pQ]
 |some s=>
  rw[pQ]at hO;obtain⟨ka,kb,rfl,fh,gn⟩:=hO;obtain⟨fa,fc,rfl⟩:=fh.isSlice;refine q5 5 [.z aD] rfl<|cH (want:=false) (x:=decide (1000000<f.ver)) 3 aK rfl rfl rfl rfl (.inr ⟨rfl,rfl,rfl⟩) rfl rfl rfl rfl (fun hb Q' eS=>?_) (fun g' hf=>?_)
  ·exact q5 3 [.z aD] rfl<|aA<|fun a ha=>eS _ a (a_.refl _) (ha.kp rfl)
  replace hs:=hs.call hf;have ai:=hf.le;obtain⟨aD,fh⟩:=cr ai aD fh;refine Wp 1 rfl<|cH (want:=false) (x:=decide (f.day<0)) 3 aK rfl rfl rfl rfl (.inr ⟨rfl,rfl,rfl⟩) rfl rfl rfl rfl (fun hb Q' eS=>?_) (fun g' hf=>?_)
  ·exact q5 3 [.z aD] rfl<|aA<|fun a ha=>eS _ a (a_.refl _) (ha.kp rfl)
  replace hs:=hs.call hf;have ai:=hf.le;obtain⟨aD,fh⟩:=cr ai aD fh;refine Wp 1 rfl<|cH (want:=false) (x:=decide (100000<f.day)) 3 aK rfl rfl rfl rfl (.inr ⟨rfl,rfl,rfl⟩) rfl rfl rfl rfl (fun hb Q' eS=>?_) (fun g' hf=>?_)
  ·exact q5 3 [.z aD] rfl<|aA<|fun a ha=>eS _ a (a_.refl _) (ha.kp rfl)
  replace hs:=hs.call hf;have ai:=hf.le;obtain⟨aD,fh⟩:=cr ai aD fh;refine Wp 1 rfl<|cH (want:=false) (x:=decide (8192<((bs f.text).size:Int))) 4 aK rfl rfl rfl rfl (.inr ⟨rfl,rfl,rfl⟩) rfl rfl rfl rfl (fun hb Q' eS=>?_) (fun g' hf=>?_)
  ·exact q5 4 [.z aD] rfl<|aA<|fun a ha=>eS _ a (a_.refl _) (ha.kp rfl)
  replace hs:=hs.call hf;have ai:=hf.le;obtain⟨aD,fh⟩:=cr ai aD fh;refine Wp 1 rfl<|cH (want:=false) (x:=!sC s.rest f) 5 aK rfl rfl rfl rfl (.inr ⟨rfl,rfl,rfl⟩) rfl rfl rfl rfl (fun hb Q' eS=>?_) (fun g' hf=>?_)
  ·refine Wm 3 [.o 0,.z aD] hs rfl<|ak rfl rfl<|fb rfl rfl rfl rfl rfl rfl (dy (first:=#[]) (captured:=#[]) (args:=[fv f]) (K5 s.rest) rfl (OD s.rest f _)) ?_;rintro g4 _ mg rfl;exact Wp 1 rfl<|aA fun a ha=>eS g4 a mg (ha.kp rfl)
  replace hs:=hs.call hf;have ai:=hf.le;obtain⟨aD,fh⟩:=cr ai aD fh;apply b_;have cF:fT f=if(decide (f.ver<1)||decide (1000000<f.ver)||decide (f.day<0)||decide (100000<f.day)||decide (8192<(f.text.length:Int))|| !sC s.rest f)=true then false
    else match nU s.fields f with
     |none=>false
     |some g=>decide ((if s.jI then {g with text:=[]}else g)=rB f):=by simp only[fT,pQ];rfl
  by_cases hc:(decide (f.ver<1)||decide (1000000<f.ver)||decide (f.day<0)||decide (100000<f.day)||decide (8192<(f.text.length:Int))|| !sC s.rest f)=true
  ·refine aJ (b:=_) ?_ rfl ?_
   ·simpa [cg]using hc
   refine aZ rfl<|aG<|dO<|nw rfl hs ?_;rw[cF,if_pos hc]
  refine aQ (b:=_) ?_ rfl ?_
  ·have Na:=Bool.eq_false_iff.2 hc;simpa [cg]using Na
  rw[if_neg hc]at cF;clear hc;refine aF<|aq<|sP 1 [.z aD] rfl<|w4 hs rfl fun bw g1 hs ai=>?_;obtain⟨aD,fh⟩:=cr ai aD fh;refine sN 0 hs rfl fun g1 hs ai=>?_;obtain⟨aD,fh⟩:=cr ai aD fh;refine b_<|az<|lJ [.o 1] hs rfl<|aI ?_;have hs:St g g1 [vO bw (cB f) 40,.obj b3 (.cells #[.slice fa s.fields.length fc,kb,.func (.func (Kh s.rest)) #[] #[],.bool s.jI] 89 (0,0))]:=hs;have K6:=(nW pQ).1;have hlen:=fh.ef;unfold maxLen at hlen;have WC:=fh;have UY:=aD;have dL:=G.le.refl g1
  refine bK (fun m a' w=> ∃(k:Nat) (h:bO) (g':G),w=g'.w∧St g g' [vO bw (cB h) 40,.obj b3 (.cells #[.slice fa s.fields.length fc,kb,.func (.func (Kh s.rest)) #[] #[],.bool s.jI] 89 (0,0))]∧G.le g1 g'∧
    k≤s.fields.length∧m=s.fields.length-k∧nU s.fields f=nU (s.fields.drop k) h∧
    Fr 93 [] [(1,vP bf),(3,vP b3),(5,vP bw),(53,.slice fa s.fields.length fc),(54,vI s.fields.length),(55,vI k)] a') s.fields.length
   (fun a' ha=>⟨0,f,g1,rfl,hs,dL,Nat.zero_le _,rfl,rfl,ha.kp rfl⟩) ?_
  clear hs dL fh aD;rintro m a' _ ⟨k,h,g',rfl,hs,dL,hk,rfl,de,dW⟩;have fh:=WC.mono dL;have aD:=UY.mono dL;revert a';refine ct<|aZ rfl<|az ?_;by_cases bt:k<s.fields.length
  ·refine aJ (b:=decide ((k:Int)<(s.fields.length:Int))) (by simp;omega) rfl ?_;have w6:=K6 _ (List.getElem_mem bt);have eH:=bZ (n:=((k:Nat):Int)) rfl bt;rw[←List.getElem_cons_drop bt]at de;rw[uV]at de;generalize s.fields[k]=x at*;refine aF<|aq<|az<|aI<|cR<|zc (y:=x) fh eH rfl ?_;rintro bq pq ys aL rfl;refine q5 1 [.e aL 0] rfl<|w4 hs rfl fun bx g1 hs ai=>?_;obtain⟨dL,aD⟩:=cr ai dL aD;refine sN 0 hs rfl fun g1 hs ai=>?_;obtain⟨dL,aD⟩:=cr ai dL aD;refine b_<|c_ 2 [.o 0] hs rfl<|ak rfl rfl<|fb rfl rfl rfl rfl rfl rfl (dy (first:=#[]) (captured:=#[]) (args:=[vP bw]) (HZ w6) rfl (M8 w6 bw _)) ?_;rintro g4 _ mg rfl;replace hs:=hs.call mg;have ai:=mg.le;obtain⟨dL,aD⟩:=cr ai dL aD;refine aX rfl<|az<|az ?_;by_cases yk:h.num x.at_<x.lo
   ·apply bD hs (dn (gU (eF []))) 14 [(13,75)] (by kernel_rfl) rfl
    ·exact EF [[],[0]] rfl<|fR [(1,63)] (fun gd hf=>aax rfl (ay rfl (cJ T.ok 1 rfl (hs.dr.call hf) rfl rfl (Aq w6 h) ⟨_,rfl,a_.refl _,rfl⟩)))<|pO [[],[3]] [.o 0] hs rfl<|fR [(2,64),(4,66)] (fun gd hf=>aaw rfl (ay rfl (aE _ T.ok rfl ⟨_,rfl,a_.refl _,congrArg Value.bool (decide_eq_true yk)⟩)))<|HW [[5],[6],[7,6],[8,6],[6],[10,6],[9,11,6],[6,12]] rfl
    clear hs;intro g5 hs ai;obtain⟨dL,aD⟩:=cr ai dL aD;refine b_<|aas rfl<|aZ rfl<|aG<|dO<|gQ<|dO<|dO<|gQ<|dO<|nw rfl hs ?_;rw[cF,de,if_pos (by simp[yk])]
   apply bD hs (dn (gU (eF []))) 14 [(13,75)] (by kernel_rfl) rfl
   ·exact EF [[],[0]] rfl<|fR [(1,63)] (fun gd hf=>aax rfl (ay rfl (cJ T.ok 1 rfl (hs.dr.call hf) rfl rfl (Aq w6 h) ⟨_,rfl,a_.refl _,rfl⟩)))<|pO [[],[3]] [.o 0] hs rfl<|fR [(2,64),(4,66)] (fun gd hf=>aaw rfl (ay rfl (aE _ T.ok rfl ⟨_,rfl,a_.refl _,congrArg Value.bool (decide_eq_false yk)⟩)))<|EF [[5],[6],[7,6]] rfl<|fR [(8,70),(6,68)] (fun gd hf=>aaw rfl (ay rfl (cJ T.ok 1 rfl (hs.dr.call hf) rfl rfl (Aq w6 h) ⟨_,rfl,a_.refl _,rfl⟩)))<|EG [[6],[10,6],[9,11,6],[6,12]] [.o 0] hs rfl
   clear hs;intro g5 hs ai;obtain⟨dL,aD⟩:=cr ai dL aD;apply b_;by_cases tI:x.hi<h.num x.at_
   ·refine aJ (b:=decide (x.hi<h.num x.at_)) (decide_eq_true tI) rfl<|aZ rfl<|aG<|dO<|gQ<|dO<|dO<|gQ<|dO<|nw rfl hs ?_;rw[cF,de,if_pos (by simp[tI])]
   refine aQ (b:=decide (x.hi<h.num x.at_)) (decide_eq_false tI) rfl ?_;rw[if_neg (by simp[yk,tI])]at de;refine aF<|aq<|an<|Wp 2 rfl<|bu rfl<|aw T.ok 1 rfl hs rfl rfl rfl rfl rfl rfl rfl (Nat.ble_eq_true_of_le (H6 w6 h 0).2) (H6 w6 h 0).1 fun g6 hs ai=>?_;obtain⟨dL,aD⟩:=cr ai dL aD;replace hs:=hs.drop 0;exact aA<|bJ<|aq<|an<|Wp 2 rfl<|aA<|fun a ha=>⟨s.fields.length-(k+1),by omega,k+1,h.put x.at_ 0,_,rfl,hs,dL,by omega,rfl,de,ha.keep ⟨rfl,rfl,rfl,rfl,rfl,kW rfl,trivial⟩⟩
  refine aQ (b:=decide ((k:Int)<(s.fields.length:Int))) (by simp;omega) rfl ?_;rw[List.drop_of_length_le (by omega)]at de;rw[de]at cF;have cF:fT f=decide ((if s.jI then {h with text:=[]}else h)=rB f):=cF;refine bc<|bg<|bg<|cA<|aq<|az<|lJ [.o 1] hs rfl ?_
  cases ht:s.jI with
  |true=>
   refine aas rfl<|an<|Wp 1 rfl<|sN 0 hs rfl fun g1 hs ai=>?_;replace aD:=aD.mono ai;have hs:St g g1 [vO bw (cB {h with text:=[]}) 40,.obj b3 (.cells #[.slice fa s.fields.length fc,kb,.func (.func (Kh s.rest)) #[] #[],.bool s.jI] 89 (0,0))]:=hs;refine b_<|c_ 9 [.o 0,.z aD,.z aD,.z aD,.z aD] hs rfl<|BO [(0,vI f.kind),(2,vI f.ver),(3,vI f.day),(4,.bool f.gone)] (cB (rB f)) [(0,1),(1,1),(2,1),(3,1),(4,1),(5,1),(6,1),(7,1),(8,1),(9,1),(10,1),(11,1),(12,1),(13,1),(14,1),(15,1),(16,1),(17,1),(18,1)] rfl<|ak rfl rfl<|tM (neg:=false) rfl rfl rfl (by kernel_rfl) (YB {h with text:=[]} (rB f) _)<|aX rfl<|aG<|nw rfl hs ?_;rw[cF,ht];simp
  |false=>
   refine aar rfl<|aF<|aq<|c_ 9 [.o 0,.z aD,.z aD,.z aD,.z aD] hs rfl<|BO [(0,vI f.kind),(2,vI f.ver),(3,vI f.day),(4,.bool f.gone)] (cB (rB f)) [(0,1),(1,1),(2,1),(3,1),(4,1),(5,1),(6,1),(7,1),(8,1),(9,1),(10,1),(11,1),(12,1),(13,1),(14,1),(15,1),(16,1),(17,1),(18,1)] rfl<|ak rfl rfl<|tM (neg:=false) rfl rfl rfl (by kernel_rfl) (YB h (rB f) _)<|aX rfl<|aG<|nw rfl hs ?_;rw[cF,ht];simp
end Go.Proofs.YtbfjdfecgiegpaaGreatDoor
namespace Go.Proofs.YtbfjdfecgiegpaaGreatDoor
open Go Go.K
theorem Kv{i j:Nat}(hi:mi i)(hj:mi j)(f:bO)(n:Int):(f.put i n).num j=if j=i then n else f.num j:=by
 rcases hi with rfl|rfl|rfl|rfl|rfl|rfl|rfl|rfl|rfl|rfl|rfl|rfl|rfl|rfl<;>
 rcases hj with rfl|rfl|rfl|rfl|rfl|rfl|rfl|rfl|rfl|rfl|rfl|rfl|rfl|rfl<;>rfl
theorem sE: ∀(l:List kK) (f g:bO),(l.map (·.at_)).Nodup→(∀x∈l,mi x.at_)→nU l f=some g→ ∀x∈l,x.lo≤f.num x.at_∧f.num x.at_≤x.hi
 |[],_,_,_,_,_,x,hx=>by simp at hx
 |y::l,f,g,hn,hf,h,x,hx=>by
  rw[uV]at h;split at h
  ·cases h
  rename_i hc;simp only[Bool.or_eq_true,decide_eq_true_eq,not_or]at hc;simp only[List.map_cons,List.nodup_cons]at hn;rcases List.mem_cons.1 hx with rfl|hx
  ·omega
  have ih:=sE l _ _ hn.2 (fun z hz=>hf z (List.mem_cons_of_mem _ hz)) h x hx;rw[Kv (hf y (List.mem_cons_self ..)) (hf x (List.mem_cons_of_mem _ hx)),if_neg (fun e=>hn.1 (by rw[←e];exact List.mem_map.2 ⟨x,hx,rfl⟩))]at ih;exact ih
theorem pz{k:Int}{s:CT}(h:ee k=some s):(s.fields.map (·.at_)).Nodup∧(∀x∈s.fields,-10000000≤x.lo∧x.hi≤10000000)∧(∀x∈s.key,∃y∈s.fields,y.at_=x.at_)∧s.key.length≤2∧s.key≠[]∧s.fields.length≤11∧1≤k∧k≤11:=by
 unfold ee at h;split at h
 ·cases h
 rename_i hk;have bt:=(List.getElem?_eq_some_iff.1 h).1;have hl:nT.length=11:=rfl;have hm:=List.mem_of_getElem? h;have: ∀s∈nT,(s.fields.map (·.at_)).Nodup∧(∀x∈s.fields,-10000000≤x.lo∧x.hi≤10000000)∧(∀x∈s.key,∃y∈s.fields,y.at_=x.at_)∧s.key.length≤2∧s.key.length≠0∧s.fields.length≤11:=by decide
 obtain⟨h1,h2,h3,h4,h5,h6⟩:=this s hm;exact⟨h1,h2,h3,h4,fun e=>h5 (by rw[e];rfl),h6,by omega,by omega⟩
theorem mj{f:bO}(h:fT f=true): ∃s,ee f.kind=some s∧(∀x∈s.fields,x.lo≤f.num x.at_∧f.num x.at_≤x.hi)∧(∀x∈s.fields,sF (f.num x.at_))∧(∀x∈s.key,sF (f.num x.at_))∧1≤f.ver∧f.ver≤1000000∧0≤f.day∧f.day≤100000∧(f.text.length:Int)≤8192∧sC s.rest f=true:=by
 unfold fT at h;cases hs:ee f.kind with
 |none=>rw[hs]at h;cases h
 |some s=>
  rw[hs]at h;simp only at h;split at h
  ·cases h
  rename_i hc;simp only[Bool.or_eq_true,decide_eq_true_eq,not_or,Bool.not_eq_true',Bool.not_eq_false]at hc;obtain⟨h1,h2,h3,_⟩:=pz hs;cases fw:nU s.fields f with
  |none=>rw[fw]at h;cases h
  |some g=>
   have hr:=sE _ _ _ h1 (nW hs).1 fw;have hi: ∀x∈s.fields,sF (f.num x.at_):=fun x hx=>by have:=hr x hx;have:=h2 x hx;unfold sF;omega
   refine⟨s,rfl,hr,hi,fun x hx=>?_,by omega,by omega,by omega,by omega,by omega,hc.2⟩;obtain⟨y,hy,e⟩:=h3 x hx;rw[←e];exact hi y hy
end Go.Proofs.YtbfjdfecgiegpaaGreatDoor
namespace Go.K
open Go Go.RowKit
variable {F:Fence} {P:Program} {N:Nat} {ds:List Deferred} {l:Env} {w:World} {Q:Exit→Act→World→Prop} {o:Oper} {g0 g:G} {L:List df} {K:Value→World→Prop}
theorem yQ{x:Operand}{ts:Array TypeId}{ad:Addr}{n c:Nat}(ho:o.op= .call {callee:=.builtin .unsafeSliceData,args:=#[x],argTypes:=ts})(hx:ev l x=some (.slice (some ad) n c))(hc:c≠0)(k:K (.pointer (some ad)) w):cS F P N ds o l w Q K:=
 fZ ho (fun a ha=>by have:=Lib.run_unsafeSliceData_row (P:=P) (w:=w) ts o.type ad n c hc;simp[resolve,invoke,builtin,ha.ev hx,this]) k
theorem ox(w:World)(b n:Nat):w.grownBy (w.freeze ⟨b,0,none⟩ n) (some b):=by
 unfold World.freeze;split
 ·exact jV _ _
 exact⟨rfl,rfl,rfl,by simp,fun k _ eO=>by simp only[Array.getElem?_modify];rw[if_neg (fun e=>eO (by rw[←e]))]⟩
theorem yR{x y:Operand}{pt it e:TypeId}{br cap:Nat}{cur:Array Value}{xs:List UInt8}(i:Nat)(hs:St g0 g L)(hi:L[i]? =some (.obj br (.cells cur e (0,0))))(ho:o.op= .call {callee:=.builtin .unsafeString,args:=#[x,y],argTypes:=#[pt,it]})
  (hx:ev l x=some (vP br)) (hy:ev l y=some (vI xs.length)) (h0:xs≠[]) (Ps:P.underlying pt=some (.pointer e)) (Np:P.cellsOf e=1) (hn:xs.length≤cap) (tJ:cap≤maxLen) (ph:cur.size=cap) (dP:cur.toList.take xs.length=eU xs)
  (k: ∀g',St g0 g' (L.eraseIdx i)→g.le g'→K (.string (bs xs)) g'.w):cS F P N ds o l g.w Q K:=by
 have eh:=hs.own i _ hi;have hh:=eh.2.1;have jX:=Lib.run_unsafeString_row (P:=P) (w:=g.w) pt it o.type e Ps Np br cap (by simp[World.shape?,hh,ph]) xs h0 hn (by unfold maxLen at tJ;omega) (fun j x hj=>by
  have sn:(eU xs)[j]? =some (.int .u8 (x.toNat:Int)):=by simp[eU,hj]
  rw[←dP,List.getElem?_take]at sn;split at sn
  ·rw[Addr.add_lit];simp only[World.cell?,hh,Nat.zero_add];simpa using sn
  cases sn)
 let g':G:=⟨g.w.freeze ⟨br,0,none⟩ xs.length,g.im,fun b h=>Nat.lt_of_lt_of_le (g.lt b h) (ox g.w br xs.length).size⟩
 have bt:br<g.w.heap.size:=(Array.getElem?_eq_some_iff.1 hh).1;obtain⟨o',pb⟩: ∃o',g'.w.heap[br]? =some o':=⟨g'.w.heap[br]'(Nat.lt_of_lt_of_le bt (ox g.w br xs.length).size),Array.getElem?_eq_getElem _⟩;have dI:=hs.Kp (g':=g') (e':=.obj br o') hi (ox g.w br xs.length) (fun _ _=>Iff.rfl) ⟨eh.1,pb,eh.2.2⟩ (fun b hb=> .inl hb);have vB:=dI.1.drop i;rw[List.eraseIdx_set_eq]at vB;refine fZ (w':=g'.w) ho (fun a ha=>?_) (k g' vB dI.2);simp[resolve,invoke,builtin,ha.ev hx,ha.ev hy,jX];exact⟨rfl,rfl⟩
end Go.K
namespace Go.Proofs.YtbfjdfecgiegpaaGreatDoor
open Go Go.K Tryz
set_option maxRecDepth 10000
attribute [local irreducible] W WL cS bh bY bB bA bC cL cD
theorem j5(n lo hi:Int)(g:G):cN prog 207 #[vI n,vI lo,vI hi] g fun _ v=>v= .bool (within n lo hi):=by
 have hs:=St.start g;refine enter func207 rfl ntmps207 rfl<|aZ rfl<|cG 4 rfl<|cH (want:=true) (x:=decide (n≤hi)) 3 aK rfl rfl rfl rfl (.inl ⟨rfl,rfl,rfl⟩) rfl rfl rfl rfl (fun hb Q' eS=>?_) (fun g' hf=>?_)
 ·exact Wp 3 rfl<|aA<|fun a ha=>eS _ a (a_.refl _) (ha.kp rfl)
 replace hs:=hs.call hf;exact aX rfl<|aG (nw rfl hs rfl)
theorem zV(l:List Int)(lo hi:Int)(k:Nat)(h:k<l.length):
  (if k=0 then ascending l lo hi else kN lo hi (l.getD (k-1) 0) (l.drop k))=(within l[k] lo hi&&(decide (k=0)||decide (l.getD (k-1) 0<l[k]))&&kN lo hi l[k] (l.drop (k+1))):=by
 by_cases hk:k=0
 ·subst hk;cases l with
  |nil=>simp at h
  |cons n r=>simp[ascending]
 rw[if_neg hk,List.drop_eq_getElem_cons h];simp[kN,hk]
theorem vt(v:Value)(l:List Int)(lo hi:Int)(g:G)(hl:Rs g v l):
  cN prog 253 #[v,vI lo,vI hi] g fun _ r=>r= .bool (ascending l lo hi):=by
 obtain⟨a,c,rfl⟩:=hl.isSlice;have hlen:=hl.ef;unfold maxLen at hlen;have hs:=St.start g;refine enter func253 rfl ntmps253 rfl<|aZ rfl<|az<|aZ rfl<|aI ?_;refine bK (fun m a' w=> ∃(k:Nat) (g':G),w=g'.w∧St g g' []∧G.le g g'∧k≤l.length∧m=l.length-k∧((if k=0 then ascending l lo hi else kN lo hi (l.getD (k-1) 0) (l.drop k))=ascending l lo hi)∧
  Fr 35 [] [(0,.slice a l.length c),(1,vI lo),(2,vI hi),(9,.slice a l.length c),(10,vI l.length),(11,vI k)] a') l.length (fun a' ha=>⟨0,g,rfl,hs,G.le.refl g,Nat.zero_le _,rfl,by simp,ha.kp rfl⟩) ?_
 clear hs;rintro m a' _ ⟨k,g',rfl,hs,ar,hk,rfl,de,dW⟩;revert a';refine ct<|aZ rfl<|az ?_;by_cases bt:k<l.length
 ·refine aJ (b:=decide ((k:Int)<(l.length:Int))) (by simp;omega) rfl ?_;rw[zV l lo hi k bt]at de;refine aF<|aq<|az<|aI<|cG 1 rfl<|zc (y:=l[k]) (hl.mono ar) (by simp[dJ,bt]) rfl ?_;rintro b p ys aL rfl;refine q5 1 [.e aL 0] rfl<|aX rfl<|cG 3 rfl<|Ev rfl (j5 _ _ _ _) hs fun g1 hs ai=>?_;replace ar:=G.le.trans ar ai;refine Wp 2 rfl<|cH (want:=false) (x:=decide (0<(k:Int))&&decide (l[k]≤l.getD (k-1) 0)) 11 aK rfl rfl rfl rfl (.inr ⟨rfl,rfl,rfl⟩) rfl rfl rfl rfl (fun hb Q' eS=>?_) (fun g' hf=>?_)
  ·refine Wp 3 rfl<|cH (want:=true) (x:=decide (l[k]≤l.getD (k-1) 0)) 7 aK rfl rfl rfl rfl (.inl ⟨rfl,rfl,rfl⟩) rfl rfl rfl rfl (fun hb Q' eS=>?_) (fun g' hf=>?_)
   ·have De:0<k:=by simpa using hb
    refine Wp 4 rfl<|zc (y:=l[k-1]) (hl.mono ar) (bZ (by rw[wq];omega) (by omega)) rfl ?_;rintro b p ys aL rfl;refine q5 1 [.e aL 0] rfl<|Wp 1 rfl<|aA ?_;have e:l.getD (k-1) 0=l[k-1]:=by simp[List.getD_eq_getElem?_getD,show k-1<l.length from by omega]
    rw[e]at eS;exact fun a ha=>eS _ a (a_.refl _) (ha.kp rfl)
   exact aA<|fun a ha=>eS _ a hf (ha.kp rfl)
  replace hs:=hs.call hf;have ai:=hf.le;replace ar:=G.le.trans ar ai;apply b_;by_cases mO:((!within l[k] lo hi)||(decide (0<(k:Int))&&decide (l[k]≤l.getD (k-1) 0)))=true
  ·refine aJ mO rfl<|aZ rfl<|aG<|nw rfl hs ?_;rw[←de]
   have:(within l[k] lo hi&&(decide (k=0)||decide (l.getD (k-1) 0<l[k]))&&kN lo hi l[k] (List.drop (k+1) l))=false:=by
    simp only[Bool.or_eq_true,Bool.not_eq_true',Bool.and_eq_true,decide_eq_true_eq]at mO;rcases mO with h|⟨h1,h2⟩
    ·simp[h]
    have e1:decide (k=0)=false:=by simp;omega
    have e2:decide (l.getD (k-1) 0<l[k])=false:=by simp only[decide_eq_false_iff_not];omega
    rw[e1,e2];simp
   rw[this]
  refine aQ (Bool.eq_false_iff.2 mO) rfl<|aF<|bJ<|aq<|an<|Wp 2 rfl<|aA<|fun a ha=>⟨l.length-(k+1),by omega,k+1,_,rfl,hs,ar,by omega,rfl,?_,ha.keep ⟨rfl,rfl,rfl,rfl,rfl,kW rfl,trivial⟩⟩
  rw[←de];simp only[Bool.not_eq_true,Bool.or_eq_false_iff,Bool.not_eq_false',Bool.and_eq_false_iff,decide_eq_false_iff_not]at mO;have e:l.getD (k+1-1) 0=l[k]:=by simp[List.getD_eq_getElem?_getD,bt]
  rw[if_neg (by omega),e,mO.1];have h2:(decide (k=0)||decide (l.getD (k-1) 0<l[k]))=true:=by simp only[Bool.or_eq_true,decide_eq_true_eq];rcases mO.2 with h|h<;>omega
  rw[h2];simp
 refine aQ (b:=decide ((k:Int)<(l.length:Int))) (by simp;omega) rfl<|bc<|bg<|bg<|cA<|aq<|aZ rfl ?_;obtain rfl:k=l.length:=by omega
 refine aG<|nw rfl hs ?_;rw[←de];by_cases h0:l.length=0
 ·rw[if_pos h0,List.eq_nil_of_length_eq_zero h0];rfl
 rw[if_neg h0];simp[kN]
theorem tH(v:Value)(f:bG)(g:G)(hf:fP g v f):cN prog 206 #[v] g fun _ r=>r= .bool (eg f):=by
 obtain⟨a1,n1,c1,a2,n2,c2,rfl,h1,h2⟩:=hf;have hs:=St.start g;have ar:=G.le.refl g;refine enter func206 rfl ntmps206 rfl<|cR<|EH hs rfl fun b1 g1 hs ai=>aX rfl<|c_ 4 [.o 0] hs rfl<|cH (want:=true) (x:=decide (f.dm≤f.dv)) 5 aK rfl rfl rfl rfl (.inl ⟨rfl,rfl,rfl⟩) rfl rfl rfl rfl (fun hb Q' eS=>?_) (fun g' hf=>?_)
 ·exact Wm 5 [.o 0,.o 0] hs rfl<|aA<|fun a ha=>eS _ a (a_.refl _) (ha.kp rfl)
 replace hs:=hs.call hf;refine Wp 1 rfl<|cH (want:=true) (x:=decide (f.dv≤10000)) 3 aK rfl rfl rfl rfl (.inl ⟨rfl,rfl,rfl⟩) rfl rfl rfl rfl (fun hb Q' eS=>?_) (fun g' hf=>?_)
 ·exact Wm 3 [.o 0] hs rfl<|aA<|fun a ha=>eS _ a (a_.refl _) (ha.kp rfl)
 replace hs:=hs.call hf;exact aX rfl<|aG (nw rfl hs rfl)
theorem gv(w:cQ)(n:Int)(g:G)(h1:0≤n)(h2:n≤9223372036854775807):
  cN prog 211 #[.agg #[vI w.src,vI w.dst,vI w.dN],vI n] g fun _ r=>r= .bool (dA w n):=by
 have hs:=St.start g;have hn:IntKind.i64.wrap (n-1)=n-1:=wq;refine enter func211 rfl ntmps211 rfl<|cR<|EH hs rfl fun b1 g1 hs ai=>aX rfl<|c_ 4 [.o 0] hs rfl ?_;rw[hn];refine Ev rfl (j5 _ _ _ _) hs fun g1 hs ai=>Wp 1 rfl<|cH (want:=true) (x:=within w.dst 0 (n-1)) 5 aK rfl rfl rfl rfl (.inl ⟨rfl,rfl,rfl⟩) rfl rfl rfl rfl (fun hb Q' eS=>?_) (fun g' hf=>?_)
 ·refine Wm 4 [.o 0] hs rfl ?_;rw[hn];refine sO rfl (j5 _ _ _ _) ?_;rintro g1 _ aP rfl;replace hs:=hs.call aP;have ai:=aP.le;exact aA<|fun a ha=>eS _ a aP (ha.kp rfl)
 replace hs:=hs.call hf;refine Wp 1 rfl<|cH (want:=true) (x:=w.src !=w.dst) 5 aK rfl rfl rfl rfl (.inl ⟨rfl,rfl,rfl⟩) rfl rfl rfl rfl (fun hb Q' eS=>?_) (fun g' hf=>?_)
 ·exact Wm 5 [.o 0,.o 0] hs rfl<|aA<|fun a ha=>eS _ a (a_.refl _) (ha.kp rfl)
 replace hs:=hs.call hf;refine Wp 1 rfl<|cH (want:=true) (x:=within w.dN 0 1000000) 3 aK rfl rfl rfl rfl (.inl ⟨rfl,rfl,rfl⟩) rfl rfl rfl rfl (fun hb Q' eS=>?_) (fun g' hf=>?_)
 ·refine Wm 2 [.o 0] hs rfl<|sO rfl (j5 _ _ _ _) ?_;rintro g1 _ aP rfl;replace hs:=hs.call aP;have ai:=aP.le;exact aA<|fun a ha=>eS _ a aP (ha.kp rfl)
 replace hs:=hs.call hf;exact aX rfl<|aG (nw rfl hs rfl)
end Go.Proofs.YtbfjdfecgiegpaaGreatDoor
namespace Go.Proofs.YtbfjdfecgiegpaaGreatDoor
open Go Go.K Tryz
set_option maxRecDepth 10000
attribute [local irreducible] W WL cS bh bY bB bA bC cL cD
theorem vu(v:Value)(s:Step)(n:Int)(g:G)(hv:jS g v s)(h1:0≤n)(h2:n≤9223372036854775807):
  cN prog 210 #[v,vI n] g fun _ r=>r= .bool (cf s n):=by
 obtain⟨cs,rfl,a1,n1,c1,a2,n2,c2,rfl,uy,Bq⟩:=hv;obtain⟨_,_,e⟩:=uy.isSlice;obtain⟨rfl,rfl,rfl⟩:=Value.slice.inj e;clear e;obtain⟨_,_,e⟩:=Bq.isSlice;obtain⟨rfl,rfl,rfl⟩:=Value.slice.inj e;clear e;have hs:=St.start g;have ar:=G.le.refl g;have hn:IntKind.i64.wrap (n-1)=n-1:=wq;refine enter func210 rfl ntmps210 rfl<|cR<|EH hs rfl fun b1 g1 hs ai=>?_;replace ar:=G.le.trans ar ai;refine aX rfl<|c_ 4 [.o 0] hs rfl<|cH (want:=true) (x:=s.dN==0) 3 aK rfl rfl rfl rfl (.inl ⟨rfl,rfl,rfl⟩) rfl rfl rfl rfl (fun hb Q' eS=>?_) (fun g' hf=>?_)
 ·exact Wm 3 [.o 0] hs rfl<|aA<|fun a ha=>eS _ a (a_.refl _) (ha.kp rfl)
 replace hs:=hs.call hf;have ai:=hf.le;replace ar:=G.le.trans ar ai;refine Wp 1 rfl<|cH (want:=false) (x:=within s.back 0 (n-1)&&within s.dN 1 9) 10 aK rfl rfl rfl rfl (.inr ⟨rfl,rfl,rfl⟩) rfl rfl rfl rfl (fun hb Q' eS=>?_) (fun g' hf=>?_)
 ·refine Wm 4 [.o 0] hs rfl ?_;rw[hn];refine sO rfl (j5 _ _ _ _) ?_;rintro g1 _ aP rfl;replace hs:=hs.call aP;have ai:=aP.le;replace ar:=G.le.trans ar ai;refine Wp 1 rfl<|cH (want:=true) (x:=within s.dN 1 9) 3 aK rfl rfl rfl rfl (.inl ⟨rfl,rfl,rfl⟩) rfl rfl rfl rfl (fun hb Q' eS=>?_) (fun g' hf=>?_)
  ·refine Wm 2 [.o 0] hs rfl<|sO rfl (j5 _ _ _ _) ?_;rintro g1 _ aP rfl;replace hs:=hs.call aP;have ai:=aP.le;replace ar:=G.le.trans ar ai;exact aA<|fun a ha=>eS _ a aP (ha.kp rfl)
  exact aA fun a ha=>eS _ a (aP.trans hf) (ha.kp rfl)
 replace hs:=hs.call hf;have ai:=hf.le;replace ar:=G.le.trans ar ai;refine aX rfl<|c_ 3 [.o 0] hs rfl<|Ev rfl (j5 _ _ _ _) hs fun g1 hs ai=>?_;replace ar:=G.le.trans ar ai;refine Wp 1 rfl<|cH (want:=true) (x:=decide ((s.next.length:Int)≤4)) 4 aK rfl rfl rfl rfl (.inl ⟨rfl,rfl,rfl⟩) rfl rfl rfl rfl (fun hb Q' eS=>?_) (fun g' hf=>?_)
 ·exact Wm 4 [.o 0] hs rfl<|aA<|fun a ha=>eS _ a (a_.refl _) (ha.kp rfl)
 replace hs:=hs.call hf;have ai:=hf.le;replace ar:=G.le.trans ar ai;refine aX rfl<|cG 2 rfl<|cH (want:=true) (x:=within (↑s.ed.length) 1 8&&decide ((s.next.length:Int)≤4)) 1 aK rfl rfl rfl rfl (.inl ⟨rfl,rfl,rfl⟩) rfl rfl rfl rfl (fun hb Q' eS=>?_) (fun g' hf=>?_)
 ·exact Wp 1 rfl<|aA<|fun a ha=>eS _ a (a_.refl _) (ha.kp rfl)
 replace hs:=hs.call hf;have ai:=hf.le;replace ar:=G.le.trans ar ai;refine Wp 1 rfl<|cH (want:=true) (x:=within s.eQ 1 1000000) 3 aK rfl rfl rfl rfl (.inl ⟨rfl,rfl,rfl⟩) rfl rfl rfl rfl (fun hb Q' eS=>?_) (fun g' hf=>?_)
 ·refine Wm 2 [.o 0] hs rfl<|sO rfl (j5 _ _ _ _) ?_;rintro g1 _ aP rfl;replace hs:=hs.call aP;have ai:=aP.le;replace ar:=G.le.trans ar ai;exact aA<|fun a ha=>eS _ a aP (ha.kp rfl)
 replace hs:=hs.call hf;have ai:=hf.le;replace ar:=G.le.trans ar ai;refine Wp 1 rfl<|cH (want:=true) (x:=ascending s.ed 0 59) 3 aK rfl rfl rfl rfl (.inl ⟨rfl,rfl,rfl⟩) rfl rfl rfl rfl (fun hb Q' eS=>?_) (fun g' hf=>?_)
 ·refine Wm 2 [.o 0] hs rfl<|sO rfl (vt _ s.ed _ _ _ (uy.mono ar)) ?_;rintro g1 _ aP rfl;replace hs:=hs.call aP;have ai:=aP.le;replace ar:=G.le.trans ar ai;exact aA<|fun a ha=>eS _ a aP (ha.kp rfl)
 replace hs:=hs.call hf;have ai:=hf.le;replace ar:=G.le.trans ar ai;refine Wp 1 rfl<|cH (want:=true) (x:=ascending s.next 0 (n-1)) 5 aK rfl rfl rfl rfl (.inl ⟨rfl,rfl,rfl⟩) rfl rfl rfl rfl (fun hb Q' eS=>?_) (fun g' hf=>?_)
 ·refine Wm 4 [.o 0] hs rfl ?_;rw[hn];refine sO rfl (vt _ s.next _ _ _ (Bq.mono ar)) ?_;rintro g1 _ aP rfl;replace hs:=hs.call aP;have ai:=aP.le;exact aA<|fun a ha=>eS _ a aP (ha.kp rfl)
 replace hs:=hs.call hf;have ai:=hf.le;refine Wp 1 rfl<|cH (want:=true) (x:=decide (1≤s.min)) 3 aK rfl rfl rfl rfl (.inl ⟨rfl,rfl,rfl⟩) rfl rfl rfl rfl (fun hb Q' eS=>?_) (fun g' hf=>?_)
 ·exact Wm 3 [.o 0] hs rfl<|aA<|fun a ha=>eS _ a (a_.refl _) (ha.kp rfl)
 replace hs:=hs.call hf;have ai:=hf.le;refine Wp 1 rfl<|cH (want:=true) (x:=decide (s.min≤s.max)) 5 aK rfl rfl rfl rfl (.inl ⟨rfl,rfl,rfl⟩) rfl rfl rfl rfl (fun hb Q' eS=>?_) (fun g' hf=>?_)
 ·exact Wm 5 [.o 0,.o 0] hs rfl<|aA<|fun a ha=>eS _ a (a_.refl _) (ha.kp rfl)
 replace hs:=hs.call hf;have ai:=hf.le;refine Wp 1 rfl<|cH (want:=true) (x:=decide (s.max≤10000)) 3 aK rfl rfl rfl rfl (.inl ⟨rfl,rfl,rfl⟩) rfl rfl rfl rfl (fun hb Q' eS=>?_) (fun g' hf=>?_)
 ·exact Wm 3 [.o 0] hs rfl<|aA<|fun a ha=>eS _ a (a_.refl _) (ha.kp rfl)
 replace hs:=hs.call hf;have ai:=hf.le;exact aX rfl<|aG (nw rfl hs rfl)
theorem uT(v:Value)(l:List cQ)(w:cQ)(g:G)(hl:Rs g v l):
  cN prog 212 #[v,.agg #[vI w.src,vI w.dst,vI w.dN]] g fun _ r=>r= .bool (follows l w):=by
 obtain⟨a,c,rfl⟩:=hl.isSlice;have hlen:=hl.ef;unfold maxLen at hlen;have hs:=St.start g;have ar:=G.le.refl g;refine enter func212 rfl ntmps212 rfl<|cR<|EH hs rfl fun b1 g1 hs ai=>?_;replace ar:=G.le.trans ar ai;refine aX rfl<|az<|aZ rfl ?_;by_cases h0:l.length=0
 ·refine aJ (b:=(l.length:Int)==0) (by simp[h0]) rfl<|aZ rfl<|aG<|nw rfl hs ?_;rw[List.eq_nil_of_length_eq_zero h0];rfl
 refine aQ (b:=(l.length:Int)==0) (by simp only[beq_eq_false_iff_ne];omega) rfl<|aF<|aq<|cG 4 rfl<|zc (y:=l[l.length-1]) (hl.mono ar) (bZ (by rw[wq];omega) (by omega)) rfl ?_;rintro b p ys aL rfl;refine q5 1 [.e aL 0] rfl<|w4 hs rfl fun b1 g1 hs ai=>sN 0 hs rfl fun g1 hs ai=>b_<|c_ 6 [.o 0,.o 1] hs rfl<|cH (want:=false) (x:=(l[l.length-1].src==w.src&&decide (l[l.length-1].dst<w.dst))) 12 aK rfl rfl rfl rfl (.inr ⟨rfl,rfl,rfl⟩) rfl rfl rfl rfl (fun hb Q' eS=>?_) (fun g' hf=>?_)
 ·refine Wm 6 [.o 0,.o 1] hs rfl<|cH (want:=true) (x:=decide (l[l.length-1].dst<w.dst)) 5 aK rfl rfl rfl rfl (.inl ⟨rfl,rfl,rfl⟩) rfl rfl rfl rfl (fun hb Q' eS=>?_) (fun g' hf=>?_)
  ·exact Wm 5 [.o 0,.o 1] hs rfl<|aA<|fun a ha=>eS _ a (a_.refl _) (ha.kp rfl)
  exact aA fun a ha=>eS _ a hf (ha.kp rfl)
 replace hs:=hs.call hf;have ai:=hf.le;refine aX rfl<|aG<|nw rfl hs ?_;unfold follows;rw[List.getLast?_eq_getElem?,List.getElem?_eq_getElem (by omega)]
 rfl
end Go.Proofs.YtbfjdfecgiegpaaGreatDoor
namespace Go.Proofs.YtbfjdfecgiegpaaGreatDoor
open Go Go.K Tryz
set_option maxRecDepth 10000
attribute [local irreducible] W WL cS bh bY bB bA bC cL cD
theorem CS(v fv:Value)(l:List Step)(p:Step→Bool)(g:G)(hl:Rs g v l)
  (hp: ∀(g':G) (x:Step) (u:Value),g.le g'→jS g' u x→jd prog fv [u] g'.w (cO g' fun _ r=>r= .bool (p x))):
  cN prog 252 #[v,fv] g fun _ r=>r=vI (mT p l):=by
 obtain⟨a,c,rfl⟩:=hl.isSlice;have hlen:=hl.ef;unfold maxLen at hlen;have hs:=St.start g;refine enter func252 rfl ntmps252 rfl<|aZ rfl<|az<|aZ rfl<|aI ?_;refine bK (fun m a' w=> ∃(k:Nat) (g':G),w=g'.w∧St g g' []∧G.le g g'∧k≤l.length∧m=l.length-k∧(∀j (h:j<l.length),j<k→p l[j]=false)∧
  Fr 19 [] [(0,.slice a l.length c),(1,fv),(7,vI l.length),(8,vI k)] a') l.length (fun a' ha=>⟨0,g,rfl,hs,G.le.refl g,Nat.zero_le _,rfl,by simp,ha.kp rfl⟩) ?_
 clear hs;rintro m a' _ ⟨k,g',rfl,hs,ar,hk,rfl,de,dW⟩;revert a';refine ct<|aZ rfl<|az ?_;by_cases bt:k<l.length
 ·refine aJ (b:=decide ((k:Int)<(l.length:Int))) (by simp;omega) rfl<|aF<|aq<|az<|aI<|aZ rfl<|cG 3 rfl<|zc (y:=l[k]) (hl.mono ar) (by simp[dJ,bt]) rfl fun b q ys aL gw=>?_;have TB:jS g' (.agg ys.toArray) l[k]:=⟨ys,rfl,gw⟩;obtain⟨b1,b2,b3,b4,b5,b6,rfl,_,_⟩:=gw;refine q5 1 [.e aL 0] rfl<|ak rfl rfl<|fb rfl rfl rfl rfl rfl rfl (hp _ _ _ ar TB) ?_;rintro g1 _ aP rfl;replace hs:=hs.call aP;have ai:=aP.le;replace ar:=G.le.trans ar ai;apply b_;cases AB:p l[k]with
  |true=>
   exact aas rfl<|aZ rfl<|aG (nw rfl hs (by rw[vZ bt AB de]))
  |false=>
   refine aar rfl<|aF<|bJ<|aq<|an<|Wp 2 rfl<|aA<|fun a ha=>⟨l.length-(k+1),by omega,k+1,_,rfl,hs,ar,by omega,rfl,?_,ha.keep ⟨rfl,rfl,rfl,kW rfl,trivial⟩⟩
   intro j hj Ey;by_cases e:j=k
   ·subst e;exact AB
   exact de j hj (by omega)
 refine aQ (b:=decide ((k:Int)<(l.length:Int))) (by simp;omega) rfl<|bc<|bg<|bg<|cA<|aq<|aZ rfl ?_;obtain rfl:k=l.length:=by omega
 exact aG (nw rfl hs (by rw[v_ fun j h=>de j h h]))
theorem yi(v fv:Value)(l:List Step)(p:Step→Bool)(g:G)(hl:Rs g v l)
  (hp: ∀(g':G) (x:Step) (u:Value),g.le g'→jS g' u x→jd prog fv [u] g'.w (cO g' fun _ r=>r= .bool (p x))):
  cN prog 208 #[v,fv] g fun _ r=>r= .bool (l.any p):=by
 have hs:=St.start g;exact enter func208 rfl ntmps208 rfl<|aZ rfl<|cG 2 rfl<|Ev rfl (CS _ _ l p g hl hp) hs fun g1 hs ai=>aX rfl<|aG (nw rfl hs (by rw[←pV]))
theorem J7(v:Value)(s:Step)(b:Nat)(n:Int)(g:G)(hv:jS g v s)(hn:EP g b 0 [vI n])(h1:0≤n)(h2:n≤9223372036854775807):
  cN prog 209 #[v,vP b] g fun _ r=>r= .bool (!cf s n):=by
 have Ce:=hv;obtain⟨cs,rfl,a1,n1,c1,a2,n2,c2,rfl,uy,Bq⟩:=hv;have hs:=St.start g;have ar:=G.le.refl g;refine enter func209 rfl ntmps209 rfl<|cR<|EH hs rfl fun b1 g1 hs ai=>?_;replace ar:=G.le.trans ar ai;exact aX rfl<|c_ 1 [.o 0] hs rfl<|ak rfl rfl<|cI T.ok 0 rfl (hn.mono ar) rfl rfl<|Ev rfl (vu _ s n _ (Ce.mono ar) h1 h2) hs fun g1 hs ai=>aX rfl<|aG (nw rfl hs rfl)
end Go.Proofs.YtbfjdfecgiegpaaGreatDoor
namespace Go.Proofs.YtbfjdfecgiegpaaGreatDoor
open Go Go.K Tryz
set_option maxRecDepth 10000
attribute [local irreducible] W WL cS bh bY bB bA bC cL cD
set_option maxHeartbeats 400000
theorem EZ(v:Value)(f:bG)(g:G)(dt:fP g v f):cN prog 161 #[v] g fun _ r=>r= .bool (valid f):=by
 obtain⟨a1,n1,c1,a2,n2,c2,rfl,aH,aW⟩:=id dt;obtain⟨_,_,e⟩:=aH.isSlice;obtain⟨rfl,rfl,rfl⟩:=Value.slice.inj e;clear e;obtain⟨_,_,e⟩:=aW.isSlice;obtain⟨rfl,rfl,rfl⟩:=Value.slice.inj e;clear e;have hlen:=aH.ef;have NK:=aW.ef;unfold maxLen at hlen NK;have hs:=St.start g;have ar:=G.le.refl g;refine enter func161 rfl ntmps161 rfl<|cR<|EH hs rfl fun b1 g1 hs ai=>?_;obtain⟨aH,aW,dt⟩:=dR ai aH aW dt;refine aX rfl<|c_ 3 [.o 0] hs rfl ?_
 rename Nat=>b0
 refine w4 hs rfl fun b1 g1 hs ai=>?_;obtain⟨aH,aW,dt⟩:=dR ai aH aW dt;refine sN 0 hs rfl fun g1 hs ai=>?_;obtain⟨aH,aW,dt⟩:=dR ai aH aW dt;obtain⟨g2,bS,aV,ai,aL⟩:=hs.bd (i:=0) rfl;replace hs:=aV;clear aV;rw[←bS];obtain⟨aH,aW,dt⟩:=dR ai aH aW dt;have aD:=aL;clear aL bS ai;obtain⟨g2,bS,aV,ai,aL⟩:=hs.bd (i:=0) rfl;replace hs:=aV;clear aV;rw[←bS];obtain⟨aD,aH,aW,dt⟩:=dK ai aD aH aW dt;have aM:=aL;clear aL bS ai;have OE:=aM;have mP:=aD;have JM:=aW;have dL:=G.le.refl g2;refine b_<|az<|sP 1 [.z aM] rfl<|Ev rfl (tH _ f _ dt) hs fun g1 hs ai=>?_;obtain⟨dL,aD,aM,aH,aW⟩:=nX ai dL aD aM aH aW;refine Wp 2 rfl<|cH (want:=false) (x:=!within f.steps.length 1 40) 3 aK rfl rfl rfl rfl (.inr ⟨rfl,rfl,rfl⟩) rfl rfl rfl rfl (fun hb Q' eS=>?_) (fun g' hf=>?_)
 ·refine q5 1 [.z aD] rfl<|sO rfl (j5 _ _ _ _) ?_;rintro g1 _ aP rfl;replace hs:=hs.call aP;have ai:=aP.le;obtain⟨dL,aD,aM,aH,aW⟩:=nX ai dL aD aM aH aW;exact Wp 1 rfl<|aA<|fun a ha=>eS _ a aP (ha.kp rfl)
 replace hs:=hs.call hf;have ai:=hf.le;obtain⟨dL,aD,aM,aH,aW⟩:=nX ai dL aD aM aH aW;refine Wp 1 rfl<|cH (want:=false) (x:=decide (20<(f.windows.length:Int))) 4 aK rfl rfl rfl rfl (.inr ⟨rfl,rfl,rfl⟩) rfl rfl rfl rfl (fun hb Q' eS=>?_) (fun g' hf=>?_)
 ·exact q5 4 [.z aM] rfl<|aA<|fun a ha=>eS _ a (a_.refl _) (ha.kp rfl)
 replace hs:=hs.call hf;have ai:=hf.le;obtain⟨dL,aD,aM,aH,aW⟩:=nX ai dL aD aM aH aW;apply b_;by_cases mO:((!eg f|| !within f.steps.length 1 40)||decide (20<(f.windows.length:Int)))=true
 ·refine aJ mO rfl<|aZ rfl<|aG<|nw rfl hs ?_
  have:valid f=false:=by
   simp only[Bool.or_eq_true,Bool.not_eq_true',decide_eq_true_eq]at mO;unfold valid;rcases mO with(h|h)|h
   ·rw[h];simp
   ·rw[h];simp
   rw[show decide ((f.windows.length:Int)≤20)=false from by simp;omega];simp
  rw[this]
 refine aQ (Bool.eq_false_iff.2 mO) rfl<|aF<|aq<|az<|sP 3 [.z aM] rfl<|Ev rfl (yi _ _ f.steps (fun s=> !cf s f.steps.length) _ aH (fun g' x u hle hx=>dy (Wc 209) rfl (J7 u x _ _ g' hx (aD.mono hle) (by omega) (by omega)))) hs fun g1 hs ai=>?_;obtain⟨dL,aD,aM,aW⟩:=dK ai dL aD aM aW;apply b_;by_cases ri:(f.steps.any fun s=> !cf s f.steps.length)=true
 ·refine aJ ri rfl<|aZ rfl<|aG<|nw rfl hs ?_
  have:(f.steps.all fun s=>cf s f.steps.length)=false:=by rw[List.any_eq_true]at ri;obtain⟨x,hx,h⟩:=ri;rw[List.all_eq_false];exact⟨x,hx,by simpa using h⟩
  unfold valid;rw[this];simp
 refine aQ (Bool.eq_false_iff.2 ri) rfl<|aF<|aq<|az<|Hw [.z aM] rfl<|aI ?_
 have hinv:fq f.steps.length [] f.windows=valid f:=by
  simp only[Bool.not_eq_true,Bool.or_eq_false_iff,Bool.not_eq_false',decide_eq_false_iff_not]at mO;unfold valid;rw[mO.1.1,mO.1.2,show decide ((f.windows.length:Int)≤20)=true from by simp;omega];have:(f.steps.all fun s=>cf s f.steps.length)=true:=by
   rw[List.all_eq_true];intro x hx;cases h:cf x f.steps.length with
   |true=>rfl
   |false=>exact absurd (List.any_eq_true.2 ⟨x,hx,by simp[h]⟩) ri
  rw[this];simp
 refine bK (fun m a' w=> ∃(k:Nat) (g':G),w=g'.w∧St g g' []∧G.le g2 g'∧k≤f.windows.length∧m=f.windows.length-k∧fq f.steps.length (f.windows.take k) (f.windows.drop k)=valid f∧
  Fr 49 [] [(1,vP b0),(3,vP b1),(28,.slice a2 f.windows.length c2),(29,vI f.windows.length),(30,vI k)] a') f.windows.length
  (fun a' ha=>⟨0,_,rfl,hs,dL,Nat.zero_le _,rfl,by simpa using hinv,ha.kp rfl⟩) ?_
 clear hs dL ar aD aM aH aW dt;rintro m a' _ ⟨k,g',rfl,hs,dL,hk,rfl,de,dW⟩;have aD:=mP.mono dL;have aM:=OE.mono dL;have aW:=JM.mono dL;revert a';refine ct<|aZ rfl<|az ?_;by_cases bt:k<f.windows.length
 ·refine aJ (b:=decide ((k:Int)<(f.windows.length:Int))) (by simp;omega) rfl ?_;rw[List.drop_eq_getElem_cons bt,fq]at de;refine aF<|aq<|az<|aI<|cG 1 rfl<|zc (y:=f.windows[k]) aW (by simp[dJ,bt]) rfl ?_;rintro b q ys aL rfl;refine q5 1 [.e aL 0] rfl<|w4 hs rfl fun b1 g1 hs ai=>?_;obtain⟨dL,aD,aM,aW⟩:=dK ai dL aD aM aW;refine Wp 1 rfl<|sN 0 hs rfl fun g1 hs ai=>?_;obtain⟨dL,aD,aM,aW⟩:=dK ai dL aD aM aW;refine b_<|az ?_;cases Nl:dA f.windows[k] f.steps.length with
  |false=>
   apply bD hs (dn (gU (fe []))) 13 [(12,47)] (by kernel_rfl) rfl
   ·refine pO [[],[]] [.o 0,.e aD 0] hs rfl<|fR [(0,35),(1,36)] (fun gd hf=>?_) ?_
    ·skip;refine aat rfl<|aj<|ay rfl<|(aC (Wc 211) aK rfl rfl rfl rfl rfl (gv _ _ _ (by omega) (by omega)) fun g' v h1 h2=>⟨g',rfl,h1,?_⟩);exact h2.trans (congrArg Value.bool Nl)
    exact HW [[2],[3],[4],[5,4],[4],[6,7,4],[4],[8,9,4,4],[10,4],[4,11]] rfl
   clear hs;intro g1 hs ai;obtain⟨dL,aD,aM,aW⟩:=dK ai dL aD aM aW;refine b_<|aas rfl<|aZ rfl<|aG<|nw rfl hs ?_;rw[←de,Nl];rfl
  |true=>
   have xk:=aW.cut (a:=0) (b:=k) (Nat.zero_le _) (by omega);apply bD hs (dn (gU (fe []))) 13 [(12,47)] (by kernel_rfl) rfl
   ·refine pO [[],[]] [.o 0,.e aD 0] hs rfl<|fR [(0,35),(1,36)] (fun gd hf=>?_) ?_
    ·skip;refine aat rfl<|aj<|ay rfl<|(aC (Wc 211) aK rfl rfl rfl rfl rfl (gv _ _ _ (by omega) (by omega)) fun g' v h1 h2=>⟨g',rfl,h1,?_⟩);exact h2.trans (congrArg Value.bool Nl)
    refine pO [[2],[3],[4],[5,4],[4]] [.e aM 3] (St.start _) rfl<|fR [(6,41),(7,42),(4,39)] (fun gd hf=>?_) ?_
    ·skip;refine aau rfl<|aj<|ay rfl<|(gV T.ok rfl rfl rfl rfl rfl (a:=0) (b:=k) rfl ⟨_,rfl⟩ (Nat.zero_le _) (by have:=(aW.mM).2.1;omega) ?_);exact⟨_,rfl,a_.refl _,rfl⟩
    refine pO [[4]] [.o 0] hs rfl<|fR [(8,43),(9,44),(4,39),(4,39)] (fun gd hf=>?_) ?_
    ·have eT:=(G.bI _).trans hf.le;refine aau rfl<|ah rfl<|aj<|ay rfl<|(aC (Wc 212) aK rfl rfl rfl rfl rfl (uT _ _ _ _ (xk.mono eT)) fun g' v h1 h2=>⟨g',rfl,h1,?_⟩);exact h2
    exact HW [[10,4],[4,11]] rfl
   clear hs;intro g1 hs ai;replace dL:=G.le.trans dL ai;apply b_;cases lg:follows (f.windows.take k) f.windows[k]with
   |false=>
    refine aJ (by simp[lg]) rfl<|aZ rfl<|aG<|nw rfl hs ?_;rw[←de,Nl,lg];rfl
   |true=>
    refine aQ (by simp[lg]) rfl<|aF<|bJ<|aq<|an<|Wp 2 rfl<|aA<|fun a ha=>⟨f.windows.length-(k+1),by omega,k+1,_,rfl,hs.drop 0,dL,by omega,rfl,?_,ha.keep ⟨rfl,rfl,rfl,rfl,kW rfl,trivial⟩⟩
    rw[←de,Nl,lg,List.take_succ_eq_append_getElem bt];rfl
 refine aQ (b:=decide ((k:Int)<(f.windows.length:Int))) (by simp;omega) rfl<|bc<|bg<|bg<|cA<|aq<|aZ rfl ?_;obtain rfl:k=f.windows.length:=by omega
 refine aG<|nw rfl hs ?_;rw[←de];simp[fq]
end Go.Proofs.YtbfjdfecgiegpaaGreatDoor
namespace Go.Proofs.YtbfjdfecgiegpaaGreatDoor
open Go
def dec(n:Nat):List UInt8:=Lib.decDigits n
def fy(b:UInt8):Bool:=decide (48≤b.toNat)&&decide (b.toNat≤57)
def ic(acc:Nat)(l:List UInt8):Nat:=l.foldl (fun a b=>10*a+(b.toNat-48)) acc
def val(l:List UInt8):Nat:=ic 0 l
theorem ie{n:Nat}(h:n<10):dec n=[UInt8.ofNat (48+n)]:=by unfold dec;rw[Lib.decDigits,dif_pos h]
theorem oz{n:Nat}(h: ¬n<10):dec n=dec (n/10)++[UInt8.ofNat (48+n % 10)]:=by unfold dec;rw[Lib.decDigits,dif_neg h]
theorem GG(acc:Nat)(l m:List UInt8):ic acc (l++m)=ic (ic acc l) m:=by unfold ic;rw[List.foldl_append]
theorem uM{k:Nat}(h:k<10):(UInt8.ofNat (48+k)).toNat=48+k:=by rw[UInt8.toNat_ofNat'];omega
theorem Cy{k:Nat}(h:k<10):fy (UInt8.ofNat (48+k))=true:=by unfold fy;rw[uM h];simp;omega
theorem Bd(n:Nat):val (dec n)=n:=by
 induction n using Nat.strongRecOn with
 |_ n ih=>
  by_cases h:n<10
  ·rw[ie h];unfold val ic;simp only[List.foldl_cons,List.foldl_nil];rw[uM h];omega
  rw[oz h];unfold val;rw[GG,show ic 0 (dec (n/10))=n/10 from ih (n/10) (by omega)];unfold ic;simp only[List.foldl_cons,List.foldl_nil];rw[uM (by omega)];omega
theorem oC(n:Nat): ∀b∈dec n,fy b=true:=by
 induction n using Nat.strongRecOn with
 |_ n ih=>
  by_cases h:n<10
  ·rw[ie h];intro b hb;obtain rfl:=List.mem_singleton.1 hb;exact Cy h
  rw[oz h];intro b hb;rcases List.mem_append.1 hb with hb|hb
  ·exact ih (n/10) (by omega) b hb
  obtain rfl:=List.mem_singleton.1 hb;exact Cy (by omega)
theorem qk(n:Nat):dec n≠[]:=by
 by_cases h:n<10
 ·rw[ie h];simp
 rw[oz h];simp
theorem Fo{n:Nat}(h:0<n): ∀r,dec n≠48::r:=by
 induction n using Nat.strongRecOn with
 |_ n ih=>
  intro r;by_cases hs:n<10
  ·rw[ie hs];intro e;have:=congrArg (fun l:List UInt8=>(l.headD 0).toNat) e;simp only[List.headD_cons]at this;rw[uM hs]at this;have C4:(48:UInt8).toNat=48:=rfl;omega
  rw[oz hs];intro e;cases hd:dec (n/10)with
  |nil=>exact qk _ hd
  |cons x t=>
   rw[hd,List.cons_append]at e;obtain⟨e1,_⟩:=List.cons.inj e;exact ih (n/10) (by omega) (by omega) t (by rw[hd,e1])
def canon(l:List UInt8):Bool:=l.all fy&&(match l with|[]=>false|[_]=>true|b::_=>b !=48)
theorem GH(n:Nat):canon (dec n)=true:=by
 unfold canon;rw[Bool.and_eq_true];refine⟨List.all_eq_true.2 (oC n),?_⟩;cases hd:dec n with
 |nil=>exact absurd hd (qk n)
 |cons b t=>
  cases t with
  |nil=>rfl
  |cons c t=>
   have hn:0<n:=by refine Nat.pos_of_ne_zero fun h0=>?_;subst h0;rw[ie (by decide)]at hd;simp at hd
   have:=Fo hn;simp only[bne_iff_ne,ne_eq];intro e;subst e;exact this _ hd
theorem Ju{n:Nat}(h:0<n){b:UInt8}(hb:fy b=true):dec (10*n+(b.toNat-48))=dec n++[b]:=by unfold fy at hb;simp only[Bool.and_eq_true,decide_eq_true_eq]at hb;rw[oz (by omega),show(10*n+(b.toNat-48))/10=n from by omega,show(10*n+(b.toNat-48)) % 10=b.toNat-48 from by omega,show 48+(b.toNat-48)=b.toNat from by omega,UInt8.ofNat_toNat]
theorem GI(l:List UInt8): ∀n,0<n→l.all fy=true→dec (ic n l)=dec n++l:=by
 induction l with
 |nil=>intro n _ _;simp[ic]
 |cons b t ih=>
  intro n hn hl;rw[List.all_cons,Bool.and_eq_true]at hl;show dec (ic (10*n+(b.toNat-48)) t)=_;have hb:=hl.1;unfold fy at hb;simp only[Bool.and_eq_true,decide_eq_true_eq]at hb;rw[ih _ (by omega) hl.2,Ju hn hl.1,List.append_assoc];rfl
theorem Fp{l:List UInt8}(h:canon l=true):dec (val l)=l:=by
 unfold canon at h;rw[Bool.and_eq_true]at h;obtain⟨h1,h2⟩:=h;cases l with
 |nil=>simp at h2
 |cons b t=>
  rw[List.all_cons,Bool.and_eq_true]at h1;have hb:=h1.1;unfold fy at hb;simp only[Bool.and_eq_true,decide_eq_true_eq]at hb;have e0:val (b::t)=ic (b.toNat-48) t:=by unfold val ic;simp
  have Al:dec (b.toNat-48)=[b]:=by rw[ie (by omega),show 48+(b.toNat-48)=b.toNat from by omega,UInt8.ofNat_toNat]
  cases t with
  |nil=>rw[e0];exact Al
  |cons c t=>
   have eO:b≠48:=by simpa using h2
   have lK:0<b.toNat-48:=by have:b.toNat≠48:=fun e=>eO (UInt8.toNat_inj.1 e);omega
   rw[e0,GI _ _ lK h1.2,Al];rfl
def gh(l:List UInt8):Option Nat:=if canon l=true∧val l≤1000000 then some (val l)else none
theorem iE{l:List UInt8}{n:Nat}:gh l=some n↔l=dec n∧n≤1000000:=by
 unfold gh;constructor
 ·intro h;split at h
  ·rename_i hc;obtain rfl:=Option.some.inj h;exact⟨(Fp hc.1).symm,hc.2⟩
  cases h
 rintro⟨rfl,hn⟩;rw[Bd,if_pos ⟨GH n,hn⟩]
theorem ji{n:Nat}(h:n≤1000000):gh (dec n)=some n:=iE.2 ⟨rfl,h⟩
theorem vi: ∀(l:List UInt8) (acc:Nat),l.all fy=true→ic acc l≤1000000000→Lib.parseUint10 acc l= .ok (ic acc l)
 |[],acc,_,_=>rfl
 |b::t,acc,h,hv=>by
  rw[List.all_cons,Bool.and_eq_true]at h;have hb:=h.1;unfold fy at hb;simp only[Bool.and_eq_true,decide_eq_true_eq]at hb;have CU: ∀(t:List UInt8) (a:Nat),a≤ic a t:=by
   intro t
   induction t with
   |nil=>intro a;exact Nat.le_refl _
   |cons c t ih=>intro a;exact Nat.le_trans (by omega) (ih (10*a+(c.toNat-48)))
  have Ce:ic (10*acc+(b.toNat-48)) t≤1000000000:=hv;have h1:=CU t (10*acc+(b.toNat-48));unfold Lib.parseUint10;rw[if_pos hb,if_neg (by omega),if_neg (by omega),show acc*10+(b.toNat-48)=10*acc+(b.toNat-48)from by omega];exact vi t _ h.2 Ce
theorem Jv{n:Nat}(h:n≤1000000):Lib.atoiAll (dec n)= .ok (n:Int):=by
 have hd:=oC n;have hv:=Bd n;have hp:=vi (dec n) 0 (List.all_eq_true.2 hd) (by show val (dec n)≤_;rw[hv];omega);rw[show ic 0 (dec n)=n from hv]at hp;cases hl:dec n with
 |nil=>exact absurd hl (qk n)
 |cons c r=>
  have hc:=hd c (by rw[hl];simp);unfold fy at hc;simp only[Bool.and_eq_true,decide_eq_true_eq]at hc;unfold Lib.atoiAll;simp only;rw[if_neg (by omega)];unfold Lib.parseMag;rw[if_neg (by simp),←hl,hp];simp only;rw[if_neg (by omega),if_neg (by omega),if_neg (by omega)]
theorem xU(n:Nat):Lib.itoa (n:Int)=dec n:=by unfold Lib.itoa dec;rw[if_neg (by omega),Int.toNat_natCast]
theorem Jw{l:List UInt8}{v:Int}(h:Lib.atoiAll l= .ok v)(h0:0≤v)(h1:v≤1000000)(h2:Lib.itoa v=l):gh l=some v.toNat:=by obtain⟨n,rfl⟩: ∃n:Nat,v=n:=⟨v.toNat,by omega⟩;rw[xU]at h2;rw[←h2,Int.toNat_natCast];exact ji (by omega)
theorem PC{l:List UInt8}{n:Nat}(h:gh l=some n):Lib.atoiAll l= .ok (n:Int)∧Lib.itoa (n:Int)=l∧n≤1000000:=by obtain⟨rfl,hn⟩:=iE.1 h;exact⟨Jv hn,xU n,hn⟩
def bW(c:UInt8):List UInt8→List (List UInt8)
 |[]=>[[]]
 |b::t=>if b=c then []::bW c t else
  match bW c t with
  |[]=>[[b]]
  |x::r=>(b::x)::r
def fL(c:UInt8):List (List UInt8)→List UInt8
 |[]=>[]
 |[x]=>x
 |x::y::r=>x++c::fL c (y::r)
theorem qS(c:UInt8)(l:List UInt8):bW c l≠[]:=by
 cases l with
 |nil=>simp[bW]
 |cons b t=>
  unfold bW;split
  ·simp
  split<;>simp
theorem D_(c:UInt8)(b:UInt8)(x:List UInt8)(r:List (List UInt8)):fL c ((b::x)::r)=b::fL c (x::r):=by cases r<;>rfl
theorem xV(c:UInt8){ps:List (List UInt8)}(h:ps≠[]):fL c ([]::ps)=c::fL c ps:=by
 cases ps with
 |nil=>exact absurd rfl h
 |cons x r=>rfl
theorem Ea(c:UInt8)(l:List UInt8):fL c (bW c l)=l:=by
 induction l with
 |nil=>rfl
 |cons b t ih=>
  unfold bW;split
  ·rename_i h;rw[xV c (qS c t),ih,h]
  split
  ·rename_i h;exact absurd h (qS c t)
  rename_i x r h;rw[D_,←h,ih]
theorem Jy(c:UInt8)(l:List UInt8): ∀p∈bW c l,c∉p:=by
 induction l with
 |nil=>intro p hp;simp[bW]at hp;subst hp;simp
 |cons b t ih=>
  intro p hp;unfold bW at hp;split at hp
  ·rcases List.mem_cons.1 hp with rfl|hp
   ·simp
   exact ih p hp
  rename_i hb;split at hp
  ·rename_i h;exact absurd h (qS c t)
  rename_i x r h;rcases List.mem_cons.1 hp with rfl|hp
  ·intro hc;rcases List.mem_cons.1 hc with hc|hc
   ·exact hb hc.symm
   exact ih x (by rw[h];simp) hc
  exact ih p (by rw[h];simp[hp])
theorem ql(c:UInt8): ∀x:List UInt8,c∉x→bW c x=[x]
 |[],_=>rfl
 |b::t,h=>by rw[List.mem_cons,not_or]at h;unfold bW;rw[if_neg (fun e=>h.1 e.symm),ql c t h.2]
theorem uN(c:UInt8): ∀(x r:List UInt8),c∉x→bW c (x++c::r)=x::bW c r
 |[],r,_=>by show bW c (c::r)=_;rw[bW,if_pos rfl]
 |b::t,r,h=>by rw[List.mem_cons,not_or]at h;show bW c (b::(t++c::r))=_;rw[bW,if_neg (fun e=>h.1 e.symm),uN c t r h.2]
theorem xW(c:UInt8): ∀ps:List (List UInt8),ps≠[]→(∀p∈ps,c∉p)→bW c (fL c ps)=ps
 |[],h,_=>absurd rfl h
 |[x],_,h=>ql c x (h x (by simp))
 |x::y::r,_,h=>by show bW c (x++c::fL c (y::r))=_;rw[uN c x _ (h x (by simp)),xW c (y::r) (by simp) fun p hp=>h p (by simp[hp])]
theorem iR(c:UInt8){l:List UInt8}{ps:List (List UInt8)}:bW c l=ps↔l=fL c ps∧ps≠[]∧ ∀p∈ps,c∉p:=by
 constructor
 ·rintro rfl;exact⟨(Ea c l).symm,qS c l,Jy c l⟩
 rintro⟨rfl,h1,h2⟩;exact xW c ps h1 h2
theorem index_one(c b:UInt8)(l:List UInt8):Lib.index (b::l) [c]=if c=b then 0 else if Lib.index l [c]= -1 then -1 else Lib.index l [c]+1:=by
 by_cases h:c=b
 ·subst h;rw[Lib.index];simp[List.isPrefixOf]
 have hp:([c]:List UInt8).isPrefixOf (b::l)=false:=by simp[List.isPrefixOf,h]
 rw[Lib.index,hp,if_neg h];by_cases h2:Lib.index l [c]= -1
 ·simp[h2]
 simp[h2]
theorem zL(c:UInt8): ∀s:List UInt8,Lib.splitK [c] 0 (s.count c) s=bW c s
 |[]=>rfl
 |b::l=>by
  have ih:=zL c l;by_cases h:b=c
  ·subst h;rw[List.count_cons_self,Lib.splitK,bW,if_pos rfl];have h0:Lib.index (b::l) [b]=0:=by rw[index_one,if_pos rfl]
   rw[if_neg (by rw[h0];decide),h0];exact congrArg _ ih
  rw[List.count_cons_of_ne (by simpa using h),bW,if_neg h,←ih];cases hk:l.count c with
  |zero=>rfl
  |succ k=>
   have eO:Lib.index l [c]≠ -1:=by intro e;have h1:=Lib.count_miss e;rw[Lib.count_one,hk]at h1;omega
   have CU:=Lib.index_ge l [c];obtain⟨j,hj⟩: ∃j:Nat,Lib.index l [c]=j:=⟨(Lib.index l [c]).toNat,by omega⟩
   have hb:Lib.index (b::l) [c]=((j+1:Nat):Int):=by rw[index_one,if_neg (fun e=>h e.symm),if_neg eO,hj];omega
   unfold Lib.splitK;rw[hb,hj,if_neg (by simp;omega),if_neg (by simp)];simp
theorem Cz(c:UInt8)(s:List UInt8):Lib.split s [c]=bW c s:=by unfold Lib.split;rw[Lib.count_one];exact zL c s
def lF{α:Type}:List (Option α)→Option (List α)
 |[]=>some []
 |none::_=>none
 |some x::r=>(lF r).map fun l=>x::l
theorem mF{α:Type}: ∀{l:List (Option α)} {xs:List α},lF l=some xs↔l=xs.map some
 |[],xs=>by cases xs<;>simp[lF]
 |none::r,xs=>by cases xs<;>simp[lF]
 |some x::r,xs=>by
  have ih:=fun ys:List α=>mF (l:=r) (xs:=ys);unfold lF;cases xs with
  |nil=>simp
  |cons y ys=>
   rw[Option.map_eq_some_iff];constructor
   ·rintro⟨a,h1,h2⟩;obtain⟨rfl,rfl⟩:=List.cons.inj h2;rw[(ih a).1 h1];rfl
   intro h;simp only[List.map_cons,List.cons.injEq,Option.some.injEq]at h;exact⟨ys,(ih ys).2 h.2,by rw[h.1]⟩
def nH(s:List UInt8):Option (List Nat):=lF ((bW 44 s).map gh)
theorem Eb{c:UInt8}(h:fy c=false)(n:Nat):c∉dec n:=fun hc=>by rw[oC n c hc]at h;cases h
theorem uO{s:List UInt8}{l:List Nat}:nH s=some l↔s=fL 44 (l.map dec)∧l≠[]∧ ∀n∈l,n≤1000000:=by
 unfold nH;rw[mF];constructor
 ·intro h;have dj: ∀(ps:List (List UInt8)) (l:List Nat),ps.map gh=l.map some→ps=l.map dec∧ ∀n∈l,n≤1000000:=by
   intro ps
   induction ps with
   |nil=>intro l h;cases l<;>simp at h;exact⟨rfl,by simp⟩
   |cons p ps ih=>
    intro l h;cases l with
    |nil=>simp at h
    |cons n l=>
     rw[List.map_cons,List.map_cons]at h;obtain⟨h1,h2⟩:=List.cons.inj h;obtain⟨e1,e2⟩:=iE.1 h1;obtain⟨e3,e4⟩:=ih l h2;exact⟨by rw[e1,e3];rfl,fun m hm=>by rcases List.mem_cons.1 hm with rfl|hm;exact e2;exact e4 m hm⟩
  obtain⟨h1,h2⟩:=dj _ _ h;obtain⟨h3,h4,_⟩:=(iR 44).1 h1;exact⟨h3,fun e=>by subst e;exact h4 rfl,h2⟩
 rintro⟨h1,h2,h3⟩;have:bW 44 s=l.map dec:=(iR 44).2 ⟨h1,by simpa using h2,fun p hp=>by obtain⟨n,_,rfl⟩:=List.mem_map.1 hp;exact Eb rfl n⟩;rw[this,List.map_map];exact List.map_congr_left fun n hn=>ji (h3 n hn)
def nI(s:List UInt8):Option (Nat×Nat):=
 if Lib.index s [46,46]<0 then none
 else match gh (s.take (Lib.index s [46,46]).toNat),gh (s.drop ((Lib.index s [46,46]).toNat+2))with
  |some a,some b=>some (a,b)
  |_,_=>none
theorem Ec(a:Nat)(r:List UInt8):Lib.index (dec a++46::46::r) [46,46]=((dec a).length:Int):=by
 refine Lib.index_first (by simp) ?_ fun j hj=>?_
 ·unfold Lib.occAt;rw[List.drop_left];simp[List.isPrefixOf]
 unfold Lib.occAt;rw[List.drop_append_of_le_length (by omega),List.drop_eq_getElem_cons hj,List.cons_append];have hd:=oC a _ (List.getElem_mem hj);have eO:((46:UInt8)==(dec a)[j])=false:=by rw[beq_eq_false_iff_ne];intro e;rw[←e]at hd;cases hd
 simp[List.isPrefixOf,eO]
theorem qT{s:List UInt8}{a b:Nat}:nI s=some (a,b)↔s=dec a++46::46::dec b∧a≤1000000∧b≤1000000:=by
 unfold nI;constructor
 ·intro h;split at h
  ·cases h
  rename_i h0;rcases Lib.index_spec s [46,46]with⟨h1,_⟩|⟨i,h1,h2,h3,_⟩
  ·omega
  rw[h1]at h;simp only[Int.toNat_natCast]at h;split at h
  ·rename_i x y h4 h5;simp only[Option.some.injEq,Prod.mk.injEq]at h;obtain⟨rfl,rfl⟩:=h;obtain⟨e1,l1⟩:=iE.1 h4;obtain⟨e2,l2⟩:=iE.1 h5;refine⟨?_,l1,l2⟩;unfold Lib.occAt at h3;have h6:s.drop i=46::46::s.drop (i+2):=by
    rw[←List.drop_drop];cases hd:s.drop i with
    |nil=>rw[hd]at h3;cases h3
    |cons p t=>
     cases t with
     |nil=>rw[hd]at h3;simp[List.isPrefixOf]at h3
     |cons q t=>
      rw[hd]at h3;simp only[List.isPrefixOf,Bool.and_eq_true,beq_iff_eq,and_true]at h3;obtain⟨rfl,rfl⟩:=h3;rfl
   rw[←e1,←e2,←h6,List.take_append_drop]
  cases h
 rintro⟨rfl,h1,h2⟩;rw[Ec,if_neg (by omega),Int.toNat_natCast,List.take_left];have h3:(dec a++46::46::dec b).drop ((dec a).length+2)=dec b:=by rw[←List.drop_drop,List.drop_left];rfl
 rw[h3,ji h1,ji h2]
end Go.Proofs.YtbfjdfecgiegpaaGreatDoor
namespace Go.Proofs.YtbfjdfecgiegpaaGreatDoor
open Go Go.K Go.RowKit Tryz
set_option maxRecDepth 10000
attribute [local irreducible] W WL cS bh bY bB bA bC cL cD
set_option maxHeartbeats 1000000
theorem O4:prog.globalNamed "internal/strconv.uint64pow10" =some 3:=by kernel_rfl
structure jo(g:G):Prop where
 len: ∃m,EP g 0 0 [vI m]
 Sl:g.im 3∧Lib.TabIs prog g.w "internal/strconv.uint64pow10" .u64 Lib.pow10Tab
 Sm: ∃ev,EP g 4 0 [ev]∧(ev= .nilIface∨ ∃te pe,ev= .iface te pe)
 Sn: ∃ev,EP g 5 0 [ev]∧(ev= .nilIface∨ ∃te pe,ev= .iface te pe)
theorem jo.mono{g g':G}(h:jo g)(hle:g.le g'):jo g':=by obtain⟨⟨m,h1⟩,⟨h2,h3⟩,⟨e1,h4,h5⟩,⟨e2,h6,h7⟩⟩:=h;refine⟨⟨m,h1.mono hle⟩,⟨(hle _ h2).1,?_⟩,⟨e1,h4.mono hle,h5⟩,⟨e2,h6.mono hle,h7⟩⟩;unfold Lib.TabIs World.var? at h3⊢;rw[O4]at h3⊢;simp only[Option.bind_some]at h3⊢;rw[(hle _ h2).2];exact h3
instance{g g':G}:Mn (jo g) g g' (jo g'):=⟨fun h a=>a.mono h⟩
theorem wu{g:G}{b:Nat}{v:Value}(h:EP g b 0 [v]):g.w.cell? ⟨b,0,none⟩=some v:=h.2 0 v rfl
def mq(n:Int):Prop:=-9223372036854775808≤n∧n≤9223372036854775807
theorem J1(n:Int)(g:G)(hn:mq n)(hF:jo g):cN prog 249 #[vI n] g fun _ r=>r= .string (bs (Lib.itoa n)):=by unfold mq at hn;refine lD ((Tryz.strconv_Itoa n hn.1 hn.2 g.w hF.Sl.2).mono ?_) fun _ _=>rfl;rintro e w' ⟨rfl,k,os,rfl⟩;exact⟨rfl,Lib.below_grow _ _ (Nat.le_refl _) k os⟩
theorem CO(s p:List UInt8)(g:G):cN prog 159 #[.string (bs s),.string (bs p)] g fun _ r=>r= .bool (p.isPrefixOf s):=by refine lD ((Tryz.strings_HasPrefix (bs s) (bs p) g.w).mono ?_) fun _ _=>rfl;rintro e w' ⟨rfl,rfl⟩;exact⟨rfl,Below.refl _ _⟩
theorem UN(s p:List UInt8)(g:G)(hs:s.length≤1000000)(hF:jo g):cN prog 271 #[.string (bs s),.string (bs p)] g fun _ r=>r= .tuple #[.string (bs (Lib.cut s p).1),.string (bs (Lib.cut s p).2.1),.bool (Lib.cut s p).2.2]:=by obtain⟨m,hm⟩:=hF.len;refine lD ((Tryz.strings_Cut (bs s) (bs p) m g.w (by rw[cg];omega) (wu hm)).mono ?_) fun _ _=>rfl;rintro e w' ⟨rfl,n,rfl⟩;exact⟨rfl,below_drewN (Below.refl _ _) n⟩
def FE(s:List UInt8)(r:Value):Prop:=∃v err,r= .tuple #[vI v,err]∧match Lib.atoiAll s with
 | .ok x=>v=x∧err= .nilIface
 |_=> ∃t p,err= .iface t p
theorem PW(s:List UInt8)(g:G)(hs:s.length≤1000000)(hF:jo g):cN prog 273 #[.string (bs s)] g fun _ r=>FE s r:=by
 have cK:(bs s).size≤281474976710656:=by rw[cg];omega
 unfold FE;cases ha:Lib.atoiAll s with
 |ok x=>
  refine callsIn_wide.2<|(Tryz.strconv_Atoi_ok (bs s) (by omega) x ha g.w).mono ?_;rintro e w' ⟨rfl,hw⟩;refine cO.below ?_ fun _ _ _=>⟨x,_,rfl,rfl,rfl⟩
  rcases hw with rfl|⟨t,rfl⟩
  ·exact Below.refl _ _
  exact Lib.bytesWorld_below _ _ _
 |range=>
  obtain⟨ev,h1,h2⟩:=hF.Sn;refine callsIn_wide.2<|(Tryz.strconv_Atoi_range (bs s) cK ha ev g.w (wu h1) h2).mono ?_;rintro e w' ⟨N,rfl,_,_,hb⟩;exact cO.below hb fun _ _ _=>⟨_,_,rfl,_,_,rfl⟩
 |_=>
  obtain⟨ev,h1,h2⟩:=hF.Sm;refine callsIn_wide.2<|(Any.strconv_Atoi_syntax Tryz.laysC172 (bs s) cK ha ev g.w (wu h1) h2).mono ?_;rintro e w' ⟨N,rfl,_,_,hb⟩;exact cO.below hb fun _ _ _=>⟨_,_,rfl,_,_,rfl⟩
theorem cY.strs(g:G): ∀l:List (List UInt8),cY g (l.map fun s=>Value.string (bs s)) (l.map wh.mk)
 |[]=>rfl
 |s::l=>⟨[.string (bs s)],_,rfl,rfl,cY.strs g l⟩
theorem Bi(s:List UInt8)(c:UInt8)(g:G)(hs:s.length≤1000000)(hF:jo g):cN prog 158 #[.string (bs s),.string (bs [c])] g (kh 9 g ((bW c s).map wh.mk)):=by
 obtain⟨m,hm⟩:=hF.len;refine callsIn_wide.2<|(Tryz.strings_Split (bs s) (bs [c]) m g.w (by rw[cg];omega) (wu hm) (by rw[cg];exact Nat.le_refl 1)).mono ?_;have NT:(Lib.splitB (bs [c]) 0 (Lib.countB (bs s) (bs [c])) (bs s)).map (fun b=>b.data.toList)=bW c s:=by rw[Lib.splitB_data];exact Cz c s
 have hlen:=Lib.splitB_all (bs [c]) (by rw[cg];exact Nat.le_refl 1) 0 _ (bs s) rfl;have hn:Lib.countB (bs s) (bs [c])+1=(bW c s).length:=by rw[←NT,List.length_map,hlen]
 have PX:(Lib.splitB (bs [c]) 0 (Lib.countB (bs s) (bs [c])) (bs s)).map Value.string=(bW c s).map fun x=>Value.string (bs x):=by rw[←NT,List.map_map];exact List.map_congr_left fun b _=>congrArg Value.string (Ns b)
 rw[hn,PX];rintro e w' ⟨rfl,rfl⟩;let cells:=(bW c s).map fun x=>Value.string (bs x)
 let W:=g.w.alloc (.cells cells.toArray 9)
 have UO:Below g.w.heap.size g.w W:=(Below.refl _ _).alloc (Nat.le_refl _) _;let g':G:=⟨W,g.im,fun b h=>Nat.lt_of_lt_of_le (g.lt b h) UO.size⟩
 have DD:W.heap[g.w.heap.size]? =some (.cells cells.toArray 9 (0,0)):=by show(g.w.heap.push _)[g.w.heap.size]? =_;rw[Array.getElem?_push_size]
 have fw:cells.length=(bW c s).length:=List.length_map _;refine⟨g',_,rfl,⟨UO,fun _ _=>Iff.rfl⟩,rfl,cells,⟨⟨?_,.inr ⟨g.w.heap.size,0,_,cells.toArray,?_,Nat.le_refl _,gg.plain DD,Nat.le_refl _,?_,?_,?_⟩⟩,?_⟩,cY.strs _ _⟩
 ·rw[fw,List.length_map];exact(Nat.mul_one _).symm
 ·rw[List.length_map]
 ·unfold maxLen;rw[List.length_map,←hn];have:=Lib.countB_le (bs [c]) (by rw[cg];exact Nat.le_refl 1) (bs s).size (bs s) (Nat.le_refl _);rw[cg]at this;omega
 ·rw[List.size_toArray,fw,List.length_map,Nat.zero_add];exact(Nat.mul_one _).symm
 ·rw[List.drop_zero,List.length_map];show cells.take _=cells;rw[List.take_of_length_le (by rw[fw];exact Nat.le_of_eq (Nat.mul_one _).symm)]
 intro b hb p7;have:b=g.w.heap.size:=by obtain⟨a,n,c',e1,_,e2⟩:=lV hb;simp only[Value.slice.injEq,Option.some.injEq]at e1;rw[←e2,←e1.1]
 have:=g.lt b p7;omega
end Go.Proofs.YtbfjdfecgiegpaaGreatDoor
