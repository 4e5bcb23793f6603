/- Parts of the proof, from: The walk through the shapes of facts. Printed by a program (mkB2.py) out of the region's operations. -/
import Derived.Test.YtebobfdheanknaaGreatDoorYd
import Derived.Laws.StructEq
import Derived.Test.YtebobfdheanknaaGreatDoorYc
import Derived.Shelf.Strings.BuilderK
import Derived.Lib.UnsafeStr
import Derived.Test.YtebobfdheanknaaGreatDoorYb
import Derived.Lib.ItoaNum
import Derived.Lib.AtoiAll
namespace Go.Proofs.YtebobfdheanknaaGreatDoor
open Go Go.K
set_option maxRecDepth 10000
attribute [local irreducible] W WL cT cn bX bA bB bD cW cG
set_option maxHeartbeats 4000000
def FG:Nat→Nat
 |1=>185
 |2=>174
 |_=>187
def xL(g:G)(v:Value)(s:zi):Prop:=∃a b,v= .agg #[a,b,.func (.func (FG s.rest)) #[] #[],.bool s.iW]∧Rs g a s.fields∧Rs g b s.key
theorem xL.mono{g g':G}{v:Value}{s:zi}(h:xL g v s)(hle:g.le g'):xL g' v s:=by
 obtain⟨a,b,e,h1,h2⟩:=h
 exact⟨a,b,e,h1.mono hle,h2.mono hle⟩
def qA(s:zi):Fact:=⟨fun v g=>xL g v s,fun _ _ _ hf h=>h.mono hf.le⟩
theorem fQ(s:zi):uK (qA s):=fun _ _ _ hle h=>xL.mono h hle
abbrev I2(x:jD):Value:=.agg #[fK x.at_,.int .i64 x.lo,.int .i64 x.hi]
def ea(i:Nat):zi:=lU.getD i ⟨[],[],0,false⟩
variable {N:Nat} {ds:List Deferred} {ops:Array Oper} {Q:Exit→Act→World→Prop} {g g0:G} {o:Oper} {l:Env}
theorem ki{α:Type}[El α]{φs:List Fact}{es:List Nat}{ρ:Nat→Option Value}{k:Env→Prop}{j d:Nat}{r:List (Nat×Nat)}{xs:List α}(he:gP φs j=Fact.rs xs)(h: ∀a c,Rs g (.slice a xs.length c) xs→QU φs es ρ g r ((d,.slice a xs.length c)::l) k):QU φs es ρ g ((j,d)::r) l k:=by
 intro v hv _
 rw[he]at hv
 have hv:Rs g v xs:=hv
 obtain⟨a,c,rfl⟩:=hv.isSlice
 exact h a c hv
theorem kj{α:Type}[El α]{g g':G}{e:TypeId}{v:Value}{n:Nat}{cells:List Value}{xs:List α}(hs:St g g' [.row e (El.k α) v n cells])(hr:cO g' cells xs): ∃g2,g2.w=g'.w∧aZ g g2∧Rs g2 v xs:=by
 obtain⟨g2,e1,e2,_,e4⟩:=hs.cL (i:=0) rfl hr
 exact⟨g2,e1,e2.mS,e4⟩
theorem Dj(x:jD){parts:Array (Nat×Operand)}(hg:mJ ops l o.guard=some true)(ho:o.op= .build 205 parts)(hp:rP l (parts.toList.map (·.2))=some [fK x.at_,.int .i64 x.lo,.int .i64 x.hi])(wk:parts.toList.map (·.1)=[0,1,2]):
  DK Wd Tryz.prog N ds ops Q (Fact.eq (I2 x)) g o l:=
 az hg (aQ T.ok ho (vs:=[(0,fK x.at_),(1,.int .i64 x.lo),(2,.int .i64 x.hi)]) (cells:=[fK x.at_,.int .i64 x.lo,.int .i64 x.hi]) hp wk rfl rfl [(0,1),(1,1),(2,1)] rfl (by kernel_rfl) ⟨g,rfl,aZ.refl g,rfl⟩)
theorem iE(xs:List jD){len:Nat}{parts:Array (Nat×Operand)}(hg:mJ ops l o.guard=some true)(ho:o.op= .buildSlice 157 len parts)(hp:rP l (parts.toList.map (·.2))=some (xs.map I2))(wk:parts.toList.map (·.1)=List.range len)(hl:xs.length=len)(hn:len*3≤1000)
  (mT:Instr.fill (fun i=>some (i*3,3)) ((Array.range (len*3)).map ((Value.agg #[.nilFunc,.int .i64 0,.int .i64 0]).cells[· % 3]!)) ((List.range len).zip (xs.map I2))=some (iY xs).toArray):DK Wd Tryz.prog N ds ops Q (Fact.rs xs) g o l:=by
 refine az hg (bj T.ok ho (St.start g) (vs:=(List.range len).zip (xs.map I2)) (cells:=iY xs) ?_ ?_ rfl rfl rfl rfl (by decide) (by show len*3≤16777216;omega) mT ?_ fun b g' hs hle=>?_)
 ·rw[hp,List.map_snd_zip (by simp[hl])]
 ·rw[wk,List.map_fst_zip (by simp[hl])]
 ·rw[(fG g xs).len,hl];rfl
 ·obtain⟨g2,e1,e2,e3⟩:=kj hs (fG g' xs)
  exact⟨g2,e1,e2,e3⟩
theorem lZ(xs:List (List jD)){us:List Value}{len:Nat}{parts:Array (Nat×Operand)}(hg:mJ ops l o.guard=some true)(ho:o.op= .buildSlice 269 len parts)(hp:rP l (parts.toList.map (·.2))=some us)(wk:parts.toList.map (·.1)=List.range len)(hl:us.length=len)(hn:len*1≤1000)
  (mT:Instr.fill (fun i=>some (i*1,1)) ((Array.range (len*1)).map ((Value.slice none 0 0).cells[· % 1]!)) ((List.range len).zip us)=some us.toArray) (hr:cO g us xs):DK Wd Tryz.prog N ds ops Q (Fact.rs xs) g o l:=by
 refine az hg (bj T.ok ho (St.start g) (vs:=(List.range len).zip us) (cells:=us) ?_ ?_ rfl rfl rfl rfl (by decide) (by show len*1≤16777216;omega) mT (by show us.length=len*1;omega) fun b g' hs hle=>?_)
 ·rw[hp,List.map_snd_zip (by simp[hl])]
 ·rw[wk,List.map_fst_zip (by simp[hl])]
 ·obtain⟨g2,e1,e2,e3⟩:=kj hs (hr.mono hle)
  exact⟨g2,e1,e2,e3⟩
theorem iF{xs:List jD}{f:FuncId}(hc:ag Tryz.prog f){x:Operand}{args:Array Operand}{ts:Array TypeId}{first captured:Array Value}{vs av:List Value}(hg:mJ ops l o.guard=some true)(ho:o.op= .call {callee:=.value x,args,argTypes:=ts})(hx:ev l x=some (.func (.func f) first captured))(ha:rP l args.toList=some vs)(has:first.toList++vs++captured.toList=av)
  (h:CallsIn Wd 0 Tryz.prog f av.toArray g.w (cR g (jZ 205 g xs))):DK Wd Tryz.prog N ds ops Q (Fact.rs xs) g o l:=
 az hg (ay hc aI rfl ho hx ha has h fun g' v hf ⟨cells,h1,h2⟩=>by
  obtain⟨g2,e1,e2,e3⟩:=kj ((St.start g).gJ hf h1) h2
  exact⟨g2,e1,e2,e3⟩)
theorem km(s:zi){v1 v2:Value}{parts:Array (Nat×Operand)}(hg:mJ ops l o.guard=some true)(ho:o.op= .build 159 parts)(hp:rP l (parts.toList.map (·.2))=some [v1,v2,.func (.func (FG s.rest)) #[] #[],.bool s.iW])(wk:parts.toList.map (·.1)=[0,1,2,3])
  (h1:Rs g v1 s.fields) (h2:Rs g v2 s.key):DK Wd Tryz.prog N ds ops Q (qA s) g o l:=by
 obtain⟨a1,c1,rfl⟩:=h1.isSlice
 obtain⟨a2,c2,rfl⟩:=h2.isSlice
 exact az hg (aQ T.ok ho (vs:=[(0,.slice a1 s.fields.length c1),(1,.slice a2 s.key.length c2),(2,.func (.func (FG s.rest)) #[] #[]),(3,.bool s.iW)]) (cells:=[.slice a1 s.fields.length c1,.slice a2 s.key.length c2,.func (.func (FG s.rest)) #[] #[],.bool s.iW]) hp wk rfl rfl [(0,1),(1,1),(2,1),(3,1)] rfl (by kernel_rfl) ⟨g,rfl,aZ.refl g,_,_,rfl,h1,h2⟩)
def wm:List (Int×Nat):=[(1,15),(2,24),(3,35),(4,45),(5,51),(6,60),(7,70),(8,79),(9,88),(10,97),(11,105)]
def HU(g0:G)(ρ:Nat→Option Value)(g:G):Prop:=
 (ρ 0=none∧(∀p∈wm,ρ p.2=none)∧St g0 g [])∨
 ∃b cq,ρ 0=some (.map (some b))∧St g0 g [.obj b (ct cq)]∧(∀k v,ij k cq=some v→ ∃s,dM k=some s∧xL g v s)∧ ∀p∈wm,ρ p.2≠none→(ij p.1 cq).isSome=true
theorem Dk{g0:G}(ρ:Nat→Option Value)(g g':G)(hf:aZ g g')(h:HU g0 ρ g):HU g0 ρ g':=by
 rcases h with⟨h1,h2,h3⟩|⟨b,cq,h1,h2,h3,h4⟩
 ·exact .inl ⟨h1,h2,h3.call hf⟩
 ·refine .inr ⟨b,cq,h1,h2.call hf,fun k v hk=>?_,h4⟩
  obtain⟨s,e,hs⟩:=h3 k v hk
  exact⟨s,e,hs.mono hf.le⟩
theorem qB{ρ:Nat→Option Value}{i j:Nat}{v:Value}(h:j≠i):o5 ρ i v j=ρ j:=if_neg h
theorem Dl{ρ:Nat→Option Value}(hr:ρ 0=none)(hJ:HU g0 ρ g)(ho:o.op= .makeMap 160 none):
  cT Wd Tryz.prog N ds o l g.w Q fun u w'=> ∃dP,dP.w=w'∧(g.le dP∧HU g0 (o5 ρ 0 u) dP)∧Fact.any.p u dP:=by
 rcases hJ with⟨_,h2,h3⟩|⟨b,cq,h1,_⟩
 ·refine jH (κ:=Int) ho h3 fun b g' hs hle=>⟨g',rfl,⟨hle,.inr ⟨b,[],rfl,hs,fun k v h=>(by cases h),fun p hp h=>?_⟩⟩,trivial⟩
  have fu:p.2≠0:=by
   have: ∀p∈wm,p.2≠0:=by decide
   exact this p hp
  rw[qB fu,h2 p hp]at h
  exact absurd rfl h
 ·rw[hr]at h1;cases h1
theorem iZ{ρ:Nat→Option Value}{k:Int}{i:Nat}(kK:(k,i)∈wm){s:zi}(mU:dM k=some s){m v:Value}(hr:ρ 0=some m)(hJ:HU g0 ρ g)(hv:xL g v s){mo ko vo:Operand}(ho:o.op= .insert 160 mo ko vo)
  (hm:ev l mo=some m) (hk:ev l ko=some (.int .i64 k)) (hx:ev l vo=some v):cT Wd Tryz.prog N ds o l g.w Q fun u w'=> ∃dP,dP.w=w'∧(g.le dP∧HU g0 (o5 ρ i u) dP)∧Fact.any.p u dP:=by
 rcases hJ with⟨h1,_⟩|⟨b,cq,h1,h2,h3,h4⟩
 ·rw[hr]at h1;cases h1
 ·rw[hr]at h1
  obtain rfl:=Option.some.inj h1
  refine dC (κ:=Int) (a:=k) (zw T.ok rfl rfl rfl rfl rfl) 0 (.inr ho) h2 rfl hm hk hx fun g' hs hle=>⟨g',rfl,⟨hle,.inr ⟨b,iX k v cq,?_,hs,fun k' v' FH=>?_,fun p hp h=>?_⟩⟩,trivial⟩
  ·have fu:i≠0:=by
    have: ∀p∈wm,p.2≠0:=by decide
    exact this _ kK
   rw[qB (fun h=>fu h.symm)];exact hr
  ·rw[qC]at FH
   split at FH
   ·rename_i e
    obtain rfl:=Option.some.inj FH
    exact⟨s,by rw[e];exact mU,hv.mono hle⟩
   ·obtain⟨s',e,iS⟩:=h3 k' v' FH
    exact⟨s',e,iS.mono hle⟩
  ·rw[qC]
   split
   ·rfl
   ·rename_i fu
    refine h4 p hp fun e=>h ?_
    have HV:p.2≠i:=by
     intro e2
     have: ∀p∈wm,∀q∈wm,p.2=q.2→p.1=q.1:=by decide
     exact fu (this p hp _ kK e2)
    rw[qB HV];exact e
def F5(g:G)(cq:List (Int×Value)):Prop:=∀k,match dM k with
 |some s=> ∃v,ij k cq=some v∧xL g v s
 |none=>ij k cq=none
def zx(g:G)(b:Nat)(cq:List (Int×Value)):Prop:=g.im b∧g.w.heap[b]? =some (ct cq)
theorem zx.mono{g g':G}{b:Nat}{cq:List (Int×Value)}(h:zx g b cq)(hle:g.le g'):zx g' b cq:=⟨(hle b h.1).1,(hle b h.1).2.trans h.2⟩
theorem F6{ρ:Nat→Option Value}(hJ:HU g0 ρ g)(dh: ∀e,[0,15,24,35,45,51,60,70,79,88,97,105].contains e=true→ρ e≠none): ∃b cq g2,ρ 0=some (.map (some b))∧g2.w=g.w∧St g0 g2 []∧g.le g2∧zx g2 b cq∧F5 g2 cq:=by
 rcases hJ with⟨h1,_⟩|⟨b,cq,h1,h2,h3,h4⟩
 ·exact absurd h1 (dh 0 rfl)
 ·have hle:=G.ph g (some b) (fun b' hb=>by obtain rfl:=Option.some.inj hb;exact((h2.own 0 _ rfl).lt b rfl).2.1)
  refine⟨b,cq,g.fz (some b) _,h1,rfl,h2.fz (i:=0) rfl,hle,⟨.inr rfl,(h2.own 0 _ rfl).2.1⟩,fun k=>?_⟩
  cases mU:dM k with
  |none=>
   simp only
   cases hm:ij k cq with
   |none=>rfl
   |some v=>obtain⟨s,e,_⟩:=h3 k v hm;rw[mU]at e;cases e
  |some s=>
   simp only
   have hk: ∃i,(k,i)∈wm∧[0,15,24,35,45,51,60,70,79,88,97,105].contains i=true:=by
    unfold dM at mU
    split at mU
    ·cases mU
    ·have bh:=(List.getElem?_eq_some_iff.1 mU).1
     have hl:lU.length=11:=rfl
     rw[hl]at bh
     have:k=1∨k=2∨k=3∨k=4∨k=5∨k=6∨k=7∨k=8∨k=9∨k=10∨k=11:=by omega
     rcases this with rfl|rfl|rfl|rfl|rfl|rfl|rfl|rfl|rfl|rfl|rfl
     all_goals exact⟨_,by unfold wm;simp only[List.mem_cons,Prod.mk.injEq];simp;rfl,by decide⟩
   obtain⟨i,hi,Tr⟩:=hk
   have:=h4 _ hi (dh i Tr)
   cases hm:ij k cq with
   |none=>rw[hm]at this;cases this
   |some v=>
    obtain⟨s',e,hv⟩:=h3 k v hm
    rw[mU]at e
    obtain rfl:=Option.some.inj e
    exact⟨v,rfl,hv.mono hle⟩
theorem sL(g:G):CallsIn Wd 0 Tryz.prog 90 #[] g.w (cR g fun g' r=> ∃b cq,r= .map (some b)∧zx g' b cq∧F5 g' cq):=by
 have hs:=St.start g
 refine enter Tryz.func90 rfl Tryz.ntmps90 rfl ?_
 refine aX rfl ?_;apply c_
 refine an rfl rfl (ay jV aI rfl rfl rfl rfl rfl (eb 1 _) ?_);rintro g1 _ aN rfl;replace hs:=hs.call aN;have ah:=aN.le;skip
 skip
 refine an rfl rfl (bj T.ok rfl hs (vs:=(List.range (lT).length).zip ((lT).map I2)) (cells:=iY lT) rfl rfl rfl rfl rfl rfl (by decide) (by decide) (by kernel_rfl) rfl ?_);clear hs;rintro b1 g1 hs ah;skip
 obtain⟨gz,ik,cS,iT,aT⟩:=hs.cL (i:=0) rfl (fG _ lT);clear ah;have ah:=iT;rw[←ik];replace hs:=cS;clear cS;skip
 refine ba rfl ?_;apply c_
 refine an rfl rfl (ay jV aI rfl rfl rfl rfl rfl (eb 14 _) ?_);rintro g1 _ aN rfl;replace hs:=hs.call aN;have ah:=aN.le;replace aT:=aT.mono ah
 skip
 refine an rfl rfl (ay jV aI rfl rfl rfl rfl rfl (eb 15 _) ?_);rintro g1 _ aN rfl;replace hs:=hs.call aN;have ah:=aN.le;replace aT:=aT.mono ah
 skip
 refine an rfl rfl (bj T.ok rfl hs (vs:=(List.range (rM).length).zip ((rM).map I2)) (cells:=iY rM) rfl rfl rfl rfl rfl rfl (by decide) (by decide) (by kernel_rfl) rfl ?_);clear hs;rintro b2 g1 hs ah;replace aT:=aT.mono ah
 obtain⟨gz,ik,cS,iT,bT⟩:=hs.cL (i:=0) rfl (fG _ rM);clear ah;have ah:=iT;rw[←ik];replace hs:=cS;clear cS;replace aT:=aT.mono ah
 refine ba rfl ?_;refine aX rfl ?_;apply c_
 skip
 refine an rfl rfl (aQ T.ok rfl (vs:=[(0,fK 7),(1,.int .i64 (0)),(2,.int .i64 (1000000))]) (cells:=[fK 7,.int .i64 (0),.int .i64 (1000000)]) rfl rfl rfl rfl [(0,1),(1,1),(2,1)] rfl (by kernel_rfl) ?_)
 skip
 refine an rfl rfl (aQ T.ok rfl (vs:=[(0,fK 9),(1,.int .i64 (0)),(2,.int .i64 (1000000))]) (cells:=[fK 9,.int .i64 (0),.int .i64 (1000000)]) rfl rfl rfl rfl [(0,1),(1,1),(2,1)] rfl (by kernel_rfl) ?_)
 skip
 refine an rfl rfl (aQ T.ok rfl (vs:=[(0,fK 11),(1,.int .i64 (0)),(2,.int .i64 (60))]) (cells:=[fK 11,.int .i64 (0),.int .i64 (60)]) rfl rfl rfl rfl [(0,1),(1,1),(2,1)] rfl (by kernel_rfl) ?_)
 skip
 refine an rfl rfl (aQ T.ok rfl (vs:=[(0,fK 12),(1,.int .i64 (0)),(2,.int .i64 (4))]) (cells:=[fK 12,.int .i64 (0),.int .i64 (4)]) rfl rfl rfl rfl [(0,1),(1,1),(2,1)] rfl (by kernel_rfl) ?_)
 skip
 refine an rfl rfl (aQ T.ok rfl (vs:=[(0,fK 13),(1,.int .i64 (0)),(2,.int .i64 (40))]) (cells:=[fK 13,.int .i64 (0),.int .i64 (40)]) rfl rfl rfl rfl [(0,1),(1,1),(2,1)] rfl (by kernel_rfl) ?_)
 skip
 refine an rfl rfl (aQ T.ok rfl (vs:=[(0,fK 14),(1,.int .i64 (0)),(2,.int .i64 (1000000))]) (cells:=[fK 14,.int .i64 (0),.int .i64 (1000000)]) rfl rfl rfl rfl [(0,1),(1,1),(2,1)] rfl (by kernel_rfl) ?_)
 skip
 refine an rfl rfl (aQ T.ok rfl (vs:=[(0,fK 15),(1,.int .i64 (0)),(2,.int .i64 (1000000))]) (cells:=[fK 15,.int .i64 (0),.int .i64 (1000000)]) rfl rfl rfl rfl [(0,1),(1,1),(2,1)] rfl (by kernel_rfl) ?_)
 skip
 refine an rfl rfl (bj T.ok rfl hs (vs:=(List.range (mL).length).zip ((mL).map I2)) (cells:=iY mL) rfl rfl rfl rfl rfl rfl (by decide) (by decide) (by kernel_rfl) rfl ?_);clear hs;rintro b4 g1 hs ah;obtain⟨aT,bT⟩:=cC ah aT bT
 obtain⟨gz,ik,cS,iT,dz⟩:=hs.cL (i:=0) rfl (fG _ mL);clear ah;have ah:=iT;rw[←ik];replace hs:=cS;clear cS;obtain⟨aT,bT⟩:=cC ah aT bT
 refine ba rfl ?_;apply c_
 refine an rfl rfl (aQ T.ok rfl (vs:=[(0,fK 17),(1,.int .i64 (1)),(2,.int .i64 (255))]) (cells:=[fK 17,.int .i64 (1),.int .i64 (255)]) rfl rfl rfl rfl [(0,1),(1,1),(2,1)] rfl (by kernel_rfl) ?_)
 skip
 refine an rfl rfl (aK T.ok rfl hs rfl rfl ?_);clear hs;rintro b1 g1 hs ah;obtain⟨aT,bT,dz⟩:=ef ah aT bT dz
 skip
 refine bg rfl (aA T.ok 0 rfl hs rfl rfl rfl rfl rfl rfl rfl rfl rfl ?_);replace hs:=hs;rintro g1 hs ah;obtain⟨aT,bT,dz⟩:=ef ah aT bT dz
 obtain⟨g2,bR,aU,ah,aL⟩:=hs.a_ (i:=0) rfl;replace hs:=aU;clear aU;rw[←bR];obtain⟨aT,bT,dz⟩:=ef ah aT bT dz
 have aC:=aL;clear aL
 apply cf;apply c_
 refine an rfl rfl (aQ T.ok rfl (vs:=[(0,fK 16),(1,.int .i64 (-1000000)),(2,.int .i64 (1000000))]) (cells:=[fK 16,.int .i64 (-1000000),.int .i64 (1000000)]) rfl rfl rfl rfl [(0,1),(1,1),(2,1)] rfl (by kernel_rfl) ?_)
 skip
 refine an rfl rfl (aK T.ok rfl hs rfl rfl ?_);clear hs;rintro b1 g1 hs ah;obtain⟨aC,aT,bT,dz⟩:=dE ah aC aT bT dz
 skip
 refine bg rfl (aA T.ok 0 rfl hs rfl rfl rfl rfl rfl rfl rfl rfl rfl ?_);replace hs:=hs;rintro g1 hs ah;obtain⟨aC,aT,bT,dz⟩:=dE ah aC aT bT dz
 obtain⟨g2,bR,aU,ah,aL⟩:=hs.a_ (i:=0) rfl;replace hs:=aU;clear aU;rw[←bR];obtain⟨aC,aT,bT,dz⟩:=dE ah aC aT bT dz
 have aP:=aL;clear aL
 apply cf;apply aB
 apply lJ (.f Fact.any::(eJ (.f (Fact.rs [(eD 7)])::(.f (Fact.rs eU)::(fe (.f (Fact.rs [(⟨13,0,39⟩:jD)])::(fe (.f (Fact.rs gG)::(fe (.f (Fact.rs [(⟨16,-10000000,10000000⟩:jD)])::(.f (Fact.rs (α:=List jD) [lT,[(eD 7)],eU,[(⟨13,0,39⟩:jD)],rM,gG,[(⟨16,-10000000,10000000⟩:jD)]])::(.f (Fact.rs (α:=jD) [lT,[(eD 7)],eU,[(⟨13,0,39⟩:jD)],rM,gG,[(⟨16,-10000000,10000000⟩:jD)]].flatten)::(fe (.f (qA (ea 0))::(.f Fact.any::(fe (eJ (.f (Fact.rs [ez,v_])::(.f (Fact.rs (α:=List jD) [lT,[ez,v_]])::(.f (Fact.rs (α:=jD) [lT,[ez,v_]].flatten)::(fe (.f (qA (ea 1))::(.f Fact.any::(gE (.f (Fact.rs [(eD 7),(eD 8),ez])::(.f (Fact.rs (α:=List jD) [lT,[(eD 7),(eD 8),ez]])::(.f (Fact.rs (α:=jD) [lT,[(eD 7),(eD 8),ez]].flatten)::(eJ (.f (qA (ea 2))::(.f Fact.any::(gE (.f (Fact.rs [(eD 7),(eD 9),(eD 10),ez])::(eJ (.f (Fact.rs [(eD 7),ez])::(.f (qA (ea 3))::(.f Fact.any::(fe (.f (Fact.rs [(eD 10)])::(fe (.f (Fact.rs [(eD 10)])::(.f (qA (ea 4))::(.f Fact.any::(fe (.f (Fact.rs eU)::(fe (.f (Fact.rs gG)::(.f (Fact.rs (α:=List jD) [lT,eU,rM,gG])::(.f (Fact.rs (α:=jD) [lT,eU,rM,gG].flatten)::(fe (.f (qA (ea 5))::(.f Fact.any::(eJ (.f (Fact.rs gG)::(fe (.f (Fact.rs [qq])::(.f (Fact.rs (α:=List jD) [lT,mL,gG,[qq]])::(.f (Fact.rs (α:=jD) [lT,mL,gG,[qq]].flatten)::(fe (.f (qA (ea 6))::(.f Fact.any::(fe (eJ (.f (Fact.rs [(eD 8),qq,ez])::(eJ (.f (Fact.rs [(eD 8),qq])::(.f (qA (ea 7))::(.f Fact.any::(fe (.f (Fact.rs eU)::(fe (.f (Fact.rs [ez])::(.f (Fact.rs (α:=List jD) [lT,eU,[ez]])::(.f (Fact.rs (α:=jD) [lT,eU,[ez]].flatten)::(fe (.f (qA (ea 8))::(.f Fact.any::(fe (eJ (.f (Fact.rs [(eD 14),ez,v_])::(eJ (.f (Fact.rs [(eD 14),ez])::(.f (qA (ea 9))::(.f Fact.any::(fe (.f (Fact.rs eU)::(.f (Fact.rs gG)::(.f (Fact.rs (α:=List jD) [lT,eU,gG])::(.f (Fact.rs (α:=jD) [lT,eU,gG].flatten)::(fe (.f (qA (ea 10))::(.f Fact.any::[]))))))))))))))))))))))))))))))))))))))))))))))))))))))))))))))))))))))))))))))))))))))))))) 106 [(0,22)] [0,15,24,35,45,51,60,70,79,88,97,105] [] (HU g) Dk (.inl ⟨rfl,fun _ _=>rfl,hs.dr⟩) (by kernel_rfl) ⟨cY,⟨cr _,⟨cr _,⟨cr _,⟨cr _,⟨cr _,⟨cr _,⟨cr _,⟨fQ _,⟨cY,⟨cr _,⟨cr _,⟨cr _,⟨fQ _,⟨cY,⟨cr _,⟨cr _,⟨cr _,⟨fQ _,⟨cY,⟨cr _,⟨cr _,⟨fQ _,⟨cY,⟨cr _,⟨cr _,⟨fQ _,⟨cY,⟨cr _,⟨cr _,⟨cr _,⟨cr _,⟨fQ _,⟨cY,⟨cr _,⟨cr _,⟨cr _,⟨cr _,⟨fQ _,⟨cY,⟨cr _,⟨cr _,⟨fQ _,⟨cY,⟨cr _,⟨cr _,⟨cr _,⟨cr _,⟨fQ _,⟨cY,⟨cr _,⟨cr _,⟨fQ _,⟨cY,⟨cr _,⟨cr _,⟨cr _,⟨cr _,⟨fQ _,⟨cY,trivial⟩⟩⟩⟩⟩⟩⟩⟩⟩⟩⟩⟩⟩⟩⟩⟩⟩⟩⟩⟩⟩⟩⟩⟩⟩⟩⟩⟩⟩⟩⟩⟩⟩⟩⟩⟩⟩⟩⟩⟩⟩⟩⟩⟩⟩⟩⟩⟩⟩⟩⟩⟩⟩⟩⟩⟩⟩⟩⟩⟩
 ·have mV:=G.bJ g2
  refine bC (il (js:=[]) (by kernel_rfl) rfl fun ρ g2 _ _ MS _ hJ=>bd ⟨rfl,Dl MS hJ rfl⟩) ?_
  refine Um [[],[]] [.c jV fun g _=>eb 7 g] (by kernel_rfl) rfl ?_
  refine bC (cH (js:=[(2,24)]) (by kernel_rfl) rfl fun _ g2 _ _ _ _=>cI rfl (bd (iE [(eD 7)] rfl rfl rfl rfl rfl (by decide) (by kernel_rfl)))) ?_
  refine bC (cH (js:=[]) (by kernel_rfl) rfl fun _ g2 _ _ _ _=>bd (iF AR rfl rfl rfl rfl rfl (sg g2))) ?_
  refine bC (cH (js:=[]) (by kernel_rfl) rfl fun _ g2 _ _ _ _=>bd (Dj ⟨13,0,39⟩ rfl rfl rfl rfl)) ?_
  refine bC (cH (js:=[(5,27)]) (by kernel_rfl) rfl fun _ g2 _ _ _ _=>cI rfl (bd (iE [(⟨13,0,39⟩:jD)] rfl rfl rfl rfl rfl (by decide) (by kernel_rfl)))) ?_
  refine Um [[]] [] (by kernel_rfl) rfl ?_
  refine bC (cH (js:=[]) (by kernel_rfl) rfl fun _ g2 _ _ _ _=>bd (iF AS rfl rfl rfl rfl rfl (sh g2))) ?_
  refine bC (cH (js:=[]) (by kernel_rfl) rfl fun _ g2 _ _ _ _=>bd (Dj ⟨16,-10000000,10000000⟩ rfl rfl rfl rfl)) ?_
  refine bC (cH (js:=[(9,31)]) (by kernel_rfl) rfl fun _ g2 _ _ _ _=>cI rfl (bd (iE [(⟨16,-10000000,10000000⟩:jD)] rfl rfl rfl rfl rfl (by decide) (by kernel_rfl)))) ?_
  refine bC (cH (js:=[(1,23),(3,25),(4,26),(6,28),(7,29),(8,30),(10,32)]) (by kernel_rfl) rfl fun _ g2 _ _ hle _=>cI rfl (ki rfl fun _ _ h3=>ki rfl fun _ _ h4=>ki rfl fun _ _ h6=>cI rfl (ki rfl fun _ _ h8=>ki rfl fun _ _ uH=>bd (lZ [lT,[(eD 7)],eU,[(⟨13,0,39⟩:jD)],rM,gG,[(⟨16,-10000000,10000000⟩:jD)]] rfl rfl rfl rfl rfl (by decide) (by kernel_rfl) ⟨[_],_,rfl,⟨_,rfl,(aT.mono (mV.trans hle))⟩,⟨[_],_,rfl,⟨_,rfl,h3⟩,⟨[_],_,rfl,⟨_,rfl,h4⟩,⟨[_],_,rfl,⟨_,rfl,h6⟩,⟨[_],_,rfl,⟨_,rfl,(bT.mono (mV.trans hle))⟩,⟨[_],_,rfl,⟨_,rfl,h8⟩,⟨[_],_,rfl,⟨_,rfl,uH⟩,rfl⟩⟩⟩⟩⟩⟩⟩)))) ?_
  refine bC (cH (js:=[(11,33)]) (by kernel_rfl) rfl fun _ g2 _ _ _ _=>cJ fun v11 Km=>bd (iF sK rfl rfl rfl rfl rfl (oz v11 _ g2 Km (by decide)))) ?_
  refine Um [[]] [] (by kernel_rfl) rfl ?_
  refine bC (cH (js:=[(12,34),(13,35)]) (by kernel_rfl) rfl fun _ g2 _ _ hle _=>cJ fun v12 Kn=>cI rfl (bd (km (ea 0) rfl rfl rfl rfl Kn (aT.mono (mV.trans hle))))) ?_
  refine bC (il (js:=[(0,22),(14,36)]) (by kernel_rfl) rfl fun ρ g2 _ _ _ _ hJ=>fH rfl fun v0 _ r0=>cJ fun Ts Ko=>bd (⟨rfl,iZ (k:=1) (i:=15) (by decide) (s:=ea 0) rfl r0 hJ Ko rfl rfl rfl rfl⟩)) ?_
  refine Um [[],[],[]] [.c pf fun g _=>lY g,.e aP 0] (by kernel_rfl) rfl ?_
  refine bC (cH (js:=[(17,38),(18,39)]) (by kernel_rfl) rfl fun _ g2 _ _ _ _=>cI rfl (cI rfl (bd (iE [ez,v_] rfl rfl rfl rfl rfl (by decide) (by kernel_rfl))))) ?_
  refine bC (cH (js:=[(16,37),(19,40)]) (by kernel_rfl) rfl fun _ g2 _ _ hle _=>cI rfl (ki rfl fun _ _ P8=>bd (lZ [lT,[ez,v_]] rfl rfl rfl rfl rfl (by decide) (by kernel_rfl) ⟨[_],_,rfl,⟨_,rfl,(aT.mono (mV.trans hle))⟩,⟨[_],_,rfl,⟨_,rfl,P8⟩,rfl⟩⟩))) ?_
  refine bC (cH (js:=[(20,41)]) (by kernel_rfl) rfl fun _ g2 _ _ _ _=>cJ fun v20 P9=>bd (iF sK rfl rfl rfl rfl rfl (oz v20 _ g2 P9 (by decide)))) ?_
  refine Um [[]] [] (by kernel_rfl) rfl ?_
  refine bC (cH (js:=[(21,42),(22,43)]) (by kernel_rfl) rfl fun _ g2 _ _ hle _=>cJ fun v21 MT=>cI rfl (bd (km (ea 1) rfl rfl rfl rfl MT (aT.mono (mV.trans hle))))) ?_
  refine bC (il (js:=[(0,22),(23,44)]) (by kernel_rfl) rfl fun ρ g2 _ _ _ _ hJ=>fH rfl fun v0 _ r0=>cJ fun v23 Tt=>bd (⟨rfl,iZ (k:=2) (i:=24) (by decide) (s:=ea 1) rfl r0 hJ Tt rfl rfl rfl rfl⟩)) ?_
  refine Um [[],[],[],[]] [.c jV fun g _=>eb 7 g,.c jV fun g _=>eb 8 g,.c pf fun g _=>lY g] (by kernel_rfl) rfl ?_
  refine bC (cH (js:=[(26,46),(27,47),(28,48)]) (by kernel_rfl) rfl fun _ g2 _ _ _ _=>cI rfl (cI rfl (cI rfl (bd (iE [(eD 7),(eD 8),ez] rfl rfl rfl rfl rfl (by decide) (by kernel_rfl)))))) ?_
  refine bC (cH (js:=[(25,45),(29,49)]) (by kernel_rfl) rfl fun _ g2 _ _ hle _=>cI rfl (ki rfl fun _ _ Tu=>bd (lZ [lT,[(eD 7),(eD 8),ez]] rfl rfl rfl rfl rfl (by decide) (by kernel_rfl) ⟨[_],_,rfl,⟨_,rfl,(aT.mono (mV.trans hle))⟩,⟨[_],_,rfl,⟨_,rfl,Tu⟩,rfl⟩⟩))) ?_
  refine bC (cH (js:=[(30,50)]) (by kernel_rfl) rfl fun _ g2 _ _ _ _=>cJ fun v30 Tv=>bd (iF sK rfl rfl rfl rfl rfl (oz v30 _ g2 Tv (by decide)))) ?_
  refine Um [[],[]] [] (by kernel_rfl) rfl ?_
  refine bC (cH (js:=[(31,51),(32,52),(33,53)]) (by kernel_rfl) rfl fun _ g2 _ _ hle _=>cJ fun v31 Tw=>cI rfl (cI rfl (bd (km (ea 2) rfl rfl rfl rfl Tw (aT.mono (mV.trans hle)))))) ?_
  refine bC (il (js:=[(0,22),(34,54)]) (by kernel_rfl) rfl fun ρ g2 _ _ _ _ hJ=>fH rfl fun v0 _ r0=>cJ fun V4 Tx=>bd (⟨rfl,iZ (k:=3) (i:=35) (by decide) (s:=ea 2) rfl r0 hJ Tx rfl rfl rfl rfl⟩)) ?_
  refine Um [[],[],[],[]] [.c jV fun g _=>eb 7 g,.c jV fun g _=>eb 9 g,.c jV fun g _=>eb 10 g,.c pf fun g _=>lY g] (by kernel_rfl) rfl ?_
  refine bC (cH (js:=[(36,55),(37,56),(38,57),(39,58)]) (by kernel_rfl) rfl fun _ g2 _ _ _ _=>cI rfl (cI rfl (cI rfl (cI rfl (bd (iE [(eD 7),(eD 9),(eD 10),ez] rfl rfl rfl rfl rfl (by decide) (by kernel_rfl))))))) ?_
  refine Um [[],[]] [.c jV fun g _=>eb 7 g,.c pf fun g _=>lY g] (by kernel_rfl) rfl ?_
  refine bC (cH (js:=[(41,60),(42,61)]) (by kernel_rfl) rfl fun _ g2 _ _ _ _=>cI rfl (cI rfl (bd (iE [(eD 7),ez] rfl rfl rfl rfl rfl (by decide) (by kernel_rfl))))) ?_
  refine bC (cH (js:=[(40,59),(43,62)]) (by kernel_rfl) rfl fun _ g2 _ _ hle _=>cJ fun v40 P_=>cJ fun V5 Ty=>bd (km (ea 3) rfl rfl rfl rfl P_ Ty)) ?_
  refine bC (il (js:=[(0,22),(44,63)]) (by kernel_rfl) rfl fun ρ g2 _ _ _ _ hJ=>fH rfl fun v0 _ r0=>cJ fun V6 Tz=>bd (⟨rfl,iZ (k:=4) (i:=45) (by decide) (s:=ea 3) rfl r0 hJ Tz rfl rfl rfl rfl⟩)) ?_
  refine Um [[]] [.c jV fun g _=>eb 10 g] (by kernel_rfl) rfl ?_
  refine bC (cH (js:=[(46,64)]) (by kernel_rfl) rfl fun _ g2 _ _ _ _=>cI rfl (bd (iE [(eD 10)] rfl rfl rfl rfl rfl (by decide) (by kernel_rfl)))) ?_
  refine Um [[]] [.c jV fun g _=>eb 10 g] (by kernel_rfl) rfl ?_
  refine bC (cH (js:=[(48,66)]) (by kernel_rfl) rfl fun _ g2 _ _ _ _=>cI rfl (bd (iE [(eD 10)] rfl rfl rfl rfl rfl (by decide) (by kernel_rfl)))) ?_
  refine bC (cH (js:=[(47,65),(49,67)]) (by kernel_rfl) rfl fun _ g2 _ _ hle _=>cJ fun V7 TA=>cJ fun v49 TB=>bd (km (ea 4) rfl rfl rfl rfl TA TB)) ?_
  refine bC (il (js:=[(0,22),(50,68)]) (by kernel_rfl) rfl fun ρ g2 _ _ _ _ hJ=>fH rfl fun v0 _ r0=>cJ fun V8 TC=>bd (⟨rfl,iZ (k:=5) (i:=51) (by decide) (s:=ea 4) rfl r0 hJ TC rfl rfl rfl rfl⟩)) ?_
  refine Um [[]] [] (by kernel_rfl) rfl ?_
  refine bC (cH (js:=[]) (by kernel_rfl) rfl fun _ g2 _ _ _ _=>bd (iF AR rfl rfl rfl rfl rfl (sg g2))) ?_
  refine Um [[]] [] (by kernel_rfl) rfl ?_
  refine bC (cH (js:=[]) (by kernel_rfl) rfl fun _ g2 _ _ _ _=>bd (iF AS rfl rfl rfl rfl rfl (sh g2))) ?_
  refine bC (cH (js:=[(52,69),(53,70),(54,71),(55,72)]) (by kernel_rfl) rfl fun _ g2 _ _ hle _=>cI rfl (ki rfl fun _ _ TD=>cI rfl (ki rfl fun _ _ TE=>bd (lZ [lT,eU,rM,gG] rfl rfl rfl rfl rfl (by decide) (by kernel_rfl) ⟨[_],_,rfl,⟨_,rfl,(aT.mono (mV.trans hle))⟩,⟨[_],_,rfl,⟨_,rfl,TD⟩,⟨[_],_,rfl,⟨_,rfl,(bT.mono (mV.trans hle))⟩,⟨[_],_,rfl,⟨_,rfl,TE⟩,rfl⟩⟩⟩⟩)))) ?_
  refine bC (cH (js:=[(56,73)]) (by kernel_rfl) rfl fun _ g2 _ _ _ _=>cJ fun TF TG=>bd (iF sK rfl rfl rfl rfl rfl (oz TF _ g2 TG (by decide)))) ?_
  refine Um [[]] [] (by kernel_rfl) rfl ?_
  refine bC (cH (js:=[(57,74),(58,75)]) (by kernel_rfl) rfl fun _ g2 _ _ hle _=>cJ fun V9 TH=>cI rfl (bd (km (ea 5) rfl rfl rfl rfl TH (aT.mono (mV.trans hle))))) ?_
  refine bC (il (js:=[(0,22),(59,76)]) (by kernel_rfl) rfl fun ρ g2 _ _ _ _ hJ=>fH rfl fun v0 _ r0=>cJ fun v59 TJ=>bd (⟨rfl,iZ (k:=6) (i:=60) (by decide) (s:=ea 5) rfl r0 hJ TJ rfl rfl rfl rfl⟩)) ?_
  refine Um [[],[]] [] (by kernel_rfl) rfl ?_
  refine bC (cH (js:=[]) (by kernel_rfl) rfl fun _ g2 _ _ _ _=>bd (iF AS rfl rfl rfl rfl rfl (sh g2))) ?_
  refine Um [[]] [.e aC 0] (by kernel_rfl) rfl ?_
  refine bC (cH (js:=[(64,80)]) (by kernel_rfl) rfl fun _ g2 _ _ _ _=>cI rfl (bd (iE [qq] rfl rfl rfl rfl rfl (by decide) (by kernel_rfl)))) ?_
  refine bC (cH (js:=[(61,77),(62,78),(63,79),(65,81)]) (by kernel_rfl) rfl fun _ g2 _ _ hle _=>cI rfl (cI rfl (ki rfl fun _ _ AV=>ki rfl fun _ _ TK=>bd (lZ [lT,mL,gG,[qq]] rfl rfl rfl rfl rfl (by decide) (by kernel_rfl) ⟨[_],_,rfl,⟨_,rfl,(aT.mono (mV.trans hle))⟩,⟨[_],_,rfl,⟨_,rfl,(dz.mono (mV.trans hle))⟩,⟨[_],_,rfl,⟨_,rfl,AV⟩,⟨[_],_,rfl,⟨_,rfl,TK⟩,rfl⟩⟩⟩⟩)))) ?_
  refine bC (cH (js:=[(66,82)]) (by kernel_rfl) rfl fun _ g2 _ _ _ _=>cJ fun TL TM=>bd (iF sK rfl rfl rfl rfl rfl (oz TL _ g2 TM (by decide)))) ?_
  refine Um [[]] [] (by kernel_rfl) rfl ?_
  refine bC (cH (js:=[(67,83),(68,84)]) (by kernel_rfl) rfl fun _ g2 _ _ hle _=>cJ fun V_ TN=>cI rfl (bd (km (ea 6) rfl rfl rfl rfl TN (aT.mono (mV.trans hle))))) ?_
  refine bC (il (js:=[(0,22),(69,85)]) (by kernel_rfl) rfl fun ρ g2 _ _ _ _ hJ=>fH rfl fun v0 _ r0=>cJ fun V' TO=>bd (⟨rfl,iZ (k:=7) (i:=70) (by decide) (s:=ea 6) rfl r0 hJ TO rfl rfl rfl rfl⟩)) ?_
  refine Um [[],[],[]] [.c jV fun g _=>eb 8 g,.e aC 0,.c pf fun g _=>lY g] (by kernel_rfl) rfl ?_
  refine bC (cH (js:=[(71,86),(72,87),(73,88)]) (by kernel_rfl) rfl fun _ g2 _ _ _ _=>cI rfl (cI rfl (cI rfl (bd (iE [(eD 8),qq,ez] rfl rfl rfl rfl rfl (by decide) (by kernel_rfl)))))) ?_
  refine Um [[],[]] [.c jV fun g _=>eb 8 g,.e aC 0] (by kernel_rfl) rfl ?_
  refine bC (cH (js:=[(75,90),(76,91)]) (by kernel_rfl) rfl fun _ g2 _ _ _ _=>cI rfl (cI rfl (bd (iE [(eD 8),qq] rfl rfl rfl rfl rfl (by decide) (by kernel_rfl))))) ?_
  refine bC (cH (js:=[(74,89),(77,92)]) (by kernel_rfl) rfl fun _ g2 _ _ hle _=>cJ fun Wa TP=>cJ fun Wb TQ=>bd (km (ea 7) rfl rfl rfl rfl TP TQ)) ?_
  refine bC (il (js:=[(0,22),(78,93)]) (by kernel_rfl) rfl fun ρ g2 _ _ _ _ hJ=>fH rfl fun v0 _ r0=>cJ fun Wc TS=>bd (⟨rfl,iZ (k:=8) (i:=79) (by decide) (s:=ea 7) rfl r0 hJ TS rfl rfl rfl rfl⟩)) ?_
  refine Um [[]] [] (by kernel_rfl) rfl ?_
  refine bC (cH (js:=[]) (by kernel_rfl) rfl fun _ g2 _ _ _ _=>bd (iF AR rfl rfl rfl rfl rfl (sg g2))) ?_
  refine Um [[]] [.c pf fun g _=>lY g] (by kernel_rfl) rfl ?_
  refine bC (cH (js:=[(82,96)]) (by kernel_rfl) rfl fun _ g2 _ _ _ _=>cI rfl (bd (iE [ez] rfl rfl rfl rfl rfl (by decide) (by kernel_rfl)))) ?_
  refine bC (cH (js:=[(80,94),(81,95),(83,97)]) (by kernel_rfl) rfl fun _ g2 _ _ hle _=>cI rfl (ki rfl fun _ _ TT=>ki rfl fun _ _ TU=>bd (lZ [lT,eU,[ez]] rfl rfl rfl rfl rfl (by decide) (by kernel_rfl) ⟨[_],_,rfl,⟨_,rfl,(aT.mono (mV.trans hle))⟩,⟨[_],_,rfl,⟨_,rfl,TT⟩,⟨[_],_,rfl,⟨_,rfl,TU⟩,rfl⟩⟩⟩))) ?_
  refine bC (cH (js:=[(84,98)]) (by kernel_rfl) rfl fun _ g2 _ _ _ _=>cJ fun TV TW=>bd (iF sK rfl rfl rfl rfl rfl (oz TV _ g2 TW (by decide)))) ?_
  refine Um [[]] [] (by kernel_rfl) rfl ?_
  refine bC (cH (js:=[(85,99),(86,100)]) (by kernel_rfl) rfl fun _ g2 _ _ hle _=>cJ fun v85 TX=>cI rfl (bd (km (ea 8) rfl rfl rfl rfl TX (aT.mono (mV.trans hle))))) ?_
  refine bC (il (js:=[(0,22),(87,101)]) (by kernel_rfl) rfl fun ρ g2 _ _ _ _ hJ=>fH rfl fun v0 _ r0=>cJ fun v87 TY=>bd (⟨rfl,iZ (k:=9) (i:=88) (by decide) (s:=ea 8) rfl r0 hJ TY rfl rfl rfl rfl⟩)) ?_
  refine Um [[],[],[]] [.c jV fun g _=>eb 14 g,.c pf fun g _=>lY g,.e aP 0] (by kernel_rfl) rfl ?_
  refine bC (cH (js:=[(89,102),(90,103),(91,104)]) (by kernel_rfl) rfl fun _ g2 _ _ _ _=>cI rfl (cI rfl (cI rfl (bd (iE [(eD 14),ez,v_] rfl rfl rfl rfl rfl (by decide) (by kernel_rfl)))))) ?_
  refine Um [[],[]] [.c jV fun g _=>eb 14 g,.c pf fun g _=>lY g] (by kernel_rfl) rfl ?_
  refine bC (cH (js:=[(93,106),(94,107)]) (by kernel_rfl) rfl fun _ g2 _ _ _ _=>cI rfl (cI rfl (bd (iE [(eD 14),ez] rfl rfl rfl rfl rfl (by decide) (by kernel_rfl))))) ?_
  refine bC (cH (js:=[(92,105),(95,108)]) (by kernel_rfl) rfl fun _ g2 _ _ hle _=>cJ fun We TZ=>cJ fun Wf T0=>bd (km (ea 9) rfl rfl rfl rfl TZ T0)) ?_
  refine bC (il (js:=[(0,22),(96,109)]) (by kernel_rfl) rfl fun ρ g2 _ _ _ _ hJ=>fH rfl fun v0 _ r0=>cJ fun Wg T1=>bd (⟨rfl,iZ (k:=10) (i:=97) (by decide) (s:=ea 9) rfl r0 hJ T1 rfl rfl rfl rfl⟩)) ?_
  refine Um [[]] [] (by kernel_rfl) rfl ?_
  refine bC (cH (js:=[]) (by kernel_rfl) rfl fun _ g2 _ _ _ _=>bd (iF AR rfl rfl rfl rfl rfl (sg g2))) ?_
  refine bC (cH (js:=[]) (by kernel_rfl) rfl fun _ g2 _ _ _ _=>bd (iF AS rfl rfl rfl rfl rfl (sh g2))) ?_
  refine bC (cH (js:=[(98,110),(99,111),(100,112)]) (by kernel_rfl) rfl fun _ g2 _ _ hle _=>cI rfl (ki rfl fun _ _ T2=>ki rfl fun _ _ P'=>bd (lZ [lT,eU,gG] rfl rfl rfl rfl rfl (by decide) (by kernel_rfl) ⟨[_],_,rfl,⟨_,rfl,(aT.mono (mV.trans hle))⟩,⟨[_],_,rfl,⟨_,rfl,T2⟩,⟨[_],_,rfl,⟨_,rfl,P'⟩,rfl⟩⟩⟩))) ?_
  refine bC (cH (js:=[(101,113)]) (by kernel_rfl) rfl fun _ g2 _ _ _ _=>cJ fun Qa Qb=>bd (iF sK rfl rfl rfl rfl rfl (oz Qa _ g2 Qb (by decide)))) ?_
  refine Um [[]] [] (by kernel_rfl) rfl ?_
  refine bC (cH (js:=[(102,114),(103,115)]) (by kernel_rfl) rfl fun _ g2 _ _ hle _=>cJ fun T3 Qc=>cI rfl (bd (km (ea 10) rfl rfl rfl rfl Qc (aT.mono (mV.trans hle))))) ?_
  refine bC (il (js:=[(0,22),(104,116)]) (by kernel_rfl) rfl fun ρ g2 _ _ _ _ hJ=>fH rfl fun v0 _ r0=>cJ fun T4 Qd=>bd (⟨rfl,iZ (k:=11) (i:=105) (by decide) (s:=ea 10) rfl r0 hJ Qd rfl rfl rfl rfl⟩)) ?_
  exact vc
 intro ρ g3 hle hJ dh
 refine fH rfl fun v _ hr=>bd ?_
 obtain⟨b,cq,g4,h1,h2,hs,_,hM,hS⟩:=F6 hJ dh
 rw[hr]at h1;obtain rfl:=Option.some.inj h1
 rw[←h2]
 refine ba rfl ?_
 exact aF (aV rfl rfl (hs.ret ⟨_,_,rfl,hM,hS⟩))
end Go.Proofs.YtebobfdheanknaaGreatDoor
namespace Go.K
open Go Go.RowKit
variable {F:Fence} {P:Program} {N:Nat} {ds:List Deferred} {Q:Exit→Act→World→Prop} {l:Env} {o:Oper} {g0 g g':G} {L:List cV} {ρ:Nat→Option Value}
def zk(g0:G)(L:List cV)(T:TypeId)(zero:List Value)(C:List Value→G→Prop)(ia ry:Nat)(ρ:Nat→Option Value)(g:G):Prop:=
 match ρ ia with
 |none=>St g0 g L
 |some v=> ∃b,v= .pointer (some ⟨b,0,none⟩)∧
  match ρ ry with
  |none=>St g0 g (.obj b (.cells zero.toArray T (0,0))::L)
  |some _=> ∃cs,St g0 g (.obj b (.cells cs.toArray T (0,0))::L)∧C cs g
theorem xN{T:TypeId}{zero:List Value}{C:List Value→G→Prop}{ia ry:Nat}(hC: ∀cs g g',g.le g'→C cs g→C cs g')(ρ:Nat→Option Value)(g g':G)(hf:aZ g g')(h:zk g0 L T zero C ia ry ρ g):zk g0 L T zero C ia ry ρ g':=by
 unfold zk at h⊢
 cases h1:ρ ia with
 |none=>rw[h1]at h;exact h.call hf
 |some v=>
  rw[h1]at h
  obtain⟨b,e,h⟩:=h
  refine⟨b,e,?_⟩
  cases h2:ρ ry with
  |none=>rw[h2]at h;exact h.call hf
  |some u=>
   rw[h2]at h
   obtain⟨cs,h3,h4⟩:=h
   exact⟨cs,h3.call hf,hC _ _ _ hf.le h4⟩
theorem HW{T:TypeId}{zero:List Value}{C:List Value→G→Prop}{ia ry:Nat}(hs:St g0 g L):zk g0 L T zero C ia ry (fun _=>none) g:=hs
theorem vf{T:TypeId}{zero:List Value}{C:List Value→G→Prop}{ia ry:Nat}{ti:TI}[dN P](fu:Nat.beq ry ia=false)(h1:ρ ia=none)(h2:ρ ry=none)(hJ:zk g0 L T zero C ia ry ρ g)(ho:o.op= .alloc T)(hi:tl (dN.tb P) T=some ti)(hz:ti.zero.cells=zero.toArray):
  cT F P N ds o l g.w Q fun v w'=> ∃dP,dP.w=w'∧(g.le dP∧zk g0 L T zero C ia ry (o5 ρ ia v) dP)∧Fact.any.p v dP:=by
 unfold zk at hJ
 rw[h1]at hJ
 refine aK dN.ok ho hJ hi hz fun b g' hs hle=>⟨g',rfl,⟨hle,?_⟩,trivial⟩
 unfold zk
 have e1:o5 ρ ia (.pointer (some ⟨b,0,none⟩)) ia=some (.pointer (some ⟨b,0,none⟩)):=if_pos rfl
 have e2:o5 ρ ia (.pointer (some ⟨b,0,none⟩)) ry=none:=by
  unfold o5;rw[if_neg (fun e=>by subst e;simp at fu)];exact h2
 rw[e1]
 refine⟨b,rfl,?_⟩
 rw[e2]
 exact hs
theorem vg{T:TypeId}{zero:List Value}{C:List Value→G→Prop}{ia ry:Nat}{ti:TI}[dN P](hC: ∀cs g g',g.le g'→C cs g→C cs g')(fu:Nat.beq ry ia=false){p:Value}(h1:ρ ia=some p)(h2:ρ ry=none)(hJ:zk g0 L T zero C ia ry ρ g){x y:Operand}{v:Value}(ho:o.op= .store T x y)(hx:ev l x=some p)(hy:ev l y=some v)
  (hi:tl (dN.tb P) T=some ti) (cs:List Value) (hc:v.cells=cs.toArray) (hl:cs.length=ti.size) (hz:zero.length=ti.size) (pK:cs.all Value.oneCell'=true) (hk:C cs g):
  cT F P N ds o l g.w Q fun v w'=> ∃dP,dP.w=w'∧(g.le dP∧zk g0 L T zero C ia ry (o5 ρ ry v) dP)∧Fact.any.p v dP:=by
 unfold zk at hJ
 rw[h1]at hJ
 obtain⟨b,rfl,hJ⟩:=hJ
 rw[h2]at hJ
 have qF:lF zero 0 cs=cs:=by unfold lF;simp[hl,←hz]
 refine aA dN.ok 0 ho hJ rfl hx hy hi hc hl pK (Nat.ble_eq_true_of_le (by omega)) rfl fun g' hs hle=>⟨g',rfl,⟨hle,?_⟩,trivial⟩
 unfold zk
 have e1: ∀u,o5 ρ ry u ia=some (.pointer (some ⟨b,0,none⟩)):=fun u=>by
  unfold o5;rw[if_neg (fun e=>by subst e;simp at fu)];exact h1
 have e2: ∀u,o5 ρ ry u ry=some u:=fun u=>if_pos rfl
 rw[e1]
 refine⟨b,rfl,?_⟩
 rw[e2]
 refine⟨cs,?_,hC _ _ _ hle hk⟩
 rw[qF]at hs
 exact hs
theorem AW{T:TypeId}{zero:List Value}{C:List Value→G→Prop}{ia ry:Nat}{p:Value}(h1:ρ ia=some p)(h2:ρ ry≠none)(hJ:zk g0 L T zero C ia ry ρ g): ∃b cs,p= .pointer (some ⟨b,0,none⟩)∧St g0 g (.obj b (.cells cs.toArray T (0,0))::L)∧C cs g:=by
 unfold zk at hJ
 rw[h1]at hJ
 obtain⟨b,e,hJ⟩:=hJ
 cases hr:ρ ry with
 |none=>exact absurd hr h2
 |some u=>rw[hr]at hJ;obtain⟨cs,h3,h4⟩:=hJ;exact⟨b,cs,e,h3,h4⟩
end Go.K
namespace Go.Proofs.YtebobfdheanknaaGreatDoor
open Go Go.K
set_option maxRecDepth 10000
attribute [local irreducible] W WL cT cn bX bA bB bD cW cG
theorem qs{F:Fence}{P:Program}{N:Nat}{ds:List Deferred}{l:Env}{w:World}{Q:Exit→Act→World→Prop}{o:Oper}{K:Value→World→Prop}{t t':TypeId}{x y:Operand}{neg b:Bool}{xs ys:Array Value}(ho:o.op= .binOp (if neg then .neq else .eql) t x y t')(hx:ev l x=some (.agg xs))(hy:ev l y=some (.agg ys))
  (hg:P.eqGuardType P.depth t=false) (he:(Op.equal t (.agg xs) (.agg ys)).run P w= .ok b w) (k:K (.bool (neg !=b)) w):cT F P N ds o l w Q K:=by
 refine bG (fun c=>⟨by rw[ho];simp,by rw[ho];simp⟩) (fun a ha=>?_) k
 have hq: ∀op,(eqGuard op t x y (.agg xs) (.agg ys)).run P w= .ok () w:=fun op=>by unfold eqGuard;split<;>simp[hg]
 have IK:(Op.equalIn 10000 t (.agg xs) (.agg ys)).run P w= .ok b w:=he
 cases neg<;>simp[execOp,ho,ha.ev hx,ha.ev hy,hq,run_eql_struct,run_neq_struct,IK]
def sf(P:Program)(d:Nat)(xs ys:Array Value)(p:Bool×TypeId×Nat)(r:Bool):Prop:=
 p.1=false∧ ∀w,∃x y,(part p.2.1 xs p.2.2).run P w= .ok x w∧(part p.2.1 ys p.2.2).run P w= .ok y w∧(Op.equalIn d p.2.1 x y).run P w= .ok r w
def xG(P:Program)(d:Nat)(xs ys:Array Value):List (Bool×TypeId×Nat)→List Bool→Prop
 |[],[]=>True
 |p::ps,r::rs=>sf P d xs ys p r∧xG P d xs ys ps rs
 |_,_=>False
theorem o8{P:Program}{d:Nat}{xs ys:Array Value}(w:World): ∀(fs:List Field) (ps:List (Bool×TypeId×Nat)) (rs:List Bool),fs.map (fun f=>(f.name== "_",f.type,f.offset))=ps→xG P d xs ys ps rs→(Op.eqFields d xs ys fs).run P w= .ok (rs.all id) w
 |[],ps,rs,h,hq=>by
  subst h
  cases rs with
  |nil=>simp[Op.eqFields]
  |cons r rs=>exact hq.elim
 |f::fs,ps,rs,h,hq=>by
  subst h
  cases rs with
  |nil=>exact hq.elim
  |cons r rs=>
   obtain⟨⟨h1,h2⟩,h3⟩:=hq
   obtain⟨x,y,e1,e2,e3⟩:=h2 w
   have ih:=o8 w fs _ rs rfl h3
   have hn:f.name≠ "_":=by simpa using h1
   simp only[Op.eqFields,hn,ne_eq,not_false_eq_true,if_true,Sem.run_bind]
   rw[e1];simp only[Result.andThen_ok]
   rw[e2];simp only[Result.andThen_ok]
   rw[e3];simp only[Result.andThen_ok]
   cases r with
   |false=>simp
   |true=>simpa using ih
theorem mN(xs ys:Array Value)(i:Nat){a b:Int}(h1:xs[i]? =some (.int .i64 a))(h2:ys[i]? =some (.int .i64 b)):sf Tryz.prog 9999 xs ys (false,3,i) (a==b):=
 ⟨rfl,fun w=>⟨.int .i64 a,.int .i64 b,by simp[part,iL T.ok (show tl T 3=some _ from rfl),rO,h1],by simp[part,iL T.ok (show tl T 3=some _ from rfl),rO,h2],run_equalIn_int w 9998 3 .i64 .i64 a b (by kernel_rfl)⟩⟩
theorem KQ(xs ys:Array Value)(i:Nat){a b:Bool}(h1:xs[i]? =some (.bool a))(h2:ys[i]? =some (.bool b)):sf Tryz.prog 9999 xs ys (false,4,i) (a==b):=
 ⟨rfl,fun w=>⟨.bool a,.bool b,by simp[part,iL T.ok (show tl T 4=some _ from rfl),rO,h1],by simp[part,iL T.ok (show tl T 4=some _ from rfl),rO,h2],run_equalIn_bool' w 9998 4 a b (by kernel_rfl)⟩⟩
theorem Pp(xs ys:Array Value)(i:Nat){a b:List UInt8}(h1:xs[i]? =some (.string (bs a)))(h2:ys[i]? =some (.string (bs b))):sf Tryz.prog 9999 xs ys (false,9,i) (a==b):=
 ⟨rfl,fun w=>⟨.string (bs a),.string (bs b),by simp[part,iL T.ok (show tl T 9=some _ from rfl),rO,h1],by simp[part,iL T.ok (show tl T 9=some _ from rfl),rO,h2],by
  rw[run_equalIn_string w 9998 9 (bs a) (bs b) (by kernel_rfl),cD,cD]⟩⟩
theorem Sc(f h:bc)(w:World):(Op.equal 54 (fv f) (fv h)).run Tryz.prog w= .ok (decide (f=h)) w:=by
 show(Op.equalIn (9999+1) _ _ _).run _ _=_
 rw[run_equalIn_struct w 9999 _ _ _ (by kernel_rfl) (by kernel_rfl)]
 rw[o8 w _ _ [f.kind==h.kind,f.idn==h.idn,f.ver==h.ver,f.day==h.day,f.gone==h.gone,f.time==h.time,f.til==h.til,f.waf==h.waf,f.oth==h.oth,f.lot==h.lot,f.prod==h.prod,f.tool==h.tool,f.cham==h.cham,f.step==h.step,f.rcp==h.rcp,f.rvn==h.rvn,f.val==h.val,f.par==h.par,f.text==h.text] (by kernel_rfl:_=[(false,3,0),(false,3,1),(false,3,2),(false,3,3),(false,4,4),(false,3,5),(false,3,6),(false,3,7),(false,3,8),(false,3,9),(false,3,10),(false,3,11),(false,3,12),(false,3,13),(false,3,14),(false,3,15),(false,3,16),(false,3,17),(false,9,18)]) ⟨mN _ _ 0 rfl rfl,mN _ _ 1 rfl rfl,mN _ _ 2 rfl rfl,mN _ _ 3 rfl rfl,KQ _ _ 4 rfl rfl,mN _ _ 5 rfl rfl,mN _ _ 6 rfl rfl,mN _ _ 7 rfl rfl,mN _ _ 8 rfl rfl,mN _ _ 9 rfl rfl,mN _ _ 10 rfl rfl,mN _ _ 11 rfl rfl,mN _ _ 12 rfl rfl,mN _ _ 13 rfl rfl,mN _ _ 14 rfl rfl,mN _ _ 15 rfl rfl,mN _ _ 16 rfl rfl,mN _ _ 17 rfl rfl,Pp _ _ 18 rfl rfl,trivial⟩]
 congr 1
 rw[Bool.eq_iff_iff]
 obtain⟨a0,a1,a2,a3,a4,a5,a6,a7,a8,a9,VU,VV,a12,VW,VX,VY,VZ,V0,V1⟩:=f
 obtain⟨b0,b1,b2,b3,b4,b5,b6,b7,b8,b9,IL,we,BO,FY,Pq,V2,Sd,Pr,V3⟩:=h
 simp[bc.mk.injEq]
end Go.Proofs.YtebobfdheanknaaGreatDoor
namespace Go.Proofs.YtebobfdheanknaaGreatDoor
open Go Go.K
set_option maxRecDepth 10000
attribute [local irreducible] W WL cT cn bX bA bB bD cW cG
set_option maxHeartbeats 8000000
def Dn:List Value:=[.slice none 0 0,.slice none 0 0,.nilFunc,.bool false]
def oC(s? :Option zi)(cs:List Value)(g:G):Prop:=match s? with
 |some s=> ∃a b,cs=[a,b,.func (.func (FG s.rest)) #[] #[],.bool s.iW]∧Rs g a s.fields∧Rs g b s.key
 |none=>cs=Dn
theorem oC.mono{s? :Option zi}(cs:List Value)(g g':G)(hle:g.le g')(h:oC s? cs g):oC s? cs g':=by
 unfold oC at h⊢
 cases s? with
 |none=>exact h
 |some s=>obtain⟨a,b,e,h1,h2⟩:=h;exact⟨a,b,e,h1.mono hle,h2.mono hle⟩
theorem oC.len{s? :Option zi}{cs:List Value}{g:G}(h:oC s? cs g):cs.length=4∧cs.all Value.oneCell'=true:=by
 unfold oC at h
 cases s? with
 |none=>obtain rfl:cs=Dn:=h;exact⟨rfl,rfl⟩
 |some s=>
  obtain⟨a,b,rfl,h1,h2⟩:=h
  obtain⟨_,_,rfl⟩:=h1.isSlice
  obtain⟨_,_,rfl⟩:=h2.isSlice
  exact⟨rfl,rfl⟩
def F7:Fact:=⟨fun v g=> ∃b cq,v= .map (some b)∧zx g b cq∧F5 g cq,fun v g g' hf ⟨b,cq,e,h1,h2⟩=>⟨b,cq,e,h1.mono hf.le,fun k=>by
 have:=h2 k
 cases hk:dM k with
 |none=>rw[hk]at this;exact this
 |some s=>rw[hk]at this;obtain⟨v,e,h⟩:=this;exact⟨v,e,h.mono hf.le⟩⟩⟩
theorem vd:uK F7:=fun v g g' hle ⟨b,cq,e,h1,h2⟩=>⟨b,cq,e,h1.mono hle,fun k=>by
 have:=h2 k
 cases hk:dM k with
 |none=>rw[hk]at this;exact this
 |some s=>rw[hk]at this;obtain⟨v,e,h⟩:=this;exact⟨v,e,h.mono hle⟩⟩
def BS(s? :Option zi)(w:Value→Value):Fact:=⟨fun v g=> ∃cs,v=w (.agg cs.toArray)∧oC s? cs g,by rintro v g g' hf ⟨cs,e,h⟩;exact⟨cs,e,h.mono _ _ _ hf.le⟩⟩
theorem nL(s? :Option zi)(w:Value→Value):uK (BS s? w):=by
 rintro v g g' hle ⟨cs,e,h⟩
 exact⟨cs,e,h.mono _ _ _ hle⟩
theorem wo{N:Nat}{ds:List Deferred}{Q:Exit→Act→World→Prop}{g:G}{o:Oper}{l:Env}{K:Value→World→Prop}{m kk:Operand}{ok:Bool}{b:Nat}{cq:List (Int×Value)}{k:Int}(ho:o.op= .lookup 160 m kk ok)(hm:zx g b cq)(hS:F5 g cq)
  (h1:ev l m=some (.map (some b))) (h2:ev l kk=some (.int .i64 k)) (kq: ∀cs,oC (dM k) cs g→K (if ok then .tuple #[.agg cs.toArray,.bool (dM k).isSome]else .agg cs.toArray) g.w):cT Wd Tryz.prog N ds o l g.w Q K:=by
 refine l_ (κ:=Int) (a:=k) (zw T.ok rfl rfl rfl rfl rfl) ho hm.2 h1 h2 ?_
 have:=hS k
 cases hk:dM k with
 |none=>
  rw[hk]at this kq
  simp only at this
  rw[this]
  exact kq Dn rfl
 |some s=>
  rw[hk]at this kq
  obtain⟨v,e,a,b,rfl,hr⟩:=this
  rw[e]
  exact kq _ ⟨a,b,rfl,hr⟩
theorem I3(r:Nat)(f:bc)(g:G):CallsIn Wd 0 Tryz.prog (FG r) #[fv f] g.w (cR g fun _ v=>v= .bool (o7 r f)):=
 match r with
 |0=>AU f g
 |1=>Di f g
 |2=>F4 f g
 |_+3=>AU f g
theorem F8: ∀r:Nat,ag Tryz.prog (FG r)
 |0=>HL
 |1=>L1
 |2=>LS
 |_+3=>HL
theorem wq{k:Nat}(hk:kP k)(f:bc):ve T 3 (bW f) k=some (.int .i64 (f.num k)):=by
 rcases hk with rfl|rfl|rfl|rfl|rfl|rfl|rfl|rfl|rfl|rfl|rfl|rfl|rfl|rfl<;>rfl
theorem Dp{k:Nat}(hk:kP k)(f:bc)(n:Int):lF (bW f) k [.int .i64 n]=bW (f.put k n)∧k<19:=by
 rcases hk with rfl|rfl|rfl|rfl|rfl|rfl|rfl|rfl|rfl|rfl|rfl|rfl|rfl|rfl<;>exact⟨rfl,by decide⟩
theorem lX{k:Int}{s:zi}(h:dM k=some s):(∀x∈s.fields,kP x.at_)∧ ∀x∈s.key,kP x.at_:=by
 unfold dM at h
 split at h
 ·cases h
 ·have hm:=List.mem_of_getElem? h
  have: ∀s∈lU,(∀x∈s.fields,kP x.at_)∧ ∀x∈s.key,kP x.at_:=by unfold kP;decide
  exact this s hm
theorem F1(x:jD)(l:List jD)(f:bc):lV (x::l) f=if(decide (f.num x.at_<x.lo)||decide (x.hi<f.num x.at_))=true then none else lV l (f.put x.at_ 0):=rfl
theorem xM(f:bc)(g:G):CallsIn Wd 0 Tryz.prog 86 #[fv f] g.w (cR g fun _ r=>r= .bool (fm f)):=by
 have hs:=St.start g
 have aq:=G.le.refl g
 refine enter Tryz.func86 rfl Tryz.ntmps86 rfl ?_
 apply c_
 refine an rfl rfl (aR rfl hs rfl rfl ?_);clear hs;rintro bf g1 hs ah
 refine ba rfl ?_;apply aB
 obtain⟨g2,bR,aU,ah,aL⟩:=hs.a_ (i:=0) rfl;replace hs:=aU;clear aU;rw[←bR]
 have aC:=aL;clear aL
 skip
 apply lJ (.f F7::(eJ (.f (BS (dM f.kind) fun u=> .tuple #[u,.bool (dM f.kind).isSome]):: .f (BS (dM f.kind) fun u=> .tuple #[u,.bool (dM f.kind).isSome]):: .f (BS (dM f.kind) id)::(fe (.f Fact.any:: .f Fact.any::[]))))) 9 [(7,3),(6,15)] [7,8] [[],[7]] (zk g [] 159 Dn (oC (dM f.kind)) 7 8) (xN oC.mono) (HW hs.dr) (by kernel_rfl) ⟨vd,nL _ _,nL _ _,nL _ _,cY,cY,trivial⟩
 ·refine bC (cH (js:=[]) (by kernel_rfl) rfl fun _ g2 _ _ _ _=>bd (az rfl (ay IZ aI rfl rfl rfl rfl rfl (sL g2) fun g' v hf ⟨b,cq,e,h1,h2⟩=>⟨g',rfl,hf,b,cq,e,h1,h2⟩))) ?_
  refine Um [[],[1]] [.e aC 0] (by kernel_rfl) rfl ?_
  refine bC (cH (js:=[(0,10),(2,12)]) (by kernel_rfl) rfl fun _ g2 _ _ _ _=>cJ fun v0 h0=>cI rfl (bd ?_)) ?_
  ·obtain⟨b,cq,rfl,h1,h2⟩:=h0
   exact az rfl (wo rfl h1 h2 rfl rfl fun cs h=>⟨g2,rfl,aZ.refl _,cs,rfl,h⟩)
  refine bC (cH (js:=[(3,13)]) (by kernel_rfl) rfl fun _ g2 _ _ _ _=>cJ fun v3 h3=>bd ?_) ?_
  ·obtain⟨cs,rfl,h⟩:=h3
   exact az rfl (aM _ T.ok rfl ⟨g2,rfl,aZ.refl _,cs,rfl,h⟩)
  refine bC (cH (js:=[(4,9)]) (by kernel_rfl) rfl fun _ g2 _ _ _ _=>cJ fun v3 h3=>bd ?_) ?_
  ·obtain⟨cs,rfl,h⟩:=h3
   exact az rfl (aM _ T.ok rfl ⟨g2,rfl,aZ.refl _,cs,rfl,h⟩)
  refine bC (cH (js:=[(4,9)]) (by kernel_rfl) rfl fun _ g2 _ _ _ _=>cJ fun v3 h3=>bd ?_) ?_
  ·obtain⟨cs,rfl,h⟩:=h3
   exact az rfl (aM _ T.ok rfl ⟨g2,rfl,aZ.refl _,rfl⟩)
  refine bC (il (js:=[]) (by kernel_rfl) rfl fun ρ g2 h1 _ h3 _ hJ=>bd ⟨rfl,vf rfl h3 (h1 1 [7] 8 rfl rfl (by simp)) hJ rfl rfl rfl⟩) ?_
  refine bC (il (js:=[(7,3),(5,14),(5,14),(7,3)]) (by kernel_rfl) rfl fun ρ g2 _ _ h3 _ hJ=>cJ fun _ _=>cJ fun _ _=>cJ fun v5 h5=>fH rfl fun v7 _ r7=>bd ⟨rfl,?_⟩) ?_
  ·obtain⟨cs,rfl,h⟩:=h5
   exact vg oC.mono rfl r7 h3 hJ rfl rfl rfl rfl cs rfl h.len.1 rfl h.len.2 h
  exact vc
 intro ρ g3 hle hJ dh
 refine fH rfl fun v7 _ r7=>cI rfl (bd ?_)
 obtain⟨b3,cs,rfl,hs,hO⟩:=AW r7 (dh 8 rfl) hJ
 clear hJ dh r7
 have ah:=(G.bJ _).trans hle;replace aC:=aC.mono ah
 clear hle ρ
 refine ba rfl ?_;apply aB;refine cP 3 rfl ?_
 cases mU:dM f.kind with
 |none=>
  refine ba rfl ?_
  refine aJ rfl rfl ?_
  refine aX rfl ?_
  refine aF ?_;apply eF
  refine aV rfl rfl (hs.ret ?_)
  unfold fm;rw[mU]
 |some s=>
  rw[mU]at hO
  obtain⟨ka,kb,rfl,eg,fq⟩:=hO
  obtain⟨fa,fc,rfl⟩:=eg.isSlice
  refine Wm 5 [.z aC] (St.start _) rfl ?_
  refine cw (want:=false) (x:=decide (1000000<f.ver)) 3 aI rfl rfl rfl rfl (.inr ⟨rfl,rfl,rfl⟩) rfl rfl rfl rfl (fun hb Q' eE=>?_) (fun g' hf=>?_)
  ·refine Wm 3 [.z aC] (St.start _) rfl ?_;apply aD
   exact fun a ha=>eE _ a (aZ.refl _) (ha.keep (by(repeat (first|exact trivial|refine⟨rfl,?_⟩))))
  replace hs:=hs.call hf;have ah:=hf.le;obtain⟨aC,eg⟩:=cC ah aC eg
  refine Wp 1 rfl ?_
  refine cw (want:=false) (x:=decide (f.day<0)) 3 aI rfl rfl rfl rfl (.inr ⟨rfl,rfl,rfl⟩) rfl rfl rfl rfl (fun hb Q' eE=>?_) (fun g' hf=>?_)
  ·refine Wm 3 [.z aC] (St.start _) rfl ?_;apply aD
   exact fun a ha=>eE _ a (aZ.refl _) (ha.keep (by(repeat (first|exact trivial|refine⟨rfl,?_⟩))))
  replace hs:=hs.call hf;have ah:=hf.le;obtain⟨aC,eg⟩:=cC ah aC eg
  refine Wp 1 rfl ?_
  refine cw (want:=false) (x:=decide (100000<f.day)) 3 aI rfl rfl rfl rfl (.inr ⟨rfl,rfl,rfl⟩) rfl rfl rfl rfl (fun hb Q' eE=>?_) (fun g' hf=>?_)
  ·refine Wm 3 [.z aC] (St.start _) rfl ?_;apply aD
   exact fun a ha=>eE _ a (aZ.refl _) (ha.keep (by(repeat (first|exact trivial|refine⟨rfl,?_⟩))))
  replace hs:=hs.call hf;have ah:=hf.le;obtain⟨aC,eg⟩:=cC ah aC eg
  refine Wp 1 rfl ?_
  refine cw (want:=false) (x:=decide (8192<((bs f.text).size:Int))) 4 aI rfl rfl rfl rfl (.inr ⟨rfl,rfl,rfl⟩) rfl rfl rfl rfl (fun hb Q' eE=>?_) (fun g' hf=>?_)
  ·refine Wm 4 [.z aC] (St.start _) rfl ?_;apply aD
   exact fun a ha=>eE _ a (aZ.refl _) (ha.keep (by(repeat (first|exact trivial|refine⟨rfl,?_⟩))))
  replace hs:=hs.call hf;have ah:=hf.le;obtain⟨aC,eg⟩:=cC ah aC eg
  refine Wp 1 rfl ?_
  refine cw (want:=false) (x:=!o7 s.rest f) 5 aI rfl rfl rfl rfl (.inr ⟨rfl,rfl,rfl⟩) rfl rfl rfl rfl (fun hb Q' eE=>?_) (fun g' hf=>?_)
  ·refine Wm 3 [.o 0,.z aC] hs rfl ?_
   refine an rfl rfl (eA rfl rfl rfl rfl rfl rfl (de (first:=#[]) (captured:=#[]) (args:=[fv f]) (F8 s.rest) rfl (I3 s.rest f _)) ?_)
   rintro g4 _ kL rfl
   refine Wp 1 rfl ?_;apply aD
   intro a ha
   exact eE g4 a kL (ha.keep (by(repeat (first|exact trivial|refine⟨rfl,?_⟩))))
  replace hs:=hs.call hf;have ah:=hf.le;obtain⟨aC,eg⟩:=cC ah aC eg
  apply cf
  have iG:fm f=if(decide (f.ver<1)||decide (1000000<f.ver)||decide (f.day<0)||decide (100000<f.day)||decide (8192<(f.text.length:Int))|| !o7 s.rest f)=true then false
    else match lV s.fields f with
     |none=>false
     |some g=>decide ((if s.iW then {g with text:=[]}else g)=ow f):=by simp only[fm,mU];rfl
  by_cases hc:(decide (f.ver<1)||decide (1000000<f.ver)||decide (f.day<0)||decide (100000<f.day)||decide (8192<(f.text.length:Int))|| !o7 s.rest f)=true
  ·refine aJ (b:=_) ?_ rfl ?_
   ·simpa [ec]using hc
   refine aX rfl ?_
   refine aF ?_;apply eF
   refine aV rfl rfl (hs.ret ?_)
   rw[iG,if_pos hc]
  ·refine aS (b:=_) ?_ rfl ?_
   ·have HX:=Bool.eq_false_iff.2 hc
    simpa [ec]using HX
   rw[if_neg hc]at iG
   clear hc
   apply aE;apply au;refine dx 1 [.z aC] (St.start _) rfl ?_
   refine an rfl rfl (aK T.ok rfl hs rfl rfl ?_);clear hs;rintro bw g1 hs ah;obtain⟨aC,eg⟩:=cC ah aC eg
   skip
   refine bg rfl (aA T.ok 0 rfl hs rfl rfl rfl rfl rfl rfl rfl rfl rfl ?_);replace hs:=hs;rintro g1 hs ah;obtain⟨aC,eg⟩:=cC ah aC eg
   apply cf;apply aB;refine nK [.o 1] hs rfl ?_;apply aG
   have hs:St g g1 [.obj bw (.cells (bW f).toArray 54 (0,0)),.obj b3 (.cells #[.slice fa s.fields.length fc,kb,.func (.func (FG s.rest)) #[] #[],.bool s.iW] 159 (0,0))]:=hs
   have MU:=(lX mU).1
   have hlen:=eg.dU
   unfold maxLen at hlen
   have Qe:=eg;have OS:=aC;have cN:=G.le.refl g1
   refine bS (fun m a' w=> ∃(k:Nat) (h:bc) (g':G),w=g'.w∧St g g' [.obj bw (.cells (bW h).toArray 54 (0,0)),.obj b3 (.cells #[.slice fa s.fields.length fc,kb,.func (.func (FG s.rest)) #[] #[],.bool s.iW] 159 (0,0))]∧G.le g1 g'∧
     k≤s.fields.length∧m=s.fields.length-k∧lV s.fields f=lV (s.fields.drop k) h∧
     Fr 93 [] [(1,.pointer (some ⟨bf,0,none⟩)),(3,.pointer (some ⟨b3,0,none⟩)),(5,.pointer (some ⟨bw,0,none⟩)),(53,.slice fa s.fields.length fc),(54,.int .i64 s.fields.length),(55,.int .i64 k)] a') s.fields.length
    (fun a' ha=>⟨0,f,g1,rfl,hs,cN,Nat.zero_le _,rfl,rfl,ha.keep (by(repeat (first|exact trivial|refine⟨rfl,?_⟩)))⟩) ?_
   clear hs cN eg aC
   rintro m a' _ ⟨k,h,g',rfl,hs,cN,hk,rfl,dy,eI⟩
   have eg:=Qe.mono cN;have aC:=OS.mono cN
   revert a'
   apply cQ;refine aX rfl ?_;apply aB
   by_cases bh:k<s.fields.length
   ·refine aJ (b:=decide ((k:Int)<(s.fields.length:Int))) (by simp;omega) rfl ?_
    have qD:=MU _ (List.getElem_mem bh)
    have ic:=cU (n:=((k:Nat):Int)) rfl bh
    rw[←List.getElem_cons_drop bh]at dy
    rw[F1]at dy
    generalize s.fields[k]=x at*
    apply aE;apply au;apply aB;apply aG;apply c_
    refine an rfl rfl (aW T.ok rfl eg (y:=x) ic rfl rfl rfl rfl rfl rfl ?_)
    rintro bq pq ys aL rfl
    refine Wm 1 [.e aL 0] (St.start _) rfl ?_
    skip
    refine an rfl rfl (aK T.ok rfl hs rfl rfl ?_);clear hs;rintro bx g1 hs ah;obtain⟨cN,aC⟩:=cC ah cN aC
    skip
    refine bg rfl (aA T.ok 0 rfl hs rfl rfl rfl rfl rfl rfl rfl rfl rfl ?_);replace hs:=hs;rintro g1 hs ah;obtain⟨cN,aC⟩:=cC ah cN aC
    apply cf;refine dx 2 [.o 0] hs rfl ?_
    refine an rfl rfl (eA rfl rfl rfl rfl rfl rfl (de (first:=#[]) (captured:=#[]) (args:=[.pointer (some ⟨bw,0,none⟩)]) (Dh qD) rfl (HT qD bw _)) ?_)
    rintro g4 _ kL rfl
    replace hs:=hs.call kL;have ah:=kL.le;obtain⟨cN,aC⟩:=cC ah cN aC
    refine ba rfl ?_;apply aB;apply aB
    by_cases uI:h.num x.at_<x.lo
    ·apply bO hs (fj (gE (eJ []))) 14 [(13,75)] (by kernel_rfl) rfl
     ·refine Dx [[],[0]] (by kernel_rfl) rfl ?_
      refine aw (ak (js:=[(1,63)]) (by kernel_rfl) fun gd hf=>?_) ?_
      ·exact ai rfl (aj (az rfl (eS T.ok 1 rfl (hs.dr.call hf) rfl rfl (wq qD h) ⟨_,rfl,aZ.refl _,rfl⟩)))
      refine Dm [[],[3]] [.o 0] hs (by kernel_rfl) rfl ?_
      refine aw (ak (js:=[(2,64),(4,66)]) (by kernel_rfl) fun gd hf=>?_) ?_
      ·exact ai rfl (ai rfl (aj (az rfl (aM _ T.ok rfl ⟨_,rfl,aZ.refl _,congrArg Value.bool (decide_eq_true uI)⟩))))
      exact Dy [[5],[6],[7,6],[8,6],[6],[10,6],[9,11,6],[6,12]] (by kernel_rfl) rfl
     clear hs;intro g5 hs ah;obtain⟨cN,aC⟩:=cC ah cN aC
     apply cf
     refine aJ rfl rfl ?_
     refine aX rfl ?_
     refine aF ?_;apply eF;apply iq;apply eF;apply eF;apply iq;apply eF
     refine aV rfl rfl (hs.ret ?_)
     rw[iG,dy,if_pos (by simp[uI])]
    ·apply bO hs (fj (gE (eJ []))) 14 [(13,75)] (by kernel_rfl) rfl
     ·refine Dx [[],[0]] (by kernel_rfl) rfl ?_
      refine aw (ak (js:=[(1,63)]) (by kernel_rfl) fun gd hf=>?_) ?_
      ·exact ai rfl (aj (az rfl (eS T.ok 1 rfl (hs.dr.call hf) rfl rfl (wq qD h) ⟨_,rfl,aZ.refl _,rfl⟩)))
      refine Dm [[],[3]] [.o 0] hs (by kernel_rfl) rfl ?_
      refine aw (ak (js:=[(2,64),(4,66)]) (by kernel_rfl) fun gd hf=>?_) ?_
      ·exact ai rfl (ai rfl (aj (az rfl (aM _ T.ok rfl ⟨_,rfl,aZ.refl _,congrArg Value.bool (decide_eq_false uI)⟩))))
      refine Dx [[5],[6],[7,6]] (by kernel_rfl) rfl ?_
      refine aw (ak (js:=[(8,70),(6,68)]) (by kernel_rfl) fun gd hf=>?_) ?_
      ·exact ai rfl (ai rfl (aj (az rfl (eS T.ok 1 rfl (hs.dr.call hf) rfl rfl (wq qD h) ⟨_,rfl,aZ.refl _,rfl⟩))))
      exact Dz [[6],[10,6],[9,11,6],[6,12]] [.o 0] hs (by kernel_rfl) rfl
     clear hs;intro g5 hs ah;obtain⟨cN,aC⟩:=cC ah cN aC
     apply cf
     by_cases qo:x.hi<h.num x.at_
     ·refine aJ (b:=decide (x.hi<h.num x.at_)) (decide_eq_true qo) rfl ?_
      refine aX rfl ?_
      refine aF ?_;apply eF;apply iq;apply eF;apply eF;apply iq;apply eF
      refine aV rfl rfl (hs.ret ?_)
      rw[iG,dy,if_pos (by simp[qo])]
     ·refine aS (b:=decide (x.hi<h.num x.at_)) (decide_eq_false qo) rfl ?_
      rw[if_neg (by simp[uI,qo])]at dy
      apply aE;apply au;apply ar;refine Wp 2 rfl ?_
      refine bg rfl (aA T.ok 1 rfl hs rfl rfl rfl rfl rfl rfl rfl (Nat.ble_eq_true_of_le (Dp qD h 0).2) (Dp qD h 0).1 ?_)
      clear hs;intro g6 hs ah;obtain⟨cN,aC⟩:=cC ah cN aC
      replace hs:=hs.drop 0
      apply aD;apply bU;apply au;apply ar;refine Wp 2 rfl ?_;apply aD
      exact fun a ha=>⟨s.fields.length-(k+1),by omega,k+1,h.put x.at_ 0,_,rfl,hs,cN,by omega,rfl,dy,ha.keep ⟨rfl,rfl,rfl,rfl,rfl,kI rfl (by rw[wr (by omega) (by omega)];omega),trivial⟩⟩
   ·refine aS (b:=decide ((k:Int)<(s.fields.length:Int))) (by simp;omega) rfl ?_
    rw[List.drop_of_length_le (by omega)]at dy
    rw[dy]at iG
    have iG:fm f=decide ((if s.iW then {h with text:=[]}else h)=ow f):=iG
    apply bE;apply bK;apply bK;apply dc;apply au;apply aB;refine nK [.o 1] hs rfl ?_
    cases ht:s.iW with
    |true=>
     refine aJ rfl rfl ?_
     apply ar;refine Wp 1 rfl ?_
     refine bg rfl (aA T.ok 0 rfl hs rfl rfl rfl rfl rfl rfl rfl rfl rfl ?_);replace hs:=hs;rintro g1 hs ah;replace aC:=aC.mono ah
     have hs:St g g1 [.obj bw (.cells (bW {h with text:=[]}).toArray 54 (0,0)),.obj b3 (.cells #[.slice fa s.fields.length fc,kb,.func (.func (FG s.rest)) #[] #[],.bool s.iW] 159 (0,0))]:=hs
     apply cf;refine dx 9 [.o 0,.z aC,.z aC,.z aC,.z aC] hs rfl ?_
     refine an rfl rfl (aQ T.ok rfl (vs:=[(0,.int .i64 f.kind),(2,.int .i64 f.ver),(3,.int .i64 f.day),(4,.bool f.gone)]) (cells:=bW (ow f)) rfl rfl rfl rfl [(0,1),(1,1),(2,1),(3,1),(4,1),(5,1),(6,1),(7,1),(8,1),(9,1),(10,1),(11,1),(12,1),(13,1),(14,1),(15,1),(16,1),(17,1),(18,1)] rfl (by kernel_rfl) ?_)
     refine an rfl rfl (qs (neg:=false) rfl rfl rfl (by kernel_rfl) (Sc {h with text:=[]} (ow f) _) ?_)
     refine ba rfl ?_
     refine aF (aV rfl rfl (hs.ret ?_))
     rw[iG,ht];simp
    |false=>
     refine aS rfl rfl ?_
     apply aE;apply au;refine dx 9 [.o 0,.z aC,.z aC,.z aC,.z aC] hs rfl ?_
     refine an rfl rfl (aQ T.ok rfl (vs:=[(0,.int .i64 f.kind),(2,.int .i64 f.ver),(3,.int .i64 f.day),(4,.bool f.gone)]) (cells:=bW (ow f)) rfl rfl rfl rfl [(0,1),(1,1),(2,1),(3,1),(4,1),(5,1),(6,1),(7,1),(8,1),(9,1),(10,1),(11,1),(12,1),(13,1),(14,1),(15,1),(16,1),(17,1),(18,1)] rfl (by kernel_rfl) ?_)
     refine an rfl rfl (qs (neg:=false) rfl rfl rfl (by kernel_rfl) (Sc h (ow f) _) ?_)
     refine ba rfl ?_
     refine aF (aV rfl rfl (hs.ret ?_))
     rw[iG,ht];simp
end Go.Proofs.YtebobfdheanknaaGreatDoor
namespace Go.Proofs.YtebobfdheanknaaGreatDoor
open Go Go.K
theorem FZ{i j:Nat}(hi:kP i)(hj:kP j)(f:bc)(n:Int):(f.put i n).num j=if j=i then n else f.num j:=by
 rcases hi with rfl|rfl|rfl|rfl|rfl|rfl|rfl|rfl|rfl|rfl|rfl|rfl|rfl|rfl<;>
 rcases hj with rfl|rfl|rfl|rfl|rfl|rfl|rfl|rfl|rfl|rfl|rfl|rfl|rfl|rfl<;>rfl
theorem o9: ∀(l:List jD) (f g:bc),(l.map (·.at_)).Nodup→(∀x∈l,kP x.at_)→lV l f=some g→ ∀x∈l,x.lo≤f.num x.at_∧f.num x.at_≤x.hi
 |[],_,_,_,_,_,x,hx=>by simp at hx
 |y::l,f,g,hn,hf,h,x,hx=>by
  rw[F1]at h
  split at h
  ·cases h
  ·rename_i hc
   simp only[Bool.or_eq_true,decide_eq_true_eq,not_or]at hc
   simp only[List.map_cons,List.nodup_cons]at hn
   rcases List.mem_cons.1 hx with rfl|hx
   ·omega
   ·have ih:=o9 l _ _ hn.2 (fun z hz=>hf z (List.mem_cons_of_mem _ hz)) h x hx
    rw[FZ (hf y (List.mem_cons_self ..)) (hf x (List.mem_cons_of_mem _ hx)),if_neg (fun e=>hn.1 (by rw[←e];exact List.mem_map.2 ⟨x,hx,rfl⟩))]at ih
    exact ih
theorem mO{k:Int}{s:zi}(h:dM k=some s):(s.fields.map (·.at_)).Nodup∧(∀x∈s.fields,-10000000≤x.lo∧x.hi≤10000000)∧(∀x∈s.key,∃y∈s.fields,y.at_=x.at_)∧s.key.length≤2∧s.key≠[]∧s.fields.length≤11∧1≤k∧k≤11:=by
 unfold dM at h
 split at h
 ·cases h
 ·rename_i hk
  have bh:=(List.getElem?_eq_some_iff.1 h).1
  have hl:lU.length=11:=rfl
  have hm:=List.mem_of_getElem? h
  have: ∀s∈lU,(s.fields.map (·.at_)).Nodup∧(∀x∈s.fields,-10000000≤x.lo∧x.hi≤10000000)∧(∀x∈s.key,∃y∈s.fields,y.at_=x.at_)∧s.key.length≤2∧s.key.length≠0∧s.fields.length≤11:=by decide
  obtain⟨h1,h2,h3,h4,h5,h6⟩:=this s hm
  exact⟨h1,h2,h3,h4,fun e=>h5 (by rw[e];rfl),h6,by omega,by omega⟩
theorem kQ{f:bc}(h:fm f=true): ∃s,dM f.kind=some s∧(∀x∈s.fields,x.lo≤f.num x.at_∧f.num x.at_≤x.hi)∧(∀x∈s.fields,o_ (f.num x.at_))∧(∀x∈s.key,o_ (f.num x.at_))∧1≤f.ver∧f.ver≤1000000∧0≤f.day∧f.day≤100000∧(f.text.length:Int)≤8192∧o7 s.rest f=true:=by
 unfold fm at h
 cases hs:dM f.kind with
 |none=>rw[hs]at h;cases h
 |some s=>
  rw[hs]at h
  simp only at h
  split at h
  ·cases h
  ·rename_i hc
   simp only[Bool.or_eq_true,decide_eq_true_eq,not_or,Bool.not_eq_true',Bool.not_eq_false]at hc
   obtain⟨h1,h2,h3,_⟩:=mO hs
   cases fY:lV s.fields f with
   |none=>rw[fY]at h;cases h
   |some g=>
    have hr:=o9 _ _ _ h1 (lX hs).1 fY
    have hi: ∀x∈s.fields,o_ (f.num x.at_):=fun x hx=>by
     have:=hr x hx;have:=h2 x hx;unfold o_;omega
    refine⟨s,rfl,hr,hi,fun x hx=>?_,by omega,by omega,by omega,by omega,by omega,hc.2⟩
    obtain⟨y,hy,e⟩:=h3 x hx
    rw[←e];exact hi y hy
end Go.Proofs.YtebobfdheanknaaGreatDoor
namespace Go.K
open Go Go.RowKit
variable {F:Fence} {P:Program} {N:Nat} {ds:List Deferred} {l:Env} {w:World} {Q:Exit→Act→World→Prop} {o:Oper} {g0 g:G} {L:List cV} {K:Value→World→Prop}
theorem u4{x:Operand}{ts:Array TypeId}{ad:Addr}{n c:Nat}(ho:o.op= .call {callee:=.builtin .unsafeSliceData,args:=#[x],argTypes:=ts})(hx:ev l x=some (.slice (some ad) n c))(hc:c≠0)(k:K (.pointer (some ad)) w):cT F P N ds o l w Q K:=
 fE ho (fun a ha=>by
  have:=Lib.run_unsafeSliceData_row (P:=P) (w:=w) ts o.type ad n c hc
  simp[resolve,invoke,builtin,ha.ev hx,this]) k
theorem tC(w:World)(b n:Nat):w.grownBy (w.freeze ⟨b,0,none⟩ n) (some b):=by
 unfold World.freeze
 split
 ·exact jd _ _
 ·exact⟨rfl,rfl,rfl,by simp,fun k _ fu=>by
   simp only[Array.getElem?_modify]
   rw[if_neg (fun e=>fu (by rw[←e]))]⟩
theorem u5{x y:Operand}{pt it e:TypeId}{br cap:Nat}{cur:Array Value}{xs:List UInt8}(i:Nat)(hs:St g0 g L)(hi:L[i]? =some (.obj br (.cells cur e (0,0))))(ho:o.op= .call {callee:=.builtin .unsafeString,args:=#[x,y],argTypes:=#[pt,it]})
  (hx:ev l x=some (.pointer (some ⟨br,0,none⟩))) (hy:ev l y=some (.int .i64 xs.length)) (h0:xs≠[]) (Vi:P.underlying pt=some (.pointer e)) (QV:P.cellsOf e=1) (hn:xs.length≤cap) (oJ:cap≤maxLen) (mG:cur.size=cap) (cB:cur.toList.take xs.length=eo xs)
  (k: ∀g',St g0 g' (L.eraseIdx i)→g.le g'→K (.string (bs xs)) g'.w):cT F P N ds o l g.w Q K:=by
 have dZ:=hs.own i _ hi
 have hh:=dZ.2.1
 have jf:=Lib.run_unsafeString_row (P:=P) (w:=g.w) pt it o.type e Vi QV br cap (by simp[World.shape?,hh,mG]) xs h0 hn (by unfold maxLen at oJ;omega) (fun j x hj=>by
  have tN:(eo xs)[j]? =some (.int .u8 (x.toNat:Int)):=by simp[eo,hj]
  rw[←cB,List.getElem?_take]at tN
  split at tN
  ·rw[Addr.add_lit];simp only[World.cell?,hh,Nat.zero_add];simpa using tN
  ·cases tN)
 let g':G:=⟨g.w.freeze ⟨br,0,none⟩ xs.length,g.im,fun b h=>Nat.lt_of_lt_of_le (g.lt b h) (tC g.w br xs.length).size⟩
 have bh:br<g.w.heap.size:=(Array.getElem?_eq_some_iff.1 hh).1
 obtain⟨o',qp⟩: ∃o',g'.w.heap[br]? =some o':=⟨g'.w.heap[br]'(Nat.lt_of_lt_of_le bh (tC g.w br xs.length).size),Array.getElem?_eq_getElem _⟩
 have dm:=hs.FV (g':=g') (e':=.obj br o') hi (tC g.w br xs.length) (fun _ _=>Iff.rfl) ⟨dZ.1,qp,dZ.2.2⟩ (fun b hb=> .inl hb)
 have H':=dm.1.drop i
 rw[List.eraseIdx_set_eq]at H'
 refine fE (w':=g'.w) ho (fun a ha=>?_) (k g' H' dm.2)
 simp[resolve,invoke,builtin,ha.ev hx,ha.ev hy,jf];exact⟨rfl,rfl⟩
end Go.K
namespace Go.Proofs.YtebobfdheanknaaGreatDoor
open Go Go.K
set_option maxRecDepth 10000
attribute [local irreducible] W WL cT cn bX bA bB bD cW cG
theorem jj(n lo hi:Int)(g:G):CallsIn Wd 0 Tryz.prog 144 #[.int .i64 n,.int .i64 lo,.int .i64 hi] g.w (cR g fun _ v=>v= .bool (within n lo hi)):=by
 have hs:=St.start g
 refine enter Tryz.func144 rfl Tryz.ntmps144 rfl ?_
 refine aX rfl ?_;refine cP 4 rfl ?_
 refine cw (want:=true) (x:=decide (n≤hi)) 3 aI rfl rfl rfl rfl (.inl ⟨rfl,rfl,rfl⟩) rfl rfl rfl rfl (fun hb Q' eE=>?_) (fun g' hf=>?_)
 ·refine Wp 3 rfl ?_;apply aD
  exact fun a ha=>eE _ a (aZ.refl _) (ha.keep (by(repeat (first|exact trivial|refine⟨rfl,?_⟩))))
 replace hs:=hs.call hf
 refine ba rfl ?_
 exact aF (aV rfl rfl (hs.ret rfl))
theorem vX(l:List Int)(lo hi:Int)(k:Nat)(h:k<l.length):
  (if k=0 then ascending l lo hi else kU lo hi (l.getD (k-1) 0) (l.drop k))=(within l[k] lo hi&&(decide (k=0)||decide (l.getD (k-1) 0<l[k]))&&kU lo hi l[k] (l.drop (k+1))):=by
 by_cases hk:k=0
 ·subst hk
  cases l with
  |nil=>simp at h
  |cons n r=>simp[ascending]
 ·rw[if_neg hk,List.drop_eq_getElem_cons h]
  simp[kU,hk]
theorem rH(v:Value)(l:List Int)(lo hi:Int)(g:G)(hl:Rs g v l):
  CallsIn Wd 0 Tryz.prog 246 #[v,.int .i64 lo,.int .i64 hi] g.w (cR g fun _ r=>r= .bool (ascending l lo hi)):=by
 obtain⟨a,c,rfl⟩:=hl.isSlice
 have hlen:=hl.dU
 unfold maxLen at hlen
 have hs:=St.start g
 refine enter Tryz.func246 rfl Tryz.ntmps246 rfl ?_
 refine aX rfl ?_;apply aB;refine aX rfl ?_;apply aG
 refine bS (fun m a' w=> ∃(k:Nat) (g':G),w=g'.w∧St g g' []∧G.le g g'∧k≤l.length∧m=l.length-k∧((if k=0 then ascending l lo hi else kU lo hi (l.getD (k-1) 0) (l.drop k))=ascending l lo hi)∧
  Fr 35 [] [(0,.slice a l.length c),(1,.int .i64 lo),(2,.int .i64 hi),(9,.slice a l.length c),(10,.int .i64 l.length),(11,.int .i64 k)] a') l.length (fun a' ha=>⟨0,g,rfl,hs,G.le.refl g,Nat.zero_le _,rfl,by simp,ha.keep (by(repeat (first|exact trivial|refine⟨rfl,?_⟩)))⟩) ?_
 clear hs
 rintro m a' _ ⟨k,g',rfl,hs,aq,hk,rfl,dy,eI⟩
 revert a'
 apply cQ;refine aX rfl ?_;apply aB
 by_cases bh:k<l.length
 ·refine aJ (b:=decide ((k:Int)<(l.length:Int))) (by simp;omega) rfl ?_
  rw[vX l lo hi k bh]at dy
  apply aE;apply au;apply aB;apply aG;refine cP 1 rfl ?_
  refine an rfl rfl (aW T.ok rfl (hl.mono aq) (y:=l[k]) (by simp[dA,bh]) rfl rfl rfl rfl rfl rfl ?_)
  rintro b p ys aL rfl
  refine Wm 1 [.e aL 0] (St.start _) rfl ?_
  refine ba rfl ?_;refine cP 3 rfl ?_
  refine an rfl rfl (ay pd aI rfl rfl rfl rfl rfl (jj _ _ _ _) ?_);rintro g1 _ aN rfl;replace hs:=hs.call aN;have ah:=aN.le;replace aq:=G.le.trans aq ah
  refine Wp 2 rfl ?_
  refine cw (want:=false) (x:=decide (0<(k:Int))&&decide (l[k]≤l.getD (k-1) 0)) 11 aI rfl rfl rfl rfl (.inr ⟨rfl,rfl,rfl⟩) rfl rfl rfl rfl (fun hb Q' eE=>?_) (fun g' hf=>?_)
  ·refine Wp 3 rfl ?_
   refine cw (want:=true) (x:=decide (l[k]≤l.getD (k-1) 0)) 7 aI rfl rfl rfl rfl (.inl ⟨rfl,rfl,rfl⟩) rfl rfl rfl rfl (fun hb Q' eE=>?_) (fun g' hf=>?_)
   ·have zl:0<k:=by simpa using hb
    refine Wp 4 rfl ?_
    refine an rfl rfl (aW T.ok rfl (hl.mono aq) (y:=l[k-1]) (cU (by rw[wr (by omega) (by omega)];omega) (by omega)) rfl rfl rfl rfl rfl rfl ?_)
    rintro b p ys aL rfl
    refine Wm 1 [.e aL 0] (St.start _) rfl ?_
    refine Wp 1 rfl ?_;apply aD
    have e:l.getD (k-1) 0=l[k-1]:=by simp[List.getD_eq_getElem?_getD,show k-1<l.length from by omega]
    rw[e]at eE
    exact fun a ha=>eE _ a (aZ.refl _) (ha.keep (by(repeat (first|exact trivial|refine⟨rfl,?_⟩))))
   ·apply aD
    exact fun a ha=>eE _ a hf (ha.keep (by(repeat (first|exact trivial|refine⟨rfl,?_⟩))))
  ·replace hs:=hs.call hf
   have ah:=hf.le
   replace aq:=G.le.trans aq ah
   apply cf
   by_cases nH:((!within l[k] lo hi)||(decide (0<(k:Int))&&decide (l[k]≤l.getD (k-1) 0)))=true
   ·refine aJ nH rfl ?_
    refine aX rfl ?_
    refine aF (aV rfl rfl (hs.ret ?_))
    rw[←dy]
    have:(within l[k] lo hi&&(decide (k=0)||decide (l.getD (k-1) 0<l[k]))&&kU lo hi l[k] (List.drop (k+1) l))=false:=by
     simp only[Bool.or_eq_true,Bool.not_eq_true',Bool.and_eq_true,decide_eq_true_eq]at nH
     rcases nH with h|⟨h1,h2⟩
     ·simp[h]
     ·have e1:decide (k=0)=false:=by simp;omega
      have e2:decide (l.getD (k-1) 0<l[k])=false:=by simp only[decide_eq_false_iff_not];omega
      rw[e1,e2];simp
    rw[this]
   ·refine aS (Bool.eq_false_iff.2 nH) rfl ?_
    apply aE;apply bU;apply au;apply ar;refine Wp 2 rfl ?_;apply aD
    refine fun a ha=>⟨l.length-(k+1),by omega,k+1,_,rfl,hs,aq,by omega,rfl,?_,ha.keep ⟨rfl,rfl,rfl,rfl,rfl,kI rfl (by rw[wr (by omega) (by omega)];omega),trivial⟩⟩
    rw[←dy]
    simp only[Bool.not_eq_true,Bool.or_eq_false_iff,Bool.not_eq_false',Bool.and_eq_false_iff,decide_eq_false_iff_not]at nH
    have e:l.getD (k+1-1) 0=l[k]:=by simp[List.getD_eq_getElem?_getD,bh]
    rw[if_neg (by omega),e,nH.1]
    have h2:(decide (k=0)||decide (l.getD (k-1) 0<l[k]))=true:=by
     simp only[Bool.or_eq_true,decide_eq_true_eq]
     rcases nH.2 with h|h<;>omega
    rw[h2];simp
 ·refine aS (b:=decide ((k:Int)<(l.length:Int))) (by simp;omega) rfl ?_
  apply bE;apply bK;apply bK;apply dc;apply au;refine aX rfl ?_
  obtain rfl:k=l.length:=by omega
  refine aF (aV rfl rfl (hs.ret ?_))
  rw[←dy]
  by_cases h0:l.length=0
  ·rw[if_pos h0,List.eq_nil_of_length_eq_zero h0];rfl
  ·rw[if_neg h0];simp[kU]
theorem ql(v:Value)(f:bV)(g:G)(hf:fA g v f):CallsIn Wd 0 Tryz.prog 143 #[v] g.w (cR g fun _ r=>r= .bool (eh f)):=by
 obtain⟨a1,n1,c1,a2,n2,c2,rfl,h1,h2⟩:=hf
 have hs:=St.start g
 have aq:=G.le.refl g
 refine enter Tryz.func143 rfl Tryz.ntmps143 rfl ?_
 apply c_
 refine an rfl rfl (aR rfl hs rfl rfl ?_);clear hs;rintro b1 g1 hs ah
 refine ba rfl ?_;refine dx 4 [.o 0] hs rfl ?_
 refine cw (want:=true) (x:=decide (f.ck≤f.cu)) 5 aI rfl rfl rfl rfl (.inl ⟨rfl,rfl,rfl⟩) rfl rfl rfl rfl (fun hb Q' eE=>?_) (fun g' hf=>?_)
 ·refine Wm 5 [.o 0,.o 0] hs rfl ?_;apply aD
  exact fun a ha=>eE _ a (aZ.refl _) (ha.keep (by(repeat (first|exact trivial|refine⟨rfl,?_⟩))))
 replace hs:=hs.call hf
 refine Wp 1 rfl ?_
 refine cw (want:=true) (x:=decide (f.cu≤10000)) 3 aI rfl rfl rfl rfl (.inl ⟨rfl,rfl,rfl⟩) rfl rfl rfl rfl (fun hb Q' eE=>?_) (fun g' hf=>?_)
 ·refine Wm 3 [.o 0] hs rfl ?_;apply aD
  exact fun a ha=>eE _ a (aZ.refl _) (ha.keep (by(repeat (first|exact trivial|refine⟨rfl,?_⟩))))
 replace hs:=hs.call hf
 refine ba rfl ?_
 exact aF (aV rfl rfl (hs.ret rfl))
theorem fI(w:cj)(n:Int)(g:G)(h1:0≤n)(h2:n≤9223372036854775807):
  CallsIn Wd 0 Tryz.prog 148 #[.agg #[.int .i64 w.src,.int .i64 w.dst,.int .i64 w.dF],.int .i64 n] g.w (cR g fun _ r=>r= .bool (dS w n)):=by
 have hs:=St.start g
 have hn:IntKind.i64.wrap (n-1)=n-1:=wr (by omega) (by omega)
 refine enter Tryz.func148 rfl Tryz.ntmps148 rfl ?_
 apply c_
 refine an rfl rfl (aR rfl hs rfl rfl ?_);clear hs;rintro b1 g1 hs ah;skip
 refine ba rfl ?_;refine dx 4 [.o 0] hs rfl ?_
 rw[hn]
 refine an rfl rfl (ay pd aI rfl rfl rfl rfl rfl (jj _ _ _ _) ?_);rintro g1 _ aN rfl;replace hs:=hs.call aN;have ah:=aN.le;skip
 refine Wp 1 rfl ?_
 refine cw (want:=true) (x:=within w.dst 0 (n-1)) 5 aI rfl rfl rfl rfl (.inl ⟨rfl,rfl,rfl⟩) rfl rfl rfl rfl (fun hb Q' eE=>?_) (fun g' hf=>?_)
 ·refine Wm 4 [.o 0] hs rfl ?_
  rw[hn]
  refine an rfl rfl (ay pd aI rfl rfl rfl rfl rfl (jj _ _ _ _) ?_);rintro g1 _ aN rfl;replace hs:=hs.call aN;have ah:=aN.le;skip
  apply aD
  exact fun a ha=>eE _ a aN (ha.keep (by(repeat (first|exact trivial|refine⟨rfl,?_⟩))))
 replace hs:=hs.call hf
 refine Wp 1 rfl ?_
 refine cw (want:=true) (x:=w.src !=w.dst) 5 aI rfl rfl rfl rfl (.inl ⟨rfl,rfl,rfl⟩) rfl rfl rfl rfl (fun hb Q' eE=>?_) (fun g' hf=>?_)
 ·refine Wm 5 [.o 0,.o 0] hs rfl ?_;apply aD
  exact fun a ha=>eE _ a (aZ.refl _) (ha.keep (by(repeat (first|exact trivial|refine⟨rfl,?_⟩))))
 replace hs:=hs.call hf
 refine Wp 1 rfl ?_
 refine cw (want:=true) (x:=within w.dF 0 1000000) 3 aI rfl rfl rfl rfl (.inl ⟨rfl,rfl,rfl⟩) rfl rfl rfl rfl (fun hb Q' eE=>?_) (fun g' hf=>?_)
 ·refine Wm 2 [.o 0] hs rfl ?_
  refine an rfl rfl (ay pd aI rfl rfl rfl rfl rfl (jj _ _ _ _) ?_);rintro g1 _ aN rfl;replace hs:=hs.call aN;have ah:=aN.le;skip
  apply aD
  exact fun a ha=>eE _ a aN (ha.keep (by(repeat (first|exact trivial|refine⟨rfl,?_⟩))))
 replace hs:=hs.call hf
 refine ba rfl ?_
 exact aF (aV rfl rfl (hs.ret rfl))
end Go.Proofs.YtebobfdheanknaaGreatDoor
namespace Go.Proofs.YtebobfdheanknaaGreatDoor
open Go Go.K
set_option maxRecDepth 10000
attribute [local irreducible] W WL cT cn bX bA bB bD cW cG
theorem rK(v:Value)(s:Step)(n:Int)(g:G)(hv:ja g v s)(h1:0≤n)(h2:n≤9223372036854775807):
  CallsIn Wd 0 Tryz.prog 147 #[v,.int .i64 n] g.w (cR g fun _ r=>r= .bool (cg s n)):=by
 obtain⟨cs,rfl,a1,n1,c1,a2,n2,c2,rfl,se,xF⟩:=hv
 obtain⟨_,_,e⟩:=se.isSlice;obtain⟨rfl,rfl,rfl⟩:=Value.slice.inj e;clear e
 obtain⟨_,_,e⟩:=xF.isSlice;obtain⟨rfl,rfl,rfl⟩:=Value.slice.inj e;clear e
 have hs:=St.start g
 have aq:=G.le.refl g
 have hn:IntKind.i64.wrap (n-1)=n-1:=wr (by omega) (by omega)
 refine enter Tryz.func147 rfl Tryz.ntmps147 rfl ?_
 apply c_
 refine an rfl rfl (aR rfl hs rfl rfl ?_);clear hs;rintro b1 g1 hs ah;replace aq:=G.le.trans aq ah
 refine ba rfl ?_;refine dx 4 [.o 0] hs rfl ?_
 refine cw (want:=true) (x:=s.dF==0) 3 aI rfl rfl rfl rfl (.inl ⟨rfl,rfl,rfl⟩) rfl rfl rfl rfl (fun hb Q' eE=>?_) (fun g' hf=>?_)
 ·refine Wm 3 [.o 0] hs rfl ?_;apply aD
  exact fun a ha=>eE _ a (aZ.refl _) (ha.keep (by(repeat (first|exact trivial|refine⟨rfl,?_⟩))))
 replace hs:=hs.call hf;have ah:=hf.le;replace aq:=G.le.trans aq ah
 refine Wp 1 rfl ?_
 refine cw (want:=false) (x:=within s.back 0 (n-1)&&within s.dF 1 9) 10 aI rfl rfl rfl rfl (.inr ⟨rfl,rfl,rfl⟩) rfl rfl rfl rfl (fun hb Q' eE=>?_) (fun g' hf=>?_)
 ·refine Wm 4 [.o 0] hs rfl ?_
  rw[hn]
  refine an rfl rfl (ay pd aI rfl rfl rfl rfl rfl (jj _ _ _ _) ?_);rintro g1 _ aN rfl;replace hs:=hs.call aN;have ah:=aN.le;replace aq:=G.le.trans aq ah
  refine Wp 1 rfl ?_
  refine cw (want:=true) (x:=within s.dF 1 9) 3 aI rfl rfl rfl rfl (.inl ⟨rfl,rfl,rfl⟩) rfl rfl rfl rfl (fun hb Q' eE=>?_) (fun g' hf=>?_)
  ·refine Wm 2 [.o 0] hs rfl ?_
   refine an rfl rfl (ay pd aI rfl rfl rfl rfl rfl (jj _ _ _ _) ?_);rintro g1 _ aN rfl;replace hs:=hs.call aN;have ah:=aN.le;replace aq:=G.le.trans aq ah
   apply aD
   exact fun a ha=>eE _ a aN (ha.keep (by(repeat (first|exact trivial|refine⟨rfl,?_⟩))))
  exact aD fun a ha=>eE _ a (aN.trans hf) (ha.keep (by(repeat (first|exact trivial|refine⟨rfl,?_⟩))))
 replace hs:=hs.call hf;have ah:=hf.le;replace aq:=G.le.trans aq ah
 refine ba rfl ?_;refine dx 3 [.o 0] hs rfl ?_
 refine an rfl rfl (ay pd aI rfl rfl rfl rfl rfl (jj _ _ _ _) ?_);rintro g1 _ aN rfl;replace hs:=hs.call aN;have ah:=aN.le;replace aq:=G.le.trans aq ah
 refine Wp 1 rfl ?_
 refine cw (want:=true) (x:=decide ((s.next.length:Int)≤4)) 4 aI rfl rfl rfl rfl (.inl ⟨rfl,rfl,rfl⟩) rfl rfl rfl rfl (fun hb Q' eE=>?_) (fun g' hf=>?_)
 ·refine Wm 4 [.o 0] hs rfl ?_;apply aD
  exact fun a ha=>eE _ a (aZ.refl _) (ha.keep (by(repeat (first|exact trivial|refine⟨rfl,?_⟩))))
 replace hs:=hs.call hf;have ah:=hf.le;replace aq:=G.le.trans aq ah
 refine ba rfl ?_;refine cP 2 rfl ?_
 refine cw (want:=true) (x:=within (↑s.dB.length) 1 8&&decide ((s.next.length:Int)≤4)) 1 aI rfl rfl rfl rfl (.inl ⟨rfl,rfl,rfl⟩) rfl rfl rfl rfl (fun hb Q' eE=>?_) (fun g' hf=>?_)
 ·refine Wp 1 rfl ?_;apply aD
  exact fun a ha=>eE _ a (aZ.refl _) (ha.keep (by(repeat (first|exact trivial|refine⟨rfl,?_⟩))))
 replace hs:=hs.call hf;have ah:=hf.le;replace aq:=G.le.trans aq ah
 refine Wp 1 rfl ?_
 refine cw (want:=true) (x:=within s.dD 1 1000000) 3 aI rfl rfl rfl rfl (.inl ⟨rfl,rfl,rfl⟩) rfl rfl rfl rfl (fun hb Q' eE=>?_) (fun g' hf=>?_)
 ·refine Wm 2 [.o 0] hs rfl ?_
  refine an rfl rfl (ay pd aI rfl rfl rfl rfl rfl (jj _ _ _ _) ?_);rintro g1 _ aN rfl;replace hs:=hs.call aN;have ah:=aN.le;replace aq:=G.le.trans aq ah
  apply aD
  exact fun a ha=>eE _ a aN (ha.keep (by(repeat (first|exact trivial|refine⟨rfl,?_⟩))))
 replace hs:=hs.call hf;have ah:=hf.le;replace aq:=G.le.trans aq ah
 refine Wp 1 rfl ?_
 refine cw (want:=true) (x:=ascending s.dB 0 59) 3 aI rfl rfl rfl rfl (.inl ⟨rfl,rfl,rfl⟩) rfl rfl rfl rfl (fun hb Q' eE=>?_) (fun g' hf=>?_)
 ·refine Wm 2 [.o 0] hs rfl ?_
  refine an rfl rfl (ay HQ aI rfl rfl rfl rfl rfl (rH _ s.dB _ _ _ (se.mono aq)) ?_);rintro g1 _ aN rfl;replace hs:=hs.call aN;have ah:=aN.le;replace aq:=G.le.trans aq ah
  apply aD
  exact fun a ha=>eE _ a aN (ha.keep (by(repeat (first|exact trivial|refine⟨rfl,?_⟩))))
 replace hs:=hs.call hf;have ah:=hf.le;replace aq:=G.le.trans aq ah
 refine Wp 1 rfl ?_
 refine cw (want:=true) (x:=ascending s.next 0 (n-1)) 5 aI rfl rfl rfl rfl (.inl ⟨rfl,rfl,rfl⟩) rfl rfl rfl rfl (fun hb Q' eE=>?_) (fun g' hf=>?_)
 ·refine Wm 4 [.o 0] hs rfl ?_
  rw[hn]
  refine an rfl rfl (ay HQ aI rfl rfl rfl rfl rfl (rH _ s.next _ _ _ (xF.mono aq)) ?_);rintro g1 _ aN rfl;replace hs:=hs.call aN;have ah:=aN.le
  apply aD
  exact fun a ha=>eE _ a aN (ha.keep (by(repeat (first|exact trivial|refine⟨rfl,?_⟩))))
 replace hs:=hs.call hf;have ah:=hf.le
 refine Wp 1 rfl ?_
 refine cw (want:=true) (x:=decide (1≤s.min)) 3 aI rfl rfl rfl rfl (.inl ⟨rfl,rfl,rfl⟩) rfl rfl rfl rfl (fun hb Q' eE=>?_) (fun g' hf=>?_)
 ·refine Wm 3 [.o 0] hs rfl ?_;apply aD
  exact fun a ha=>eE _ a (aZ.refl _) (ha.keep (by(repeat (first|exact trivial|refine⟨rfl,?_⟩))))
 replace hs:=hs.call hf;have ah:=hf.le
 refine Wp 1 rfl ?_
 refine cw (want:=true) (x:=decide (s.min≤s.max)) 5 aI rfl rfl rfl rfl (.inl ⟨rfl,rfl,rfl⟩) rfl rfl rfl rfl (fun hb Q' eE=>?_) (fun g' hf=>?_)
 ·refine Wm 5 [.o 0,.o 0] hs rfl ?_;apply aD
  exact fun a ha=>eE _ a (aZ.refl _) (ha.keep (by(repeat (first|exact trivial|refine⟨rfl,?_⟩))))
 replace hs:=hs.call hf;have ah:=hf.le
 refine Wp 1 rfl ?_
 refine cw (want:=true) (x:=decide (s.max≤10000)) 3 aI rfl rfl rfl rfl (.inl ⟨rfl,rfl,rfl⟩) rfl rfl rfl rfl (fun hb Q' eE=>?_) (fun g' hf=>?_)
 ·refine Wm 3 [.o 0] hs rfl ?_;apply aD
  exact fun a ha=>eE _ a (aZ.refl _) (ha.keep (by(repeat (first|exact trivial|refine⟨rfl,?_⟩))))
 replace hs:=hs.call hf;have ah:=hf.le
 refine ba rfl ?_
 exact aF (aV rfl rfl (hs.ret rfl))
theorem rh(v:Value)(l:List cj)(w:cj)(g:G)(hl:Rs g v l):
  CallsIn Wd 0 Tryz.prog 149 #[v,.agg #[.int .i64 w.src,.int .i64 w.dst,.int .i64 w.dF]] g.w (cR g fun _ r=>r= .bool (follows l w)):=by
 obtain⟨a,c,rfl⟩:=hl.isSlice
 have hlen:=hl.dU
 unfold maxLen at hlen
 have hs:=St.start g
 have aq:=G.le.refl g
 refine enter Tryz.func149 rfl Tryz.ntmps149 rfl ?_
 apply c_
 refine an rfl rfl (aR rfl hs rfl rfl ?_);clear hs;rintro b1 g1 hs ah;replace aq:=G.le.trans aq ah
 refine ba rfl ?_;apply aB;refine aX rfl ?_
 by_cases h0:l.length=0
 ·refine aJ (b:=(l.length:Int)==0) (by simp[h0]) rfl ?_
  refine aX rfl ?_
  refine aF (aV rfl rfl (hs.ret ?_))
  rw[List.eq_nil_of_length_eq_zero h0];rfl
 ·refine aS (b:=(l.length:Int)==0) (by simp only[beq_eq_false_iff_ne];omega) rfl ?_
  apply aE;apply au;refine cP 4 rfl ?_
  refine an rfl rfl (aW T.ok rfl (hl.mono aq) (y:=l[l.length-1]) (cU (by rw[wr (by omega) (by omega)];omega) (by omega)) rfl rfl rfl rfl rfl rfl ?_)
  rintro b p ys aL rfl
  refine Wm 1 [.e aL 0] (St.start _) rfl ?_
  skip
  refine an rfl rfl (aK T.ok rfl hs rfl rfl ?_);clear hs;rintro b1 g1 hs ah
  skip
  refine bg rfl (aA T.ok 0 rfl hs rfl rfl rfl rfl rfl rfl rfl rfl rfl ?_);replace hs:=hs;rintro g1 hs ah
  apply cf;refine dx 6 [.o 0,.o 1] hs rfl ?_
  refine cw (want:=false) (x:=(l[l.length-1].src==w.src&&decide (l[l.length-1].dst<w.dst))) 12 aI rfl rfl rfl rfl (.inr ⟨rfl,rfl,rfl⟩) rfl rfl rfl rfl (fun hb Q' eE=>?_) (fun g' hf=>?_)
  ·refine Wm 6 [.o 0,.o 1] hs rfl ?_
   refine cw (want:=true) (x:=decide (l[l.length-1].dst<w.dst)) 5 aI rfl rfl rfl rfl (.inl ⟨rfl,rfl,rfl⟩) rfl rfl rfl rfl (fun hb Q' eE=>?_) (fun g' hf=>?_)
   ·refine Wm 5 [.o 0,.o 1] hs rfl ?_;apply aD
    exact fun a ha=>eE _ a (aZ.refl _) (ha.keep (by(repeat (first|exact trivial|refine⟨rfl,?_⟩))))
   exact aD fun a ha=>eE _ a hf (ha.keep (by(repeat (first|exact trivial|refine⟨rfl,?_⟩))))
  replace hs:=hs.call hf;have ah:=hf.le
  refine ba rfl ?_
  refine aF (aV rfl rfl (hs.ret ?_))
  unfold follows
  rw[List.getLast?_eq_getElem?,List.getElem?_eq_getElem (by omega)]
  rfl
end Go.Proofs.YtebobfdheanknaaGreatDoor
namespace Go.Proofs.YtebobfdheanknaaGreatDoor
open Go Go.K
set_option maxRecDepth 10000
attribute [local irreducible] W WL cT cn bX bA bB bD cW cG
theorem zd(v fv:Value)(l:List Step)(p:Step→Bool)(g:G)(hl:Rs g v l)
  (hp: ∀(g':G) (x:Step) (u:Value),g.le g'→ja g' u x→ir Tryz.prog fv [u] g'.w (cR g' fun _ r=>r= .bool (p x))):
  CallsIn Wd 0 Tryz.prog 245 #[v,fv] g.w (cR g fun _ r=>r= .int .i64 (lu p l)):=by
 obtain⟨a,c,rfl⟩:=hl.isSlice
 have hlen:=hl.dU
 unfold maxLen at hlen
 have hs:=St.start g
 refine enter Tryz.func245 rfl Tryz.ntmps245 rfl ?_
 refine aX rfl ?_;apply aB;refine aX rfl ?_;apply aG
 refine bS (fun m a' w=> ∃(k:Nat) (g':G),w=g'.w∧St g g' []∧G.le g g'∧k≤l.length∧m=l.length-k∧(∀j (h:j<l.length),j<k→p l[j]=false)∧
  Fr 19 [] [(0,.slice a l.length c),(1,fv),(7,.int .i64 l.length),(8,.int .i64 k)] a') l.length (fun a' ha=>⟨0,g,rfl,hs,G.le.refl g,Nat.zero_le _,rfl,by simp,ha.keep (by(repeat (first|exact trivial|refine⟨rfl,?_⟩)))⟩) ?_
 clear hs
 rintro m a' _ ⟨k,g',rfl,hs,aq,hk,rfl,dy,eI⟩
 revert a'
 apply cQ;refine aX rfl ?_;apply aB
 by_cases bh:k<l.length
 ·refine aJ (b:=decide ((k:Int)<(l.length:Int))) (by simp;omega) rfl ?_
  apply aE;apply au;apply aB;apply aG;refine aX rfl ?_;refine cP 3 rfl ?_
  refine an rfl rfl (aW T.ok rfl (hl.mono aq) (y:=l[k]) (by simp[dA,bh]) rfl rfl rfl rfl rfl rfl ?_)
  rintro b q ys aL eK
  have NT:ja g' (.agg ys.toArray) l[k]:=⟨ys,rfl,eK⟩
  obtain⟨b1,b2,b3,b4,b5,b6,rfl,_,_⟩:=eK
  refine Wm 1 [.e aL 0] (St.start _) rfl ?_
  skip
  refine an rfl rfl (eA rfl rfl rfl rfl rfl rfl (hp _ _ _ aq NT) ?_);rintro g1 _ aN rfl;replace hs:=hs.call aN;have ah:=aN.le;replace aq:=G.le.trans aq ah
  apply cf
  cases wE:p l[k]with
  |true=>
   refine aJ rfl rfl ?_
   refine aX rfl ?_
   exact aF (aV rfl rfl (hs.ret (by rw[oj bh wE dy])))
  |false=>
   refine aS rfl rfl ?_
   apply aE;apply bU;apply au;apply ar;refine Wp 2 rfl ?_;apply aD
   refine fun a ha=>⟨l.length-(k+1),by omega,k+1,_,rfl,hs,aq,by omega,rfl,?_,ha.keep ⟨rfl,rfl,rfl,kI rfl (by rw[wr (by omega) (by omega)];omega),trivial⟩⟩
   intro j hj zO
   by_cases e:j=k
   ·subst e;exact wE
   ·exact dy j hj (by omega)
 ·refine aS (b:=decide ((k:Int)<(l.length:Int))) (by simp;omega) rfl ?_
  apply bE;apply bK;apply bK;apply dc;apply au;refine aX rfl ?_
  obtain rfl:k=l.length:=by omega
  exact aF (aV rfl rfl (hs.ret (by rw[so fun j h=>dy j h h])))
theorem uE(v fv:Value)(l:List Step)(p:Step→Bool)(g:G)(hl:Rs g v l)
  (hp: ∀(g':G) (x:Step) (u:Value),g.le g'→ja g' u x→ir Tryz.prog fv [u] g'.w (cR g' fun _ r=>r= .bool (p x))):
  CallsIn Wd 0 Tryz.prog 145 #[v,fv] g.w (cR g fun _ r=>r= .bool (l.any p)):=by
 have hs:=St.start g
 refine enter Tryz.func145 rfl Tryz.ntmps145 rfl ?_
 refine aX rfl ?_;refine cP 2 rfl ?_
 refine an rfl rfl (ay Mp aI rfl rfl rfl rfl rfl (zd _ _ l p g hl hp) ?_);rintro g1 _ aN rfl;replace hs:=hs.call aN;have ah:=aN.le;skip
 refine ba rfl ?_
 exact aF (aV rfl rfl (hs.ret (by rw[←nf])))
theorem Fy(v:Value)(s:Step)(b:Nat)(n:Int)(g:G)(hv:ja g v s)(hn:EP g b 0 [.int .i64 n])(h1:0≤n)(h2:n≤9223372036854775807):
  CallsIn Wd 0 Tryz.prog 146 #[v,.pointer (some ⟨b,0,none⟩)] g.w (cR g fun _ r=>r= .bool (!cg s n)):=by
 have ER:=hv
 obtain⟨cs,rfl,a1,n1,c1,a2,n2,c2,rfl,se,xF⟩:=hv
 have hs:=St.start g
 have aq:=G.le.refl g
 refine enter Tryz.func146 rfl Tryz.ntmps146 rfl ?_
 apply c_
 refine an rfl rfl (aR rfl hs rfl rfl ?_);clear hs;rintro b1 g1 hs ah;replace aq:=G.le.trans aq ah
 refine ba rfl ?_;refine dx 1 [.o 0] hs rfl ?_
 refine an rfl rfl (cp T.ok 0 rfl (hn.mono aq) rfl rfl ?_)
 skip
 refine an rfl rfl (ay HF aI rfl rfl rfl rfl rfl (rK _ s n _ (ER.mono aq) h1 h2) ?_);rintro g1 _ aN rfl;replace hs:=hs.call aN;have ah:=aN.le
 refine ba rfl ?_
 exact aF (aV rfl rfl (hs.ret rfl))
end Go.Proofs.YtebobfdheanknaaGreatDoor
namespace Go.Proofs.YtebobfdheanknaaGreatDoor
open Go Go.K
set_option maxRecDepth 10000
attribute [local irreducible] W WL cT cn bX bA bB bD cW cG
set_option maxHeartbeats 400000
theorem Be(v:Value)(f:bV)(g:G)(fk:fA g v f):CallsIn Wd 0 Tryz.prog 66 #[v] g.w (cR g fun _ r=>r= .bool (valid f)):=by
 obtain⟨a1,n1,c1,a2,n2,c2,rfl,aH,aT⟩:=id fk
 obtain⟨_,_,e⟩:=aH.isSlice;obtain⟨rfl,rfl,rfl⟩:=Value.slice.inj e;clear e
 obtain⟨_,_,e⟩:=aT.isSlice;obtain⟨rfl,rfl,rfl⟩:=Value.slice.inj e;clear e
 have hlen:=aH.dU
 have Fv:=aT.dU
 unfold maxLen at hlen Fv
 have hs:=St.start g
 have aq:=G.le.refl g
 refine enter Tryz.func66 rfl Tryz.ntmps66 rfl ?_
 apply c_
 refine an rfl rfl (aR rfl hs rfl rfl ?_);clear hs;rintro b1 g1 hs ah;obtain⟨aH,aT,fk⟩:=ef ah aH aT fk
 refine ba rfl ?_;refine dx 3 [.o 0] hs rfl ?_
 rename Nat=>b0
 refine an rfl rfl (aK T.ok rfl hs rfl rfl ?_);clear hs;rintro b1 g1 hs ah;obtain⟨aH,aT,fk⟩:=ef ah aH aT fk
 skip
 refine bg rfl (aA T.ok 0 rfl hs rfl rfl rfl rfl rfl rfl rfl rfl rfl ?_);replace hs:=hs;rintro g1 hs ah;obtain⟨aH,aT,fk⟩:=ef ah aH aT fk
 obtain⟨g2,bR,aU,ah,aL⟩:=hs.a_ (i:=0) rfl;replace hs:=aU;clear aU;rw[←bR];obtain⟨aH,aT,fk⟩:=ef ah aH aT fk
 have aC:=aL
 clear aL bR ah
 obtain⟨g2,bR,aU,ah,aL⟩:=hs.a_ (i:=0) rfl;replace hs:=aU;clear aU;rw[←bR];obtain⟨aC,aH,aT,fk⟩:=dE ah aC aH aT fk
 have aP:=aL
 clear aL bR ah
 have I4:=aP;have qE:=aC;have xx:=aT;have cN:=G.le.refl g2
 apply cf;apply aB;refine dx 1 [.z aP] (St.start _) rfl ?_
 refine an rfl rfl (ay HE aI rfl rfl rfl rfl rfl (ql _ f _ fk) ?_);rintro g1 _ aN rfl;replace hs:=hs.call aN;have ah:=aN.le;obtain⟨cN,aC,aP,aH,aT⟩:=kN ah cN aC aP aH aT
 refine Wp 2 rfl ?_
 refine cw (want:=false) (x:=!within f.steps.length 1 40) 3 aI rfl rfl rfl rfl (.inr ⟨rfl,rfl,rfl⟩) rfl rfl rfl rfl (fun hb Q' eE=>?_) (fun g' hf=>?_)
 ·refine Wm 1 [.z aC] (St.start _) rfl ?_
  refine an rfl rfl (ay pd aI rfl rfl rfl rfl rfl (jj _ _ _ _) ?_);rintro g1 _ aN rfl;replace hs:=hs.call aN;have ah:=aN.le;obtain⟨cN,aC,aP,aH,aT⟩:=kN ah cN aC aP aH aT
  refine Wp 1 rfl ?_;apply aD
  exact fun a ha=>eE _ a aN (ha.keep (by(repeat (first|exact trivial|refine⟨rfl,?_⟩))))
 replace hs:=hs.call hf;have ah:=hf.le;obtain⟨cN,aC,aP,aH,aT⟩:=kN ah cN aC aP aH aT
 refine Wp 1 rfl ?_
 refine cw (want:=false) (x:=decide (20<(f.windows.length:Int))) 4 aI rfl rfl rfl rfl (.inr ⟨rfl,rfl,rfl⟩) rfl rfl rfl rfl (fun hb Q' eE=>?_) (fun g' hf=>?_)
 ·refine Wm 4 [.z aP] (St.start _) rfl ?_;apply aD
  exact fun a ha=>eE _ a (aZ.refl _) (ha.keep (by(repeat (first|exact trivial|refine⟨rfl,?_⟩))))
 replace hs:=hs.call hf;have ah:=hf.le;obtain⟨cN,aC,aP,aH,aT⟩:=kN ah cN aC aP aH aT
 apply cf
 by_cases nH:((!eh f|| !within f.steps.length 1 40)||decide (20<(f.windows.length:Int)))=true
 ·refine aJ nH rfl ?_
  refine aX rfl ?_
  refine aF (aV rfl rfl (hs.ret ?_))
  have:valid f=false:=by
   simp only[Bool.or_eq_true,Bool.not_eq_true',decide_eq_true_eq]at nH
   unfold valid
   rcases nH with(h|h)|h
   ·rw[h];simp
   ·rw[h];simp
   ·rw[show decide ((f.windows.length:Int)≤20)=false from by simp;omega];simp
  rw[this]
 refine aS (Bool.eq_false_iff.2 nH) rfl ?_
 apply aE;apply au;apply aB;refine dx 3 [.z aP] (St.start _) rfl ?_
 refine an rfl rfl (ay Lz aI rfl rfl rfl rfl rfl (uE _ _ f.steps (fun s=> !cg s f.steps.length) _ aH (fun g' x u hle hx=>de LA rfl (Fy u x _ _ g' hx (aC.mono hle) (by omega) (by omega)))) ?_);rintro g1 _ aN rfl;replace hs:=hs.call aN;have ah:=aN.le;obtain⟨cN,aC,aP,aT⟩:=dE ah cN aC aP aT
 apply cf
 by_cases xE:(f.steps.any fun s=> !cg s f.steps.length)=true
 ·refine aJ xE rfl ?_
  refine aX rfl ?_
  refine aF (aV rfl rfl (hs.ret ?_))
  have:(f.steps.all fun s=>cg s f.steps.length)=false:=by
   rw[List.any_eq_true]at xE
   obtain⟨x,hx,h⟩:=xE
   rw[List.all_eq_false]
   exact⟨x,hx,by simpa using h⟩
  unfold valid
  rw[this];simp
 refine aS (Bool.eq_false_iff.2 xE) rfl ?_
 apply aE;apply au;apply aB;refine nK [.z aP] (St.start _) rfl ?_;apply aG
 have hinv:ek f.steps.length [] f.windows=valid f:=by
  simp only[Bool.not_eq_true,Bool.or_eq_false_iff,Bool.not_eq_false',decide_eq_false_iff_not]at nH
  unfold valid
  rw[nH.1.1,nH.1.2,show decide ((f.windows.length:Int)≤20)=true from by simp;omega]
  have:(f.steps.all fun s=>cg s f.steps.length)=true:=by
   rw[List.all_eq_true]
   intro x hx
   cases h:cg x f.steps.length with
   |true=>rfl
   |false=>exact absurd (List.any_eq_true.2 ⟨x,hx,by simp[h]⟩) xE
  rw[this];simp
 refine bS (fun m a' w=> ∃(k:Nat) (g':G),w=g'.w∧St g g' []∧G.le g2 g'∧k≤f.windows.length∧m=f.windows.length-k∧ek f.steps.length (f.windows.take k) (f.windows.drop k)=valid f∧
  Fr 49 [] [(1,.pointer (some ⟨b0,0,none⟩)),(3,.pointer (some ⟨b1,0,none⟩)),(28,.slice a2 f.windows.length c2),(29,.int .i64 f.windows.length),(30,.int .i64 k)] a') f.windows.length
  (fun a' ha=>⟨0,_,rfl,hs,cN,Nat.zero_le _,rfl,by simpa using hinv,ha.keep (by(repeat (first|exact trivial|refine⟨rfl,?_⟩)))⟩) ?_
 clear hs cN aq aC aP aH aT fk
 rintro m a' _ ⟨k,g',rfl,hs,cN,hk,rfl,dy,eI⟩
 have aC:=qE.mono cN;have aP:=I4.mono cN;have aT:=xx.mono cN
 revert a'
 apply cQ;refine aX rfl ?_;apply aB
 by_cases bh:k<f.windows.length
 ·refine aJ (b:=decide ((k:Int)<(f.windows.length:Int))) (by simp;omega) rfl ?_
  rw[List.drop_eq_getElem_cons bh,ek]at dy
  apply aE;apply au;apply aB;apply aG;refine cP 1 rfl ?_
  refine an rfl rfl (aW T.ok rfl aT (y:=f.windows[k]) (by simp[dA,bh]) rfl rfl rfl rfl rfl rfl ?_)
  rintro b q ys aL rfl
  refine Wm 1 [.e aL 0] (St.start _) rfl ?_
  skip
  refine an rfl rfl (aK T.ok rfl hs rfl rfl ?_);clear hs;rintro b1 g1 hs ah;obtain⟨cN,aC,aP,aT⟩:=dE ah cN aC aP aT
  refine Wp 1 rfl ?_
  refine bg rfl (aA T.ok 0 rfl hs rfl rfl rfl rfl rfl rfl rfl rfl rfl ?_);replace hs:=hs;rintro g1 hs ah;obtain⟨cN,aC,aP,aT⟩:=dE ah cN aC aP aT
  apply cf;apply aB
  cases Ia:dS f.windows[k] f.steps.length with
  |false=>
   apply bO hs (fj (gE (fe []))) 13 [(12,47)] (by kernel_rfl) rfl
   ·refine Dm [[],[]] [.o 0,.e aC 0] hs (by kernel_rfl) rfl ?_
    refine aw (ak (js:=[(0,35),(1,36)]) (by kernel_rfl) fun gd hf=>?_) ?_
    ·skip
     refine ai rfl ?_;refine ai rfl ?_
     apply aj
     refine az rfl ?_;refine(ay sJ aI rfl rfl rfl rfl rfl (fI _ _ _ (by omega) (by omega)) fun g' v h1 h2=>⟨g',rfl,h1,?_⟩);exact h2.trans (congrArg Value.bool Ia)
    exact Dy [[2],[3],[4],[5,4],[4],[6,7,4],[4],[8,9,4,4],[10,4],[4,11]] (by kernel_rfl) rfl
   clear hs;intro g1 hs ah;obtain⟨cN,aC,aP,aT⟩:=dE ah cN aC aP aT
   apply cf
   refine aJ rfl rfl ?_
   refine aX rfl ?_
   refine aF (aV rfl rfl (hs.ret ?_))
   rw[←dy,Ia];rfl
  |true=>
   have tf:=aT.cut (a:=0) (b:=k) (Nat.zero_le _) (by omega)
   apply bO hs (fj (gE (fe []))) 13 [(12,47)] (by kernel_rfl) rfl
   ·refine Dm [[],[]] [.o 0,.e aC 0] hs (by kernel_rfl) rfl ?_
    refine aw (ak (js:=[(0,35),(1,36)]) (by kernel_rfl) fun gd hf=>?_) ?_
    ·skip
     refine ai rfl ?_;refine ai rfl ?_
     apply aj
     refine az rfl ?_;refine(ay sJ aI rfl rfl rfl rfl rfl (fI _ _ _ (by omega) (by omega)) fun g' v h1 h2=>⟨g',rfl,h1,?_⟩);exact h2.trans (congrArg Value.bool Ia)
    refine Dm [[2],[3],[4],[5,4],[4]] [.e aP 3] (St.start _) (by kernel_rfl) rfl ?_
    refine aw (ak (js:=[(6,41),(7,42),(4,39)]) (by kernel_rfl) fun gd hf=>?_) ?_
    ·skip
     refine ai rfl ?_;refine ai rfl ?_;refine ai rfl ?_
     apply aj
     refine az rfl ?_;refine(j2 T.ok rfl rfl rfl rfl rfl (a:=0) (b:=k) rfl ⟨_,rfl⟩ (Nat.zero_le _) (by have:=(aT.oL).2.1;omega) ?_);exact⟨_,rfl,aZ.refl _,rfl⟩
    refine Dm [[4]] [.o 0] hs (by kernel_rfl) rfl ?_
    refine aw (ak (js:=[(8,43),(9,44),(4,39),(4,39)]) (by kernel_rfl) fun gd hf=>?_) ?_
    ·have eH:=(G.bJ _).trans hf.le
     refine ai rfl ?_;refine ai rfl ?_;refine ai rfl ?_;refine ai rfl ?_
     apply aj
     refine az rfl ?_;refine(ay Df aI rfl rfl rfl rfl rfl (rh _ _ _ _ (tf.mono eH)) fun g' v h1 h2=>⟨g',rfl,h1,?_⟩);exact h2
    exact Dy [[10,4],[4,11]] (by kernel_rfl) rfl
   clear hs;intro g1 hs ah;replace cN:=G.le.trans cN ah
   apply cf
   cases ly:follows (f.windows.take k) f.windows[k]with
   |false=>
    refine aJ (by simp[ly]) rfl ?_
    refine aX rfl ?_
    refine aF (aV rfl rfl (hs.ret ?_))
    rw[←dy,Ia,ly];rfl
   |true=>
    refine aS (by simp[ly]) rfl ?_
    apply aE;apply bU;apply au;apply ar;refine Wp 2 rfl ?_;apply aD
    refine fun a ha=>⟨f.windows.length-(k+1),by omega,k+1,_,rfl,hs.drop 0,cN,by omega,rfl,?_,ha.keep ⟨rfl,rfl,rfl,rfl,kI rfl (by rw[wr (by omega) (by omega)];omega),trivial⟩⟩
    rw[←dy,Ia,ly,List.take_succ_eq_append_getElem bh];rfl
 ·refine aS (b:=decide ((k:Int)<(f.windows.length:Int))) (by simp;omega) rfl ?_
  apply bE;apply bK;apply bK;apply dc;apply au;refine aX rfl ?_
  obtain rfl:k=f.windows.length:=by omega
  refine aF (aV rfl rfl (hs.ret ?_))
  rw[←dy];simp[ek]
end Go.Proofs.YtebobfdheanknaaGreatDoor
namespace Go.Proofs.YtebobfdheanknaaGreatDoor
open Go
def dec(n:Nat):List UInt8:=Lib.decDigits n
def mD(b:UInt8):Bool:=decide (48≤b.toNat)&&decide (b.toNat≤57)
def ju(acc:Nat)(l:List UInt8):Nat:=l.foldl (fun a b=>10*a+(b.toNat-48)) acc
def val(l:List UInt8):Nat:=ju 0 l
theorem gX{n:Nat}(h:n<10):dec n=[UInt8.ofNat (48+n)]:=by unfold dec;rw[Lib.decDigits,dif_pos h]
theorem mw{n:Nat}(h: ¬n<10):dec n=dec (n/10)++[UInt8.ofNat (48+n % 10)]:=by unfold dec;rw[Lib.decDigits,dif_neg h]
theorem CF(acc:Nat)(l m:List UInt8):ju acc (l++m)=ju (ju acc l) m:=by unfold ju;rw[List.foldl_append]
theorem rb{k:Nat}(h:k<10):(UInt8.ofNat (48+k)).toNat=48+k:=by rw[UInt8.toNat_ofNat'];omega
theorem yR{k:Nat}(h:k<10):mD (UInt8.ofNat (48+k))=true:=by unfold mD;rw[rb h];simp;omega
theorem BB(n:Nat):val (dec n)=n:=by
 induction n using Nat.strongRecOn with
 |_ n ih=>
  by_cases h:n<10
  ·rw[gX h];unfold val ju;simp only[List.foldl_cons,List.foldl_nil];rw[rb h];omega
  ·rw[mw h]
   unfold val
   rw[CF,show ju 0 (dec (n/10))=n/10 from ih (n/10) (by omega)]
   unfold ju
   simp only[List.foldl_cons,List.foldl_nil]
   rw[rb (by omega)];omega
theorem BC(n:Nat): ∀b∈dec n,mD b=true:=by
 induction n using Nat.strongRecOn with
 |_ n ih=>
  by_cases h:n<10
  ·rw[gX h];intro b hb;obtain rfl:=List.mem_singleton.1 hb;exact yR h
  ·rw[mw h]
   intro b hb
   rcases List.mem_append.1 hb with hb|hb
   ·exact ih (n/10) (by omega) b hb
   ·obtain rfl:=List.mem_singleton.1 hb;exact yR (by omega)
theorem uk(n:Nat):dec n≠[]:=by
 by_cases h:n<10
 ·rw[gX h];simp
 ·rw[mw h];simp
theorem Hg{n:Nat}(h:0<n): ∀r,dec n≠48::r:=by
 induction n using Nat.strongRecOn with
 |_ n ih=>
  intro r
  by_cases hs:n<10
  ·rw[gX hs]
   intro e
   have:=congrArg (fun l:List UInt8=>(l.headD 0).toNat) e
   simp only[List.headD_cons]at this
   rw[rb hs]at this
   have WZ:(48:UInt8).toNat=48:=rfl
   omega
  ·rw[mw hs]
   intro e
   cases hd:dec (n/10)with
   |nil=>exact uk _ hd
   |cons x t=>
    rw[hd,List.cons_append]at e
    obtain⟨e1,_⟩:=List.cons.inj e
    exact ih (n/10) (by omega) (by omega) t (by rw[hd,e1])
def canon(l:List UInt8):Bool:=l.all mD&&(match l with|[]=>false|[_]=>true|b::_=>b !=48)
theorem CG(n:Nat):canon (dec n)=true:=by
 unfold canon
 rw[Bool.and_eq_true]
 refine⟨List.all_eq_true.2 (BC n),?_⟩
 cases hd:dec n with
 |nil=>exact absurd hd (uk n)
 |cons b t=>
  cases t with
  |nil=>rfl
  |cons c t=>
   have hn:0<n:=by
    refine Nat.pos_of_ne_zero fun h0=>?_
    subst h0
    rw[gX (by decide)]at hd
    simp at hd
   have:=Hg hn
   simp only[bne_iff_ne,ne_eq]
   intro e
   subst e
   exact this _ hd
theorem E9{n:Nat}(h:0<n){b:UInt8}(hb:mD b=true):dec (10*n+(b.toNat-48))=dec n++[b]:=by
 unfold mD at hb
 simp only[Bool.and_eq_true,decide_eq_true_eq]at hb
 rw[mw (by omega),show(10*n+(b.toNat-48))/10=n from by omega,show(10*n+(b.toNat-48)) % 10=b.toNat-48 from by omega,show 48+(b.toNat-48)=b.toNat from by omega,UInt8.ofNat_toNat]
theorem CH(l:List UInt8): ∀n,0<n→l.all mD=true→dec (ju n l)=dec n++l:=by
 induction l with
 |nil=>intro n _ _;simp[ju]
 |cons b t ih=>
  intro n hn hl
  rw[List.all_cons,Bool.and_eq_true]at hl
  show dec (ju (10*n+(b.toNat-48)) t)=_
  have hb:=hl.1
  unfold mD at hb
  simp only[Bool.and_eq_true,decide_eq_true_eq]at hb
  rw[ih _ (by omega) hl.2,E9 hn hl.1,List.append_assoc];rfl
theorem Hh{l:List UInt8}(h:canon l=true):dec (val l)=l:=by
 unfold canon at h
 rw[Bool.and_eq_true]at h
 obtain⟨h1,h2⟩:=h
 cases l with
 |nil=>simp at h2
 |cons b t=>
  rw[List.all_cons,Bool.and_eq_true]at h1
  have hb:=h1.1
  unfold mD at hb
  simp only[Bool.and_eq_true,decide_eq_true_eq]at hb
  have e0:val (b::t)=ju (b.toNat-48) t:=by unfold val ju;simp
  have pK:dec (b.toNat-48)=[b]:=by
   rw[gX (by omega),show 48+(b.toNat-48)=b.toNat from by omega,UInt8.ofNat_toNat]
  cases t with
  |nil=>rw[e0];exact pK
  |cons c t=>
   have fu:b≠48:=by simpa using h2
   have nk:0<b.toNat-48:=by
    have:b.toNat≠48:=fun e=>fu (UInt8.toNat_inj.1 e)
    omega
   rw[e0,CH _ _ nk h1.2,pK];rfl
def fN(l:List UInt8):Option Nat:=if canon l=true∧val l≤1000000 then some (val l)else none
theorem yS{l:List UInt8}{n:Nat}:fN l=some n↔l=dec n∧n≤1000000:=by
 unfold fN
 constructor
 ·intro h
  split at h
  ·rename_i hc
   obtain rfl:=Option.some.inj h
   exact⟨(Hh hc.1).symm,hc.2⟩
  ·cases h
 ·rintro⟨rfl,hn⟩
  rw[BB,if_pos ⟨CG n,hn⟩]
theorem E_{n:Nat}(h:n≤1000000):fN (dec n)=some n:=yS.2 ⟨rfl,h⟩
theorem rz: ∀(l:List UInt8) (acc:Nat),l.all mD=true→ju acc l≤1000000000→Lib.parseUint10 acc l= .ok (ju acc l)
 |[],acc,_,_=>rfl
 |b::t,acc,h,hv=>by
  rw[List.all_cons,Bool.and_eq_true]at h
  have hb:=h.1
  unfold mD at hb
  simp only[Bool.and_eq_true,decide_eq_true_eq]at hb
  have JX: ∀(t:List UInt8) (a:Nat),a≤ju a t:=by
   intro t
   induction t with
   |nil=>intro a;exact Nat.le_refl _
   |cons c t ih=>intro a;exact Nat.le_trans (by omega) (ih (10*a+(c.toNat-48)))
  have ER:ju (10*acc+(b.toNat-48)) t≤1000000000:=hv
  have h1:=JX t (10*acc+(b.toNat-48))
  unfold Lib.parseUint10
  rw[if_pos hb,if_neg (by omega),if_neg (by omega),show acc*10+(b.toNat-48)=10*acc+(b.toNat-48)from by omega]
  exact rz t _ h.2 ER
theorem Fa{n:Nat}(h:n≤1000000):Lib.atoiAll (dec n)= .ok (n:Int):=by
 have hd:=BC n
 have hv:=BB n
 have hp:=rz (dec n) 0 (List.all_eq_true.2 hd) (by show val (dec n)≤_;rw[hv];omega)
 rw[show ju 0 (dec n)=n from hv]at hp
 cases hl:dec n with
 |nil=>exact absurd hl (uk n)
 |cons c r=>
  have hc:=hd c (by rw[hl];simp)
  unfold mD at hc
  simp only[Bool.and_eq_true,decide_eq_true_eq]at hc
  unfold Lib.atoiAll
  simp only
  rw[if_neg (by omega)]
  unfold Lib.parseMag
  rw[if_neg (by simp),←hl,hp]
  simp only
  rw[if_neg (by omega),if_neg (by omega),if_neg (by omega)]
theorem um(n:Nat):Lib.itoa (n:Int)=dec n:=by unfold Lib.itoa dec;rw[if_neg (by omega),Int.toNat_natCast]
theorem Fb{l:List UInt8}{v:Int}(h:Lib.atoiAll l= .ok v)(h0:0≤v)(h1:v≤1000000)(h2:Lib.itoa v=l):fN l=some v.toNat:=by
 obtain⟨n,rfl⟩: ∃n:Nat,v=n:=⟨v.toNat,by omega⟩
 rw[um]at h2
 rw[←h2,Int.toNat_natCast]
 exact E_ (by omega)
theorem J8{l:List UInt8}{n:Nat}(h:fN l=some n):Lib.atoiAll l= .ok (n:Int)∧Lib.itoa (n:Int)=l∧n≤1000000:=by
 obtain⟨rfl,hn⟩:=yS.1 h
 exact⟨Fa hn,um n,hn⟩
end Go.Proofs.YtebobfdheanknaaGreatDoor
