/- Parts of the proof, from: Steps of the drawn regions of K46. -/
import Derived.Test.YtgehbndkogohpaaGreatDoorYd
import Derived.Laws.StructEq
import Derived.Shelf.Strings.BuilderK
import Derived.Test.YtgehbndkogohpaaGreatDoorYc
import Derived.Lib.UnsafeStr
import Derived.Test.YtgehbndkogohpaaGreatDoorYb
namespace Go.K
open Go Go.RowKit
variable {F:Fence} {P:Program} {N:Nat} {ds:List Deferred} {ops:Array Oper} {Q:Exit→Act→World→Prop} {l0 l:Env} {os j9:List Oper} {o:Oper}
variable {g0 g gd g':G} {φs:List Fact} {ks:List FK} {es:List Nat} {dM:List (List Nat)} {J:(Nat→Option Value)→G→Prop} {ρ:Nat→Option Value}
def CP(es:List Nat):Nat→Nat→Bool
 |_,0=>true
 |i,n+1=> !es.contains i&&CP es (i+1) n
theorem bI{i:Nat}(h:wZ F P N ds ops Q φs l0 gd es dM J i o)(h2:jP F P N ds ops Q φs l0 gd es dM J (i+1) os):jP F P N ds ops Q φs l0 gd es dM J i (o::os):=⟨h,h2⟩
theorem zd{i:Nat}:jP F P N ds ops Q φs l0 gd es dM J i []:=trivial
theorem bE{k:Env→Prop}(h:k l):QU φs es ρ g [] l k:=h
theorem cT{k:Env→Prop}{j d:Nat}{x:Value}{r:List (Nat×Nat)}(he:fQ φs j=Fact.eq x)(h:QU φs es ρ g r ((d,x)::l) k):QU φs es ρ g ((j,d)::r) l k:=by intro v hv _;rw[he]at hv;obtain rfl:v=x:=hv;exact h
theorem cQ{k:Env→Prop}{j d:Nat}{r:List (Nat×Nat)}(h: ∀v,(fQ φs j).p v g→QU φs es ρ g r ((d,v)::l) k):QU φs es ρ g ((j,d)::r) l k:=fun v hv _=>h v hv
theorem gv{k:Env→Prop}{j d:Nat}{r:List (Nat×Nat)}(hj:es.contains j=true)(h: ∀v,(fQ φs j).p v g→ρ j=some v→QU φs es ρ g r ((d,v)::l) k):QU φs es ρ g ((j,d)::r) l k:=fun v hv hr=>h v hv (hr hj)
theorem cL{i:Nat}{js:List (Nat×Nat)}(hj:eb ops o=js)(hp:es.contains i=false)
  (h: ∀ρ g',(∀(k:Nat) A e,es[k]? =some e→dM[k]? =some A→i∈A→ρ e=none)→(∀e,es.contains e=true→e∈kH o→ρ e≠none)→gd.le g'→J ρ g'→QU φs es ρ g' js l0 (DK F P N ds ops Q (fQ φs i) g' o)):wZ F P N ds ops Q φs l0 gd es dM J i o:=by
 subst hj;intro ρ g' hf hs _ h2 h3;refine yp _ _ _ _ (fun env hd=>?_) (h ρ g' h2 h3 hf hs);unfold DK at hd;unfold BH;rw[if_neg (by rw[hp];simp)];cases hg:mx ops env o.guard with
 |none=>rw[hg]at hd;exact hd
 |some b=>
  rw[hg]at hd;cases b with
  |true=>
   refine fun a ha=>Oper.wpIn_mono (fun a' w' ⟨v,he,dc,hw,eu,jF⟩=>⟨v,he,dc,hw,?_,jF⟩) (hd a ha);rw[if_neg (by rw[hp];simp)];exact eu
  |false=>exact⟨a_.refl _,hd⟩
theorem jr{i:Nat}{js:List (Nat×Nat)}(hj:eb ops o=js)(hp:es.contains i=true)
  (h: ∀ρ g',(∀(k:Nat) A e,es[k]? =some e→dM[k]? =some A→i∈A→ρ e=none)→(∀e,es.contains e=true→e∈kH o→ρ e≠none)→ρ i=none→gd.le g'→J ρ g'→QU φs es ρ g' js l0 fun env=>
   mx ops env o.guard=some true∧cD F P N ds o env g'.w Q fun v w'=> ∃dc,dc.w=w'∧(g'.le dc∧J (tr ρ i v) dc)∧(fQ φs i).p v dc):wZ F P N ds ops Q φs l0 gd es dM J i o:=by
 subst hj;intro ρ g' hf hs h1 h2 h3;refine yp _ _ _ _ (fun env hd=>?_) (h ρ g' h2 h3 (h1 hp) hf hs);obtain⟨hg,hd⟩:=hd;rw[hg];refine fun a ha=>Oper.wpIn_mono (fun a' w' ⟨v,he,dc,hw,eu,jF⟩=>⟨v,he,dc,hw,?_,jF⟩) (hd a ha);unfold BH;rw[if_pos hp];exact eu
theorem qZ{tb:Tb}(dq:tb.ok P)(hA:jA F): ∀(k8:List (List Nat)) (hs:List (r_ P g)) (i:Nat) (os:List Oper) (kv:List (Nat×Value)) (us ts:List (Value×Value)) (j9:List Oper) (i':Nat),
  cn tb ops ks l0 [] k8 hs i os kv us=some (ts,j9,i')→ib ops os k8=true→CP es i k8.length=true→
  (∀p∈us,p∈ts)∧((∀p∈ts,p.1=p.2)→(∀j v,lk kv j=some v→fQ (ks.map FK.fact) j=Fact.eq v)→jP F P N ds ops Q (ks.map FK.fact) l0 g.dr es dM J i' j9→jP F P N ds ops Q (ks.map FK.fact) l0 g.dr es dM J i os)
 |[],hs,i,os,kv,us,ts,j9,i',h,_,_=>by simp only[cn,Option.some.injEq,Prod.mk.injEq]at h;obtain⟨rfl,rfl,rfl⟩:=h;exact⟨fun _ h=>h,fun _ _ k=>k⟩
 |_::_,hs,i,[],kv,us,ts,j9,i',h,_,_=>by simp[cn]at h
 |js::k8,hs,i,o::os,kv,us,ts,j9,i',h,hn,Bv=>by
  simp only[ib,Bool.and_eq_true,beq_iff_eq]at hn;obtain⟨Em,Eo⟩:=hn;simp only[List.length_cons,CP,Bool.and_eq_true]at Bv;obtain⟨yh,BE⟩:=Bv;simp only[cn]at h;split at h
  ·cases h
  rename_i env gk;split at h
  ·rename_i x hx;have tB:=tE i hx;have uV: ∀{v:Value},x=v→(∀j v,lk kv j=some v→fQ (ks.map FK.fact) j=Fact.eq v)→ ∀j u,lk ((i,v)::kv) j=some u→fQ (ks.map FK.fact) j=Fact.eq u:=by
    rintro v rfl hk j u hu;by_cases e:i=j
    ·subst e;rw[cJ]at hu;obtain rfl:=Option.some.inj hu;exact tB
    rw[bX _ _ e]at hu;exact hk j u hu
   have one: ∀{v:Value},x=v→(∀j v,lk kv j=some v→fQ (ks.map FK.fact) j=Fact.eq v)→(∀g',g.le g'→DK F P N ds ops Q (Fact.eq v) g' o env)→wZ F P N ds ops Q (ks.map FK.fact) l0 g.dr es dM J i o:=by rintro v rfl hk hd;refine cL rfl (by simpa using yh) fun ρ g' _ _ hf _=>Ke _ _ _ ?_;rw[Em];refine qV hk _ _ _ gk ?_;rw[tB];exact hd g' ((G.bu _).trans hf)
   split at h
   ·cases h
   ·rename_i hg;obtain⟨m2,k⟩:=qZ dq hA _ _ _ _ _ _ _ _ _ h Eo BE;refine⟨fun p hp=>m2 p (List.mem_cons_of_mem _ hp),fun e2 hk hr=>?_⟩;have he:x=undef:=e2 _ (m2 _ (List.mem_cons_self ..));exact⟨one he hk fun g' hf=>r4 hg rfl,k e2 (uV he hk) hr⟩
   rename_i hg;cases hh:Rg o.op with
   |true=>
    simp only[hh,cond_true]at h;split at h
    ·cases h
    rename_i s hr;split at h
    ·rename_i p q v hl;obtain⟨m2,k⟩:=qZ dq hA _ _ _ _ _ _ _ _ _ h Eo BE;refine⟨fun p hp=>m2 p (List.mem_cons_of_mem _ (List.mem_cons_of_mem _ hp)),fun e2 hk hr=>?_⟩;have he:x=v:=e2 _ (m2 _ (List.mem_cons_of_mem _ (List.mem_cons_self ..)));obtain rfl:p=q:=e2 _ (m2 _ (List.mem_cons_self ..));refine⟨one he hk fun g' hf=>aB hg ?_,k e2 (uV he hk) hr⟩;exact uU dq hA (St.start g') ((pZ s hf).trans hl) fun g2 xN=>⟨g2,rfl,xN,rfl⟩
    cases h
   |false=>
    simp only[hh,cond_false]at h;split at h
    ·rename_i v hv;obtain⟨m2,k⟩:=qZ dq hA _ _ _ _ _ _ _ _ _ h Eo BE;refine⟨fun p hp=>m2 p (List.mem_cons_of_mem _ hp),fun e2 hk hr=>?_⟩;have he:x=v:=e2 _ (m2 _ (List.mem_cons_self ..));exact⟨one he hk fun g' hf=>aB hg (oj dq hv ⟨g',rfl,a_.refl g',rfl⟩),k e2 (uV he hk) hr⟩
    cases h
  cases h
theorem Um[dR P][hA:jA F]{i i':Nat}{A:List Value}(k8:List (List Nat))(ss:List (r_ P g))(hn:(ib ops os k8&&CP es i k8.length)=true)(h:mY (dR.tb P) ops ks l0 [] k8 ss i os=some (A,A,j9,i'))
  (k:jP F P N ds ops Q (ks.map FK.fact) l0 g.dr es dM J i' j9):jP F P N ds ops Q (ks.map FK.fact) l0 g.dr es dM J i os:=by
 rw[Bool.and_eq_true]at hn;unfold mY at h;split at h
 ·rename_i ts U_ i2 h2;simp only[Option.some.injEq,Prod.mk.injEq]at h;obtain⟨rfl,e2,rfl,rfl⟩:=h;exact(qZ dR.ok hA k8 ss i os [] [] _ _ _ h2 hn.1 hn.2).2 (mX e2.symm) (fun j v hv=>by simp[lk]at hv) k
 cases h
theorem nO[dR P][jA F]{id:Nat}(ks:List FK)(m:Nat)(outs:List (Nat×Nat))(es:List Nat)(dM:List (List Nat))(J:(Nat→Option Value)→G→Prop)(hJ: ∀ρ g g',a_ g g'→J ρ g→J ρ g')(AX:J (fun _=>none) g.dr)
  (lT:(oT N ops l0 m&&(es.all fun e=>Nat.blt e m)&&((es.zip dM).all fun p=>uK ops p.2 p.1)&&outs.all (fun p=>Nat.blt p.1 m&&(dh ops p.1==some p.2)))=true) (hsoft:py ks)
  (gV:jP F P N ds ops Q (ks.map FK.fact) l0 g.dr es dM J 0 (ops.toList.take m))
  (iT: ∀ρ g',g.dr.le g'→J ρ g'→(∀e,es.contains e=true→ρ e≠none)→QU (ks.map FK.fact) es ρ g' outs l0 fun env=>WL F P N ds ops Q (ops.toList.drop m) env g'.w):W F P N ds (.region id ops true) Q l0 g.w:=by
 simp only[Bool.and_eq_true]at lT;obtain⟨⟨⟨h1,h2⟩,h3⟩,h4⟩:=lT;exact IL jA.all dR.mixed (ks.map FK.fact) m outs es dM J hJ AX h1 h2 h3 (py.soft hsoft) h4 gV iT
end Go.K
namespace Go.Proofs.YtgehbndkogohpaaGreatDoor
open Go Go.K
set_option maxRecDepth 10000
attribute [local irreducible] W WL cD bc bK bd bg bh cq ck
set_option maxHeartbeats 4000000
def Hc:Nat→Nat
 |1=>175
 |2=>164
 |_=>177
def zb(g:G)(v:Value)(s:AD):Prop:=∃a b,v= .agg #[a,b,.func (.func (Hc s.rest)) #[] #[],.bool s.ji]∧Rs g a s.fields∧Rs g b s.key
theorem zb.mono{g g':G}{v:Value}{s:AD}(h:zb g v s)(hle:g.le g'):zb g' v s:=by obtain⟨a,b,e,h1,h2⟩:=h;exact⟨a,b,e,h1.mono hle,h2.mono hle⟩
def rB(s:AD):Fact:=⟨fun v g=>zb g v s,fun _ _ _ hf h=>h.mono hf.le⟩
theorem fS(s:AD):pH (rB s):=fun _ _ _ hle h=>zb.mono h hle
abbrev KG(x:jQ):Value:=.agg #[fO x.at_,.int .i64 x.lo,.int .i64 x.hi]
def o4(i:Nat):AD:=my.getD i ⟨[],[],0,false⟩
variable {N:Nat} {ds:List Deferred} {ops:Array Oper} {Q:Exit→Act→World→Prop} {g g0:G} {o:Oper} {l:Env}
theorem kR{α:Type}[El α]{φs:List Fact}{es:List Nat}{ρ:Nat→Option Value}{k:Env→Prop}{j d:Nat}{r:List (Nat×Nat)}{xs:List α}(he:fQ φs j=Fact.rs xs)(h: ∀a c,Rs g (.slice a xs.length c) xs→QU φs es ρ g r ((d,.slice a xs.length c)::l) k):QU φs es ρ g ((j,d)::r) l k:=by intro v hv _;rw[he]at hv;have hv:Rs g v xs:=hv;obtain⟨a,c,rfl⟩:=hv.isSlice;exact h a c hv
theorem pI{α:Type}[El α]{g g':G}{e:TypeId}{v:Value}{n:Nat}{cells:List Value}{xs:List α}(hs:St g g' [.row e (El.k α) v n cells])(hr:cG g' cells xs): ∃g2,g2.w=g'.w∧a_ g g2∧Rs g2 v xs:=by obtain⟨g2,e1,e2,_,e4⟩:=hs.cK (i:=0) rfl hr;exact⟨g2,e1,e2.nC,e4⟩
theorem EG(x:jQ){parts:Array (Nat×Operand)}(hg:mx ops l o.guard=some true)(ho:o.op= .build 224 parts)(hp:sY l (parts.toList.map (·.2))=some [fO x.at_,.int .i64 x.lo,.int .i64 x.hi])(o9:parts.toList.map (·.1)=[0,1,2]):
  DK Wd Tryz.prog N ds ops Q (Fact.eq (KG x)) g o l:=
 aB hg (aQ T.ok ho (vs:=[(0,fO x.at_),(1,.int .i64 x.lo),(2,.int .i64 x.hi)]) (cells:=[fO x.at_,.int .i64 x.lo,.int .i64 x.hi]) hp o9 rfl rfl [(0,1),(1,1),(2,1)] rfl (by kernel_rfl) ⟨g,rfl,a_.refl g,rfl⟩)
theorem iO(xs:List jQ){len:Nat}{parts:Array (Nat×Operand)}(hg:mx ops l o.guard=some true)(ho:o.op= .buildSlice 154 len parts)(hp:sY l (parts.toList.map (·.2))=some (xs.map KG))(o9:parts.toList.map (·.1)=List.range len)(hl:xs.length=len)(hn:len*3≤1000)
  (nM:Instr.fill (fun i=>some (i*3,3)) ((Array.range (len*3)).map ((Value.agg #[.nilFunc,.int .i64 0,.int .i64 0]).cells[· % 3]!)) ((List.range len).zip (xs.map KG))=some (jm xs).toArray):DK Wd Tryz.prog N ds ops Q (Fact.rs xs) g o l:=by
 refine aB hg (bD T.ok ho (St.start g) (vs:=(List.range len).zip (xs.map KG)) (cells:=jm xs) ?_ ?_ rfl rfl rfl rfl (by decide) (by show len*3≤16777216;omega) nM ?_ fun b g' hs hle=>?_)
 ·rw[hp,List.map_snd_zip (by simp[hl])]
 ·rw[o9,List.map_fst_zip (by simp[hl])]
 ·rw[(fI g xs).len,hl];rfl
 obtain⟨g2,e1,e2,e3⟩:=pI hs (fI g' xs);exact⟨g2,e1,e2,e3⟩
theorem mE(xs:List (List jQ)){us:List Value}{len:Nat}{parts:Array (Nat×Operand)}(hg:mx ops l o.guard=some true)(ho:o.op= .buildSlice 295 len parts)(hp:sY l (parts.toList.map (·.2))=some us)(o9:parts.toList.map (·.1)=List.range len)(hl:us.length=len)(hn:len*1≤1000)
  (nM:Instr.fill (fun i=>some (i*1,1)) ((Array.range (len*1)).map ((Value.slice none 0 0).cells[· % 1]!)) ((List.range len).zip us)=some us.toArray) (hr:cG g us xs):DK Wd Tryz.prog N ds ops Q (Fact.rs xs) g o l:=by
 refine aB hg (bD T.ok ho (St.start g) (vs:=(List.range len).zip us) (cells:=us) ?_ ?_ rfl rfl rfl rfl (by decide) (by show len*1≤16777216;omega) nM (by show us.length=len*1;omega) fun b g' hs hle=>?_)
 ·rw[hp,List.map_snd_zip (by simp[hl])]
 ·rw[o9,List.map_fst_zip (by simp[hl])]
 obtain⟨g2,e1,e2,e3⟩:=pI hs (hr.mono hle);exact⟨g2,e1,e2,e3⟩
theorem iP{xs:List jQ}{f:FuncId}(hc:ag Tryz.prog f){x:Operand}{args:Array Operand}{ts:Array TypeId}{first captured:Array Value}{vs av:List Value}(hg:mx ops l o.guard=some true)(ho:o.op= .call {callee:=.value x,args,argTypes:=ts})(hx:ev l x=some (.func (.func f) first captured))(ha:sY l args.toList=some vs)(has:first.toList++vs++captured.toList=av)
  (h:CallsIn Wd 0 Tryz.prog f av.toArray g.w (cF g (km 224 g xs))):DK Wd Tryz.prog N ds ops Q (Fact.rs xs) g o l:=
 aB hg (au hc aJ rfl ho hx ha has h fun g' v hf ⟨cells,h1,h2⟩=>by obtain⟨g2,e1,e2,e3⟩:=pI ((St.start g).ft hf h1) h2;exact⟨g2,e1,e2,e3⟩)
theorem kS(s:AD){v1 v2:Value}{parts:Array (Nat×Operand)}(hg:mx ops l o.guard=some true)(ho:o.op= .build 156 parts)(hp:sY l (parts.toList.map (·.2))=some [v1,v2,.func (.func (Hc s.rest)) #[] #[],.bool s.ji])(o9:parts.toList.map (·.1)=[0,1,2,3])
  (h1:Rs g v1 s.fields) (h2:Rs g v2 s.key):DK Wd Tryz.prog N ds ops Q (rB s) g o l:=by
 obtain⟨a1,c1,rfl⟩:=h1.isSlice;obtain⟨a2,c2,rfl⟩:=h2.isSlice;exact aB hg (aQ T.ok ho (vs:=[(0,.slice a1 s.fields.length c1),(1,.slice a2 s.key.length c2),(2,.func (.func (Hc s.rest)) #[] #[]),(3,.bool s.ji)]) (cells:=[.slice a1 s.fields.length c1,.slice a2 s.key.length c2,.func (.func (Hc s.rest)) #[] #[],.bool s.ji]) hp o9 rfl rfl [(0,1),(1,1),(2,1),(3,1)] rfl (by kernel_rfl) ⟨g,rfl,a_.refl g,_,_,rfl,h1,h2⟩)
def xy:List (Int×Nat):=[(1,15),(2,24),(3,35),(4,45),(5,51),(6,60),(7,70),(8,79),(9,88),(10,97),(11,105)]
def JL(g0:G)(ρ:Nat→Option Value)(g:G):Prop:=
 (ρ 0=none∧(∀p∈xy,ρ p.2=none)∧St g0 g [])∨
 ∃b cu,ρ 0=some (.map (some b))∧St g0 g [.obj b (eA cu)]∧(∀k v,iD k cu=some v→ ∃s,dQ k=some s∧zb g v s)∧ ∀p∈xy,ρ p.2≠none→(iD p.1 cu).isSome=true
theorem EH{g0:G}(ρ:Nat→Option Value)(g g':G)(hf:a_ g g')(h:JL g0 ρ g):JL g0 ρ g':=by
 rcases h with⟨h1,h2,h3⟩|⟨b,cu,h1,h2,h3,h4⟩
 ·exact .inl ⟨h1,h2,h3.call hf⟩
 refine .inr ⟨b,cu,h1,h2.call hf,fun k v hk=>?_,h4⟩;obtain⟨s,e,hs⟩:=h3 k v hk;exact⟨s,e,hs.mono hf.le⟩
theorem rC{ρ:Nat→Option Value}{i j:Nat}{v:Value}(h:j≠i):tr ρ i v j=ρ j:=if_neg h
theorem EI{ρ:Nat→Option Value}(hr:ρ 0=none)(hJ:JL g0 ρ g)(ho:o.op= .makeMap 157 none):
  cD Wd Tryz.prog N ds o l g.w Q fun u w'=> ∃dc,dc.w=w'∧(g.le dc∧JL g0 (tr ρ 0 u) dc)∧Fact.any.p u dc:=by
 rcases hJ with⟨_,h2,h3⟩|⟨b,cu,h1,_⟩
 ·refine jV (κ:=Int) ho h3 fun b g' hs hle=>⟨g',rfl,⟨hle,.inr ⟨b,[],rfl,hs,fun k v h=>(by cases h),fun p hp h=>?_⟩⟩,trivial⟩
  have fB:p.2≠0:=by
   have: ∀p∈xy,p.2≠0:=by decide
   exact this p hp
  rw[rC fB,h2 p hp]at h;exact absurd rfl h
 rw[hr]at h1;cases h1
theorem jn{ρ:Nat→Option Value}{k:Int}{i:Nat}(jK:(k,i)∈xy){s:AD}(nN:dQ k=some s){m v:Value}(hr:ρ 0=some m)(hJ:JL g0 ρ g)(hv:zb g v s){mo ko vo:Operand}(ho:o.op= .insert 157 mo ko vo)
  (hm:ev l mo=some m) (hk:ev l ko=some (.int .i64 k)) (hx:ev l vo=some v):cD Wd Tryz.prog N ds o l g.w Q fun u w'=> ∃dc,dc.w=w'∧(g.le dc∧JL g0 (tr ρ i u) dc)∧Fact.any.p u dc:=by
 rcases hJ with⟨h1,_⟩|⟨b,cu,h1,h2,h3,h4⟩
 ·rw[hr]at h1;cases h1
 rw[hr]at h1;obtain rfl:=Option.some.inj h1;refine dK (κ:=Int) (a:=k) (zc T.ok rfl rfl rfl rfl rfl) 0 (.inr ho) h2 rfl hm hk hx fun g' hs hle=>⟨g',rfl,⟨hle,.inr ⟨b,jk k v cu,?_,hs,fun k' v' Hd=>?_,fun p hp h=>?_⟩⟩,trivial⟩
 ·have fB:i≠0:=by
   have: ∀p∈xy,p.2≠0:=by decide
   exact this _ jK
  rw[rC (fun h=>fB h.symm)];exact hr
 ·rw[rD]at Hd;split at Hd
  ·rename_i e;obtain rfl:=Option.some.inj Hd;exact⟨s,by rw[e];exact nN,hv.mono hle⟩
  obtain⟨s',e,jo⟩:=h3 k' v' Hd;exact⟨s',e,jo.mono hle⟩
 rw[rD];split
 ·rfl
 rename_i fB;refine h4 p hp fun e=>h ?_;have JM:p.2≠i:=by
  intro e2;have: ∀p∈xy,∀q∈xy,p.2=q.2→p.1=q.1:=by decide
  exact fB (this p hp _ jK e2)
 rw[rC JM];exact e
def Hy(g:G)(cu:List (Int×Value)):Prop:=∀k,match dQ k with
 |some s=> ∃v,iD k cu=some v∧zb g v s
 |none=>iD k cu=none
def AS(g:G)(b:Nat)(cu:List (Int×Value)):Prop:=g.im b∧g.w.heap[b]? =some (eA cu)
theorem AS.mono{g g':G}{b:Nat}{cu:List (Int×Value)}(h:AS g b cu)(hle:g.le g'):AS g' b cu:=⟨(hle b h.1).1,(hle b h.1).2.trans h.2⟩
theorem Hz{ρ:Nat→Option Value}(hJ:JL g0 ρ g)(cR: ∀e,[0,15,24,35,45,51,60,70,79,88,97,105].contains e=true→ρ e≠none): ∃b cu g2,ρ 0=some (.map (some b))∧g2.w=g.w∧St g0 g2 []∧g.le g2∧AS g2 b cu∧Hy g2 cu:=by
 rcases hJ with⟨h1,_⟩|⟨b,cu,h1,h2,h3,h4⟩
 ·exact absurd h1 (cR 0 rfl)
 have hle:=G.qt g (some b) (fun b' hb=>by obtain rfl:=Option.some.inj hb;exact((h2.own 0 _ rfl).lt b rfl).2.1);refine⟨b,cu,g.fz (some b) _,h1,rfl,h2.fz (i:=0) rfl,hle,⟨.inr rfl,(h2.own 0 _ rfl).2.1⟩,fun k=>?_⟩;cases nN:dQ k with
 |none=>
  simp only;cases hm:iD k cu with
  |none=>rfl
  |some v=>obtain⟨s,e,_⟩:=h3 k v hm;rw[nN]at e;cases e
 |some s=>
  simp only;have hk: ∃i,(k,i)∈xy∧[0,15,24,35,45,51,60,70,79,88,97,105].contains i=true:=by
   unfold dQ at nN;split at nN
   ·cases nN
   have bC:=(List.getElem?_eq_some_iff.1 nN).1;have hl:my.length=11:=rfl;rw[hl]at bC;have:k=1∨k=2∨k=3∨k=4∨k=5∨k=6∨k=7∨k=8∨k=9∨k=10∨k=11:=by omega
   rcases this with rfl|rfl|rfl|rfl|rfl|rfl|rfl|rfl|rfl|rfl|rfl
   all_goals exact⟨_,by unfold xy;simp only[List.mem_cons,Prod.mk.injEq];simp;rfl,by decide⟩
  obtain⟨i,hi,VG⟩:=hk;have:=h4 _ hi (cR i VG);cases hm:iD k cu with
  |none=>rw[hm]at this;cases this
  |some v=>
   obtain⟨s',e,hv⟩:=h3 k v hm;rw[nN]at e;obtain rfl:=Option.some.inj e;exact⟨v,rfl,hv.mono hle⟩
theorem tR(g:G):CallsIn Wd 0 Tryz.prog 72 #[] g.w (cF g fun g' r=> ∃b cu,r= .map (some b)∧AS g' b cu∧Hy g' cu):=by
 have hs:=St.start g;refine enter Tryz.func72 rfl Tryz.ntmps72 rfl ?_;refine aY rfl ?_;apply cM;refine ak rfl rfl (au kr aJ rfl rfl rfl rfl rfl (ee 1 _) ?_);rintro g1 _ aP rfl;replace hs:=hs.call aP;have ah:=aP.le;skip;skip;refine ak rfl rfl (bD T.ok rfl hs (vs:=(List.range (mw).length).zip ((mw).map KG)) (cells:=jm mw) rfl rfl rfl rfl rfl rfl (by decide) (by decide) (by kernel_rfl) rfl ?_);clear hs;rintro b1 g1 hs ah;skip;obtain⟨gz,iQ,cP,jq,aU⟩:=hs.cK (i:=0) rfl (fI _ mw);clear ah;have ah:=jq;rw[←iQ];replace hs:=cP;clear cP;skip;refine bj rfl ?_;apply cM;refine ak rfl rfl (au kr aJ rfl rfl rfl rfl rfl (ee 14 _) ?_);rintro g1 _ aP rfl;replace hs:=hs.call aP;have ah:=aP.le;replace aU:=aU.mono ah;skip;refine ak rfl rfl (au kr aJ rfl rfl rfl rfl rfl (ee 15 _) ?_);rintro g1 _ aP rfl;replace hs:=hs.call aP;have ah:=aP.le;replace aU:=aU.mono ah;skip;refine ak rfl rfl (bD T.ok rfl hs (vs:=(List.range (sW).length).zip ((sW).map KG)) (cells:=jm sW) rfl rfl rfl rfl rfl rfl (by decide) (by decide) (by kernel_rfl) rfl ?_);clear hs;rintro b2 g1 hs ah;replace aU:=aU.mono ah;obtain⟨gz,iQ,cP,jq,bS⟩:=hs.cK (i:=0) rfl (fI _ sW);clear ah;have ah:=jq;rw[←iQ];replace hs:=cP;clear cP;replace aU:=aU.mono ah;refine bj rfl ?_;refine aY rfl ?_;apply cM;skip;refine ak rfl rfl (aQ T.ok rfl (vs:=[(0,fO 7),(1,.int .i64 (0)),(2,.int .i64 (1000000))]) (cells:=[fO 7,.int .i64 (0),.int .i64 (1000000)]) rfl rfl rfl rfl [(0,1),(1,1),(2,1)] rfl (by kernel_rfl) ?_);skip;refine ak rfl rfl (aQ T.ok rfl (vs:=[(0,fO 9),(1,.int .i64 (0)),(2,.int .i64 (1000000))]) (cells:=[fO 9,.int .i64 (0),.int .i64 (1000000)]) rfl rfl rfl rfl [(0,1),(1,1),(2,1)] rfl (by kernel_rfl) ?_);skip;refine ak rfl rfl (aQ T.ok rfl (vs:=[(0,fO 11),(1,.int .i64 (0)),(2,.int .i64 (60))]) (cells:=[fO 11,.int .i64 (0),.int .i64 (60)]) rfl rfl rfl rfl [(0,1),(1,1),(2,1)] rfl (by kernel_rfl) ?_);skip;refine ak rfl rfl (aQ T.ok rfl (vs:=[(0,fO 12),(1,.int .i64 (0)),(2,.int .i64 (4))]) (cells:=[fO 12,.int .i64 (0),.int .i64 (4)]) rfl rfl rfl rfl [(0,1),(1,1),(2,1)] rfl (by kernel_rfl) ?_);skip;refine ak rfl rfl (aQ T.ok rfl (vs:=[(0,fO 13),(1,.int .i64 (0)),(2,.int .i64 (40))]) (cells:=[fO 13,.int .i64 (0),.int .i64 (40)]) rfl rfl rfl rfl [(0,1),(1,1),(2,1)] rfl (by kernel_rfl) ?_);skip;refine ak rfl rfl (aQ T.ok rfl (vs:=[(0,fO 14),(1,.int .i64 (0)),(2,.int .i64 (1000000))]) (cells:=[fO 14,.int .i64 (0),.int .i64 (1000000)]) rfl rfl rfl rfl [(0,1),(1,1),(2,1)] rfl (by kernel_rfl) ?_);skip;refine ak rfl rfl (aQ T.ok rfl (vs:=[(0,fO 15),(1,.int .i64 (0)),(2,.int .i64 (1000000))]) (cells:=[fO 15,.int .i64 (0),.int .i64 (1000000)]) rfl rfl rfl rfl [(0,1),(1,1),(2,1)] rfl (by kernel_rfl) ?_);skip;refine ak rfl rfl (bD T.ok rfl hs (vs:=(List.range (nE).length).zip ((nE).map KG)) (cells:=jm nE) rfl rfl rfl rfl rfl rfl (by decide) (by decide) (by kernel_rfl) rfl ?_);clear hs;rintro b4 g1 hs ah;obtain⟨aU,bS⟩:=cf ah aU bS;obtain⟨gz,iQ,cP,jq,o5⟩:=hs.cK (i:=0) rfl (fI _ nE);clear ah;have ah:=jq;rw[←iQ];replace hs:=cP;clear cP;obtain⟨aU,bS⟩:=cf ah aU bS;refine bj rfl ?_;apply cM;refine ak rfl rfl (aQ T.ok rfl (vs:=[(0,fO 17),(1,.int .i64 (1)),(2,.int .i64 (255))]) (cells:=[fO 17,.int .i64 (1),.int .i64 (255)]) rfl rfl rfl rfl [(0,1),(1,1),(2,1)] rfl (by kernel_rfl) ?_);skip;refine ak rfl rfl (aK T.ok rfl hs rfl rfl ?_);clear hs;rintro b1 g1 hs ah;obtain⟨aU,bS,o5⟩:=dy ah aU bS o5;skip;refine bA rfl (az T.ok 0 rfl hs rfl rfl rfl rfl rfl rfl rfl rfl rfl ?_);replace hs:=hs;rintro g1 hs ah;obtain⟨aU,bS,o5⟩:=dy ah aU bS o5;obtain⟨g2,bL,aT,ah,aL⟩:=hs.ba (i:=0) rfl;replace hs:=aT;clear aT;rw[←bL];obtain⟨aU,bS,o5⟩:=dy ah aU bS o5;have aC:=aL;clear aL;apply bW;apply cM;refine ak rfl rfl (aQ T.ok rfl (vs:=[(0,fO 16),(1,.int .i64 (-1000000)),(2,.int .i64 (1000000))]) (cells:=[fO 16,.int .i64 (-1000000),.int .i64 (1000000)]) rfl rfl rfl rfl [(0,1),(1,1),(2,1)] rfl (by kernel_rfl) ?_);skip;refine ak rfl rfl (aK T.ok rfl hs rfl rfl ?_);clear hs;rintro b1 g1 hs ah;obtain⟨aC,aU,bS,o5⟩:=eS ah aC aU bS o5;skip;refine bA rfl (az T.ok 0 rfl hs rfl rfl rfl rfl rfl rfl rfl rfl rfl ?_);replace hs:=hs;rintro g1 hs ah;obtain⟨aC,aU,bS,o5⟩:=eS ah aC aU bS o5;obtain⟨g2,bL,aT,ah,aL⟩:=hs.ba (i:=0) rfl;replace hs:=aT;clear aT;rw[←bL];obtain⟨aC,aU,bS,o5⟩:=eS ah aC aU bS o5;have aR:=aL;clear aL;apply bW;apply aD;apply nO (.f Fact.any::(eQ (.f (Fact.rs [(eH 7)])::(.f (Fact.rs fb)::(fe (.f (Fact.rs [(⟨13,0,39⟩:jQ)])::(fe (.f (Fact.rs gQ)::(fe (.f (Fact.rs [(⟨16,-10000000,10000000⟩:jQ)])::(.f (Fact.rs (α:=List jQ) [mw,[(eH 7)],fb,[(⟨13,0,39⟩:jQ)],sW,gQ,[(⟨16,-10000000,10000000⟩:jQ)]])::(.f (Fact.rs (α:=jQ) [mw,[(eH 7)],fb,[(⟨13,0,39⟩:jQ)],sW,gQ,[(⟨16,-10000000,10000000⟩:jQ)]].flatten)::(fe (.f (rB (o4 0))::(.f Fact.any::(fe (eQ (.f (Fact.rs [eB,xu])::(.f (Fact.rs (α:=List jQ) [mw,[eB,xu]])::(.f (Fact.rs (α:=jQ) [mw,[eB,xu]].flatten)::(fe (.f (rB (o4 1))::(.f Fact.any::(iY (.f (Fact.rs [(eH 7),(eH 8),eB])::(.f (Fact.rs (α:=List jQ) [mw,[(eH 7),(eH 8),eB]])::(.f (Fact.rs (α:=jQ) [mw,[(eH 7),(eH 8),eB]].flatten)::(eQ (.f (rB (o4 2))::(.f Fact.any::(iY (.f (Fact.rs [(eH 7),(eH 9),(eH 10),eB])::(eQ (.f (Fact.rs [(eH 7),eB])::(.f (rB (o4 3))::(.f Fact.any::(fe (.f (Fact.rs [(eH 10)])::(fe (.f (Fact.rs [(eH 10)])::(.f (rB (o4 4))::(.f Fact.any::(fe (.f (Fact.rs fb)::(fe (.f (Fact.rs gQ)::(.f (Fact.rs (α:=List jQ) [mw,fb,sW,gQ])::(.f (Fact.rs (α:=jQ) [mw,fb,sW,gQ].flatten)::(fe (.f (rB (o4 5))::(.f Fact.any::(eQ (.f (Fact.rs gQ)::(fe (.f (Fact.rs [ru])::(.f (Fact.rs (α:=List jQ) [mw,nE,gQ,[ru]])::(.f (Fact.rs (α:=jQ) [mw,nE,gQ,[ru]].flatten)::(fe (.f (rB (o4 6))::(.f Fact.any::(fe (eQ (.f (Fact.rs [(eH 8),ru,eB])::(eQ (.f (Fact.rs [(eH 8),ru])::(.f (rB (o4 7))::(.f Fact.any::(fe (.f (Fact.rs fb)::(fe (.f (Fact.rs [eB])::(.f (Fact.rs (α:=List jQ) [mw,fb,[eB]])::(.f (Fact.rs (α:=jQ) [mw,fb,[eB]].flatten)::(fe (.f (rB (o4 8))::(.f Fact.any::(fe (eQ (.f (Fact.rs [(eH 14),eB,xu])::(eQ (.f (Fact.rs [(eH 14),eB])::(.f (rB (o4 9))::(.f Fact.any::(fe (.f (Fact.rs fb)::(.f (Fact.rs gQ)::(.f (Fact.rs (α:=List jQ) [mw,fb,gQ])::(.f (Fact.rs (α:=jQ) [mw,fb,gQ].flatten)::(fe (.f (rB (o4 10))::(.f Fact.any::[]))))))))))))))))))))))))))))))))))))))))))))))))))))))))))))))))))))))))))))))))))))))))))) 106 [(0,22)] [0,15,24,35,45,51,60,70,79,88,97,105] [] (JL g) EH (.inl ⟨rfl,fun _ _=>rfl,hs.dr⟩) (by kernel_rfl) ⟨dk,⟨cr _,⟨cr _,⟨cr _,⟨cr _,⟨cr _,⟨cr _,⟨cr _,⟨fS _,⟨dk,⟨cr _,⟨cr _,⟨cr _,⟨fS _,⟨dk,⟨cr _,⟨cr _,⟨cr _,⟨fS _,⟨dk,⟨cr _,⟨cr _,⟨fS _,⟨dk,⟨cr _,⟨cr _,⟨fS _,⟨dk,⟨cr _,⟨cr _,⟨cr _,⟨cr _,⟨fS _,⟨dk,⟨cr _,⟨cr _,⟨cr _,⟨cr _,⟨fS _,⟨dk,⟨cr _,⟨cr _,⟨fS _,⟨dk,⟨cr _,⟨cr _,⟨cr _,⟨cr _,⟨fS _,⟨dk,⟨cr _,⟨cr _,⟨fS _,⟨dk,⟨cr _,⟨cr _,⟨cr _,⟨cr _,⟨fS _,⟨dk,trivial⟩⟩⟩⟩⟩⟩⟩⟩⟩⟩⟩⟩⟩⟩⟩⟩⟩⟩⟩⟩⟩⟩⟩⟩⟩⟩⟩⟩⟩⟩⟩⟩⟩⟩⟩⟩⟩⟩⟩⟩⟩⟩⟩⟩⟩⟩⟩⟩⟩⟩⟩⟩⟩⟩⟩⟩⟩⟩⟩⟩
 ·have nP:=G.bu g2;refine bI (jr (js:=[]) (by kernel_rfl) rfl fun ρ g2 _ _ KH _ hJ=>bE ⟨rfl,EI KH hJ rfl⟩) ?_;refine Um [[],[]] [.c kr fun g _=>ee 7 g] (by kernel_rfl) rfl ?_;refine bI (cL (js:=[(2,24)]) (by kernel_rfl) rfl fun _ g2 _ _ _ _=>cT rfl (bE (iO [(eH 7)] rfl rfl rfl rfl rfl (by decide) (by kernel_rfl)))) ?_;refine bI (cL (js:=[]) (by kernel_rfl) rfl fun _ g2 _ _ _ _=>bE (iP B6 rfl rfl rfl rfl rfl (tp g2))) ?_;refine bI (cL (js:=[]) (by kernel_rfl) rfl fun _ g2 _ _ _ _=>bE (EG ⟨13,0,39⟩ rfl rfl rfl rfl)) ?_;refine bI (cL (js:=[(5,27)]) (by kernel_rfl) rfl fun _ g2 _ _ _ _=>cT rfl (bE (iO [(⟨13,0,39⟩:jQ)] rfl rfl rfl rfl rfl (by decide) (by kernel_rfl)))) ?_;refine Um [[]] [] (by kernel_rfl) rfl ?_;refine bI (cL (js:=[]) (by kernel_rfl) rfl fun _ g2 _ _ _ _=>bE (iP B7 rfl rfl rfl rfl rfl (tq g2))) ?_;refine bI (cL (js:=[]) (by kernel_rfl) rfl fun _ g2 _ _ _ _=>bE (EG ⟨16,-10000000,10000000⟩ rfl rfl rfl rfl)) ?_;refine bI (cL (js:=[(9,31)]) (by kernel_rfl) rfl fun _ g2 _ _ _ _=>cT rfl (bE (iO [(⟨16,-10000000,10000000⟩:jQ)] rfl rfl rfl rfl rfl (by decide) (by kernel_rfl)))) ?_;refine bI (cL (js:=[(1,23),(3,25),(4,26),(6,28),(7,29),(8,30),(10,32)]) (by kernel_rfl) rfl fun _ g2 _ _ hle _=>cT rfl (kR rfl fun _ _ h3=>kR rfl fun _ _ h4=>kR rfl fun _ _ h6=>cT rfl (kR rfl fun _ _ h8=>kR rfl fun _ _ AT=>bE (mE [mw,[(eH 7)],fb,[(⟨13,0,39⟩:jQ)],sW,gQ,[(⟨16,-10000000,10000000⟩:jQ)]] rfl rfl rfl rfl rfl (by decide) (by kernel_rfl) ⟨[_],_,rfl,⟨_,rfl,(aU.mono (nP.trans hle))⟩,⟨[_],_,rfl,⟨_,rfl,h3⟩,⟨[_],_,rfl,⟨_,rfl,h4⟩,⟨[_],_,rfl,⟨_,rfl,h6⟩,⟨[_],_,rfl,⟨_,rfl,(bS.mono (nP.trans hle))⟩,⟨[_],_,rfl,⟨_,rfl,h8⟩,⟨[_],_,rfl,⟨_,rfl,AT⟩,rfl⟩⟩⟩⟩⟩⟩⟩)))) ?_;refine bI (cL (js:=[(11,33)]) (by kernel_rfl) rfl fun _ g2 _ _ _ _=>cQ fun v11 OP=>bE (iP tQ rfl rfl rfl rfl rfl (pG v11 _ g2 OP (by decide)))) ?_;refine Um [[]] [] (by kernel_rfl) rfl ?_;refine bI (cL (js:=[(12,34),(13,35)]) (by kernel_rfl) rfl fun _ g2 _ _ hle _=>cQ fun v12 OQ=>cT rfl (bE (kS (o4 0) rfl rfl rfl rfl OQ (aU.mono (nP.trans hle))))) ?_;refine bI (jr (js:=[(0,22),(14,36)]) (by kernel_rfl) rfl fun ρ g2 _ _ _ _ hJ=>gv rfl fun v0 _ r0=>cQ fun VH Sq=>bE (⟨rfl,jn (k:=1) (i:=15) (by decide) (s:=o4 0) rfl r0 hJ Sq rfl rfl rfl rfl⟩)) ?_;refine Um [[],[],[]] [.c qq fun g _=>mD g,.e aR 0] (by kernel_rfl) rfl ?_;refine bI (cL (js:=[(17,38),(18,39)]) (by kernel_rfl) rfl fun _ g2 _ _ _ _=>cT rfl (cT rfl (bE (iO [eB,xu] rfl rfl rfl rfl rfl (by decide) (by kernel_rfl))))) ?_;refine bI (cL (js:=[(16,37),(19,40)]) (by kernel_rfl) rfl fun _ g2 _ _ hle _=>cT rfl (kR rfl fun _ _ Sr=>bE (mE [mw,[eB,xu]] rfl rfl rfl rfl rfl (by decide) (by kernel_rfl) ⟨[_],_,rfl,⟨_,rfl,(aU.mono (nP.trans hle))⟩,⟨[_],_,rfl,⟨_,rfl,Sr⟩,rfl⟩⟩))) ?_;refine bI (cL (js:=[(20,41)]) (by kernel_rfl) rfl fun _ g2 _ _ _ _=>cQ fun v20 Ss=>bE (iP tQ rfl rfl rfl rfl rfl (pG v20 _ g2 Ss (by decide)))) ?_;refine Um [[]] [] (by kernel_rfl) rfl ?_;refine bI (cL (js:=[(21,42),(22,43)]) (by kernel_rfl) rfl fun _ g2 _ _ hle _=>cQ fun v21 OR=>cT rfl (bE (kS (o4 1) rfl rfl rfl rfl OR (aU.mono (nP.trans hle))))) ?_;refine bI (jr (js:=[(0,22),(23,44)]) (by kernel_rfl) rfl fun ρ g2 _ _ _ _ hJ=>gv rfl fun v0 _ r0=>cQ fun v23 VI=>bE (⟨rfl,jn (k:=2) (i:=24) (by decide) (s:=o4 1) rfl r0 hJ VI rfl rfl rfl rfl⟩)) ?_;refine Um [[],[],[],[]] [.c kr fun g _=>ee 7 g,.c kr fun g _=>ee 8 g,.c qq fun g _=>mD g] (by kernel_rfl) rfl ?_;refine bI (cL (js:=[(26,46),(27,47),(28,48)]) (by kernel_rfl) rfl fun _ g2 _ _ _ _=>cT rfl (cT rfl (cT rfl (bE (iO [(eH 7),(eH 8),eB] rfl rfl rfl rfl rfl (by decide) (by kernel_rfl)))))) ?_;refine bI (cL (js:=[(25,45),(29,49)]) (by kernel_rfl) rfl fun _ g2 _ _ hle _=>cT rfl (kR rfl fun _ _ Su=>bE (mE [mw,[(eH 7),(eH 8),eB]] rfl rfl rfl rfl rfl (by decide) (by kernel_rfl) ⟨[_],_,rfl,⟨_,rfl,(aU.mono (nP.trans hle))⟩,⟨[_],_,rfl,⟨_,rfl,Su⟩,rfl⟩⟩))) ?_;refine bI (cL (js:=[(30,50)]) (by kernel_rfl) rfl fun _ g2 _ _ _ _=>cQ fun v30 VJ=>bE (iP tQ rfl rfl rfl rfl rfl (pG v30 _ g2 VJ (by decide)))) ?_;refine Um [[],[]] [] (by kernel_rfl) rfl ?_;refine bI (cL (js:=[(31,51),(32,52),(33,53)]) (by kernel_rfl) rfl fun _ g2 _ _ hle _=>cQ fun v31 VK=>cT rfl (cT rfl (bE (kS (o4 2) rfl rfl rfl rfl VK (aU.mono (nP.trans hle)))))) ?_;refine bI (jr (js:=[(0,22),(34,54)]) (by kernel_rfl) rfl fun ρ g2 _ _ _ _ hJ=>gv rfl fun v0 _ r0=>cQ fun Sv Sw=>bE (⟨rfl,jn (k:=3) (i:=35) (by decide) (s:=o4 2) rfl r0 hJ Sw rfl rfl rfl rfl⟩)) ?_;refine Um [[],[],[],[]] [.c kr fun g _=>ee 7 g,.c kr fun g _=>ee 9 g,.c kr fun g _=>ee 10 g,.c qq fun g _=>mD g] (by kernel_rfl) rfl ?_;refine bI (cL (js:=[(36,55),(37,56),(38,57),(39,58)]) (by kernel_rfl) rfl fun _ g2 _ _ _ _=>cT rfl (cT rfl (cT rfl (cT rfl (bE (iO [(eH 7),(eH 9),(eH 10),eB] rfl rfl rfl rfl rfl (by decide) (by kernel_rfl))))))) ?_;refine Um [[],[]] [.c kr fun g _=>ee 7 g,.c qq fun g _=>mD g] (by kernel_rfl) rfl ?_;refine bI (cL (js:=[(41,60),(42,61)]) (by kernel_rfl) rfl fun _ g2 _ _ _ _=>cT rfl (cT rfl (bE (iO [(eH 7),eB] rfl rfl rfl rfl rfl (by decide) (by kernel_rfl))))) ?_;refine bI (cL (js:=[(40,59),(43,62)]) (by kernel_rfl) rfl fun _ g2 _ _ hle _=>cQ fun v40 Sx=>cQ fun YC VL=>bE (kS (o4 3) rfl rfl rfl rfl Sx VL)) ?_;refine bI (jr (js:=[(0,22),(44,63)]) (by kernel_rfl) rfl fun ρ g2 _ _ _ _ hJ=>gv rfl fun v0 _ r0=>cQ fun YD VM=>bE (⟨rfl,jn (k:=4) (i:=45) (by decide) (s:=o4 3) rfl r0 hJ VM rfl rfl rfl rfl⟩)) ?_;refine Um [[]] [.c kr fun g _=>ee 10 g] (by kernel_rfl) rfl ?_;refine bI (cL (js:=[(46,64)]) (by kernel_rfl) rfl fun _ g2 _ _ _ _=>cT rfl (bE (iO [(eH 10)] rfl rfl rfl rfl rfl (by decide) (by kernel_rfl)))) ?_;refine Um [[]] [.c kr fun g _=>ee 10 g] (by kernel_rfl) rfl ?_;refine bI (cL (js:=[(48,66)]) (by kernel_rfl) rfl fun _ g2 _ _ _ _=>cT rfl (bE (iO [(eH 10)] rfl rfl rfl rfl rfl (by decide) (by kernel_rfl)))) ?_;refine bI (cL (js:=[(47,65),(49,67)]) (by kernel_rfl) rfl fun _ g2 _ _ hle _=>cQ fun YE VN=>cQ fun v49 VO=>bE (kS (o4 4) rfl rfl rfl rfl VN VO)) ?_;refine bI (jr (js:=[(0,22),(50,68)]) (by kernel_rfl) rfl fun ρ g2 _ _ _ _ hJ=>gv rfl fun v0 _ r0=>cQ fun YF VP=>bE (⟨rfl,jn (k:=5) (i:=51) (by decide) (s:=o4 4) rfl r0 hJ VP rfl rfl rfl rfl⟩)) ?_;refine Um [[]] [] (by kernel_rfl) rfl ?_;refine bI (cL (js:=[]) (by kernel_rfl) rfl fun _ g2 _ _ _ _=>bE (iP B6 rfl rfl rfl rfl rfl (tp g2))) ?_;refine Um [[]] [] (by kernel_rfl) rfl ?_;refine bI (cL (js:=[]) (by kernel_rfl) rfl fun _ g2 _ _ _ _=>bE (iP B7 rfl rfl rfl rfl rfl (tq g2))) ?_;refine bI (cL (js:=[(52,69),(53,70),(54,71),(55,72)]) (by kernel_rfl) rfl fun _ g2 _ _ hle _=>cT rfl (kR rfl fun _ _ VQ=>cT rfl (kR rfl fun _ _ VR=>bE (mE [mw,fb,sW,gQ] rfl rfl rfl rfl rfl (by decide) (by kernel_rfl) ⟨[_],_,rfl,⟨_,rfl,(aU.mono (nP.trans hle))⟩,⟨[_],_,rfl,⟨_,rfl,VQ⟩,⟨[_],_,rfl,⟨_,rfl,(bS.mono (nP.trans hle))⟩,⟨[_],_,rfl,⟨_,rfl,VR⟩,rfl⟩⟩⟩⟩)))) ?_;refine bI (cL (js:=[(56,73)]) (by kernel_rfl) rfl fun _ g2 _ _ _ _=>cQ fun VS VT=>bE (iP tQ rfl rfl rfl rfl rfl (pG VS _ g2 VT (by decide)))) ?_;refine Um [[]] [] (by kernel_rfl) rfl ?_;refine bI (cL (js:=[(57,74),(58,75)]) (by kernel_rfl) rfl fun _ g2 _ _ hle _=>cQ fun YG VU=>cT rfl (bE (kS (o4 5) rfl rfl rfl rfl VU (aU.mono (nP.trans hle))))) ?_;refine bI (jr (js:=[(0,22),(59,76)]) (by kernel_rfl) rfl fun ρ g2 _ _ _ _ hJ=>gv rfl fun v0 _ r0=>cQ fun v59 VV=>bE (⟨rfl,jn (k:=6) (i:=60) (by decide) (s:=o4 5) rfl r0 hJ VV rfl rfl rfl rfl⟩)) ?_;refine Um [[],[]] [] (by kernel_rfl) rfl ?_;refine bI (cL (js:=[]) (by kernel_rfl) rfl fun _ g2 _ _ _ _=>bE (iP B7 rfl rfl rfl rfl rfl (tq g2))) ?_;refine Um [[]] [.e aC 0] (by kernel_rfl) rfl ?_;refine bI (cL (js:=[(64,80)]) (by kernel_rfl) rfl fun _ g2 _ _ _ _=>cT rfl (bE (iO [ru] rfl rfl rfl rfl rfl (by decide) (by kernel_rfl)))) ?_;refine bI (cL (js:=[(61,77),(62,78),(63,79),(65,81)]) (by kernel_rfl) rfl fun _ g2 _ _ hle _=>cT rfl (cT rfl (kR rfl fun _ _ Ca=>kR rfl fun _ _ VW=>bE (mE [mw,nE,gQ,[ru]] rfl rfl rfl rfl rfl (by decide) (by kernel_rfl) ⟨[_],_,rfl,⟨_,rfl,(aU.mono (nP.trans hle))⟩,⟨[_],_,rfl,⟨_,rfl,(o5.mono (nP.trans hle))⟩,⟨[_],_,rfl,⟨_,rfl,Ca⟩,⟨[_],_,rfl,⟨_,rfl,VW⟩,rfl⟩⟩⟩⟩)))) ?_;refine bI (cL (js:=[(66,82)]) (by kernel_rfl) rfl fun _ g2 _ _ _ _=>cQ fun VX VY=>bE (iP tQ rfl rfl rfl rfl rfl (pG VX _ g2 VY (by decide)))) ?_;refine Um [[]] [] (by kernel_rfl) rfl ?_;refine bI (cL (js:=[(67,83),(68,84)]) (by kernel_rfl) rfl fun _ g2 _ _ hle _=>cQ fun YH VZ=>cT rfl (bE (kS (o4 6) rfl rfl rfl rfl VZ (aU.mono (nP.trans hle))))) ?_;refine bI (jr (js:=[(0,22),(69,85)]) (by kernel_rfl) rfl fun ρ g2 _ _ _ _ hJ=>gv rfl fun v0 _ r0=>cQ fun YI V0=>bE (⟨rfl,jn (k:=7) (i:=70) (by decide) (s:=o4 6) rfl r0 hJ V0 rfl rfl rfl rfl⟩)) ?_;refine Um [[],[],[]] [.c kr fun g _=>ee 8 g,.e aC 0,.c qq fun g _=>mD g] (by kernel_rfl) rfl ?_;refine bI (cL (js:=[(71,86),(72,87),(73,88)]) (by kernel_rfl) rfl fun _ g2 _ _ _ _=>cT rfl (cT rfl (cT rfl (bE (iO [(eH 8),ru,eB] rfl rfl rfl rfl rfl (by decide) (by kernel_rfl)))))) ?_;refine Um [[],[]] [.c kr fun g _=>ee 8 g,.e aC 0] (by kernel_rfl) rfl ?_;refine bI (cL (js:=[(75,90),(76,91)]) (by kernel_rfl) rfl fun _ g2 _ _ _ _=>cT rfl (cT rfl (bE (iO [(eH 8),ru] rfl rfl rfl rfl rfl (by decide) (by kernel_rfl))))) ?_;refine bI (cL (js:=[(74,89),(77,92)]) (by kernel_rfl) rfl fun _ g2 _ _ hle _=>cQ fun YJ V1=>cQ fun YK V2=>bE (kS (o4 7) rfl rfl rfl rfl V1 V2)) ?_;refine bI (jr (js:=[(0,22),(78,93)]) (by kernel_rfl) rfl fun ρ g2 _ _ _ _ hJ=>gv rfl fun v0 _ r0=>cQ fun YL V3=>bE (⟨rfl,jn (k:=8) (i:=79) (by decide) (s:=o4 7) rfl r0 hJ V3 rfl rfl rfl rfl⟩)) ?_;refine Um [[]] [] (by kernel_rfl) rfl ?_;refine bI (cL (js:=[]) (by kernel_rfl) rfl fun _ g2 _ _ _ _=>bE (iP B6 rfl rfl rfl rfl rfl (tp g2))) ?_;refine Um [[]] [.c qq fun g _=>mD g] (by kernel_rfl) rfl ?_;refine bI (cL (js:=[(82,96)]) (by kernel_rfl) rfl fun _ g2 _ _ _ _=>cT rfl (bE (iO [eB] rfl rfl rfl rfl rfl (by decide) (by kernel_rfl)))) ?_;refine bI (cL (js:=[(80,94),(81,95),(83,97)]) (by kernel_rfl) rfl fun _ g2 _ _ hle _=>cT rfl (kR rfl fun _ _ V4=>kR rfl fun _ _ V5=>bE (mE [mw,fb,[eB]] rfl rfl rfl rfl rfl (by decide) (by kernel_rfl) ⟨[_],_,rfl,⟨_,rfl,(aU.mono (nP.trans hle))⟩,⟨[_],_,rfl,⟨_,rfl,V4⟩,⟨[_],_,rfl,⟨_,rfl,V5⟩,rfl⟩⟩⟩))) ?_;refine bI (cL (js:=[(84,98)]) (by kernel_rfl) rfl fun _ g2 _ _ _ _=>cQ fun V6 V7=>bE (iP tQ rfl rfl rfl rfl rfl (pG V6 _ g2 V7 (by decide)))) ?_;refine Um [[]] [] (by kernel_rfl) rfl ?_;refine bI (cL (js:=[(85,99),(86,100)]) (by kernel_rfl) rfl fun _ g2 _ _ hle _=>cQ fun v85 V8=>cT rfl (bE (kS (o4 8) rfl rfl rfl rfl V8 (aU.mono (nP.trans hle))))) ?_;refine bI (jr (js:=[(0,22),(87,101)]) (by kernel_rfl) rfl fun ρ g2 _ _ _ _ hJ=>gv rfl fun v0 _ r0=>cQ fun v87 V9=>bE (⟨rfl,jn (k:=9) (i:=88) (by decide) (s:=o4 8) rfl r0 hJ V9 rfl rfl rfl rfl⟩)) ?_;refine Um [[],[],[]] [.c kr fun g _=>ee 14 g,.c qq fun g _=>mD g,.e aR 0] (by kernel_rfl) rfl ?_;refine bI (cL (js:=[(89,102),(90,103),(91,104)]) (by kernel_rfl) rfl fun _ g2 _ _ _ _=>cT rfl (cT rfl (cT rfl (bE (iO [(eH 14),eB,xu] rfl rfl rfl rfl rfl (by decide) (by kernel_rfl)))))) ?_;refine Um [[],[]] [.c kr fun g _=>ee 14 g,.c qq fun g _=>mD g] (by kernel_rfl) rfl ?_;refine bI (cL (js:=[(93,106),(94,107)]) (by kernel_rfl) rfl fun _ g2 _ _ _ _=>cT rfl (cT rfl (bE (iO [(eH 14),eB] rfl rfl rfl rfl rfl (by decide) (by kernel_rfl))))) ?_;refine bI (cL (js:=[(92,105),(95,108)]) (by kernel_rfl) rfl fun _ g2 _ _ hle _=>cQ fun YM V_=>cQ fun YN V'=>bE (kS (o4 9) rfl rfl rfl rfl V_ V')) ?_;refine bI (jr (js:=[(0,22),(96,109)]) (by kernel_rfl) rfl fun ρ g2 _ _ _ _ hJ=>gv rfl fun v0 _ r0=>cQ fun YO Wa=>bE (⟨rfl,jn (k:=10) (i:=97) (by decide) (s:=o4 9) rfl r0 hJ Wa rfl rfl rfl rfl⟩)) ?_;refine Um [[]] [] (by kernel_rfl) rfl ?_;refine bI (cL (js:=[]) (by kernel_rfl) rfl fun _ g2 _ _ _ _=>bE (iP B6 rfl rfl rfl rfl rfl (tp g2))) ?_;refine bI (cL (js:=[]) (by kernel_rfl) rfl fun _ g2 _ _ _ _=>bE (iP B7 rfl rfl rfl rfl rfl (tq g2))) ?_;refine bI (cL (js:=[(98,110),(99,111),(100,112)]) (by kernel_rfl) rfl fun _ g2 _ _ hle _=>cT rfl (kR rfl fun _ _ Wb=>kR rfl fun _ _ Sy=>bE (mE [mw,fb,gQ] rfl rfl rfl rfl rfl (by decide) (by kernel_rfl) ⟨[_],_,rfl,⟨_,rfl,(aU.mono (nP.trans hle))⟩,⟨[_],_,rfl,⟨_,rfl,Wb⟩,⟨[_],_,rfl,⟨_,rfl,Sy⟩,rfl⟩⟩⟩))) ?_;refine bI (cL (js:=[(101,113)]) (by kernel_rfl) rfl fun _ g2 _ _ _ _=>cQ fun Sz SA=>bE (iP tQ rfl rfl rfl rfl rfl (pG Sz _ g2 SA (by decide)))) ?_;refine Um [[]] [] (by kernel_rfl) rfl ?_;refine bI (cL (js:=[(102,114),(103,115)]) (by kernel_rfl) rfl fun _ g2 _ _ hle _=>cQ fun Wc SB=>cT rfl (bE (kS (o4 10) rfl rfl rfl rfl SB (aU.mono (nP.trans hle))))) ?_;refine bI (jr (js:=[(0,22),(104,116)]) (by kernel_rfl) rfl fun ρ g2 _ _ _ _ hJ=>gv rfl fun v0 _ r0=>cQ fun We SC=>bE (⟨rfl,jn (k:=11) (i:=105) (by decide) (s:=o4 10) rfl r0 hJ SC rfl rfl rfl rfl⟩)) ?_;exact zd
 intro ρ g3 hle hJ cR;refine gv rfl fun v _ hr=>bE ?_;obtain⟨b,cu,g4,h1,h2,hs,_,hM,hS⟩:=Hz hJ cR;rw[hr]at h1;obtain rfl:=Option.some.inj h1;rw[←h2];refine bj rfl ?_;exact aI (aX rfl rfl (hs.ret ⟨_,_,rfl,hM,hS⟩))
end Go.Proofs.YtgehbndkogohpaaGreatDoor
namespace Go.K
open Go Go.RowKit
variable {F:Fence} {P:Program} {N:Nat} {ds:List Deferred} {Q:Exit→Act→World→Prop} {l:Env} {o:Oper} {g0 g g':G} {L:List cS} {ρ:Nat→Option Value}
def AF(g0:G)(L:List cS)(T:TypeId)(zero:List Value)(C:List Value→G→Prop)(ia sJ:Nat)(ρ:Nat→Option Value)(g:G):Prop:=
 match ρ ia with
 |none=>St g0 g L
 |some v=> ∃b,v= .pointer (some ⟨b,0,none⟩)∧
  match ρ sJ with
  |none=>St g0 g (.obj b (.cells zero.toArray T (0,0))::L)
  |some _=> ∃cs,St g0 g (.obj b (.cells cs.toArray T (0,0))::L)∧C cs g
theorem zf{T:TypeId}{zero:List Value}{C:List Value→G→Prop}{ia sJ:Nat}(hC: ∀cs g g',g.le g'→C cs g→C cs g')(ρ:Nat→Option Value)(g g':G)(hf:a_ g g')(h:AF g0 L T zero C ia sJ ρ g):AF g0 L T zero C ia sJ ρ g':=by
 unfold AF at h⊢;cases h1:ρ ia with
 |none=>rw[h1]at h;exact h.call hf
 |some v=>
  rw[h1]at h;obtain⟨b,e,h⟩:=h;refine⟨b,e,?_⟩;cases h2:ρ sJ with
  |none=>rw[h2]at h;exact h.call hf
  |some u=>
   rw[h2]at h;obtain⟨cs,h3,h4⟩:=h;exact⟨cs,h3.call hf,hC _ _ _ hf.le h4⟩
theorem JN{T:TypeId}{zero:List Value}{C:List Value→G→Prop}{ia sJ:Nat}(hs:St g0 g L):AF g0 L T zero C ia sJ (fun _=>none) g:=hs
theorem wg{T:TypeId}{zero:List Value}{C:List Value→G→Prop}{ia sJ:Nat}{ti:TI}[dR P](fB:Nat.beq sJ ia=false)(h1:ρ ia=none)(h2:ρ sJ=none)(hJ:AF g0 L T zero C ia sJ ρ g)(ho:o.op= .alloc T)(hi:tl (dR.tb P) T=some ti)(hz:ti.zero.cells=zero.toArray):
  cD F P N ds o l g.w Q fun v w'=> ∃dc,dc.w=w'∧(g.le dc∧AF g0 L T zero C ia sJ (tr ρ ia v) dc)∧Fact.any.p v dc:=by
 unfold AF at hJ;rw[h1]at hJ;refine aK dR.ok ho hJ hi hz fun b g' hs hle=>⟨g',rfl,⟨hle,?_⟩,trivial⟩
 unfold AF;have e1:tr ρ ia (.pointer (some ⟨b,0,none⟩)) ia=some (.pointer (some ⟨b,0,none⟩)):=if_pos rfl;have e2:tr ρ ia (.pointer (some ⟨b,0,none⟩)) sJ=none:=by unfold tr;rw[if_neg (fun e=>by subst e;simp at fB)];exact h2
 rw[e1];refine⟨b,rfl,?_⟩;rw[e2];exact hs
theorem wh{T:TypeId}{zero:List Value}{C:List Value→G→Prop}{ia sJ:Nat}{ti:TI}[dR P](hC: ∀cs g g',g.le g'→C cs g→C cs g')(fB:Nat.beq sJ ia=false){p:Value}(h1:ρ ia=some p)(h2:ρ sJ=none)(hJ:AF g0 L T zero C ia sJ ρ g){x y:Operand}{v:Value}(ho:o.op= .store T x y)(hx:ev l x=some p)(hy:ev l y=some v)
  (hi:tl (dR.tb P) T=some ti) (cs:List Value) (hc:v.cells=cs.toArray) (hl:cs.length=ti.size) (hz:zero.length=ti.size) (u1:cs.all Value.oneCell'=true) (hk:C cs g):
  cD F P N ds o l g.w Q fun v w'=> ∃dc,dc.w=w'∧(g.le dc∧AF g0 L T zero C ia sJ (tr ρ sJ v) dc)∧Fact.any.p v dc:=by
 unfold AF at hJ;rw[h1]at hJ;obtain⟨b,rfl,hJ⟩:=hJ;rw[h2]at hJ;have rp:lh zero 0 cs=cs:=by unfold lh;simp[hl,←hz]
 refine az dR.ok 0 ho hJ rfl hx hy hi hc hl u1 (Nat.ble_eq_true_of_le (by omega)) rfl fun g' hs hle=>⟨g',rfl,⟨hle,?_⟩,trivial⟩
 unfold AF;have e1: ∀u,tr ρ sJ u ia=some (.pointer (some ⟨b,0,none⟩)):=fun u=>by unfold tr;rw[if_neg (fun e=>by subst e;simp at fB)];exact h1
 have e2: ∀u,tr ρ sJ u sJ=some u:=fun u=>if_pos rfl;rw[e1];refine⟨b,rfl,?_⟩;rw[e2];refine⟨cs,?_,hC _ _ _ hle hk⟩;rw[rp]at hs;exact hs
theorem Cb{T:TypeId}{zero:List Value}{C:List Value→G→Prop}{ia sJ:Nat}{p:Value}(h1:ρ ia=some p)(h2:ρ sJ≠none)(hJ:AF g0 L T zero C ia sJ ρ g): ∃b cs,p= .pointer (some ⟨b,0,none⟩)∧St g0 g (.obj b (.cells cs.toArray T (0,0))::L)∧C cs g:=by
 unfold AF at hJ;rw[h1]at hJ;obtain⟨b,e,hJ⟩:=hJ;cases hr:ρ sJ with
 |none=>exact absurd hr h2
 |some u=>rw[hr]at hJ;obtain⟨cs,h3,h4⟩:=hJ;exact⟨b,cs,e,h3,h4⟩
end Go.K
namespace Go.Proofs.YtgehbndkogohpaaGreatDoor
open Go Go.K
set_option maxRecDepth 10000
attribute [local irreducible] W WL cD bc bK bd bg bh cq ck
theorem oH{F:Fence}{P:Program}{N:Nat}{ds:List Deferred}{l:Env}{w:World}{Q:Exit→Act→World→Prop}{o:Oper}{K:Value→World→Prop}{t t':TypeId}{x y:Operand}{neg b:Bool}{xs ys:Array Value}(ho:o.op= .binOp (if neg then .neq else .eql) t x y t')(hx:ev l x=some (.agg xs))(hy:ev l y=some (.agg ys))
  (hg:P.eqGuardType P.depth t=false) (he:(Op.equal t (.agg xs) (.agg ys)).run P w= .ok b w) (k:K (.bool (neg !=b)) w):cD F P N ds o l w Q K:=by
 refine bO (fun c=>⟨by rw[ho];simp,by rw[ho];simp⟩) (fun a ha=>?_) k;have hq: ∀op,(eqGuard op t x y (.agg xs) (.agg ys)).run P w= .ok () w:=fun op=>by unfold eqGuard;split<;>simp[hg]
 have Kp:(Op.equalIn 10000 t (.agg xs) (.agg ys)).run P w= .ok b w:=he;cases neg<;>simp[execOp,ho,ha.ev hx,ha.ev hy,hq,run_eql_struct,run_neq_struct,Kp]
def tk(P:Program)(d:Nat)(xs ys:Array Value)(p:Bool×TypeId×Nat)(r:Bool):Prop:=
 p.1=false∧ ∀w,∃x y,(part p.2.1 xs p.2.2).run P w= .ok x w∧(part p.2.1 ys p.2.2).run P w= .ok y w∧(Op.equalIn d p.2.1 x y).run P w= .ok r w
def y6(P:Program)(d:Nat)(xs ys:Array Value):List (Bool×TypeId×Nat)→List Bool→Prop
 |[],[]=>True
 |p::ps,r::rs=>tk P d xs ys p r∧y6 P d xs ys ps rs
 |_,_=>False
theorem qk{P:Program}{d:Nat}{xs ys:Array Value}(w:World): ∀(fs:List Field) (ps:List (Bool×TypeId×Nat)) (rs:List Bool),fs.map (fun f=>(f.name== "_",f.type,f.offset))=ps→y6 P d xs ys ps rs→(Op.eqFields d xs ys fs).run P w= .ok (rs.all id) w
 |[],ps,rs,h,hq=>by
  subst h;cases rs with
  |nil=>simp[Op.eqFields]
  |cons r rs=>exact hq.elim
 |f::fs,ps,rs,h,hq=>by
  subst h;cases rs with
  |nil=>exact hq.elim
  |cons r rs=>
   obtain⟨⟨h1,h2⟩,h3⟩:=hq;obtain⟨x,y,e1,e2,e3⟩:=h2 w;have ih:=qk w fs _ rs rfl h3;have hn:f.name≠ "_":=by simpa using h1
   simp only[Op.eqFields,hn,ne_eq,not_false_eq_true,if_true,Sem.run_bind];rw[e1];simp only[Result.andThen_ok];rw[e2];simp only[Result.andThen_ok];rw[e3];simp only[Result.andThen_ok];cases r with
   |false=>simp
   |true=>simpa using ih
theorem nG(xs ys:Array Value)(i:Nat){a b:Int}(h1:xs[i]? =some (.int .i64 a))(h2:ys[i]? =some (.int .i64 b)):tk Tryz.prog 9999 xs ys (false,3,i) (a==b):=
 ⟨rfl,fun w=>⟨.int .i64 a,.int .i64 b,by simp[part,iX T.ok (show tl T 3=some _ from rfl),sX,h1],by simp[part,iX T.ok (show tl T 3=some _ from rfl),sX,h2],run_equalIn_int w 9998 3 .i64 .i64 a b (by kernel_rfl)⟩⟩
theorem MN(xs ys:Array Value)(i:Nat){a b:Bool}(h1:xs[i]? =some (.bool a))(h2:ys[i]? =some (.bool b)):tk Tryz.prog 9999 xs ys (false,4,i) (a==b):=
 ⟨rfl,fun w=>⟨.bool a,.bool b,by simp[part,iX T.ok (show tl T 4=some _ from rfl),sX,h1],by simp[part,iX T.ok (show tl T 4=some _ from rfl),sX,h2],run_equalIn_bool' w 9998 4 a b (by kernel_rfl)⟩⟩
theorem Rz(xs ys:Array Value)(i:Nat){a b:List UInt8}(h1:xs[i]? =some (.string (bs a)))(h2:ys[i]? =some (.string (bs b))):tk Tryz.prog 9999 xs ys (false,9,i) (a==b):=
 ⟨rfl,fun w=>⟨.string (bs a),.string (bs b),by simp[part,iX T.ok (show tl T 9=some _ from rfl),sX,h1],by simp[part,iX T.ok (show tl T 9=some _ from rfl),sX,h2],by
  rw[run_equalIn_string w 9998 9 (bs a) (bs b) (by kernel_rfl),cB,cB]⟩⟩
theorem RA(f h:bH)(w:World):(Op.equal 34 (fv f) (fv h)).run Tryz.prog w= .ok (decide (f=h)) w:=by show(Op.equalIn (9999+1) _ _ _).run _ _=_;rw[run_equalIn_struct w 9999 _ _ _ (by kernel_rfl) (by kernel_rfl)];rw[qk w _ _ [f.kind==h.kind,f.idn==h.idn,f.ver==h.ver,f.day==h.day,f.gone==h.gone,f.time==h.time,f.til==h.til,f.waf==h.waf,f.oth==h.oth,f.lot==h.lot,f.prod==h.prod,f.tool==h.tool,f.cham==h.cham,f.step==h.step,f.rcp==h.rcp,f.rvn==h.rvn,f.val==h.val,f.par==h.par,f.text==h.text] (by kernel_rfl:_=[(false,3,0),(false,3,1),(false,3,2),(false,3,3),(false,4,4),(false,3,5),(false,3,6),(false,3,7),(false,3,8),(false,3,9),(false,3,10),(false,3,11),(false,3,12),(false,3,13),(false,3,14),(false,3,15),(false,3,16),(false,3,17),(false,9,18)]) ⟨nG _ _ 0 rfl rfl,nG _ _ 1 rfl rfl,nG _ _ 2 rfl rfl,nG _ _ 3 rfl rfl,MN _ _ 4 rfl rfl,nG _ _ 5 rfl rfl,nG _ _ 6 rfl rfl,nG _ _ 7 rfl rfl,nG _ _ 8 rfl rfl,nG _ _ 9 rfl rfl,nG _ _ 10 rfl rfl,nG _ _ 11 rfl rfl,nG _ _ 12 rfl rfl,nG _ _ 13 rfl rfl,nG _ _ 14 rfl rfl,nG _ _ 15 rfl rfl,nG _ _ 16 rfl rfl,nG _ _ 17 rfl rfl,Rz _ _ 18 rfl rfl,trivial⟩];congr 1;rw[Bool.eq_iff_iff];obtain⟨a0,a1,a2,a3,a4,a5,a6,a7,a8,a9,Yq,Yr,a12,Ys,Yt,Yu,Yv,Yw,Yx⟩:=f;obtain⟨b0,b1,b2,b3,b4,b5,b6,b7,b8,b9,VD,AN,QT,Yy,RB,Yz,YA,MO,YB⟩:=h;simp[bH.mk.injEq]
end Go.Proofs.YtgehbndkogohpaaGreatDoor
namespace Go.Proofs.YtgehbndkogohpaaGreatDoor
open Go Go.K
set_option maxRecDepth 10000
attribute [local irreducible] W WL cD bc bK bd bg bh cq ck
set_option maxHeartbeats 8000000
def EJ:List Value:=[.slice none 0 0,.slice none 0 0,.nilFunc,.bool false]
def pJ(s? :Option AD)(cs:List Value)(g:G):Prop:=match s? with
 |some s=> ∃a b,cs=[a,b,.func (.func (Hc s.rest)) #[] #[],.bool s.ji]∧Rs g a s.fields∧Rs g b s.key
 |none=>cs=EJ
theorem pJ.mono{s? :Option AD}(cs:List Value)(g g':G)(hle:g.le g')(h:pJ s? cs g):pJ s? cs g':=by
 unfold pJ at h⊢;cases s? with
 |none=>exact h
 |some s=>obtain⟨a,b,e,h1,h2⟩:=h;exact⟨a,b,e,h1.mono hle,h2.mono hle⟩
theorem pJ.len{s? :Option AD}{cs:List Value}{g:G}(h:pJ s? cs g):cs.length=4∧cs.all Value.oneCell'=true:=by
 unfold pJ at h;cases s? with
 |none=>obtain rfl:cs=EJ:=h;exact⟨rfl,rfl⟩
 |some s=>
  obtain⟨a,b,rfl,h1,h2⟩:=h;obtain⟨_,_,rfl⟩:=h1.isSlice;obtain⟨_,_,rfl⟩:=h2.isSlice;exact⟨rfl,rfl⟩
def HA:Fact:=⟨fun v g=> ∃b cu,v= .map (some b)∧AS g b cu∧Hy g cu,fun v g g' hf ⟨b,cu,e,h1,h2⟩=>⟨b,cu,e,h1.mono hf.le,fun k=>by
 have:=h2 k;cases hk:dQ k with
 |none=>rw[hk]at this;exact this
 |some s=>rw[hk]at this;obtain⟨v,e,h⟩:=this;exact⟨v,e,h.mono hf.le⟩⟩⟩
theorem we:pH HA:=fun v g g' hle ⟨b,cu,e,h1,h2⟩=>⟨b,cu,e,h1.mono hle,fun k=>by
 have:=h2 k;cases hk:dQ k with
 |none=>rw[hk]at this;exact this
 |some s=>rw[hk]at this;obtain⟨v,e,h⟩:=this;exact⟨v,e,h.mono hle⟩⟩
def De(s? :Option AD)(w:Value→Value):Fact:=⟨fun v g=> ∃cs,v=w (.agg cs.toArray)∧pJ s? cs g,by rintro v g g' hf ⟨cs,e,h⟩;exact⟨cs,e,h.mono _ _ _ hf.le⟩⟩
theorem oI(s? :Option AD)(w:Value→Value):pH (De s? w):=by rintro v g g' hle ⟨cs,e,h⟩;exact⟨cs,e,h.mono _ _ _ hle⟩
theorem xz{N:Nat}{ds:List Deferred}{Q:Exit→Act→World→Prop}{g:G}{o:Oper}{l:Env}{K:Value→World→Prop}{m kk:Operand}{ok:Bool}{b:Nat}{cu:List (Int×Value)}{k:Int}(ho:o.op= .lookup 157 m kk ok)(hm:AS g b cu)(hS:Hy g cu)
  (h1:ev l m=some (.map (some b))) (h2:ev l kk=some (.int .i64 k)) (kq: ∀cs,pJ (dQ k) cs g→K (if ok then .tuple #[.agg cs.toArray,.bool (dQ k).isSome]else .agg cs.toArray) g.w):cD Wd Tryz.prog N ds o l g.w Q K:=by
 refine mF (κ:=Int) (a:=k) (zc T.ok rfl rfl rfl rfl rfl) ho hm.2 h1 h2 ?_;have:=hS k;cases hk:dQ k with
 |none=>
  rw[hk]at this kq;simp only at this;rw[this];exact kq EJ rfl
 |some s=>
  rw[hk]at this kq;obtain⟨v,e,a,b,rfl,hr⟩:=this;rw[e];exact kq _ ⟨a,b,rfl,hr⟩
theorem KI(r:Nat)(f:bH)(g:G):CallsIn Wd 0 Tryz.prog (Hc r) #[fv f] g.w (cF g fun _ v=>v= .bool (qj r f)):=
 match r with
 |0=>B9 f g
 |1=>EF f g
 |2=>Hx f g
 |_+3=>B9 f g
theorem HB: ∀r:Nat,ag Tryz.prog (Hc r)
 |0=>Jv
 |1=>NN
 |2=>NF
 |_+3=>Jv
theorem xA{k:Nat}(hk:ll k)(f:bH):vj T 3 (cg f) k=some (.int .i64 (f.num k)):=by rcases hk with rfl|rfl|rfl|rfl|rfl|rfl|rfl|rfl|rfl|rfl|rfl|rfl|rfl|rfl<;>rfl
theorem EK{k:Nat}(hk:ll k)(f:bH)(n:Int):lh (cg f) k [.int .i64 n]=cg (f.put k n)∧k<19:=by rcases hk with rfl|rfl|rfl|rfl|rfl|rfl|rfl|rfl|rfl|rfl|rfl|rfl|rfl|rfl<;>exact⟨rfl,by decide⟩
theorem mB{k:Int}{s:AD}(h:dQ k=some s):(∀x∈s.fields,ll x.at_)∧ ∀x∈s.key,ll x.at_:=by
 unfold dQ at h;split at h
 ·cases h
 have hm:=List.mem_of_getElem? h;have: ∀s∈my,(∀x∈s.fields,ll x.at_)∧ ∀x∈s.key,ll x.at_:=by unfold ll;decide
 exact this s hm
theorem sq(x:jQ)(l:List jQ)(f:bH):mz (x::l) f=if(decide (f.num x.at_<x.lo)||decide (x.hi<f.num x.at_))=true then none else mz l (f.put x.at_ 0):=rfl
theorem ze(f:bH)(g:G):CallsIn Wd 0 Tryz.prog 68 #[fv f] g.w (cF g fun _ r=>r= .bool (eC f)):=by
 have hs:=St.start g;have aq:=G.le.refl g;refine enter Tryz.func68 rfl Tryz.ntmps68 rfl ?_;apply cM;refine ak rfl rfl (aO rfl hs rfl rfl ?_);clear hs;rintro bf g1 hs ah;refine bj rfl ?_;apply aD;obtain⟨g2,bL,aT,ah,aL⟩:=hs.ba (i:=0) rfl;replace hs:=aT;clear aT;rw[←bL];have aC:=aL;clear aL;skip;apply nO (.f HA::(eQ (.f (De (dQ f.kind) fun u=> .tuple #[u,.bool (dQ f.kind).isSome]):: .f (De (dQ f.kind) fun u=> .tuple #[u,.bool (dQ f.kind).isSome]):: .f (De (dQ f.kind) id)::(fe (.f Fact.any:: .f Fact.any::[]))))) 9 [(7,3),(6,15)] [7,8] [[],[7]] (AF g [] 156 EJ (pJ (dQ f.kind)) 7 8) (zf pJ.mono) (JN hs.dr) (by kernel_rfl) ⟨we,oI _ _,oI _ _,oI _ _,dk,dk,trivial⟩
 ·refine bI (cL (js:=[]) (by kernel_rfl) rfl fun _ g2 _ _ _ _=>bE (aB rfl (au KB aJ rfl rfl rfl rfl rfl (tR g2) fun g' v hf ⟨b,cu,e,h1,h2⟩=>⟨g',rfl,hf,b,cu,e,h1,h2⟩))) ?_;refine Um [[],[1]] [.e aC 0] (by kernel_rfl) rfl ?_;refine bI (cL (js:=[(0,10),(2,12)]) (by kernel_rfl) rfl fun _ g2 _ _ _ _=>cQ fun v0 h0=>cT rfl (bE ?_)) ?_
  ·obtain⟨b,cu,rfl,h1,h2⟩:=h0;exact aB rfl (xz rfl h1 h2 rfl rfl fun cs h=>⟨g2,rfl,a_.refl _,cs,rfl,h⟩)
  refine bI (cL (js:=[(3,13)]) (by kernel_rfl) rfl fun _ g2 _ _ _ _=>cQ fun v3 h3=>bE ?_) ?_
  ·obtain⟨cs,rfl,h⟩:=h3;exact aB rfl (aN _ T.ok rfl ⟨g2,rfl,a_.refl _,cs,rfl,h⟩)
  refine bI (cL (js:=[(4,9)]) (by kernel_rfl) rfl fun _ g2 _ _ _ _=>cQ fun v3 h3=>bE ?_) ?_
  ·obtain⟨cs,rfl,h⟩:=h3;exact aB rfl (aN _ T.ok rfl ⟨g2,rfl,a_.refl _,cs,rfl,h⟩)
  refine bI (cL (js:=[(4,9)]) (by kernel_rfl) rfl fun _ g2 _ _ _ _=>cQ fun v3 h3=>bE ?_) ?_
  ·obtain⟨cs,rfl,h⟩:=h3;exact aB rfl (aN _ T.ok rfl ⟨g2,rfl,a_.refl _,rfl⟩)
  refine bI (jr (js:=[]) (by kernel_rfl) rfl fun ρ g2 h1 _ h3 _ hJ=>bE ⟨rfl,wg rfl h3 (h1 1 [7] 8 rfl rfl (by simp)) hJ rfl rfl rfl⟩) ?_;refine bI (jr (js:=[(7,3),(5,14),(5,14),(7,3)]) (by kernel_rfl) rfl fun ρ g2 _ _ h3 _ hJ=>cQ fun _ _=>cQ fun _ _=>cQ fun v5 h5=>gv rfl fun v7 _ r7=>bE ⟨rfl,?_⟩) ?_
  ·obtain⟨cs,rfl,h⟩:=h5;exact wh pJ.mono rfl r7 h3 hJ rfl rfl rfl rfl cs rfl h.len.1 rfl h.len.2 h
  exact zd
 intro ρ g3 hle hJ cR;refine gv rfl fun v7 _ r7=>cT rfl (bE ?_);obtain⟨b3,cs,rfl,hs,hO⟩:=Cb r7 (cR 8 rfl) hJ;clear hJ cR r7;have ah:=(G.bu _).trans hle;replace aC:=aC.mono ah;clear hle ρ;refine bj rfl ?_;apply aD;refine cN 3 rfl ?_;cases nN:dQ f.kind with
 |none=>
  refine bj rfl ?_;refine aM rfl rfl ?_;refine aY rfl ?_;refine aI ?_;apply eD;refine aX rfl rfl (hs.ret ?_);unfold eC;rw[nN]
 |some s=>
  rw[nN]at hO;obtain⟨ka,kb,rfl,eh,ku⟩:=hO;obtain⟨fa,fc,rfl⟩:=eh.isSlice;refine Wm 5 [.z aC] (St.start _) rfl ?_;refine cp (want:=false) (x:=decide (1000000<f.ver)) 3 aJ rfl rfl rfl rfl (.inr ⟨rfl,rfl,rfl⟩) rfl rfl rfl rfl (fun hb Q' eG=>?_) (fun g' hf=>?_)
  ·refine Wm 3 [.z aC] (St.start _) rfl ?_;apply aE;exact fun a ha=>eG _ a (a_.refl _) (ha.keep (by(repeat (first|exact trivial|refine⟨rfl,?_⟩))))
  replace hs:=hs.call hf;have ah:=hf.le;obtain⟨aC,eh⟩:=cf ah aC eh;refine Wp 1 rfl ?_;refine cp (want:=false) (x:=decide (f.day<0)) 3 aJ rfl rfl rfl rfl (.inr ⟨rfl,rfl,rfl⟩) rfl rfl rfl rfl (fun hb Q' eG=>?_) (fun g' hf=>?_)
  ·refine Wm 3 [.z aC] (St.start _) rfl ?_;apply aE;exact fun a ha=>eG _ a (a_.refl _) (ha.keep (by(repeat (first|exact trivial|refine⟨rfl,?_⟩))))
  replace hs:=hs.call hf;have ah:=hf.le;obtain⟨aC,eh⟩:=cf ah aC eh;refine Wp 1 rfl ?_;refine cp (want:=false) (x:=decide (100000<f.day)) 3 aJ rfl rfl rfl rfl (.inr ⟨rfl,rfl,rfl⟩) rfl rfl rfl rfl (fun hb Q' eG=>?_) (fun g' hf=>?_)
  ·refine Wm 3 [.z aC] (St.start _) rfl ?_;apply aE;exact fun a ha=>eG _ a (a_.refl _) (ha.keep (by(repeat (first|exact trivial|refine⟨rfl,?_⟩))))
  replace hs:=hs.call hf;have ah:=hf.le;obtain⟨aC,eh⟩:=cf ah aC eh;refine Wp 1 rfl ?_;refine cp (want:=false) (x:=decide (8192<((bs f.text).size:Int))) 4 aJ rfl rfl rfl rfl (.inr ⟨rfl,rfl,rfl⟩) rfl rfl rfl rfl (fun hb Q' eG=>?_) (fun g' hf=>?_)
  ·refine Wm 4 [.z aC] (St.start _) rfl ?_;apply aE;exact fun a ha=>eG _ a (a_.refl _) (ha.keep (by(repeat (first|exact trivial|refine⟨rfl,?_⟩))))
  replace hs:=hs.call hf;have ah:=hf.le;obtain⟨aC,eh⟩:=cf ah aC eh;refine Wp 1 rfl ?_;refine cp (want:=false) (x:=!qj s.rest f) 5 aJ rfl rfl rfl rfl (.inr ⟨rfl,rfl,rfl⟩) rfl rfl rfl rfl (fun hb Q' eG=>?_) (fun g' hf=>?_)
  ·refine Wm 3 [.o 0,.z aC] hs rfl ?_;refine ak rfl rfl (eE rfl rfl rfl rfl rfl rfl (cW (first:=#[]) (captured:=#[]) (args:=[fv f]) (HB s.rest) rfl (KI s.rest f _)) ?_);rintro g4 _ ki rfl;refine Wp 1 rfl ?_;apply aE;intro a ha;exact eG g4 a ki (ha.keep (by(repeat (first|exact trivial|refine⟨rfl,?_⟩))))
  replace hs:=hs.call hf;have ah:=hf.le;obtain⟨aC,eh⟩:=cf ah aC eh;apply bW;have fu:eC f=if(decide (f.ver<1)||decide (1000000<f.ver)||decide (f.day<0)||decide (100000<f.day)||decide (8192<(f.text.length:Int))|| !qj s.rest f)=true then false
    else match mz s.fields f with
     |none=>false
     |some g=>decide ((if s.ji then {g with text:=[]}else g)=pE f):=by simp only[eC,nN];rfl
  by_cases hc:(decide (f.ver<1)||decide (1000000<f.ver)||decide (f.day<0)||decide (100000<f.day)||decide (8192<(f.text.length:Int))|| !qj s.rest f)=true
  ·refine aM (b:=_) ?_ rfl ?_
   ·simpa [fC]using hc
   refine aY rfl ?_;refine aI ?_;apply eD;refine aX rfl rfl (hs.ret ?_);rw[fu,if_pos hc]
  refine aV (b:=_) ?_ rfl ?_
  ·have vr:=Bool.eq_false_iff.2 hc;simpa [fC]using vr
  rw[if_neg hc]at fu;clear hc;apply aF;apply ar;refine dz 1 [.z aC] (St.start _) rfl ?_;refine ak rfl rfl (aK T.ok rfl hs rfl rfl ?_);clear hs;rintro bw g1 hs ah;obtain⟨aC,eh⟩:=cf ah aC eh;skip;refine bA rfl (az T.ok 0 rfl hs rfl rfl rfl rfl rfl rfl rfl rfl rfl ?_);replace hs:=hs;rintro g1 hs ah;obtain⟨aC,eh⟩:=cf ah aC eh;apply bW;apply aD;refine l_ [.o 1] hs rfl ?_;apply aG;have hs:St g g1 [.obj bw (.cells (cg f).toArray 34 (0,0)),.obj b3 (.cells #[.slice fa s.fields.length fc,kb,.func (.func (Hc s.rest)) #[] #[],.bool s.ji] 156 (0,0))]:=hs;have OS:=(mB nN).1;have hlen:=eh.dJ;unfold maxLen at hlen;have SD:=eh;have QW:=aC;have cC:=G.le.refl g1;refine bM (fun m a' w=> ∃(k:Nat) (h:bH) (g':G),w=g'.w∧St g g' [.obj bw (.cells (cg h).toArray 34 (0,0)),.obj b3 (.cells #[.slice fa s.fields.length fc,kb,.func (.func (Hc s.rest)) #[] #[],.bool s.ji] 156 (0,0))]∧G.le g1 g'∧
    k≤s.fields.length∧m=s.fields.length-k∧mz s.fields f=mz (s.fields.drop k) h∧
    Fr 93 [] [(1,.pointer (some ⟨bf,0,none⟩)),(3,.pointer (some ⟨b3,0,none⟩)),(5,.pointer (some ⟨bw,0,none⟩)),(53,.slice fa s.fields.length fc),(54,.int .i64 s.fields.length),(55,.int .i64 k)] a') s.fields.length
   (fun a' ha=>⟨0,f,g1,rfl,hs,cC,Nat.zero_le _,rfl,rfl,ha.keep (by(repeat (first|exact trivial|refine⟨rfl,?_⟩)))⟩) ?_
  clear hs cC eh aC;rintro m a' _ ⟨k,h,g',rfl,hs,cC,hk,rfl,dx,eF⟩;have eh:=SD.mono cC;have aC:=QW.mono cC;revert a';apply cI;refine aY rfl ?_;apply aD;by_cases bC:k<s.fields.length
  ·refine aM (b:=decide ((k:Int)<(s.fields.length:Int))) (by simp;omega) rfl ?_;have tS:=OS _ (List.getElem_mem bC);have jG:=cZ (n:=((k:Nat):Int)) rfl bC;rw[←List.getElem_cons_drop bC]at dx;rw[sq]at dx;generalize s.fields[k]=x at*;apply aF;apply ar;apply aD;apply aG;apply cM;refine ak rfl rfl (aW T.ok rfl eh (y:=x) jG rfl rfl rfl rfl rfl rfl ?_);rintro bq pq ys aL rfl;refine Wm 1 [.e aL 0] (St.start _) rfl ?_;skip;refine ak rfl rfl (aK T.ok rfl hs rfl rfl ?_);clear hs;rintro bx g1 hs ah;obtain⟨cC,aC⟩:=cf ah cC aC;skip;refine bA rfl (az T.ok 0 rfl hs rfl rfl rfl rfl rfl rfl rfl rfl rfl ?_);replace hs:=hs;rintro g1 hs ah;obtain⟨cC,aC⟩:=cf ah cC aC;apply bW;refine dz 2 [.o 0] hs rfl ?_;refine ak rfl rfl (eE rfl rfl rfl rfl rfl rfl (cW (first:=#[]) (captured:=#[]) (args:=[.pointer (some ⟨bw,0,none⟩)]) (EE tS) rfl (JK tS bw _)) ?_);rintro g4 _ ki rfl;replace hs:=hs.call ki;have ah:=ki.le;obtain⟨cC,aC⟩:=cf ah cC aC;refine bj rfl ?_;apply aD;apply aD;by_cases zg:h.num x.at_<x.lo
   ·apply bP hs (eO (iY (eQ []))) 14 [(13,75)] (by kernel_rfl) rfl
    ·refine Dx [[],[0]] (by kernel_rfl) rfl ?_;refine ay (an (js:=[(1,63)]) (by kernel_rfl) fun gd hf=>?_) ?_
     ·exact ai rfl (aj (aB rfl (e_ T.ok 1 rfl (hs.dr.call hf) rfl rfl (xA tS h) ⟨_,rfl,a_.refl _,rfl⟩)))
     refine Dm [[],[3]] [.o 0] hs (by kernel_rfl) rfl ?_;refine ay (an (js:=[(2,64),(4,66)]) (by kernel_rfl) fun gd hf=>?_) ?_
     ·exact ai rfl (ai rfl (aj (aB rfl (aN _ T.ok rfl ⟨_,rfl,a_.refl _,congrArg Value.bool (decide_eq_true zg)⟩))))
     exact Dy [[5],[6],[7,6],[8,6],[6],[10,6],[9,11,6],[6,12]] (by kernel_rfl) rfl
    clear hs;intro g5 hs ah;obtain⟨cC,aC⟩:=cf ah cC aC;apply bW;refine aM rfl rfl ?_;refine aY rfl ?_;refine aI ?_;apply eD;apply hQ;apply eD;apply eD;apply hQ;apply eD;refine aX rfl rfl (hs.ret ?_);rw[fu,dx,if_pos (by simp[zg])]
   apply bP hs (eO (iY (eQ []))) 14 [(13,75)] (by kernel_rfl) rfl
   ·refine Dx [[],[0]] (by kernel_rfl) rfl ?_;refine ay (an (js:=[(1,63)]) (by kernel_rfl) fun gd hf=>?_) ?_
    ·exact ai rfl (aj (aB rfl (e_ T.ok 1 rfl (hs.dr.call hf) rfl rfl (xA tS h) ⟨_,rfl,a_.refl _,rfl⟩)))
    refine Dm [[],[3]] [.o 0] hs (by kernel_rfl) rfl ?_;refine ay (an (js:=[(2,64),(4,66)]) (by kernel_rfl) fun gd hf=>?_) ?_
    ·exact ai rfl (ai rfl (aj (aB rfl (aN _ T.ok rfl ⟨_,rfl,a_.refl _,congrArg Value.bool (decide_eq_false zg)⟩))))
    refine Dx [[5],[6],[7,6]] (by kernel_rfl) rfl ?_;refine ay (an (js:=[(8,70),(6,68)]) (by kernel_rfl) fun gd hf=>?_) ?_
    ·exact ai rfl (ai rfl (aj (aB rfl (e_ T.ok 1 rfl (hs.dr.call hf) rfl rfl (xA tS h) ⟨_,rfl,a_.refl _,rfl⟩))))
    exact Dz [[6],[10,6],[9,11,6],[6,12]] [.o 0] hs (by kernel_rfl) rfl
   clear hs;intro g5 hs ah;obtain⟨cC,aC⟩:=cf ah cC aC;apply bW;by_cases AG:x.hi<h.num x.at_
   ·refine aM (b:=decide (x.hi<h.num x.at_)) (decide_eq_true AG) rfl ?_;refine aY rfl ?_;refine aI ?_;apply eD;apply hQ;apply eD;apply eD;apply hQ;apply eD;refine aX rfl rfl (hs.ret ?_);rw[fu,dx,if_pos (by simp[AG])]
   refine aV (b:=decide (x.hi<h.num x.at_)) (decide_eq_false AG) rfl ?_;rw[if_neg (by simp[zg,AG])]at dx;apply aF;apply ar;apply aA;refine Wp 2 rfl ?_;refine bA rfl (az T.ok 1 rfl hs rfl rfl rfl rfl rfl rfl rfl (Nat.ble_eq_true_of_le (EK tS h 0).2) (EK tS h 0).1 ?_);clear hs;intro g6 hs ah;obtain⟨cC,aC⟩:=cf ah cC aC;replace hs:=hs.drop 0;apply aE;apply bR;apply ar;apply aA;refine Wp 2 rfl ?_;apply aE;exact fun a ha=>⟨s.fields.length-(k+1),by omega,k+1,h.put x.at_ 0,_,rfl,hs,cC,by omega,rfl,dx,ha.keep ⟨rfl,rfl,rfl,rfl,rfl,kI rfl (by rw[wr (by omega) (by omega)];omega),trivial⟩⟩
  refine aV (b:=decide ((k:Int)<(s.fields.length:Int))) (by simp;omega) rfl ?_;rw[List.drop_of_length_le (by omega)]at dx;rw[dx]at fu;have fu:eC f=decide ((if s.ji then {h with text:=[]}else h)=pE f):=fu;apply bF;apply bG;apply bG;apply c_;apply ar;apply aD;refine l_ [.o 1] hs rfl ?_;cases ht:s.ji with
  |true=>
   refine aM rfl rfl ?_;apply aA;refine Wp 1 rfl ?_;refine bA rfl (az T.ok 0 rfl hs rfl rfl rfl rfl rfl rfl rfl rfl rfl ?_);replace hs:=hs;rintro g1 hs ah;replace aC:=aC.mono ah;have hs:St g g1 [.obj bw (.cells (cg {h with text:=[]}).toArray 34 (0,0)),.obj b3 (.cells #[.slice fa s.fields.length fc,kb,.func (.func (Hc s.rest)) #[] #[],.bool s.ji] 156 (0,0))]:=hs;apply bW;refine dz 9 [.o 0,.z aC,.z aC,.z aC,.z aC] hs rfl ?_;refine ak rfl rfl (aQ T.ok rfl (vs:=[(0,.int .i64 f.kind),(2,.int .i64 f.ver),(3,.int .i64 f.day),(4,.bool f.gone)]) (cells:=cg (pE f)) rfl rfl rfl rfl [(0,1),(1,1),(2,1),(3,1),(4,1),(5,1),(6,1),(7,1),(8,1),(9,1),(10,1),(11,1),(12,1),(13,1),(14,1),(15,1),(16,1),(17,1),(18,1)] rfl (by kernel_rfl) ?_);refine ak rfl rfl (oH (neg:=false) rfl rfl rfl (by kernel_rfl) (RA {h with text:=[]} (pE f) _) ?_);refine bj rfl ?_;refine aI (aX rfl rfl (hs.ret ?_));rw[fu,ht];simp
  |false=>
   refine aV rfl rfl ?_;apply aF;apply ar;refine dz 9 [.o 0,.z aC,.z aC,.z aC,.z aC] hs rfl ?_;refine ak rfl rfl (aQ T.ok rfl (vs:=[(0,.int .i64 f.kind),(2,.int .i64 f.ver),(3,.int .i64 f.day),(4,.bool f.gone)]) (cells:=cg (pE f)) rfl rfl rfl rfl [(0,1),(1,1),(2,1),(3,1),(4,1),(5,1),(6,1),(7,1),(8,1),(9,1),(10,1),(11,1),(12,1),(13,1),(14,1),(15,1),(16,1),(17,1),(18,1)] rfl (by kernel_rfl) ?_);refine ak rfl rfl (oH (neg:=false) rfl rfl rfl (by kernel_rfl) (RA h (pE f) _) ?_);refine bj rfl ?_;refine aI (aX rfl rfl (hs.ret ?_));rw[fu,ht];simp
end Go.Proofs.YtgehbndkogohpaaGreatDoor
namespace Go.Proofs.YtgehbndkogohpaaGreatDoor
open Go Go.K
theorem Hr{i j:Nat}(hi:ll i)(hj:ll j)(f:bH)(n:Int):(f.put i n).num j=if j=i then n else f.num j:=by
 rcases hi with rfl|rfl|rfl|rfl|rfl|rfl|rfl|rfl|rfl|rfl|rfl|rfl|rfl|rfl<;>
 rcases hj with rfl|rfl|rfl|rfl|rfl|rfl|rfl|rfl|rfl|rfl|rfl|rfl|rfl|rfl<;>rfl
theorem ql: ∀(l:List jQ) (f g:bH),(l.map (·.at_)).Nodup→(∀x∈l,ll x.at_)→mz l f=some g→ ∀x∈l,x.lo≤f.num x.at_∧f.num x.at_≤x.hi
 |[],_,_,_,_,_,x,hx=>by simp at hx
 |y::l,f,g,hn,hf,h,x,hx=>by
  rw[sq]at h;split at h
  ·cases h
  rename_i hc;simp only[Bool.or_eq_true,decide_eq_true_eq,not_or]at hc;simp only[List.map_cons,List.nodup_cons]at hn;rcases List.mem_cons.1 hx with rfl|hx
  ·omega
  have ih:=ql l _ _ hn.2 (fun z hz=>hf z (List.mem_cons_of_mem _ hz)) h x hx;rw[Hr (hf y (List.mem_cons_self ..)) (hf x (List.mem_cons_of_mem _ hx)),if_neg (fun e=>hn.1 (by rw[←e];exact List.mem_map.2 ⟨x,hx,rfl⟩))]at ih;exact ih
theorem nH{k:Int}{s:AD}(h:dQ k=some s):(s.fields.map (·.at_)).Nodup∧(∀x∈s.fields,-10000000≤x.lo∧x.hi≤10000000)∧(∀x∈s.key,∃y∈s.fields,y.at_=x.at_)∧s.key.length≤2∧s.key≠[]∧s.fields.length≤11∧1≤k∧k≤11:=by
 unfold dQ at h;split at h
 ·cases h
 rename_i hk;have bC:=(List.getElem?_eq_some_iff.1 h).1;have hl:my.length=11:=rfl;have hm:=List.mem_of_getElem? h;have: ∀s∈my,(s.fields.map (·.at_)).Nodup∧(∀x∈s.fields,-10000000≤x.lo∧x.hi≤10000000)∧(∀x∈s.key,∃y∈s.fields,y.at_=x.at_)∧s.key.length≤2∧s.key.length≠0∧s.fields.length≤11:=by decide
 obtain⟨h1,h2,h3,h4,h5,h6⟩:=this s hm;exact⟨h1,h2,h3,h4,fun e=>h5 (by rw[e];rfl),h6,by omega,by omega⟩
theorem ln{f:bH}(h:eC f=true): ∃s,dQ f.kind=some s∧(∀x∈s.fields,x.lo≤f.num x.at_∧f.num x.at_≤x.hi)∧(∀x∈s.fields,qm (f.num x.at_))∧(∀x∈s.key,qm (f.num x.at_))∧1≤f.ver∧f.ver≤1000000∧0≤f.day∧f.day≤100000∧(f.text.length:Int)≤8192∧qj s.rest f=true:=by
 unfold eC at h;cases hs:dQ f.kind with
 |none=>rw[hs]at h;cases h
 |some s=>
  rw[hs]at h;simp only at h;split at h
  ·cases h
  rename_i hc;simp only[Bool.or_eq_true,decide_eq_true_eq,not_or,Bool.not_eq_true',Bool.not_eq_false]at hc;obtain⟨h1,h2,h3,_⟩:=nH hs;cases fr:mz s.fields f with
  |none=>rw[fr]at h;cases h
  |some g=>
   have hr:=ql _ _ _ h1 (mB hs).1 fr;have hi: ∀x∈s.fields,qm (f.num x.at_):=fun x hx=>by have:=hr x hx;have:=h2 x hx;unfold qm;omega
   refine⟨s,rfl,hr,hi,fun x hx=>?_,by omega,by omega,by omega,by omega,by omega,hc.2⟩;obtain⟨y,hy,e⟩:=h3 x hx;rw[←e];exact hi y hy
end Go.Proofs.YtgehbndkogohpaaGreatDoor
namespace Go.K
open Go Go.RowKit
variable {F:Fence} {P:Program} {N:Nat} {ds:List Deferred} {l l':Env} {a:Act} {w:World} {Q:Exit→Act→World→Prop} {ops:Array Oper} {os:List Oper} {o:Oper}
variable {g0 g:G} {L L':List cS} {K:Value→World→Prop} {R:Ending→World→Prop}
theorem vQ{tb:Tb}(dq:tb.ok P){t e ty:Nat}{ti ei:TI}{sa:Addr}{sc:Nat}{v:Value}{xs ys:List UInt8}{Lr:List cS}(hb:ma e v xs Lr)(hs:St g0 g (Lr++L))
  (hi:tl tb t=some ti) (hd:ti.desc= .slice e) (hj:tl tb e=some ei) (hk:ei.size=1) (tD:ei.bytes=1) (hz:ei.zero= .int .u8 0) (g_: ∀j u,(ez ys)[j]? =some u→g.w.cell? (sa.add j)=some u) (QE:ys.length≠0) (hlen:xs.length+ys.length≤140737488355328):
  ∃v' vt g',(Builtin.append_ #[t,t] ty #[v,.slice (some sa) ys.length sc]).run P g.w= .ok v' g'.w∧ma e v' (xs++ys) vt∧St g0 g' (vt++L)∧g.le g':=by
 obtain⟨⟨dd,Ho,he⟩,_⟩:=dq.at hi;rw[hd]at he;obtain rfl:=KD.of_slice he;obtain⟨_,inf,e1,e2,e3,e4⟩:=dq.at hj;rw[hk]at e2;rw[tD]at e3;rw[hz]at e4;have Fv:=mV ys;have RD: ∀u∈ez ys,u.oneCell'=true:=by intro u hu;obtain⟨c,_,rfl⟩:=List.mem_map.1 hu;rfl
 have HT:xs.length+ys.length≤maxLen:=by unfold maxLen;omega
 have Gg: ∀(Bo:Nat) (cs:List Value),cs.length=xs.length+ys.length→Bo<xs.length+ys.length→cs=ez (xs++ys)→
   ma e (.slice (some ⟨g.w.heap.size,0,none⟩) (xs.length+ys.length) (grownCap g.w (xs.length+ys.length) Bo e)) (xs++ys)
    [.obj g.w.heap.size (.cells (cs.toArray++Builtin.zeroCells (Value.int .u8 0).cells (grownCap g.w (xs.length+ys.length) Bo e-(xs.length+ys.length))) e (0,0))]:=by
  intro Bo cs fr ho hc;have Hj:=grownCap_ge g.w (xs.length+ys.length) Bo e;have sB:grownCap g.w (xs.length+ys.length) Bo e≤maxLen:=grownCap_le_maxLen g.w (xs.length+ys.length) Bo e HT;refine .inr ⟨_,_,_,by rw[List.length_append],rfl,by rw[List.length_append];exact Hj,sB,?_,?_⟩
  ·have TH:(Value.int IntKind.u8 0).cells.size=1:=rfl;simp only[Array.size_append,List.size_toArray,size_zeroCells,TH,fr];omega
  rw[←hc,List.length_append,←fr];simp only[Array.toList_append];exact List.take_left
 rcases hb with⟨rfl,rfl,rfl⟩|⟨br,cap,cur,rfl,rfl,o7,sB,nY,fP⟩
 ··have hr:=run_append_nil (P:=P) g.w t ty e inf (.int .u8 0) Ho e1 e4 sa ys.length sc (ez ys) (by rw[e2,Fv];omega) g_ (by omega) (by omega) (by rw[e3];omega)
   have Ek:=Gg 0 (ez ys) (by simp[ez]) (by simp only[List.length_nil];omega) (by simp);simp only[List.length_nil,Nat.zero_add]at Ek;have hg:g.w.grownBy (g.w.drew.alloc (.cells ((ez ys).toArray++Builtin.zeroCells (Value.int .u8 0).cells (grownCap g.w ys.length 0 e-ys.length)) e)) none:=⟨rfl,rfl,rfl,by simp,fun k hk _=>heap_alloc_old g.w.drew _ k hk⟩
   let g':G:=⟨_,g.im,fun b h=>Nat.lt_of_lt_of_le (g.lt b h) hg.size⟩
   have dH:=hs.add (g':=g') (e':=.obj g.w.heap.size (.cells ((ez ys).toArray++Builtin.zeroCells (Value.int .u8 0).cells (grownCap g.w ys.length 0 e-ys.length)) e)) hg (fun _ _=>Iff.rfl)
    ⟨hs.below.size,heap_alloc_new g.w.drew _,fun h=>by have:=g.lt _ h;omega⟩ (fun b hb=>by simp only[cS.s5,Option.some.injEq]at hb;omega)
   exact⟨_,_,g',hr,Ek,dH.1,dH.2⟩
 have dT:=hs.own 0 _ rfl;have hh:g.w.heap[br]? =some (.cells cur e (0,0)):=dT.2.1;by_cases wX:xs.length+ys.length≤cap
 ·have hr:=run_append_room (P:=P) g.w t ty e inf Ho e1 br xs.length cap cur hh sa ys.length sc (ez ys) (by rw[e2,Fv];omega) g_ RD wX (by rw[e2,Fv];omega);rw[e2,Fv,Nat.mul_one]at hr;have dH:=hs.sr (i:=0) (cs':=(cur.toList.take xs.length++ez ys++cur.toList.drop (xs.length+ys.length)).toArray) rfl;refine⟨_,_,_,hr,.inr ⟨br,cap,_,by rw[List.length_append],rfl,by rw[List.length_append];exact wX,sB,?_,?_⟩,dH.1,dH.2⟩
  ·simp only[List.size_toArray,List.length_append,List.length_take,List.length_drop,Array.length_toList,mV];omega
  rw[fP,DT,show(xs++ys).length=(ez xs++ez ys).length from by simp[ez]];exact List.take_left
 have holds: ∀j u,(ez xs)[j]? =some u→g.w.cell? ((⟨br,0,none⟩:Addr).add j)=some u:=by intro j u TJ;have hj:=(List.getElem?_eq_some_iff.1 TJ).1;rw[mV]at hj;rw[←fP,List.getElem?_take_of_lt hj,Array.getElem?_toList]at TJ;rw[Addr.add_lit];simp[World.cell?,hh,TJ]
 have hr:=run_append_grow (P:=P) g.w t ty e inf (.int .u8 0) Ho e1 e4 ⟨br,0,none⟩ xs.length cap (ez xs) (by rw[e2,mV];omega) holds sa ys.length sc (ez ys) (by rw[e2,Fv];omega) g_ (by omega) (by omega) (by rw[e3];exact growslice_fits (by omega) (by omega));rw[show(ez xs).toArray++(ez ys).toArray=(ez (xs++ys)).toArray from by simp[ez]]at hr;have Ek:=Gg cap (ez (xs++ys)) (by simp[ez]) (by omega) rfl;have hg:g.w.grownBy (g.w.drew.alloc (.cells ((ez (xs++ys)).toArray++Builtin.zeroCells (Value.int .u8 0).cells (grownCap g.w (xs.length+ys.length) cap e-(xs.length+ys.length))) e)) (some br):=⟨rfl,rfl,rfl,by simp,fun k hk _=>heap_alloc_old g.w.drew _ k hk⟩
 let g':G:=⟨_,g.im,fun b h=>Nat.lt_of_lt_of_le (g.lt b h) hg.size⟩
 have dH:=hs.Hn (i:=0) (e:=.obj br (.cells cur e (0,0))) (g':=g') (e':=.obj g.w.heap.size (.cells ((ez (xs++ys)).toArray++Builtin.zeroCells (Value.int .u8 0).cells (grownCap g.w (xs.length+ys.length) cap e-(xs.length+ys.length))) e)) rfl hg (fun _ _=>Iff.rfl)
  ⟨hs.below.size,heap_alloc_new g.w.drew _,fun h=>by have:=g.lt _ h;omega⟩ (fun b hb=>by simp only[cS.s5,Option.some.injEq]at hb;right;omega)
 exact⟨_,_,g',hr,Ek,dH.1,dH.2⟩
theorem xc{tb:Tb}(dq:tb.ok P){t e:Nat}{ti ei:TI}{sa:Addr}{sc:Nat}{s x:Operand}{v:Value}{xs ys:List UInt8}{Lr:List cS}(ho:o.op= .call {callee:=.builtin .append,args:=#[s,x],argTypes:=#[t,t]})
  (hb:ma e v xs Lr) (hs:St g0 g (Lr++L)) (hv:ev l s=some v) (hx:ev l x=some (.slice (some sa) ys.length sc)) (g_: ∀j u,(ez ys)[j]? =some u→g.w.cell? (sa.add j)=some u) (QE:ys.length≠0)
  (hi:tl tb t=some ti) (hd:ti.desc= .slice e) (hj:tl tb e=some ei) (hk:ei.size=1) (tD:ei.bytes=1) (hz:ei.zero= .int .u8 0) (hlen:xs.length+ys.length≤140737488355328)
  (kk: ∀v' vt g',ma e v' (xs++ys) vt→St g0 g' (vt++L)→g.le g'→K v' g'.w):cD F P N ds o l g.w Q K:=by
 obtain⟨v',vt,g',iU,h1,h2,h3⟩:=vQ (sc:=sc) (ty:=o.type) dq hb hs hi hd hj hk tD hz g_ QE hlen;refine eZ ho (w':=g'.w) (fun a ha=>?_) (kk v' vt g' h1 h2 h3);simp[resolve,invoke,builtin,ha.ev hv,ha.ev hx,iU]
end Go.K
namespace Go.K
open Go Go.RowKit
variable {F:Fence} {P:Program} {N:Nat} {ds:List Deferred} {l:Env} {w:World} {Q:Exit→Act→World→Prop} {o:Oper} {g0 g:G} {L:List cS} {K:Value→World→Prop}
theorem vO{x:Operand}{ts:Array TypeId}{ad:Addr}{n c:Nat}(ho:o.op= .call {callee:=.builtin .unsafeSliceData,args:=#[x],argTypes:=ts})(hx:ev l x=some (.slice (some ad) n c))(hc:c≠0)(k:K (.pointer (some ad)) w):cD F P N ds o l w Q K:=
 eZ ho (fun a ha=>by have:=Lib.run_unsafeSliceData_row (P:=P) (w:=w) ts o.type ad n c hc;simp[resolve,invoke,builtin,ha.ev hx,this]) k
theorem nb(w:World)(b n:Nat):w.grownBy (w.freeze ⟨b,0,none⟩ n) (some b):=by
 unfold World.freeze;split
 ·exact jx _ _
 exact⟨rfl,rfl,rfl,by simp,fun k _ fB=>by simp only[Array.getElem?_modify];rw[if_neg (fun e=>fB (by rw[←e]))]⟩
theorem vP{x y:Operand}{pt it e:TypeId}{br cap:Nat}{cur:Array Value}{xs:List UInt8}(i:Nat)(hs:St g0 g L)(hi:L[i]? =some (.obj br (.cells cur e (0,0))))(ho:o.op= .call {callee:=.builtin .unsafeString,args:=#[x,y],argTypes:=#[pt,it]})
  (hx:ev l x=some (.pointer (some ⟨br,0,none⟩))) (hy:ev l y=some (.int .i64 xs.length)) (h0:xs≠[]) (Xw:P.underlying pt=some (.pointer e)) (Tg:P.cellsOf e=1) (hn:xs.length≤cap) (sB:cap≤maxLen) (nY:cur.size=cap) (fP:cur.toList.take xs.length=ez xs)
  (k: ∀g',St g0 g' (L.eraseIdx i)→g.le g'→K (.string (bs xs)) g'.w):cD F P N ds o l g.w Q K:=by
 have dT:=hs.own i _ hi;have hh:=dT.2.1;have iU:=Lib.run_unsafeString_row (P:=P) (w:=g.w) pt it o.type e Xw Tg br cap (by simp[World.shape?,hh,nY]) xs h0 hn (by unfold maxLen at sB;omega) (fun j x hj=>by
  have s_:(ez xs)[j]? =some (.int .u8 (x.toNat:Int)):=by simp[ez,hj]
  rw[←fP,List.getElem?_take]at s_;split at s_
  ·rw[Addr.add_lit];simp only[World.cell?,hh,Nat.zero_add];simpa using s_
  cases s_)
 let g':G:=⟨g.w.freeze ⟨br,0,none⟩ xs.length,g.im,fun b h=>Nat.lt_of_lt_of_le (g.lt b h) (nb g.w br xs.length).size⟩
 have bC:br<g.w.heap.size:=(Array.getElem?_eq_some_iff.1 hh).1;obtain⟨o',pn⟩: ∃o',g'.w.heap[br]? =some o':=⟨g'.w.heap[br]'(Nat.lt_of_lt_of_le bC (nb g.w br xs.length).size),Array.getElem?_eq_getElem _⟩
 have dH:=hs.Hn (g':=g') (e':=.obj br o') hi (nb g.w br xs.length) (fun _ _=>Iff.rfl) ⟨dT.1,pn,dT.2.2⟩ (fun b hb=> .inl hb);have Fi:=dH.1.drop i;rw[List.eraseIdx_set_eq]at Fi;refine eZ (w':=g'.w) ho (fun a ha=>?_) (k g' Fi dH.2);simp[resolve,invoke,builtin,ha.ev hx,ha.ev hy,iU];exact⟨rfl,rfl⟩
end Go.K
namespace Go.Proofs.YtgehbndkogohpaaGreatDoor
open Go Go.K
set_option maxRecDepth 10000
attribute [local irreducible] W WL cD bc bK bd bg bh cq ck
theorem jD(n lo hi:Int)(g:G):CallsIn Wd 0 Tryz.prog 119 #[.int .i64 n,.int .i64 lo,.int .i64 hi] g.w (cF g fun _ v=>v= .bool (within n lo hi)):=by
 have hs:=St.start g;refine enter Tryz.func119 rfl Tryz.ntmps119 rfl ?_;refine aY rfl ?_;refine cN 4 rfl ?_;refine cp (want:=true) (x:=decide (n≤hi)) 3 aJ rfl rfl rfl rfl (.inl ⟨rfl,rfl,rfl⟩) rfl rfl rfl rfl (fun hb Q' eG=>?_) (fun g' hf=>?_)
 ·refine Wp 3 rfl ?_;apply aE;exact fun a ha=>eG _ a (a_.refl _) (ha.keep (by(repeat (first|exact trivial|refine⟨rfl,?_⟩))))
 replace hs:=hs.call hf;refine bj rfl ?_;exact aI (aX rfl rfl (hs.ret rfl))
theorem xk(l:List Int)(lo hi:Int)(k:Nat)(h:k<l.length):
  (if k=0 then ascending l lo hi else iF lo hi (l.getD (k-1) 0) (l.drop k))=(within l[k] lo hi&&(decide (k=0)||decide (l.getD (k-1) 0<l[k]))&&iF lo hi l[k] (l.drop (k+1))):=by
 by_cases hk:k=0
 ·subst hk;cases l with
  |nil=>simp at h
  |cons n r=>simp[ascending]
 rw[if_neg hk,List.drop_eq_getElem_cons h];simp[iF,hk]
theorem sU(v:Value)(l:List Int)(lo hi:Int)(g:G)(hl:Rs g v l):
  CallsIn Wd 0 Tryz.prog 225 #[v,.int .i64 lo,.int .i64 hi] g.w (cF g fun _ r=>r= .bool (ascending l lo hi)):=by
 obtain⟨a,c,rfl⟩:=hl.isSlice;have hlen:=hl.dJ;unfold maxLen at hlen;have hs:=St.start g;refine enter Tryz.func225 rfl Tryz.ntmps225 rfl ?_;refine aY rfl ?_;apply aD;refine aY rfl ?_;apply aG;refine bM (fun m a' w=> ∃(k:Nat) (g':G),w=g'.w∧St g g' []∧G.le g g'∧k≤l.length∧m=l.length-k∧((if k=0 then ascending l lo hi else iF lo hi (l.getD (k-1) 0) (l.drop k))=ascending l lo hi)∧
  Fr 35 [] [(0,.slice a l.length c),(1,.int .i64 lo),(2,.int .i64 hi),(9,.slice a l.length c),(10,.int .i64 l.length),(11,.int .i64 k)] a') l.length (fun a' ha=>⟨0,g,rfl,hs,G.le.refl g,Nat.zero_le _,rfl,by simp,ha.keep (by(repeat (first|exact trivial|refine⟨rfl,?_⟩)))⟩) ?_
 clear hs;rintro m a' _ ⟨k,g',rfl,hs,aq,hk,rfl,dx,eF⟩;revert a';apply cI;refine aY rfl ?_;apply aD;by_cases bC:k<l.length
 ·refine aM (b:=decide ((k:Int)<(l.length:Int))) (by simp;omega) rfl ?_;rw[xk l lo hi k bC]at dx;apply aF;apply ar;apply aD;apply aG;refine cN 1 rfl ?_;refine ak rfl rfl (aW T.ok rfl (hl.mono aq) (y:=l[k]) (by simp[dS,bC]) rfl rfl rfl rfl rfl rfl ?_);rintro b p ys aL rfl;refine Wm 1 [.e aL 0] (St.start _) rfl ?_;refine bj rfl ?_;refine cN 3 rfl ?_;refine ak rfl rfl (au qp aJ rfl rfl rfl rfl rfl (jD _ _ _ _) ?_);rintro g1 _ aP rfl;replace hs:=hs.call aP;have ah:=aP.le;replace aq:=G.le.trans aq ah;refine Wp 2 rfl ?_;refine cp (want:=false) (x:=decide (0<(k:Int))&&decide (l[k]≤l.getD (k-1) 0)) 11 aJ rfl rfl rfl rfl (.inr ⟨rfl,rfl,rfl⟩) rfl rfl rfl rfl (fun hb Q' eG=>?_) (fun g' hf=>?_)
  ·refine Wp 3 rfl ?_;refine cp (want:=true) (x:=decide (l[k]≤l.getD (k-1) 0)) 7 aJ rfl rfl rfl rfl (.inl ⟨rfl,rfl,rfl⟩) rfl rfl rfl rfl (fun hb Q' eG=>?_) (fun g' hf=>?_)
   ·have AH:0<k:=by simpa using hb
    refine Wp 4 rfl ?_;refine ak rfl rfl (aW T.ok rfl (hl.mono aq) (y:=l[k-1]) (cZ (by rw[wr (by omega) (by omega)];omega) (by omega)) rfl rfl rfl rfl rfl rfl ?_);rintro b p ys aL rfl;refine Wm 1 [.e aL 0] (St.start _) rfl ?_;refine Wp 1 rfl ?_;apply aE;have e:l.getD (k-1) 0=l[k-1]:=by simp[List.getD_eq_getElem?_getD,show k-1<l.length from by omega]
    rw[e]at eG;exact fun a ha=>eG _ a (a_.refl _) (ha.keep (by(repeat (first|exact trivial|refine⟨rfl,?_⟩))))
   apply aE;exact fun a ha=>eG _ a hf (ha.keep (by(repeat (first|exact trivial|refine⟨rfl,?_⟩))))
  replace hs:=hs.call hf;have ah:=hf.le;replace aq:=G.le.trans aq ah;apply bW;by_cases oD:((!within l[k] lo hi)||(decide (0<(k:Int))&&decide (l[k]≤l.getD (k-1) 0)))=true
  ·refine aM oD rfl ?_;refine aY rfl ?_;refine aI (aX rfl rfl (hs.ret ?_));rw[←dx];have:(within l[k] lo hi&&(decide (k=0)||decide (l.getD (k-1) 0<l[k]))&&iF lo hi l[k] (List.drop (k+1) l))=false:=by
    simp only[Bool.or_eq_true,Bool.not_eq_true',Bool.and_eq_true,decide_eq_true_eq]at oD;rcases oD with h|⟨h1,h2⟩
    ·simp[h]
    have e1:decide (k=0)=false:=by simp;omega
    have e2:decide (l.getD (k-1) 0<l[k])=false:=by simp only[decide_eq_false_iff_not];omega
    rw[e1,e2];simp
   rw[this]
  refine aV (Bool.eq_false_iff.2 oD) rfl ?_;apply aF;apply bR;apply ar;apply aA;refine Wp 2 rfl ?_;apply aE;refine fun a ha=>⟨l.length-(k+1),by omega,k+1,_,rfl,hs,aq,by omega,rfl,?_,ha.keep ⟨rfl,rfl,rfl,rfl,rfl,kI rfl (by rw[wr (by omega) (by omega)];omega),trivial⟩⟩
  rw[←dx];simp only[Bool.not_eq_true,Bool.or_eq_false_iff,Bool.not_eq_false',Bool.and_eq_false_iff,decide_eq_false_iff_not]at oD;have e:l.getD (k+1-1) 0=l[k]:=by simp[List.getD_eq_getElem?_getD,bC]
  rw[if_neg (by omega),e,oD.1];have h2:(decide (k=0)||decide (l.getD (k-1) 0<l[k]))=true:=by simp only[Bool.or_eq_true,decide_eq_true_eq];rcases oD.2 with h|h<;>omega
  rw[h2];simp
 refine aV (b:=decide ((k:Int)<(l.length:Int))) (by simp;omega) rfl ?_;apply bF;apply bG;apply bG;apply c_;apply ar;refine aY rfl ?_;obtain rfl:k=l.length:=by omega
 refine aI (aX rfl rfl (hs.ret ?_));rw[←dx];by_cases h0:l.length=0
 ·rw[if_pos h0,List.eq_nil_of_length_eq_zero h0];rfl
 rw[if_neg h0];simp[iF]
theorem rl(v:Value)(f:bQ)(g:G)(hf:ff g v f):CallsIn Wd 0 Tryz.prog 118 #[v] g.w (cF g fun _ r=>r= .bool (dA f)):=by
 obtain⟨a1,n1,c1,a2,n2,c2,rfl,h1,h2⟩:=hf;have hs:=St.start g;have aq:=G.le.refl g;refine enter Tryz.func118 rfl Tryz.ntmps118 rfl ?_;apply cM;refine ak rfl rfl (aO rfl hs rfl rfl ?_);clear hs;rintro b1 g1 hs ah;refine bj rfl ?_;refine dz 4 [.o 0] hs rfl ?_;refine cp (want:=true) (x:=decide (f.bB≤f.bU)) 5 aJ rfl rfl rfl rfl (.inl ⟨rfl,rfl,rfl⟩) rfl rfl rfl rfl (fun hb Q' eG=>?_) (fun g' hf=>?_)
 ·refine Wm 5 [.o 0,.o 0] hs rfl ?_;apply aE;exact fun a ha=>eG _ a (a_.refl _) (ha.keep (by(repeat (first|exact trivial|refine⟨rfl,?_⟩))))
 replace hs:=hs.call hf;refine Wp 1 rfl ?_;refine cp (want:=true) (x:=decide (f.bU≤10000)) 3 aJ rfl rfl rfl rfl (.inl ⟨rfl,rfl,rfl⟩) rfl rfl rfl rfl (fun hb Q' eG=>?_) (fun g' hf=>?_)
 ·refine Wm 3 [.o 0] hs rfl ?_;apply aE;exact fun a ha=>eG _ a (a_.refl _) (ha.keep (by(repeat (first|exact trivial|refine⟨rfl,?_⟩))))
 replace hs:=hs.call hf;refine bj rfl ?_;exact aI (aX rfl rfl (hs.ret rfl))
theorem fN(w:bZ)(n:Int)(g:G)(h1:0≤n)(h2:n≤9223372036854775807):
  CallsIn Wd 0 Tryz.prog 123 #[.agg #[.int .i64 w.src,.int .i64 w.dst,.int .i64 w.dI],.int .i64 n] g.w (cF g fun _ r=>r= .bool (de w n)):=by
 have hs:=St.start g;have hn:IntKind.i64.wrap (n-1)=n-1:=wr (by omega) (by omega);refine enter Tryz.func123 rfl Tryz.ntmps123 rfl ?_;apply cM;refine ak rfl rfl (aO rfl hs rfl rfl ?_);clear hs;rintro b1 g1 hs ah;skip;refine bj rfl ?_;refine dz 4 [.o 0] hs rfl ?_;rw[hn];refine ak rfl rfl (au qp aJ rfl rfl rfl rfl rfl (jD _ _ _ _) ?_);rintro g1 _ aP rfl;replace hs:=hs.call aP;have ah:=aP.le;skip;refine Wp 1 rfl ?_;refine cp (want:=true) (x:=within w.dst 0 (n-1)) 5 aJ rfl rfl rfl rfl (.inl ⟨rfl,rfl,rfl⟩) rfl rfl rfl rfl (fun hb Q' eG=>?_) (fun g' hf=>?_)
 ·refine Wm 4 [.o 0] hs rfl ?_;rw[hn];refine ak rfl rfl (au qp aJ rfl rfl rfl rfl rfl (jD _ _ _ _) ?_);rintro g1 _ aP rfl;replace hs:=hs.call aP;have ah:=aP.le;skip;apply aE;exact fun a ha=>eG _ a aP (ha.keep (by(repeat (first|exact trivial|refine⟨rfl,?_⟩))))
 replace hs:=hs.call hf;refine Wp 1 rfl ?_;refine cp (want:=true) (x:=w.src !=w.dst) 5 aJ rfl rfl rfl rfl (.inl ⟨rfl,rfl,rfl⟩) rfl rfl rfl rfl (fun hb Q' eG=>?_) (fun g' hf=>?_)
 ·refine Wm 5 [.o 0,.o 0] hs rfl ?_;apply aE;exact fun a ha=>eG _ a (a_.refl _) (ha.keep (by(repeat (first|exact trivial|refine⟨rfl,?_⟩))))
 replace hs:=hs.call hf;refine Wp 1 rfl ?_;refine cp (want:=true) (x:=within w.dI 0 1000000) 3 aJ rfl rfl rfl rfl (.inl ⟨rfl,rfl,rfl⟩) rfl rfl rfl rfl (fun hb Q' eG=>?_) (fun g' hf=>?_)
 ·refine Wm 2 [.o 0] hs rfl ?_;refine ak rfl rfl (au qp aJ rfl rfl rfl rfl rfl (jD _ _ _ _) ?_);rintro g1 _ aP rfl;replace hs:=hs.call aP;have ah:=aP.le;skip;apply aE;exact fun a ha=>eG _ a aP (ha.keep (by(repeat (first|exact trivial|refine⟨rfl,?_⟩))))
 replace hs:=hs.call hf;refine bj rfl ?_;exact aI (aX rfl rfl (hs.ret rfl))
end Go.Proofs.YtgehbndkogohpaaGreatDoor
namespace Go.Proofs.YtgehbndkogohpaaGreatDoor
open Go Go.K
set_option maxRecDepth 10000
attribute [local irreducible] W WL cD bc bK bd bg bh cq ck
theorem sV(v:Value)(s:Step)(n:Int)(g:G)(hv:fV g v s)(h1:0≤n)(h2:n≤9223372036854775807):
  CallsIn Wd 0 Tryz.prog 122 #[v,.int .i64 n] g.w (cF g fun _ r=>r= .bool (bT s n)):=by
 obtain⟨cs,rfl,a1,n1,c1,a2,n2,c2,rfl,sF,zK⟩:=hv;obtain⟨_,_,e⟩:=sF.isSlice;obtain⟨rfl,rfl,rfl⟩:=Value.slice.inj e;clear e;obtain⟨_,_,e⟩:=zK.isSlice;obtain⟨rfl,rfl,rfl⟩:=Value.slice.inj e;clear e;have hs:=St.start g;have aq:=G.le.refl g;have hn:IntKind.i64.wrap (n-1)=n-1:=wr (by omega) (by omega);refine enter Tryz.func122 rfl Tryz.ntmps122 rfl ?_;apply cM;refine ak rfl rfl (aO rfl hs rfl rfl ?_);clear hs;rintro b1 g1 hs ah;replace aq:=G.le.trans aq ah;refine bj rfl ?_;refine dz 4 [.o 0] hs rfl ?_;refine cp (want:=true) (x:=s.dI==0) 3 aJ rfl rfl rfl rfl (.inl ⟨rfl,rfl,rfl⟩) rfl rfl rfl rfl (fun hb Q' eG=>?_) (fun g' hf=>?_)
 ·refine Wm 3 [.o 0] hs rfl ?_;apply aE;exact fun a ha=>eG _ a (a_.refl _) (ha.keep (by(repeat (first|exact trivial|refine⟨rfl,?_⟩))))
 replace hs:=hs.call hf;have ah:=hf.le;replace aq:=G.le.trans aq ah;refine Wp 1 rfl ?_;refine cp (want:=false) (x:=within s.back 0 (n-1)&&within s.dI 1 9) 10 aJ rfl rfl rfl rfl (.inr ⟨rfl,rfl,rfl⟩) rfl rfl rfl rfl (fun hb Q' eG=>?_) (fun g' hf=>?_)
 ·refine Wm 4 [.o 0] hs rfl ?_;rw[hn];refine ak rfl rfl (au qp aJ rfl rfl rfl rfl rfl (jD _ _ _ _) ?_);rintro g1 _ aP rfl;replace hs:=hs.call aP;have ah:=aP.le;replace aq:=G.le.trans aq ah;refine Wp 1 rfl ?_;refine cp (want:=true) (x:=within s.dI 1 9) 3 aJ rfl rfl rfl rfl (.inl ⟨rfl,rfl,rfl⟩) rfl rfl rfl rfl (fun hb Q' eG=>?_) (fun g' hf=>?_)
  ·refine Wm 2 [.o 0] hs rfl ?_;refine ak rfl rfl (au qp aJ rfl rfl rfl rfl rfl (jD _ _ _ _) ?_);rintro g1 _ aP rfl;replace hs:=hs.call aP;have ah:=aP.le;replace aq:=G.le.trans aq ah;apply aE;exact fun a ha=>eG _ a aP (ha.keep (by(repeat (first|exact trivial|refine⟨rfl,?_⟩))))
  exact aE fun a ha=>eG _ a (aP.trans hf) (ha.keep (by(repeat (first|exact trivial|refine⟨rfl,?_⟩))))
 replace hs:=hs.call hf;have ah:=hf.le;replace aq:=G.le.trans aq ah;refine bj rfl ?_;refine dz 3 [.o 0] hs rfl ?_;refine ak rfl rfl (au qp aJ rfl rfl rfl rfl rfl (jD _ _ _ _) ?_);rintro g1 _ aP rfl;replace hs:=hs.call aP;have ah:=aP.le;replace aq:=G.le.trans aq ah;refine Wp 1 rfl ?_;refine cp (want:=true) (x:=decide ((s.next.length:Int)≤4)) 4 aJ rfl rfl rfl rfl (.inl ⟨rfl,rfl,rfl⟩) rfl rfl rfl rfl (fun hb Q' eG=>?_) (fun g' hf=>?_)
 ·refine Wm 4 [.o 0] hs rfl ?_;apply aE;exact fun a ha=>eG _ a (a_.refl _) (ha.keep (by(repeat (first|exact trivial|refine⟨rfl,?_⟩))))
 replace hs:=hs.call hf;have ah:=hf.le;replace aq:=G.le.trans aq ah;refine bj rfl ?_;refine cN 2 rfl ?_;refine cp (want:=true) (x:=within (↑s.dt.length) 1 8&&decide ((s.next.length:Int)≤4)) 1 aJ rfl rfl rfl rfl (.inl ⟨rfl,rfl,rfl⟩) rfl rfl rfl rfl (fun hb Q' eG=>?_) (fun g' hf=>?_)
 ·refine Wp 1 rfl ?_;apply aE;exact fun a ha=>eG _ a (a_.refl _) (ha.keep (by(repeat (first|exact trivial|refine⟨rfl,?_⟩))))
 replace hs:=hs.call hf;have ah:=hf.le;replace aq:=G.le.trans aq ah;refine Wp 1 rfl ?_;refine cp (want:=true) (x:=within s.cE 1 1000000) 3 aJ rfl rfl rfl rfl (.inl ⟨rfl,rfl,rfl⟩) rfl rfl rfl rfl (fun hb Q' eG=>?_) (fun g' hf=>?_)
 ·refine Wm 2 [.o 0] hs rfl ?_;refine ak rfl rfl (au qp aJ rfl rfl rfl rfl rfl (jD _ _ _ _) ?_);rintro g1 _ aP rfl;replace hs:=hs.call aP;have ah:=aP.le;replace aq:=G.le.trans aq ah;apply aE;exact fun a ha=>eG _ a aP (ha.keep (by(repeat (first|exact trivial|refine⟨rfl,?_⟩))))
 replace hs:=hs.call hf;have ah:=hf.le;replace aq:=G.le.trans aq ah;refine Wp 1 rfl ?_;refine cp (want:=true) (x:=ascending s.dt 0 59) 3 aJ rfl rfl rfl rfl (.inl ⟨rfl,rfl,rfl⟩) rfl rfl rfl rfl (fun hb Q' eG=>?_) (fun g' hf=>?_)
 ·refine Wm 2 [.o 0] hs rfl ?_;refine ak rfl rfl (au JA aJ rfl rfl rfl rfl rfl (sU _ s.dt _ _ _ (sF.mono aq)) ?_);rintro g1 _ aP rfl;replace hs:=hs.call aP;have ah:=aP.le;replace aq:=G.le.trans aq ah;apply aE;exact fun a ha=>eG _ a aP (ha.keep (by(repeat (first|exact trivial|refine⟨rfl,?_⟩))))
 replace hs:=hs.call hf;have ah:=hf.le;replace aq:=G.le.trans aq ah;refine Wp 1 rfl ?_;refine cp (want:=true) (x:=ascending s.next 0 (n-1)) 5 aJ rfl rfl rfl rfl (.inl ⟨rfl,rfl,rfl⟩) rfl rfl rfl rfl (fun hb Q' eG=>?_) (fun g' hf=>?_)
 ·refine Wm 4 [.o 0] hs rfl ?_;rw[hn];refine ak rfl rfl (au JA aJ rfl rfl rfl rfl rfl (sU _ s.next _ _ _ (zK.mono aq)) ?_);rintro g1 _ aP rfl;replace hs:=hs.call aP;have ah:=aP.le;apply aE;exact fun a ha=>eG _ a aP (ha.keep (by(repeat (first|exact trivial|refine⟨rfl,?_⟩))))
 replace hs:=hs.call hf;have ah:=hf.le;refine Wp 1 rfl ?_;refine cp (want:=true) (x:=decide (1≤s.min)) 3 aJ rfl rfl rfl rfl (.inl ⟨rfl,rfl,rfl⟩) rfl rfl rfl rfl (fun hb Q' eG=>?_) (fun g' hf=>?_)
 ·refine Wm 3 [.o 0] hs rfl ?_;apply aE;exact fun a ha=>eG _ a (a_.refl _) (ha.keep (by(repeat (first|exact trivial|refine⟨rfl,?_⟩))))
 replace hs:=hs.call hf;have ah:=hf.le;refine Wp 1 rfl ?_;refine cp (want:=true) (x:=decide (s.min≤s.max)) 5 aJ rfl rfl rfl rfl (.inl ⟨rfl,rfl,rfl⟩) rfl rfl rfl rfl (fun hb Q' eG=>?_) (fun g' hf=>?_)
 ·refine Wm 5 [.o 0,.o 0] hs rfl ?_;apply aE;exact fun a ha=>eG _ a (a_.refl _) (ha.keep (by(repeat (first|exact trivial|refine⟨rfl,?_⟩))))
 replace hs:=hs.call hf;have ah:=hf.le;refine Wp 1 rfl ?_;refine cp (want:=true) (x:=decide (s.max≤10000)) 3 aJ rfl rfl rfl rfl (.inl ⟨rfl,rfl,rfl⟩) rfl rfl rfl rfl (fun hb Q' eG=>?_) (fun g' hf=>?_)
 ·refine Wm 3 [.o 0] hs rfl ?_;apply aE;exact fun a ha=>eG _ a (a_.refl _) (ha.keep (by(repeat (first|exact trivial|refine⟨rfl,?_⟩))))
 replace hs:=hs.call hf;have ah:=hf.le;refine bj rfl ?_;exact aI (aX rfl rfl (hs.ret rfl))
theorem sj(v:Value)(l:List bZ)(w:bZ)(g:G)(hl:Rs g v l):
  CallsIn Wd 0 Tryz.prog 124 #[v,.agg #[.int .i64 w.src,.int .i64 w.dst,.int .i64 w.dI]] g.w (cF g fun _ r=>r= .bool (follows l w)):=by
 obtain⟨a,c,rfl⟩:=hl.isSlice;have hlen:=hl.dJ;unfold maxLen at hlen;have hs:=St.start g;have aq:=G.le.refl g;refine enter Tryz.func124 rfl Tryz.ntmps124 rfl ?_;apply cM;refine ak rfl rfl (aO rfl hs rfl rfl ?_);clear hs;rintro b1 g1 hs ah;replace aq:=G.le.trans aq ah;refine bj rfl ?_;apply aD;refine aY rfl ?_;by_cases h0:l.length=0
 ·refine aM (b:=(l.length:Int)==0) (by simp[h0]) rfl ?_;refine aY rfl ?_;refine aI (aX rfl rfl (hs.ret ?_));rw[List.eq_nil_of_length_eq_zero h0];rfl
 refine aV (b:=(l.length:Int)==0) (by simp only[beq_eq_false_iff_ne];omega) rfl ?_;apply aF;apply ar;refine cN 4 rfl ?_;refine ak rfl rfl (aW T.ok rfl (hl.mono aq) (y:=l[l.length-1]) (cZ (by rw[wr (by omega) (by omega)];omega) (by omega)) rfl rfl rfl rfl rfl rfl ?_);rintro b p ys aL rfl;refine Wm 1 [.e aL 0] (St.start _) rfl ?_;skip;refine ak rfl rfl (aK T.ok rfl hs rfl rfl ?_);clear hs;rintro b1 g1 hs ah;skip;refine bA rfl (az T.ok 0 rfl hs rfl rfl rfl rfl rfl rfl rfl rfl rfl ?_);replace hs:=hs;rintro g1 hs ah;apply bW;refine dz 6 [.o 0,.o 1] hs rfl ?_;refine cp (want:=false) (x:=(l[l.length-1].src==w.src&&decide (l[l.length-1].dst<w.dst))) 12 aJ rfl rfl rfl rfl (.inr ⟨rfl,rfl,rfl⟩) rfl rfl rfl rfl (fun hb Q' eG=>?_) (fun g' hf=>?_)
 ·refine Wm 6 [.o 0,.o 1] hs rfl ?_;refine cp (want:=true) (x:=decide (l[l.length-1].dst<w.dst)) 5 aJ rfl rfl rfl rfl (.inl ⟨rfl,rfl,rfl⟩) rfl rfl rfl rfl (fun hb Q' eG=>?_) (fun g' hf=>?_)
  ·refine Wm 5 [.o 0,.o 1] hs rfl ?_;apply aE;exact fun a ha=>eG _ a (a_.refl _) (ha.keep (by(repeat (first|exact trivial|refine⟨rfl,?_⟩))))
  exact aE fun a ha=>eG _ a hf (ha.keep (by(repeat (first|exact trivial|refine⟨rfl,?_⟩))))
 replace hs:=hs.call hf;have ah:=hf.le;refine bj rfl ?_;refine aI (aX rfl rfl (hs.ret ?_));unfold follows;rw[List.getLast?_eq_getElem?,List.getElem?_eq_getElem (by omega)];rfl
end Go.Proofs.YtgehbndkogohpaaGreatDoor
namespace Go.Proofs.YtgehbndkogohpaaGreatDoor
open Go Go.K
set_option maxRecDepth 10000
attribute [local irreducible] W WL cD bc bK bd bg bh cq ck
theorem Aw(v fv:Value)(l:List Step)(p:Step→Bool)(g:G)(hl:Rs g v l)
  (hp: ∀(g':G) (x:Step) (u:Value),g.le g'→fV g' u x→iE Tryz.prog fv [u] g'.w (cF g' fun _ r=>r= .bool (p x))):
  CallsIn Wd 0 Tryz.prog 224 #[v,fv] g.w (cF g fun _ r=>r= .int .i64 (lQ p l)):=by
 obtain⟨a,c,rfl⟩:=hl.isSlice;have hlen:=hl.dJ;unfold maxLen at hlen;have hs:=St.start g;refine enter Tryz.func224 rfl Tryz.ntmps224 rfl ?_;refine aY rfl ?_;apply aD;refine aY rfl ?_;apply aG;refine bM (fun m a' w=> ∃(k:Nat) (g':G),w=g'.w∧St g g' []∧G.le g g'∧k≤l.length∧m=l.length-k∧(∀j (h:j<l.length),j<k→p l[j]=false)∧
  Fr 19 [] [(0,.slice a l.length c),(1,fv),(7,.int .i64 l.length),(8,.int .i64 k)] a') l.length (fun a' ha=>⟨0,g,rfl,hs,G.le.refl g,Nat.zero_le _,rfl,by simp,ha.keep (by(repeat (first|exact trivial|refine⟨rfl,?_⟩)))⟩) ?_
 clear hs;rintro m a' _ ⟨k,g',rfl,hs,aq,hk,rfl,dx,eF⟩;revert a';apply cI;refine aY rfl ?_;apply aD;by_cases bC:k<l.length
 ·refine aM (b:=decide ((k:Int)<(l.length:Int))) (by simp;omega) rfl ?_;apply aF;apply ar;apply aD;apply aG;refine aY rfl ?_;refine cN 3 rfl ?_;refine ak rfl rfl (aW T.ok rfl (hl.mono aq) (y:=l[k]) (by simp[dS,bC]) rfl rfl rfl rfl rfl rfl ?_);rintro b q ys aL d_;have Ic:fV g' (.agg ys.toArray) l[k]:=⟨ys,rfl,d_⟩
  obtain⟨b1,b2,b3,b4,b5,b6,rfl,_,_⟩:=d_;refine Wm 1 [.e aL 0] (St.start _) rfl ?_;skip;refine ak rfl rfl (eE rfl rfl rfl rfl rfl rfl (hp _ _ _ aq Ic) ?_);rintro g1 _ aP rfl;replace hs:=hs.call aP;have ah:=aP.le;replace aq:=G.le.trans aq ah;apply bW;cases xL:p l[k]with
  |true=>
   refine aM rfl rfl ?_;refine aY rfl ?_;exact aI (aX rfl rfl (hs.ret (by rw[tz bC xL dx])))
  |false=>
   refine aV rfl rfl ?_;apply aF;apply bR;apply ar;apply aA;refine Wp 2 rfl ?_;apply aE;refine fun a ha=>⟨l.length-(k+1),by omega,k+1,_,rfl,hs,aq,by omega,rfl,?_,ha.keep ⟨rfl,rfl,rfl,kI rfl (by rw[wr (by omega) (by omega)];omega),trivial⟩⟩
   intro j hj Ci;by_cases e:j=k
   ·subst e;exact xL
   exact dx j hj (by omega)
 refine aV (b:=decide ((k:Int)<(l.length:Int))) (by simp;omega) rfl ?_;apply bF;apply bG;apply bG;apply c_;apply ar;refine aY rfl ?_;obtain rfl:k=l.length:=by omega
 exact aI (aX rfl rfl (hs.ret (by rw[tA fun j h=>dx j h h])))
theorem vh(v fv:Value)(l:List Step)(p:Step→Bool)(g:G)(hl:Rs g v l)
  (hp: ∀(g':G) (x:Step) (u:Value),g.le g'→fV g' u x→iE Tryz.prog fv [u] g'.w (cF g' fun _ r=>r= .bool (p x))):
  CallsIn Wd 0 Tryz.prog 120 #[v,fv] g.w (cF g fun _ r=>r= .bool (l.any p)):=by
 have hs:=St.start g;refine enter Tryz.func120 rfl Tryz.ntmps120 rfl ?_;refine aY rfl ?_;refine cN 2 rfl ?_;refine ak rfl rfl (au Of aJ rfl rfl rfl rfl rfl (Aw _ _ l p g hl hp) ?_);rintro g1 _ aP rfl;replace hs:=hs.call aP;have ah:=aP.le;skip;refine bj rfl ?_;exact aI (aX rfl rfl (hs.ret (by rw[←nX])))
theorem GV(v:Value)(s:Step)(b:Nat)(n:Int)(g:G)(hv:fV g v s)(hn:EP g b 0 [.int .i64 n])(h1:0≤n)(h2:n≤9223372036854775807):
  CallsIn Wd 0 Tryz.prog 121 #[v,.pointer (some ⟨b,0,none⟩)] g.w (cF g fun _ r=>r= .bool (!bT s n)):=by
 have DN:=hv;obtain⟨cs,rfl,a1,n1,c1,a2,n2,c2,rfl,sF,zK⟩:=hv;have hs:=St.start g;have aq:=G.le.refl g;refine enter Tryz.func121 rfl Tryz.ntmps121 rfl ?_;apply cM;refine ak rfl rfl (aO rfl hs rfl rfl ?_);clear hs;rintro b1 g1 hs ah;replace aq:=G.le.trans aq ah;refine bj rfl ?_;refine dz 1 [.o 0] hs rfl ?_;refine ak rfl rfl (bJ T.ok 0 rfl (hn.mono aq) rfl rfl ?_);skip;refine ak rfl rfl (au Jp aJ rfl rfl rfl rfl rfl (sV _ s n _ (DN.mono aq) h1 h2) ?_);rintro g1 _ aP rfl;replace hs:=hs.call aP;have ah:=aP.le;refine bj rfl ?_;exact aI (aX rfl rfl (hs.ret rfl))
end Go.Proofs.YtgehbndkogohpaaGreatDoor
