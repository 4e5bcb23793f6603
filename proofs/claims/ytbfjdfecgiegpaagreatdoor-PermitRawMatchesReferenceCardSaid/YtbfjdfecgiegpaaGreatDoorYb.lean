/- Parts of the proof, from: Entering and leaving a function; struct literals; arrays behind pointers; tests against nil. -/
import Derived.Test.YtbfjdfecgiegpaaGreatDoorYa
import Derived.WalkSpells
import Derived.WalkLawsBesides
import Derived.Scope
import Derived.Deep.Slices
import Derived.ProofKit
import Derived.OpenShut
import Derived.RecoverIn
import Derived.Laws.IdiomStrings
namespace Go.K
open Go Go.RowKit
variable {F:Fence} {P:Program} {N:Nat} {ds:List Deferred} {l l':Env} {a:Act} {w:World} {Q:Exit→Act→World→Prop} {ops:Array Oper} {os:List Oper} {o:Oper}
variable {g0 g:G} {L:List df} {K:Value→World→Prop} {R:Ending→World→Prop}
def oq:Nat→List Value→Env
 |_,[]=>[]
 |i,v::r=>(i,v)::oq (i+1) r
theorem zF: ∀(vs:List Value) (i t:Nat) (v:Value),lk (oq i vs) t=some v→ ∃j,t=i+j∧vs[j]? =some v
 |[],i,t,v,h=>by simp[oq,lk]at h
 |u::r,i,t,v,h=>by
  by_cases e:i=t
  ·subst e;simp only[oq,cZ,Option.some.injEq]at h;exact⟨0,rfl,by simp[h]⟩
  simp only[oq,cq _ _ e]at h;obtain⟨j,rfl,hj⟩:=zF r (i+1) t v h;exact⟨j+1,by omega,by simpa using hj⟩
theorem xE(args:Array Value)(N:Nat)(h:Nat.ble args.size N=true):Fr N [] (oq 0 args.toList) {tmps:=args++Array.replicate (N-args.size) undef,defers:=[]}:=by
 have h:=Nat.le_of_ble_eq_true h;refine⟨rfl,by simp;omega,fun t v hv=>?_⟩;obtain⟨j,rfl,hj⟩:=zF _ _ _ _ hv;have AA:args[j]? =some v:=by simpa using hj
 have bt:=(Array.getElem?_eq_some_iff.1 AA).1;rw[Nat.zero_add,Array.getElem?_append_left bt,AA]
abbrev Wd:Fence:=Fence.wide
theorem enter{f:FuncId}{fn:Func}{c:Code}{args:Array Value}(hf:P.funcs[f]? =some fn)(hb:fn.body=some c)(hN:fn.ntmps=N)(hle:Nat.ble args.size N=true)
  (h:W Wd P N [] c (bodyPost P fn R) (oq 0 args.toList) w):CallsIn Wd 0 P f args w R:=by
 refine callsIn_of_wp hf hb trivial ?_;rw[hN];exact h _ (xE args N hle)
theorem uj{f:FuncId}{fn:Func}{c:Code}{args:Array Value}(hf:P.funcs[f]? =some fn)(hb:fn.body=some c)(hN:fn.ntmps=N)(hle:Nat.ble args.size N=true)
  (h:W Wd P N [] c (bodyPostM Wd 0 P fn R) (oq 0 args.toList) w):CallsIn Wd 0 P f args w R:=by
 refine callsIn_of_wp_marks hf hb trivial ?_;rw[hN];exact h _ (xE args N hle)
theorem rO{fn:Func}(hr:fn.results=#[])(hR:R (.returned (.tuple #[])) w)(a:Act)(ha:Fr N [] l a):bodyPost P fn R .ret a w:=
 ⟨ha.defers,_,results_none hr _ _ _,hR⟩
theorem lC{fn:Func}(hr:fn.results=#[])(hR:R (.returned (.tuple #[])) w)(a:Act)(ha:Fr N [] l a):bodyPost P fn R .normal a w:=
 ⟨ha.defers,_,results_none hr _ _ _,hR⟩
theorem A9{t:Nat}{v:Value}(ha:Fr N ds l a)(h:lk l t=some v):a.tmps.getD t undef=v:=by simp[Array.getD_eq_getD_getElem?,ha.get t v h]
theorem aU{fn:Func}{t:Nat}{v:Value}(hr:fn.results=#[.tmp t])(hl:lk l t=some v)(hR:R (.returned v) w)(a:Act)(ha:Fr N [] l a):bodyPost P fn R .ret a w:=
 ⟨ha.defers,_,results_tmp hr _ _ _,by rw[A9 ha hl];exact hR⟩
theorem HX{fn:Func}{t u:Nat}{v x:Value}(hr:fn.results=#[.tmp t,.tmp u])(hl:lk l t=some v)(tP:lk l u=some x)(hR:R (.returned (.tuple #[v,x])) w)(a:Act)(ha:Fr N [] l a):bodyPost P fn R .ret a w:=
 ⟨ha.defers,_,results_tmp2 hr _ _ _,by rw[A9 ha hl,A9 ha tP];exact hR⟩
theorem me{fn:Func}{tb:Tb}(dE:tb.ok P)(i:Nat){t T b:Nat}{cs:List Value}{E:TypeId}{fz:Nat×Nat}{v:Value}(hr:fn.results=#[.cell t T])(hs:St g0 g L)(hi:L[i]? =some (.obj b (.cells cs.toArray E fz)))
  (hl:lk l t=some (vP b)) (hv:Ar tb T cs 0=some v) (hR:R (.returned v) g.w) (a:Act) (ha:Fr N [] l a):bodyPost P fn R .ret a g.w:=by
 refine⟨ha.defers,v,?_,hR⟩;have:=jD (P:=P) (w:=g.w) (off:=0) (o:=0) dE hv (lI (hs.own i _ hi).2.1);simp only[Nat.add_zero]at this;simp[results,hr,ha.get t _ hl,asAddr,this]
def places(tb:Tb)(fs:List (TypeId×Nat)):List (Option (Nat×Nat)):=fs.map fun(t,off)=>(tl tb t).map fun i=>(off,i.size)
theorem aS{tb:Tb}(dE:tb.ok P){t:Nat}{ti:TI}{fs:List (TypeId×Nat)}{parts:Array (Nat×Operand)}{vs:List (Nat×Value)}{cells:List Value}(ho:o.op= .build t parts)
  (hp:vF l (parts.toList.map (·.2))=some (vs.map (·.2))) (vD:parts.toList.map (·.1)=vs.map (·.1)) (hi:tl tb t=some ti) (hd:ti.desc= .struct fs) (pl:List (Nat×Nat)) (Dq:places tb fs=pl.map some)
  (pP:Instr.fill (fun i=>pl.toArray[i]?) ti.zero.cells vs=some cells.toArray) (k:K (.agg cells.toArray) w):cS F P N ds o l w Q K:=by
 obtain⟨⟨dd,hu,he⟩,inf,e1,e2,e3,e4⟩:=dE.at hi;rw[hd]at he;obtain⟨Vc,rfl,rfl⟩:=KD.of_struct he;refine bX (fun c=>⟨by rw[ho];simp,by rw[ho];simp⟩) (fun a ha=>?_) k;have Gs:List.map (fun x:Nat×Operand=>(x.fst,a.eval x.snd)) parts.toList=vs:=by
  have h2:=jh ha hp;rw[List.map_map]at h2;have h3:parts.toList.map (fun p=>(p.1,a.eval p.2))=(parts.toList.map (·.1)).zip (parts.toList.map (fun p=>a.eval p.2)):=by rw[List.zip_map']
  have h4:vs=(vs.map (·.1)).zip (vs.map (·.2)):=by rw[List.zip_map'];simp
  rw[h4,←vD,←h2];exact h3
 have L8: ∀(xs:List Field) (pl:List (Nat×Nat)),places tb (xs.map fun f=>(f.type,f.offset))=pl.map some→(xs.mapM fun f=>do pure (f.offset,←sizeOf f.type):Sem (List (Nat×Nat))).run P w= .ok pl w:=by
  intro xs
  induction xs with
  |nil=>intro pl h;cases pl with
   |nil=>rfl
   |cons _ _=>simp[places]at h
  |cons f xs ih=>
   intro pl h;cases pl with
   |nil=>simp[places]at h
   |cons q pl=>
    simp only[places,List.map_cons,List.cons.injEq]at h;obtain⟨h1,h2⟩:=h;cases hj:tl tb f.type with
    |none=>rw[hj]at h1;cases h1
    |some j=>
     rw[hj]at h1;simp only[Option.map_some,Option.some.injEq]at h1;obtain⟨_,Xy,f1,f2,_⟩:=dE.at hj;have:=ih pl h2;simp only[List.mapM_cons,Sem.run_bind,sizeOf,typeInfo,run_program,Result.andThen_ok,f1,Sem.run_pure,f2]at this⊢;simp only[this,Result.andThen_ok,h1]
 have hm:=L8 Vc.toList pl Dq;have Uc:(Vc.mapM fun f=>do pure (f.offset,←sizeOf f.type):Sem (Array (Nat×Nat))).run P w= .ok pl.toArray w:=by rw[Array.mapM_eq_mapM_toList];simp only[Sem.run_map,hm,Result.andThen_ok]
 have hz:(zeroValue t).run P w= .ok ti.zero w:=by simp[zeroValue,typeInfo,e1,e4]
 simp only[execOp,ho,Instr.build,Sem.run_bind,hz,Result.andThen_ok,run_underlying hu,Uc,Array.toList_map,Gs,pP];simp
theorem sU{tb:Tb}(dE:tb.ok P){t e n:Nat}{i j:TI}{x ix:Operand}{kk:IntKind}{q b p:Nat}(ho:o.op= .indexAddr t x ix)(hx:ev l x=some (.pointer (some ⟨b,p,none⟩)))(Jd:ev l ix=some (.int kk (q:Int)))
  (hi:tl tb t=some i) (hd:i.desc= .arr n e) (hj:tl tb e=some j) (hq:q<n) (k:K (.pointer (some ⟨b,p+q*j.size,none⟩)) w):cS F P N ds o l w Q K:=by
 obtain⟨⟨dd,hu,he⟩,_⟩:=dE.at hi;rw[hd]at he;obtain rfl:=KD.DC he;obtain⟨_,inf,e1,e2,_⟩:=dE.at hj;refine bX (fun c=>⟨by rw[ho];simp,by rw[ho];simp⟩) (fun a ha=>?_) k;have h1:(q:Int)<(n:Int):=by omega
 simp[execOp,ho,ha.ev hx,ha.ev Jd,Instr.indexAt,asIntOf,run_underlying hu,Instr.sureAddr,hq,sizeOf,typeInfo,e1,e2,Addr.add_lit]
theorem KD.Pu{d:TypeDesc}{e:TypeId}(h:KD.of d= .ptr e):d= .pointer e:=by cases d<;>simp only[KD.of,reduceCtorEq,KD.ptr.injEq]at h;rw[h]
theorem gK{tb:Tb}(dE:tb.ok P){t e t':Nat}{i:TI}{x y:Operand}{neg:Bool}{ad:Option Addr}{n c n' c':Nat}(ho:o.op= .binOp (if neg then .neq else .eql) t x y t')(hx:ev l x=some (.slice ad n c))(hy:ev l y=some (.slice none n' c'))
  (hi:tl tb t=some i) (hd:i.desc= .slice e) (k:K (.bool (neg !=ad.isNone)) w):cS F P N ds o l w Q K:=by
 obtain⟨⟨dd,hu,he⟩,_⟩:=dE.at hi;rw[hd]at he;obtain rfl:=KD.of_slice he;refine bX (fun c=>⟨by rw[ho];simp,by rw[ho];simp⟩) (fun a ha=>?_) k;have hg: ∀op,(eqGuard op t x y (.slice ad n c) (.slice none n' c')).run P w= .ok () w:=fun op=>by unfold eqGuard;split<;>rfl
 have hq: ∀d,(Op.equalIn (d+1) t (.slice ad n c) (.slice none n' c')).run P w= .ok ad.isNone w:=fun d=>by cases ad<;>simp[Op.equalIn,run_underlying hu]
 have heq:(Op.equal t (.slice ad n c) (.slice none n' c')).run P w= .ok ad.isNone w:=hq 9999;cases neg<;>simp[execOp,ho,ha.ev hx,ha.ev hy,hg,binOp,heq]
theorem iL{tb:Tb}(dE:tb.ok P){t e t':Nat}{i:TI}{x y:Operand}{neg:Bool}{ad:Option Addr}(ho:o.op= .binOp (if neg then .neq else .eql) t x y t')(hx:ev l x=some (.pointer ad))(hy:ev l y=some (.pointer none))
  (hi:tl tb t=some i) (hd:i.desc= .ptr e) (k:K (.bool (neg !=ad.isNone)) w):cS F P N ds o l w Q K:=by
 obtain⟨⟨dd,hu,he⟩,_⟩:=dE.at hi;rw[hd]at he;obtain rfl:=KD.Pu he;refine bX (fun c=>⟨by rw[ho];simp,by rw[ho];simp⟩) (fun a ha=>?_) k;have hg: ∀op,(eqGuard op t x y (.pointer ad) (.pointer none)).run P w= .ok () w:=fun op=>by unfold eqGuard;split<;>rfl
 have hq: ∀d,(Op.equalIn (d+1) t (.pointer ad) (.pointer none)).run P w= .ok ad.isNone w:=fun d=>by cases ad<;>simp[Op.equalIn,run_underlying hu]
 have heq:(Op.equal t (.pointer ad) (.pointer none)).run P w= .ok ad.isNone w:=hq 9999;cases neg<;>simp[execOp,ho,ha.ev hx,ha.ev hy,hg,binOp,heq]
def cO(g:G)(R:G→Value→Prop):Ending→World→Prop:=fun e w'=> ∃g' v,g'.w=w'∧a_ g g'∧e= .returned v∧R g' v
theorem St.ret{R:G→Value→Prop}{v:Value}(hs:St g0 g L)(h:R g v):cO g0 R (.returned v) g.w:=⟨g,v,rfl,hs.rh,rfl,h⟩
theorem aC{R:G→Value→Prop}{f:FuncId}(hc:ag P f)(hF: ∀f,F.fn f)(xz:F.depth=none){x:Operand}{args:Array Operand}{ts:Array TypeId}{first captured:Array Value}{vs aa:List Value}
  (ho:o.op= .call {callee:=.value x,args,argTypes:=ts}) (hx:ev l x=some (.func (.func f) first captured)) (ha:vF l args.toList=some vs) (has:first.toList++vs++captured.toList=aa)
  (h:CallsIn F 0 P f aa.toArray g.w (cO g R)) (k: ∀g' v,a_ g g'→R g' v→K v g'.w):cS F P N ds o l g.w Q K:=
 pY hc hF xz ho hx ha has (CallsIn.mono h fun _ _ ⟨g',v,hw,hf,he,hr⟩=>⟨v,he,hw▸k g' v hf hr⟩)
end Go.K
namespace Go.K
open Go Go.RowKit
variable {F:Fence} {P:Program} {N:Nat} {ds:List Deferred} {l l':Env} {a:Act} {w:World} {Q:Exit→Act→World→Prop} {ops:Array Oper} {os:List Oper} {o:Oper}
variable {g0 g:G} {L:List df} {K:Value→World→Prop} {R:Ending→World→Prop}
def jd(P:Program)(fv:Value)(args:List Value)(w:World)(R:Ending→World→Prop):Prop:=
 match fv with
 | .func (.func f) first captured=>ag P f∧CallsIn Wd 0 P f (first.toList++args++captured.toList).toArray w R
 | .func (.yield l) first _=> ∃fn tmps assign body,(Instr.yield l (first++args.toArray)).run P w= .ok (.round l fn tmps assign body) w∧RoundIn Wd 0 P l fn tmps assign body w R
 |_=>False
theorem jd.mono{fv:Value}{args:List Value}{R R':Ending→World→Prop}(h:jd P fv args w R)(hr: ∀e w',R e w'→R' e w'):jd P fv args w R':=by
 unfold jd at h⊢;split
 ·simp only at h;exact⟨h.1,h.2.mono hr⟩
 ·simp only at h;obtain⟨fn,tmps,aa,bo,h1,h2⟩:=h;exact⟨fn,tmps,aa,bo,h1,h2.mono hr⟩
 rename_i h1 h2;split at h
 ·exact(h1 _ _ _ rfl).elim
 ·exact(h2 _ _ _ rfl).elim
 exact h.elim
theorem CallsIn.lQ{f:FuncId}{args:Array Value}(hF:F.fn=Wd.fn)(hd:F.depth=none)(ha:F.alive=false)(h:CallsIn Wd 0 P f args w R):CallsIn F 0 P f args w R:=by obtain⟨fn,dep,al,ro⟩:=F;simp only at hF hd ha;subst hF;subst hd;subst ha;exact h
theorem RoundIn.lQ{k:Nat}{f:FuncId}{tmps:Array Value}{aa bo:Code}(hF:F.fn=Wd.fn)(hd:F.depth=none)(ha:F.alive=false)(h:RoundIn Wd 0 P k f tmps aa bo w R):RoundIn F 0 P k f tmps aa bo w R:=by obtain⟨fn,dep,al,ro⟩:=F;simp only at hF hd ha;subst hF;subst hd;subst ha;exact h
theorem fC(hF:F.fn=Wd.fn)(hd:F.depth=none)(vE:F.alive=false){x:Operand}{args:Array Operand}{ts:Array TypeId}{fv:Value}{vs:List Value}
  (ho:o.op= .call {callee:=.value x,args,argTypes:=ts}) (hx:ev l x=some fv) (ha:vF l args.toList=some vs)
  (h:jd P fv vs w fun e w'=> ∃v,e= .returned v∧K v w'):cS F P N ds o l w Q K:=by
 unfold jd at h;split at h
 ·rename_i f first captured
  exact pY h.1 (by intro f;rw[hF];trivial) hd ho hx ha rfl (CallsIn.lQ hF hd vE h.2)
 ·rename_i k first captured
  obtain⟨fn,tmps,aa,bo,h1,h2⟩:=h;intro a E7;unfold Oper.wpIn;refine⟨fun f _=>by rw[hF];trivial,?_⟩;have rn:args.map a.eval=vs.toArray:=by apply Array.ext';simpa using jh E7 ha
  rw[Oper.semAt_eq _ _ _ (fun c e=>by rw[ho]at e;cases e)];have jX:(execOp a.eval o).run P w= .ok (.round k fn tmps aa bo) w:=by simp only[execOp,ho,Sem.run_bind,resolve,E7.ev hx,Deferred.ofValue,Sem.run_pure,Result.andThen_ok,invoke,rn];exact h1
  rw[jX];refine⟨fun h=>(by rw[hd]at h;cases h),?_⟩;refine RoundIn.mono (RoundIn.lQ hF hd vE h2) fun e w' ⟨v,he,hk⟩=>?_;subst he;exact⟨v,rfl,hk⟩
 exact h.elim
def w7{α:Type}(P:Program)(lj:FuncId)(fp:Array Value)(gN:α→List Value)(xs:List α)(g:G):Prop:=
 ∀(g1:G),g.le g1→ ∀(yv:Value) (J Jx:List α→G→Prop),(∀pre g g',a_ g g'→J pre g→J pre g')→(∀pre g g',a_ g g'→Jx pre g→Jx pre g')→
  (∀pre x rest g2,xs=pre++x::rest→g1.le g2→J pre g2→jd P yv (gN x) g2.w fun e w'=> ∃g3 b,g3.w=w'∧e= .returned (.bool b)∧g2.le g3∧(b=true→J (pre++[x]) g3)∧(b=false→Jx (pre++[x]) g3))→
  J [] g1→CallsIn Wd 0 P lj (yv::fp.toList).toArray g1.w fun e w'=> ∃g2 v,g2.w=w'∧e= .returned v∧g1.le g2∧(J xs g2∨ ∃pre,pre<+:xs∧Jx pre g2)
theorem w7.mono{α:Type}{lj:FuncId}{fp:Array Value}{gN:α→List Value}{xs:List α}{g g':G}(h:w7 P lj fp gN xs g)(hle:g.le g'):w7 P lj fp gN xs g':=
 fun g1 h1=>h g1 (hle.trans h1)
def p_:List Tmp→List Value→Env→Env
 |t::ts,v::vs,l=>p_ ts vs ((t,v)::l)
 |_,_,l=>l
theorem AX: ∀(ts:List Tmp) (vs:List Value) (l:Env) (tm:Array Value),(ts.all fun t=>Nat.blt t N)=true→Fr N [] l {tmps:=tm,defers:=[]}→
  Fr N [] (p_ ts vs l) {tmps:=(ts.zip vs).foldl (fun tmps (t,a)=>tmps.setIfInBounds t a) tm,defers:=[]}
 |[],vs,l,tm,_,h=>by cases vs<;>exact h
 |t::ts,[],l,tm,_,h=>h
 |t::ts,v::vs,l,tm,hb,h=>by simp only[List.all_cons,Bool.and_eq_true]at hb;exact AX ts vs ((t,v)::l) (tm.setIfInBounds t v) hb.2<|h.put (d:=some t) hb.1 v
def jE(fn:FuncId)(tmps:Array Value)(ps:Array Tmp)(assign body:Code)(D:Nat)(st:LoopState)(XV:Option Code):Obj:=
 .loop {state:=st,pending:=XV,fn,tmps,params:=ps,assign,body,defers:=D}
abbrev gC:Obj:=.deferred (some [])
def DV(I:List df→G→Prop)(Ix:Code→List df→G→Prop)(g0 gr:G)(lp D:Nat)(ro:LoopState→Obj):Exit→Act→World→Prop
 | .normal,_,w=> ∃L' g',g'.w=w∧St g0 g' (.obj lp (ro .busy):: .obj D gC::L')∧gr.le g'∧I L' g'
 | .ret,_,w=> ∃L' g',g'.w=w∧St g0 g' (.obj lp (ro .busy):: .obj D gC::L')∧gr.le g'∧Ix .ret L' g'
 | .exit id,_,w=> ∃L' g',g'.w=w∧St g0 g' (.obj lp (ro .busy):: .obj D gC::L')∧gr.le g'∧Ix (.exit id) L' g'
 |_,_,_=>False
def G.po(g:G)(b:Nat)(o:Obj):G:=⟨g.w.putObj b o,g.im,fun x h=>by have:=g.lt x h;simpa using this⟩
theorem A_(w:World)(b:Nat)(o:Obj):w.grownBy (w.putObj b o) (some b):=
 ⟨rfl,rfl,rfl,by simp,fun k _ hk=>World.putObj_heap_other (fun e=>hk (congrArg some e))⟩
theorem St.po{i b:Nat}{o o':Obj}(hs:St g0 g L)(hi:L[i]? =some (.obj b o)):St g0 (g.po b o') (L.set i (.obj b o'))∧g.le (g.po b o'):=by have hh:=(hs.own i _ hi).2.1;exact hs.Kp hi (A_ _ _ _) (fun _ _=>Iff.rfl) ⟨(hs.own i _ hi).1,World.putObj_heap_same (Array.getElem?_eq_some_iff.1 hh).1,(hs.own i _ hi).2.2⟩ (fun b' vH=> .inl vH)
theorem EL{α:Type}{lj:FuncId}{fp:Array Value}{gN:α→List Value}{xs:List α}{f:Operand}{ps:Array Tmp}{assign body:Code}
  (hs:St g0 g L) (hf:ev l f=some (.func (.func lj) #[] fp)) (pX:ag P lj) (uh:w7 P lj fp gN xs g) (sw:(ps.toList.all fun t=>Nat.blt t N)=true) (TZ: ∀x,(gN x).length=ps.size)
  (I:List α→List df→G→Prop) (Ix:Code→List α→List df→G→Prop) (hI: ∀pre L g g',g.le g'→I pre L g→I pre L g') (C3: ∀c pre L g g',g.le g'→Ix c pre L g→Ix c pre L g')
  (h0:I [] L g) (la:α→Env)
  (tf: ∀x ro w,W {Wd with round:=some ro} P N [] assign (Exit.then (fun a w'=>w'=w∧Fr N [] (la x) a) (fun _ _ _=>False)) (p_ ps.toList (gN x) l) w)
  (tg: ∀lp D ro pre x rest gr Lr,xs=pre++x::rest→g.le gr→St g0 gr (.obj lp (ro .busy):: .obj D gC::Lr)→I pre Lr gr→
   W {Wd with round:=some lp} P N [] body (DV (I (pre++[x])) (fun c=>Ix c (pre++[x])) g0 gr lp D ro) (la x) gr.w)
  (kj: ∀lp D o Lr ge,g.le ge→St g0 ge (.obj lp o:: .obj D gC::Lr)→I xs Lr ge→ ∀a,Fr N (⟨.collected D,#[]⟩::ds) l a→Q .normal a ge.w)
  (Cj: ∀c lp D o pre Lr ge,pre<+:xs→g.le ge→St g0 ge (.obj lp o:: .obj D gC::Lr)→Ix c pre Lr ge→W Wd P N (⟨.collected D,#[]⟩::ds) c Q l ge.w):
  W Wd P N ds (.rangeFunc f ps assign body) Q l g.w:=by
 intro a ha;refine wpIn_rangeFunc fun fn _=>?_;let ro:LoopState→Obj:=fun st=>jE fn a.tmps ps assign body g.w.heap.size st none
 have tK:=hs.al gC;have aV:=tK.1.al (ro .ready);have cK:(g.al gC).w.heap.size=g.w.heap.size+1:=by simp[G.al]
 let g2:=(g.al gC).al (ro .ready)
 have rL:g.le g2:=tK.2.trans aV.2;refine⟨g.w.heap.size+1,[⟨.collected g.w.heap.size,#[]⟩],g2.w,⟨.fn (.func lj) fp,#[.func (.yield (g.w.heap.size+1)) #[] #[]]⟩,g2.w,lj,(.func (.yield (g.w.heap.size+1)) #[] #[]::fp.toList).toArray,g2.w,?_,?_,fun _ _=>trivial,?_,fun h=>(by cases h),?_⟩
 ·exact run_enterLoop_outer fn a.tmps ps assign body
 ·simp only[resolve,ha.ev hf,Deferred.ofValue];simp[Act.eval,g2]
 ·have e:#[Value.func (.yield (g.w.heap.size+1)) #[] #[]]++fp=(.func (.yield (g.w.heap.size+1)) #[] #[]::fp.toList).toArray:=by apply Array.ext';simp
  rw[←e];exact iO pX _
 --Bp xC s9,with T0 holds E9 Bp rounds
 have AW:St g0 g2 (.obj (g.w.heap.size+1) (ro .ready):: .obj g.w.heap.size gC::L):=by have:=aV.1;rw[cK]at this;exact this
 refine CallsIn.mono (uh g2 rL (.func (.yield (g.w.heap.size+1)) #[] #[])
  (fun pre g'=>g.le g'∧ ∃Lr,St g0 g' (.obj (g.w.heap.size+1) (ro .ready):: .obj g.w.heap.size gC::Lr)∧I pre Lr g')
  (fun pre g'=>g.le g'∧ ∃c Lr,St g0 g' (.obj (g.w.heap.size+1) (jE fn a.tmps ps assign body g.w.heap.size .done (some c)):: .obj g.w.heap.size gC::Lr)∧Ix c pre Lr g')
  (fun pre ga gb hf ⟨h1,Lr,h2,h3⟩=>⟨h1.trans hf.le,Lr,h2.call hf,hI _ _ _ _ hf.le h3⟩)
  (fun pre ga gb hf ⟨h1,c,Lr,h2,h3⟩=>⟨h1.trans hf.le,c,Lr,h2.call hf,C3 _ _ _ _ _ hf.le h3⟩) ?_ ⟨rL,L,AW,hI _ _ _ _ rL h0⟩) ?_
 ·--one round
  rintro pre x rest gp nv T1 ⟨rZ,Lr,dI,hi⟩;have om:gp.w.heap[g.w.heap.size+1]? =some (ro .ready):=(dI.own 0 _ rfl).2.1;refine⟨fn,_,assign,body,run_yield om (by simpa [jE]using TZ x),?_⟩;refine roundIn_of_wpIn trivial ?_;have q_:Fr N [] (p_ ps.toList (gN x) l) {tmps:=(ps.zip (#[]++(gN x).toArray)).foldl (fun tmps (x:Nat×Value)=>tmps.setIfInBounds x.1 x.2) a.tmps,defers:=[]}:=by
   have h:=AX (N:=N) ps.toList (gN x) l a.tmps sw ⟨rfl,ha.size,ha.get⟩;have e:(ps.zip (#[]++(gN x).toArray)).foldl (fun tmps (x:Nat×Value)=>tmps.setIfInBounds x.1 x.2) a.tmps=(ps.toList.zip (gN x)).foldl (fun tmps (x:Nat×Value)=>tmps.setIfInBounds x.1 x.2) a.tmps:=by rw[←Array.foldl_toList];simp
   rw[e];exact h
  refine Go.wpIn_mono (tf x (g.w.heap.size+1) gp.w _ q_) fun e a1 w1 he=>?_;cases e with
  |normal=>
   obtain⟨rfl,AY⟩:=he;have hb:=dI.po (i:=0) (o':=ro .busy) rfl;refine⟨(gp.po (g.w.heap.size+1) (ro .busy)).w,run_beginRound om rfl,?_⟩;have Je:St g0 (gp.po (g.w.heap.size+1) (ro .busy)) (.obj (g.w.heap.size+1) (ro .busy):: .obj g.w.heap.size gC::Lr):=hb.1;refine Go.wpIn_mono (tg _ _ ro pre x rest _ Lr nv (rZ.trans hb.2) Je (hI _ _ _ _ hb.2 hi) a1 AY) fun e a2 w2 he=>?_;cases e with
   |normal=>
    obtain⟨L',g',rfl,aaG,gB,hi'⟩:=he;have kX:g'.w.heap[g.w.heap.size+1]? =some (ro .busy):=(aaG.own 0 _ rfl).2.1;have hp:=aaG.po (i:=0) (o':=ro .ready) rfl;refine⟨_,_,run_endRound none kX,g'.po (g.w.heap.size+1) (ro .ready),true,rfl,rfl,(hb.2.trans gB).trans hp.2,fun _=>⟨((rZ.trans hb.2).trans gB).trans hp.2,L',hp.1,hI _ _ _ _ hp.2 hi'⟩,fun h=>(by cases h)⟩
   |ret=>
    obtain⟨L',g',rfl,aaG,gB,hi'⟩:=he;have kX:g'.w.heap[g.w.heap.size+1]? =some (ro .busy):=(aaG.own 0 _ rfl).2.1;have hp:=aaG.po (i:=0) (o':=jE fn a.tmps ps assign body g.w.heap.size .done (some .ret)) rfl;refine⟨_,_,run_endRound (some .ret) kX,g'.po (g.w.heap.size+1) (jE fn a.tmps ps assign body g.w.heap.size .done (some .ret)),false,rfl,rfl,(hb.2.trans gB).trans hp.2,fun h=>(by cases h),
     fun _=>⟨((rZ.trans hb.2).trans gB).trans hp.2,.ret,L',hp.1,C3 _ _ _ _ _ hp.2 hi'⟩⟩
   |exit id=>
    obtain⟨L',g',rfl,aaG,gB,hi'⟩:=he;have kX:g'.w.heap[g.w.heap.size+1]? =some (ro .busy):=(aaG.own 0 _ rfl).2.1;have hp:=aaG.po (i:=0) (o':=jE fn a.tmps ps assign body g.w.heap.size .done (some (.exit id))) rfl;refine⟨_,_,run_endRound (some (.exit id)) kX,g'.po (g.w.heap.size+1) (jE fn a.tmps ps assign body g.w.heap.size .done (some (.exit id))),false,rfl,rfl,(hb.2.trans gB).trans hp.2,fun h=>(by cases h),
     fun _=>⟨((rZ.trans hb.2).trans gB).trans hp.2,.exit id,L',hp.1,C3 _ _ _ _ _ hp.2 hi'⟩⟩
   |goto t=>exact he.elim
   |panic c=>exact he.elim
   |outgrown=>exact he.elim
  |exit id=>exact he.elim
  |goto t=>exact he.elim
  |ret=>exact he.elim
  |panic c=>exact he.elim
  |outgrown=>exact he.elim
 --Bp iterator has ended
 rintro e w' ⟨ge,v,rfl,rfl,gB,h⟩;have Ck:Fr N (⟨.collected g.w.heap.size,#[]⟩::ds) l {a with defers:=[⟨.collected g.w.heap.size,#[]⟩]++a.defers}:=⟨by simp[ha.defers],ha.size,ha.get⟩;rcases h with⟨hle,Lr,dI,hi⟩|⟨pre,gM,hle,c,Lr,dI,hi⟩
 ·have om:ge.w.heap[g.w.heap.size+1]? =some (ro .ready):=(dI.own 0 _ rfl).2.1;have hp:=dI.po (i:=0) (o':=jE fn a.tmps ps assign body g.w.heap.size .exhausted none) rfl;exact⟨none,_,run_endLoop om (by simp),kj _ _ _ Lr (ge.po _ _) (hle.trans hp.2) hp.1 (hI _ _ _ _ hp.2 hi) _ Ck⟩
 have om:ge.w.heap[g.w.heap.size+1]? =some (jE fn a.tmps ps assign body g.w.heap.size .done (some c)):=(dI.own 0 _ rfl).2.1;have hp:=dI.po (i:=0) (o':=jE fn a.tmps ps assign body g.w.heap.size .exhausted (some c)) rfl;exact⟨some c,_,run_endLoop om (by simp),Cj c _ _ _ pre Lr (ge.po _ _) gM (hle.trans hp.2) hp.1 (C3 _ _ _ _ _ hp.2 hi) _ Ck⟩
theorem AN{fn:Func}{tmps:Array Value}{D i:Nat}{ds:List Deferred}(hs:St g0 g L)(hi:L[i]? =some (.obj D gC))
  (h:LeavesInM Wd 0 P fn tmps R ds .returning (g.po D (.deferred none)).w):LeavesInM Wd 0 P fn tmps R (⟨.collected D,#[]⟩::ds) .returning g.w:=
 ⟨by simp,.inl ⟨D,_,rfl,run_takeDeferred (hs.own i _ hi).2.1,h⟩⟩
end Go.K
namespace Go.K
open Go Go.RowKit
variable {F:Fence} {P:Program} {N:Nat} {ds:List Deferred} {l l':Env} {a:Act} {w:World} {Q:Exit→Act→World→Prop} {ops:Array Oper} {os:List Oper} {o:Oper}
variable {g0 g:G} {L:List df} {K:Value→World→Prop}
def rep(d:Nat)(v:Value):Env→Env
 |[]=>[]
 |(k,u)::r=>bif Nat.beq k d then(k,v)::r else(k,u)::rep d v r
theorem D4{d:Nat}{v:Value}: ∀(l:Env) (t:Nat) (u:Value),lk (rep d v l) t=some u→(t=d∧u=v)∨(t≠d∧lk l t=some u)
 |[],t,u,h=>by simp[rep,lk]at h
 |(k,x)::r,t,u,h=>by
  simp only[rep]at h;cases hk:Nat.beq k d with
  |true=>
   have XO:=Nat.eq_of_beq_eq_true hk;subst XO;rw[hk]at h;simp only[cond_true]at h;by_cases e:k=t
   ·subst e;rw[cZ]at h;exact .inl ⟨rfl,(Option.some.inj h).symm⟩
   rw[cq _ _ e]at h;exact .inr ⟨fun q=>e q.symm,by rw[cq _ _ e];exact h⟩
  |false=>
   rw[hk]at h;simp only[cond_false]at h;by_cases e:k=t
   ·subst e;rw[cZ]at h;refine .inr ⟨fun q=>?_,by rw[cZ];exact h⟩;subst q;simp at hk
   rw[cq _ _ e]at h;rcases D4 r t u h with h'|⟨h1,h2⟩
   ·exact .inl h'
   exact .inr ⟨h1,by rw[cq _ _ e];exact h2⟩
theorem zG{d:Nat}{v x:Value}: ∀(l:Env),lk l d=some x→lk (rep d v l) d=some v
 |[],h=>by simp[lk]at h
 |(k,y)::r,h=>by
  simp only[rep];cases hk:Nat.beq k d with
  |true=>
   have:=Nat.eq_of_beq_eq_true hk;subst this;simp[cZ]
  |false=>
   have eO:k≠d:=fun q=>by subst q;simp at hk
   rw[cq _ _ eO]at h;simp only[cond_false];rw[cq _ _ eO];exact zG r h
theorem tz{d:Nat}{v:Value}: ∀(l:Env) (t:Nat),t≠d→lk (rep d v l) t=lk l t
 |[],t,_=>rfl
 |(k,y)::r,t,h=>by
  simp only[rep];cases hk:Nat.beq k d with
  |true=>
   have:=Nat.eq_of_beq_eq_true hk;subst this;simp only[cond_true];rw[cq _ _ (fun q=>h q.symm),cq _ _ (fun q=>h q.symm)]
  |false=>
   simp only[cond_false];by_cases e:k=t
   ·subst e;rw[cZ,cZ]
   rw[cq _ _ e,cq _ _ e];exact tz r t h
theorem Fr.rep{d:Nat}{v:Value}(ha:Fr N ds l a)(h:lk l d=some v){v':Value}(e:v=v'):Fr N ds (rep d v' l) a:=by
 refine⟨ha.defers,ha.size,fun t u hu=>?_⟩;rcases D4 l t u hu with⟨rfl,rfl⟩|⟨_,h2⟩
 ·subst e;exact ha.get _ _ h
 exact ha.get _ _ h2
theorem Fr.Ud{d:Nat}{v v':Value}(ha:Fr N ds (Go.K.rep d v' l) a)(h:lk l d=some v)(e:v=v'):Fr N ds l a:=by
 refine⟨ha.defers,ha.size,fun t u hu=>?_⟩;by_cases Nu:t=d
 ·subst Nu;rw[h]at hu;obtain rfl:=Option.some.inj hu;subst e;exact ha.get _ _ (zG l h)
 exact ha.get _ _ (by rw[tz l t Nu];exact hu)
def xO(ops:Array Oper):Env→List Oper→Option Env
 |l,[]=>some l
 |l,o::os=>
  match o9 ops l o.guard,o.dst with
  |some false,some d=>xO ops ((d,undef)::l) os
  |_,_=>none
theorem xP(hF: ∀f,F.fn f): ∀(o1:List Oper) {l l':Env} {a:Act} {w:World},xO ops l o1=some l'→(o1.all fun o=>Qp N o.dst)=true→Fr N ds l a→
  (∀a',Fr N ds l' a'→(∀t,(∀o∈o1,o.dst≠some t)→a'.tmps[t]? =a.tmps[t]?)→wpListIn F 0 P ops Q os a' w)→wpListIn F 0 P ops Q (o1++os) a w
 |[],l,l',a,w,hp,_,ha,h=>by simp only[xO,Option.some.injEq]at hp;subst hp;exact h a ha fun _ _=>rfl
 |o::o1,l,l',a,w,hp,hd,ha,h=>by
  simp only[xO]at hp;split at hp
  ·rename_i d hg sB;simp only[List.all_cons,Bool.and_eq_true]at hd;have pd:=ha.put hd.1 undef;rw[sB]at pd;simp only[List.cons_append,wpListIn,jW hg ha];refine⟨fun f _=>hF f,?_⟩;rw[sB];refine xP hF o1 hp hd.2 pd fun a' dW hk=>h a' dW fun t ht=>?_;rw[hk t (fun o' pb=>ht o' (by simp[pb]))];simp only[Act.put];rw[Array.getElem?_setIfInBounds_ne (fun e=>ht o (by simp) (by rw[sB,e]))]
  cases hp
theorem cH(n:Nat){want b x:Bool}{d dp da:Nat}{ty:TypeId}{pos:String}{af:Array Edge}{gp:Option (Nat×Bool)}{A B:Operand}(hF: ∀f,F.fn f){l1:Env}
  (EC:os[n]? =some ⟨some dp,.pick (.tmp d) A B,ty,pos,af,gp⟩) (hl:lk l d=some (.bool b)) (ZA:Nat.blt dp N=true) (Ks:o9 ops l gp=some true)
  (C1:(want=true∧A= .tmp da∧B= .const (.bool false))∨(want=false∧A= .const (.bool true)∧B= .tmp da)) (Vi:lk l da=none)
  (Ue:xO ops (rep d (.bool (!want)) l) (os.take n)=some l1) (l_:((os.take n).all fun o=>Qp N o.dst)=true) (Pv:((os.take n).all fun o=>match o.dst with|some t=>(lk l t).isNone|none=>false)=true)
  (h1:b=want→ ∀Q':Exit→Act→World→Prop,(∀g' a,a_ g g'→Fr N ds ((da,.bool x)::rep d (.bool want) l) a→Q' .normal a g'.w)→WL F P N ds ops Q' (os.take n) (rep d (.bool want) l) g.w)
  (k: ∀g',a_ g g'→WL F P N ds ops Q (os.drop (n+1)) ((dp,.bool (bif want then b&&x else b||x))::l) g'.w):WL F P N ds ops Q os l g.w:=by
 have U_:os=os.take n++(⟨some dp,.pick (.tmp d) A B,ty,pos,af,gp⟩::os.drop (n+1)):=by have bt:=(List.getElem?_eq_some_iff.1 EC).1;have h2:=(List.getElem?_eq_some_iff.1 EC).2;rw[←h2,←List.drop_eq_getElem_cons bt,List.take_append_drop]
 intro a ha;have Fl: ∀(g':G) (a':Act),a_ g g'→Fr N ds l a'→(execOp a'.eval ⟨some dp,.pick (.tmp d) A B,ty,pos,af,gp⟩).run P g'.w= .ok (.value (.bool (bif want then b&&x else b||x))) g'.w→
   wpListIn F 0 P ops Q (⟨some dp,.pick (.tmp d) A B,ty,pos,af,gp⟩::os.drop (n+1)) a' g'.w:=by
  intro g' a' hf dW jX;simp only[wpListIn,jW (o:=⟨some dp,.pick (.tmp d) A B,ty,pos,af,gp⟩) Ks dW,if_true];unfold Oper.wpIn;refine⟨fun f _=>hF f,?_⟩;rw[Oper.semAt_eq _ _ _ (fun c e=>by cases e),jX];exact k g' hf _ (dW.put (d:=some dp) ZA _)
 by_cases hb:b=want
 ·subst hb;have XW:=h1 rfl (Exit.then (fun a' w'=> ∃g',a_ g g'∧g'.w=w'∧Fr N ds ((da,.bool x)::rep d (.bool b) l) a') Q) (fun g' a' hf dW=>⟨g',hf,rfl,dW⟩);refine O8 _ U_ (fun a' dW=>XW a' (dW.rep hl rfl)) ?_ a ha;rintro a' _ ⟨g',hf,rfl,dW⟩;have Uf:a'.eval (.tmp da)= .bool x:=dW.ev (x:=.tmp da) (cZ _ _ _);have Ug:Fr N ds l a':=by
   refine Fr.Ud (d:=d) (v:=.bool b) (v':=.bool b) ⟨dW.defers,dW.size,fun t u hu=>?_⟩ hl rfl;refine dW.get t u ?_;rw[cq _ _ (fun e=>?_)]
   ·exact hu
   subst e;rcases D4 l da u hu with⟨h1,_⟩|⟨_,h2⟩
   ·rw[h1,hl]at Vi;cases Vi
   rw[h2]at Vi;cases Vi
  refine Fl g' a' hf Ug ?_;have Uh:a'.eval (.tmp d)= .bool b:=Ug.ev (x:=.tmp d) hl;rcases C1 with⟨rfl,rfl,rfl⟩|⟨rfl,rfl,rfl⟩
  ·simp only[execOp,Uh,Uf,asBool,Sem.run_bind,Sem.run_pure,Result.andThen_ok];rfl
  simp only[execOp,Uh,Uf,asBool,Sem.run_bind,Sem.run_pure,Result.andThen_ok];rfl
 have XX:b= !want:=(show ∀b want:Bool,¬b=want→b= !want from fun b want=>by cases b<;>cases want<;>simp) b want hb;rw[U_];refine xP hF (os.take n) Ue l_ (ha.rep hl (by rw[XX])) fun a' dW hk=>?_;have Ug:Fr N ds l a':=by
  have Ui:a'.defers=ds∧a'.tmps.size=N:=⟨dW.defers,dW.size⟩;refine⟨Ui.1,Ui.2,fun t u hu=>?_⟩;rw[hk t (fun o ho e=>?_)]
  ·exact ha.get t u hu
  have:=(List.all_eq_true.1 Pv) o ho;simp only[e]at this;rw[hu]at this;cases this
 refine Fl g a' (a_.refl _) Ug ?_;have Uh:a'.eval (.tmp d)= .bool b:=Ug.ev (x:=.tmp d) hl;rcases C1 with⟨rfl,rfl,rfl⟩|⟨rfl,rfl,rfl⟩
 ·subst XX;simp only[execOp,Uh,asBool,Sem.run_bind,Sem.run_pure,Result.andThen_ok];rfl
 subst XX;simp only[execOp,Uh,asBool,Sem.run_bind,Sem.run_pure,Result.andThen_ok];rfl
theorem kI{t:Nat}{k:IntKind}{m n:Int}(h:lk l t=some (.int k m))(e:m=n):lk l t=some (.int k n):=e▸h
theorem kB{t:Nat}{m n:Bool}(h:lk l t=some (.bool m))(e:m=n):lk l t=some (.bool n):=e▸h
theorem kV{t:Nat}{u v:Value}(h:lk l t=some u)(e:u=v):lk l t=some v:=e▸h
theorem wr{n:Int}(h1: -9223372036854775808≤n)(h2:n≤9223372036854775807):IntKind.i64.wrap n=n:=by exact IntWalk.i64_in n ⟨h1,h2⟩
theorem nE{t:Nat}{u:Value}(v:Value)(hl:lk l t=some u)(e:u=v)(h:WL F P N ds ops Q os ((t,v)::l) w):WL F P N ds ops Q os l w:=by
 refine fun a ha=>h a (ha.sub fun s x hs=>?_);by_cases q:t=s
 ·subst q;rw[cZ]at hs;rw[hl,e];exact hs
 rw[cq _ _ q]at hs;exact hs
end Go.K
namespace Go.K
open Go Go.RowKit
variable {F:Fence} {P:Program} {N:Nat} {ds:List Deferred} {l l':Env} {a:Act} {w:World} {Q:Exit→Act→World→Prop} {ops:Array Oper} {os:List Oper} {o:Oper}
variable {g0 g:G} {L:List df} {K:Value→World→Prop}
theorem St.bd(hs:St g0 g L){i b:Nat}{cs:List Value}{E:TypeId}{fz:Nat×Nat}(hi:L[i]? =some (.obj b (.cells cs.toArray E fz))):
  ∃g',g'.w=g.w∧St g0 g' (L.eraseIdx i)∧g.le g'∧EP g' b 0 cs:=by
 refine⟨g.fz _ (fun b hb=>((hs.own i _ hi).lt b hb).2.1),rfl,hs.fz hi,G.sQ g _ _,.inr rfl,fun j y hy=>?_⟩;have h:=(hs.own i _ hi).2.1;show g.w.cell? _=_;simp[World.cell?,h,hy]
theorem St.cP{α:Type}[El α](hs:St g0 g L){i:Nat}{e:TypeId}{v:Value}{n:Nat}{cells:List Value}{xs:List α}(hi:L[i]? =some (.row e (El.k α) v n cells))(hr:cY g cells xs):
  ∃g',g'.w=g.w∧St g0 g' (L.eraseIdx i)∧g.le g'∧Rs g' v xs:=by
 refine⟨g.fz _ (fun b hb=>((hs.own i _ hi).lt b hb).2.1),rfl,hs.fz hi,G.sQ g _ _,?_⟩;exact(hs.own i _ hi).1.rs hr (G.sQ g _ _) fun b hb=>⟨.inr hb,rfl⟩
theorem fb{R:G→Value→Prop}(hF:F.fn=Wd.fn)(hd:F.depth=none)(vE:F.alive=false){x:Operand}{args:Array Operand}{ts:Array TypeId}{fv:Value}{vs:List Value}
  (ho:o.op= .call {callee:=.value x,args,argTypes:=ts}) (hx:ev l x=some fv) (ha:vF l args.toList=some vs)
  (h:jd P fv vs g.w (cO g R)) (k: ∀g' v,a_ g g'→R g' v→K v g'.w):cS F P N ds o l g.w Q K:=
 fC hF hd vE ho hx ha (h.mono fun _ _ ⟨g',v,hw,hf,he,hr⟩=>⟨v,he,hw▸k g' v hf hr⟩)
theorem dy{R:Ending→World→Prop}{f:FuncId}{first captured:Array Value}{args aa:List Value}(hc:ag P f)(has:first.toList++args++captured.toList=aa)(h:CallsIn Wd 0 P f aa.toArray w R):
  jd P (.func (.func f) first captured) args w R:=⟨hc,by rw[has];exact h⟩
def mT{α:Type}(p:α→Bool)(l:List α):Int:=if l.any p then l.findIdx p else -1
theorem vZ{α:Type}{p:α→Bool}{l:List α}{k:Nat}(h:k<l.length)(hp:p l[k]=true)(de: ∀j (h:j<l.length),j<k→p l[j]=false):mT p l=k:=by unfold mT;rw[if_pos (List.any_eq_true.2 ⟨_,List.getElem_mem h,hp⟩)];rw[(List.findIdx_eq h).2 ⟨hp,fun j hj=>de j (by omega) hj⟩]
theorem v_{α:Type}{p:α→Bool}{l:List α}(de: ∀j (h:j<l.length),p l[j]=false):mT p l= -1:=by unfold mT;rw[if_neg];intro h;obtain⟨x,hx,hp⟩:=List.any_eq_true.1 h;obtain⟨j,hj,rfl⟩:=List.mem_iff_getElem.1 hx;rw[de j hj]at hp;cases hp
theorem pV{α:Type}(p:α→Bool)(l:List α):decide (0≤mT p l)=l.any p:=by unfold mT;cases l.any p<;>simp
end Go.K
namespace Go.K
open Go Go.RowKit
variable {F:Fence} {P:Program} {N:Nat} {ds:List Deferred} {l l':Env} {a:Act} {w:World} {Q:Exit→Act→World→Prop} {ops:Array Oper} {os:List Oper} {o:Oper}
variable {g0 g gd:G} {L:List df} {K:Value→World→Prop} {φs:List Fact} {l0:Env}
theorem aB{i:Nat}(h:zw F P N ds ops Q φs l0 gd i o)(h2:iq F P N ds ops Q φs l0 gd (i+1) os):iq F P N ds ops Q φs l0 gd i (o::os):=⟨h,h2⟩
theorem gG{i:Nat}:iq F P N ds ops Q φs l0 gd i []:=trivial
theorem aj{k:Env→Prop}(h:k l):QA φs g [] l k:=h
theorem ah{k:Env→Prop}{j d:Nat}{x:Value}{r:List (Nat×Nat)}(he:gT φs j=Fact.eq x)(h:QA φs g r ((d,x)::l) k):QA φs g ((j,d)::r) l k:=by intro v hv;rw[he]at hv;obtain rfl:v=x:=hv;exact h
theorem ba{k:Env→Prop}{j d:Nat}{r:List (Nat×Nat)}(h: ∀v,(gT φs j).p v g→QA φs g r ((d,v)::l) k):QA φs g ((j,d)::r) l k:=h
def DK(F:Fence)(P:Program)(N:Nat)(ds:List Deferred)(ops:Array Oper)(Q:Exit→Act→World→Prop)(φ:Fact)(g':G)(o:Oper)(env:Env):Prop:=
 match o9 ops env o.guard with
 |some true=>cS F P N ds o env g'.w Q fun v w'=> ∃dM,dM.w=w'∧a_ g' dM∧φ.p v dM
 |some false=>φ.p undef g'
 |none=>False
theorem O_{i:Nat}(h: ∀g',a_ gd g'→QA φs g' (eM ops o) l0 (DK F P N ds ops Q (gT φs i) g' o)):zw F P N ds ops Q φs l0 gd i o:=h
theorem au{i:Nat}{js:List (Nat×Nat)}(hj:eM ops o=js)(h: ∀g',a_ gd g'→QA φs g' js l0 (DK F P N ds ops Q (gT φs i) g' o)):zw F P N ds ops Q φs l0 gd i o:=by subst hj;exact h
theorem iB{φ:Fact}(hg:o9 ops l o.guard=some false)(h:φ.p undef g):DK F P N ds ops Q φ g o l:=by unfold DK;rw[hg];exact h
theorem ay{φ:Fact}(hg:o9 ops l o.guard=some true)(h:cS F P N ds o l g.w Q fun v w'=> ∃dM,dM.w=w'∧a_ g dM∧φ.p v dM):DK F P N ds ops Q φ g o l:=by unfold DK;rw[hg];exact h
variable {Q':Exit→Act→World→Prop} {c y:Code} {J:Act→World→Prop} {id:Nat}
theorem aq(h:W F P N ds y Q' l w): ∀a,Fr N ds l a→Exit.then (y.wpIn F 0 P Q') Q .normal a w:=h
theorem ct(h:W F P N ds c Q l w): ∀a,Fr N ds l a→c.wpIn F 0 P Q a w:=h
theorem bJ(h: ∀a,Fr N ds l a→Q .normal a w): ∀a,Fr N ds l a→Exit.inBlock id Q .normal a w:=h
theorem cA(h: ∀a,Fr N ds l a→Q .normal a w): ∀a,Fr N ds l a→Exit.inBlock id Q (.exit id) a w:=fun a ha=>by unfold Exit.inBlock;simp only[if_true];exact h a ha
theorem Og{Xr:Nat}(eO:Nat.beq Xr id=false)(h: ∀a,Fr N ds l a→Q (.exit Xr) a w): ∀a,Fr N ds l a→Exit.inBlock id Q (.exit Xr) a w:=fun a ha=>by unfold Exit.inBlock;simp only;rw[if_neg (fun e=>by subst e;simp at eO)];exact h a ha
theorem bg(h: ∀a,Fr N ds l a→Q (.exit id) a w): ∀a,Fr N ds l a→Exit.then J Q (.exit id) a w:=h
theorem dO(h: ∀a,Fr N ds l a→Q .ret a w): ∀a,Fr N ds l a→Exit.then J Q .ret a w:=h
theorem gQ(h: ∀a,Fr N ds l a→Q .ret a w): ∀a,Fr N ds l a→Exit.inBlock id Q .ret a w:=h
end Go.K
namespace Go.K
open Go Go.RowKit
variable {F:Fence} {P:Program} {N:Nat} {ds:List Deferred} {l l':Env} {a:Act} {w:World} {Q:Exit→Act→World→Prop} {ops:Array Oper} {os:List Oper} {o:Oper}
variable {g0 g g':G} {L:List df} {K:Value→World→Prop} {R:Ending→World→Prop}
theorem Iy{fn:Func}{t D:Nat}{v:Value}(i:Nat)(hr:fn.results=#[.tmp t])(hs:St g0 g L)(hi:L[i]? =some (.obj D gC))(hl:lk l t=some v)
  (hR: ∀g',St g0 g' (L.eraseIdx i)→g.le g'→R (.returned v) g'.w) (a:Act) (ha:Fr N [⟨.collected D,#[]⟩] l a):bodyPostM Wd 0 P fn R .ret a g.w:=by
 show LeavesInM Wd 0 P fn a.tmps R a.defers .returning g.w;rw[ha.defers];have hp:=hs.po (o':=.deferred none) hi;refine AN hs hi ⟨_,results_tmp hr _ _ _,?_⟩;have:a.tmps.getD t undef=v:=by simp[Array.getD_eq_getD_getElem?,ha.get t v hl]
 rw[this];refine hR _ ?_ hp.2;have h2:=hp.1.drop i;rwa [show(L.set i (df.obj D (.deferred none))).eraseIdx i=L.eraseIdx i from by apply List.ext_getElem?;intro j;simp only[List.getElem?_eraseIdx,List.getElem?_set];split<;>(rw[if_neg (by omega)])]at h2
theorem Nd{fn:Func}{D:Nat}(i:Nat)(hr:fn.results=#[])(hs:St g0 g L)(hi:L[i]? =some (.obj D gC))
  (hR: ∀g',St g0 g' (L.eraseIdx i)→g.le g'→R (.returned (.tuple #[])) g'.w) (a:Act) (ha:Fr N [⟨.collected D,#[]⟩] l a):bodyPostM Wd 0 P fn R .normal a g.w:=by
 show LeavesInM Wd 0 P fn a.tmps R a.defers .returning g.w;rw[ha.defers];have hp:=hs.po (o':=.deferred none) hi;refine AN hs hi ⟨_,results_none hr _ _ _,?_⟩;refine hR _ ?_ hp.2;have h2:=hp.1.drop i;rwa [show(L.set i (df.obj D (.deferred none))).eraseIdx i=L.eraseIdx i from by apply List.ext_getElem?;intro j;simp only[List.getElem?_eraseIdx,List.getElem?_set];split<;>(rw[if_neg (by omega)])]at h2
def kh{α:Type}[El α](e:TypeId)(g:G)(xs:List α)(g':G)(v:Value):Prop:=∃cells,df.holds g.w.heap.size g' (.row e (El.k α) v xs.length cells)∧cY g' cells xs
theorem St.lr(hs:St g0 g L)(hf:a_ g g'){e:df}(h:e.holds g.w.heap.size g'):St g0 g' (e::L):=by
 have aV:=hs.call hf;refine⟨aV.below,aV.im,?_,?_⟩
 ·intro j x hj;cases j with
  |zero=>
   simp only[List.getElem?_cons_zero,Option.some.injEq]at hj;subst hj;cases e with
   |obj b o=>exact⟨Nat.le_trans hs.below.size h.1,h.2⟩
   |row t k v n xs=>
    refine⟨⟨h.1.1,?_⟩,h.2⟩;rcases h.1.2 with h'|⟨b,off,cap,cur,e1,hB,h'⟩
    ·exact .inl h'
    exact .inr ⟨b,off,cap,cur,e1,Nat.le_trans hs.below.size hB,h'⟩
  |succ j=>exact aV.own j x (by simpa using hj)
 intro j k x y Ey hj hk b Bo yl;cases j with
 |zero=>
  cases k with
  |zero=>exact Ey rfl
  |succ k=>
   simp only[List.getElem?_cons_zero,Option.some.injEq]at hj;subst hj;have h1:=(h.lt b Bo).1;have h2:=((hs.own k y (by simpa using hk)).lt b yl).2.1;omega
 |succ j=>
  cases k with
  |zero=>
   simp only[List.getElem?_cons_zero,Option.some.injEq]at hk;subst hk;have h1:=(h.lt b yl).1;have h2:=((hs.own j x (by simpa using hj)).lt b Bo).2.1;omega
  |succ k=>exact aV.sep j k x y (by omega) (by simpa using hj) (by simpa using hk) b Bo yl
theorem St.mw{α:Type}[El α](hs:St g0 g L){i:Nat}{e:TypeId}{v:Value}{n:Nat}{cells:List Value}{xs:List α}(hi:L[i]? =some (.row e (El.k α) v n cells))(hr:cY g cells xs):kh e g0 xs g v:=by
 have h:=hs.own i _ hi;have hn:n=xs.length:=by have h1:=h.1.1;have hp:=El.pos (α:=α);rw[hr.len]at h1;exact(Nat.eq_of_mul_eq_mul_right hp h1).symm
 subst hn;exact⟨cells,h,hr⟩
theorem kh.nil{α:Type}[El α](e:TypeId)(g g':G)(a:Option Addr):kh e g ([]:List α) g' (.slice a 0 0):=
 ⟨[],⟨Row.nil _ _ _ _ _,fun b hb=>by rw[kT]at hb;cases hb⟩,rfl⟩
theorem St.jO{α:Type}[El α](hs:St g0 g L)(hf:a_ g g'){e:TypeId}{v:Value}{xs:List α}(h:kh e g xs g' v): ∃g2,g2.w=g'.w∧St g0 g2 L∧g'.le g2∧Rs g2 v xs:=by obtain⟨cells,h1,h2⟩:=h;obtain⟨g2,e1,e2,e3,e4⟩:=(hs.lr hf h1).cP (i:=0) rfl h2;exact⟨g2,e1,e2,e3,e4⟩
theorem cY.ints(g:G): ∀xs:List Int,cY g (xs.map (Value.int .i64)) xs
 |[]=>rfl
 |x::xs=>⟨[vI x],xs.map (Value.int .i64),rfl,rfl,cY.ints g xs⟩
end Go.K
namespace Go.K
open Go Go.RowKit
variable {F:Fence} {P:Program} {N:Nat} {ds:List Deferred} {l l':Env} {a:Act} {w:World} {Q:Exit→Act→World→Prop} {ops:Array Oper} {os:List Oper} {o:Oper}
variable {g0 g g':G} {L:List df} {K:Value→World→Prop}
theorem Gn(z:Array Value)(n:Nat)(hz:0<z.size):(Builtin.zeroCells z n).toList=(List.replicate n z.toList).flatten:=zx z n hz
theorem zn{tb:Tb}(dE:tb.ok P)(i:Nat){t e:Nat}{ti ei:TI}{k:Nat}{x:Operand}{b p m cap n c' a:Nat}{ad:Option Addr}{xs xs':List Value}
  (ho:o.op= .call {callee:=.builtin .clear,args:=#[x],argTypes:=#[t]}) (hs:St g0 g L) (hL:L[i]? =some (.row e k (.slice (some ⟨b,p,none⟩) n cap) n xs)) (hx:ev l x=some (.slice ad m c'))
  (hi:tl tb t=some ti) (hd:ti.desc= .slice e) (hj:tl tb e=some ei) (hk:ei.size=k) (lK:0<k) (hz:ei.zero.cells.size=k) (h1:ei.zero.cells.toList.all Value.oneCell'=true)
  (Xs:m=0∨ad=some ⟨b,p+a*k,none⟩) (U':a+m=n) (nv:xs'=xs.take (a*k)++(List.replicate m ei.zero.cells.toList).flatten)
  (kk: ∀g',St g0 g' (L.set i (.row e k (.slice (some ⟨b,p,none⟩) n cap) n xs'))→g.le g'→K (.tuple #[]) g'.w):cS F P N ds o l g.w Q K:=by
 obtain⟨⟨dd,hu,he⟩,_⟩:=dE.at hi;rw[hd]at he;obtain rfl:=KD.of_slice he;obtain⟨_,inf,e1,e2,e3,e4⟩:=dE.at hj;have eh:=hs.own i _ hL;have so:=eh.1.1;by_cases hm:m=0
 ·subst hm;have RB:xs'=xs:=by rw[nv,show a=n from by omega,List.take_of_length_le (by omega)];simp
  subst RB;refine fZ ho (w':=g.w) (v:=.tuple #[]) (fun ac ha=>?_) (kk g (by
   rw[show L.set i (df.row e k (.slice (some ⟨b,p,none⟩) n cap) n xs')=L from by
    apply List.ext_getElem?;intro j;rw[List.getElem?_set];split
    ·rename_i h;subst h;rw[hL];simp[(List.getElem?_eq_some_iff.1 hL).1]
    rfl]
   exact hs) (G.le.refl g))
  cases ad<;>simp[resolve,invoke,builtin,ha.ev hx,Builtin.clear_,run_underlying hu]
 have Xs:=Xs.resolve_left hm;subst Xs;have Zr:((List.replicate m ei.zero.cells.toList).flatten).length=m*k:=by simp[hz]
 have VZ:0<m*k:=Nat.mul_pos (by omega) lK;have Zs:n*k=a*k+m*k:=by rw[←U',Nat.add_mul]
 obtain⟨cur,_,hh,I7,hR,rK,_⟩:=eh.1.store (us:=(List.replicate m ei.zero.cells.toList).flatten) (off:=a*k) (by rw[Zr,so];omega) (by omega);have Xt:nr xs (a*k) (List.replicate m ei.zero.cells.toList).flatten=xs':=by unfold nr;rw[Zr,List.drop_of_length_le (by omega),List.append_nil,nv]
 rw[Xt]at hR;have dI:=hs.Kp (g':=g.sr b (nr cur (p+a*k) (List.replicate m ei.zero.cells.toList).flatten).toArray) (e':=.row e k (.slice (some ⟨b,p,none⟩) n cap) n xs') hL
  (by simp only[df.vJ,jU rK];exact lE _ _ _) (fun _ _=>Iff.rfl) ⟨hR,eh.2⟩ (fun b' vH=> .inl vH)
 refine fZ ho (w':=(g.sr b (nr cur (p+a*k) (List.replicate m ei.zero.cells.toList).flatten).toArray).w) (v:=.tuple #[]) (fun ac ha=>?_) (kk _ dI.1 dI.2);have E3:=iN (P:=P) b (p+a*k) e (List.replicate m ei.zero.cells.toList).flatten 0 cur.toArray g.w hh (by simpa using I7) (by intro u hu;obtain⟨l',z7,Va⟩:=List.mem_flatten.1 hu;rw[(List.mem_replicate.1 z7).2]at Va;exact List.all_eq_true.1 h1 u Va);simp only[Nat.add_zero]at E3;obtain⟨m',rfl⟩: ∃m',m=m'+1:=⟨m-1,by omega⟩;simp[resolve,invoke,builtin,ha.ev hx,Builtin.clear_,run_underlying hu,zeroValue,typeInfo,e1,e4,Gn _ _ (by omega:0<ei.zero.cells.size),E3,G.sr,nr]
theorem Row.B3{B:Nat}{e:TypeId}{k n c a:Nat}{ad:Option Addr}{xs:List Value}(h:Row B e k (.slice ad n c) n xs w)(h1:a≤n):
  Row B e k (.slice (if c=0 then ad else ad.map (·.add (0*k))) (a-0) (c-0)) a (xs.take (a*k)) w:=by
 refine⟨by rw[List.length_take,h.1];exact Nat.min_eq_left (Nat.mul_le_mul_right k h1),?_⟩;rcases h.2 with⟨rfl,a',e1⟩|⟨b,p,cap,cur,e1,hB,hh,pU,tJ,ph,ht⟩
 ·simp only[Value.slice.injEq]at e1;obtain⟨rfl,_,rfl⟩:=e1;obtain rfl:a=0:=by omega
  exact .inl ⟨rfl,ad,by simp⟩
 simp only[Value.slice.injEq]at e1;obtain⟨rfl,_,rfl⟩:=e1;by_cases nS:c=0
 ·subst nS;exact .inl ⟨by omega,_,by rw[show a-0=0 from by omega,show(0:Nat)-0=0 from rfl]⟩
 rw[if_neg nS];refine .inr ⟨b,p,c,cur,by simp[Addr.add_lit],hB,hh,by omega,tJ,ph,?_⟩;rw[←ht,List.take_take,Nat.min_eq_left (Nat.mul_le_mul_right k h1)]
theorem St.B3(hs:St g0 g L){i:Nat}{e:TypeId}{k n c a:Nat}{ad:Option Addr}{xs:List Value}(hi:L[i]? =some (.row e k (.slice ad n c) n xs))(h1:a≤n):
  St g0 g (L.set i (.row e k (.slice (if c=0 then ad else ad.map (·.add (0*k))) (a-0) (c-0)) a (xs.take (a*k)))):=by
 have eh:=hs.own i _ hi;have EY: ∀b,sA (.slice (if c=0 then ad else ad.map (·.add (0*k))) (a-0) (c-0))=some b→sA (.slice ad n c)=some b:=by
  intro b hb;by_cases hc:c=0
  ·subst hc;rw[show(0:Nat)-0=0 from rfl,kT]at hb;cases hb
  rw[if_neg hc]at hb;cases ad with
  |none=>simp[sA]at hb
  |some ad=>
   rw[Option.map_some,Nat.sub_zero,Nat.sub_zero,jU hc]at hb;rw[jU hc];rw[Nat.zero_mul]at hb;simpa [Addr.add]using hb
 exact(hs.Kp (g':=g) (e':=.row e k (.slice (if c=0 then ad else ad.map (·.add (0*k))) (a-0) (c-0)) a (xs.take (a*k))) hi (jV _ _) (fun _ _=>Iff.rfl)
  ⟨eh.1.B3 h1,fun b hb=>eh.2 b (EY b hb)⟩ (fun b hb=> .inl (EY b hb))).1
theorem St.cutFrom(hs:St g0 g L){i:Nat}{e:TypeId}{k n c a:Nat}{ad:Option Addr}{xs:List Value}(hi:L[i]? =some (.row e k (.slice ad n c) n xs))(h1:a≤n):
  St g0 g (L.set i (.row e k (.slice (if c=a then ad else ad.map (·.add (a*k))) (n-a) (c-a)) (n-a) (xs.drop (a*k)))):=by
 have eh:=hs.own i _ hi;have pU:n≤c:=by
  rcases eh.1.2 with⟨h,a',e1⟩|⟨b,p,cap,cur,e1,_,_,h2,_⟩
  ·omega
  simp only[Value.slice.injEq]at e1;omega
 have EY: ∀b,sA (.slice (if c=a then ad else ad.map (·.add (a*k))) (n-a) (c-a))=some b→sA (.slice ad n c)=some b:=by
  intro b hb;by_cases hc:c=a
  ·rw[show c-a=0 from by omega,kT]at hb;cases hb
  rw[if_neg hc]at hb;cases ad with
  |none=>simp[sA]at hb
  |some ad=>
   rw[Option.map_some,jU (by omega)]at hb;rw[jU (by omega)];rw[←hb];unfold Addr.add;split<;>rfl
 exact(hs.Kp (g':=g) (e':=.row e k (.slice (if c=a then ad else ad.map (·.add (a*k))) (n-a) (c-a)) (n-a) (xs.drop (a*k))) hi (jV _ _) (fun _ _=>Iff.rfl)
  ⟨eh.1.cutFrom h1,fun b hb=>eh.2 b (EY b hb)⟩ (fun b hb=> .inl (EY b hb))).1
theorem St.Tg{α:Type}[El α](hs:St g0 g L){i:Nat}{e:TypeId}{v:Value}{n:Nat}{cells:List Value}{xs:List α}(hi:L[i]? =some (.row e (El.k α) v n cells))(hr:cY g cells xs):
  ∃gf,gf.w=g.w∧g.le gf∧Rs gf v xs∧ ∀g2,a_ gf g2→ ∃g3,g3.w=g2.w∧a_ g g3:=by
 have eh:=hs.own i _ hi;have bt: ∀b,sA v=some b→b<g.w.heap.size:=fun b hb=>(eh.1.lt b hb).2;refine⟨g.fz (sA v) bt,rfl,G.sQ g _ _,eh.1.rs hr (G.sQ g _ _) fun b hb=>⟨.inr hb,rfl⟩,fun g2 hf=>?_⟩;refine⟨⟨g2.w,fun b=>g2.im b∧sA v≠some b,fun b h=>g2.lt b h.1⟩,rfl,hf.below,fun b hb=>?_⟩;have h1:=hf.im b hb;constructor
 ·intro h;rcases h1.1 h.1 with h'|h'
  ·exact h'
  exact absurd h' h.2
 intro h;exact⟨h1.2 (.inl h),fun h'=>eh.2 b h' h⟩
end Go.K
namespace Go.K
open Go Go.RowKit
variable {F:Fence} {P:Program} {N:Nat} {ds:List Deferred} {ops:Array Oper} {Q:Exit→Act→World→Prop} {φs:List Fact} {l0:Env} {gd:G}
def wN(φ:Fact):Prop:=∀v g g',g.le g'→φ.p v g→φ.p v g'
def jB(own:List Nat):Nat→List Fact→Prop
 |_,[]=>True
 |i,φ::r=>(own.contains i=true∨wN φ)∧jB own (i+1) r
theorem kL(x:Value):wN (Fact.eq x):=fun _ _ _ _ h=>h
theorem cz{α:Type}[El α](xs:List α):wN (Fact.rs xs):=fun _ _ _ hle h=>Rs.mono hle h
theorem dq:wN Fact.any:=fun _ _ _ _ h=>h
theorem u7{own:List Nat}{i:Nat}:jB own i []:=trivial
theorem cU{own:List Nat}{i:Nat}{φ:Fact}{r:List Fact}(h:wN φ)(h2:jB own (i+1) r):jB own i (φ::r):=⟨.inr h,h2⟩
theorem u9{own:List Nat}{i:Nat}{x:Value}{r:List Fact}(h2:jB own (i+1) r):jB own i (Fact.eq x::r):=⟨.inr (kL x),h2⟩
theorem u_{own:List Nat}{i:Nat}{φ:Fact}{r:List Fact}(h:own.contains i=true)(h2:jB own (i+1) r):jB own i (φ::r):=⟨.inl h,h2⟩
theorem jB.at{own:List Nat}: ∀{φs:List Fact} {i:Nat},jB own i φs→ ∀j,own.contains (i+j)=true∨wN (gT φs j)
 |[],i,_,j=> .inr (by unfold gT;simpa using dq)
 |φ::r,i,h,0=>by simpa [gT]using h.1
 |φ::r,i,h,j+1=>by have:=jB.at (i:=i+1) h.2 j;rw[show i+(j+1)=i+1+j from by omega];simpa [gT]using this
def RC(e:Nat)(gd:G)(i:Nat)(g g':G):Prop:=if i=e then g.le g'∧a_ gd g' else a_ g g'
def Nt(F:Fence)(P:Program)(N:Nat)(ds:List Deferred)(ops:Array Oper)(Q:Exit→Act→World→Prop)(φs:List Fact)(l0:Env)(gd:G)(e i:Nat)(o:Oper):Prop:=
 ∀g',a_ gd g'→QA φs g' (eM ops o) l0 fun env=>
  match o9 ops env o.guard with
  |some true=>cS F P N ds o env g'.w Q fun v w'=> ∃dM,dM.w=w'∧RC e gd i g' dM∧(gT φs i).p v dM
  |some false=>(gT φs i).p undef g'
  |none=>False
def AO(F:Fence)(P:Program)(N:Nat)(ds:List Deferred)(ops:Array Oper)(Q:Exit→Act→World→Prop)(φs:List Fact)(l0:Env)(gd:G)(e:Nat):Nat→List Oper→Prop
 |_,[]=>True
 |i,o::os=>Nt F P N ds ops Q φs l0 gd e i o∧AO F P N ds ops Q φs l0 gd e (i+1) os
def E5(ops:Array Oper)(own:List Nat)(e m:Nat)(outs:List (Nat×Nat)):Bool:=
 outs.all (fun p=> !own.contains p.1)&&(List.range m).all (fun i=>i==e||(match ops[i]? with|some o=>(eM ops o).all (fun p=> !own.contains p.1)|none=>true))
theorem AO.at{e:Nat}: ∀{l:List Oper} {i0:Nat},AO F P N ds ops Q φs l0 gd e i0 l→ ∀(j:Nat) o,l[j]? =some o→Nt F P N ds ops Q φs l0 gd e (i0+j) o
 |[],_,_,j,o,h=>by simp at h
 |x::l,i0,hs,0,o,h=>by simp only[List.getElem?_cons_zero,Option.some.injEq]at h;subst h;exact hs.1
 |x::l,i0,hs,j+1,o,h=>by simp only[List.getElem?_cons_succ]at h;have:=AO.at (i0:=i0+1) hs.2 j o h;rw[show i0+(j+1)=i0+1+j from by omega];exact this
variable {e:Nat} {os:List Oper} {o:Oper} {l:Env} {g:G}
end Go.K
namespace Go.K
open Go Go.RowKit
variable {F:Fence} {P:Program} {N:Nat} {ds:List Deferred} {l l':Env} {a:Act} {w:World} {Q:Exit→Act→World→Prop} {c:Code}
theorem jC{b:Frame}{k:List Item}{cs:List Frame}:step P (lone (b.atR a (.code (.scope c)::k)) cs w)= .next (lone (b.atR a (.code c:: .inScope c::k)) cs w):=
 step_lone_go (by simp[stepG,stepG.exec,Frame.atR])
theorem yM{b:Frame}{k:List Item}{cs:List Frame}:step P (lone (b.atR a (.inScope c::k)) cs w)= .next (lone (b.atR a k) cs w):=
 step_lone_go (by simp[stepG,stepG.exec,Frame.atR])
theorem LH(h:W F P N ds c (Exit.noGoto Q) l w):W F P N ds (.scope c) Q l w:=by
 intro a ha b k cs TN hb hr;have h0:(lone (b.atR a (.code (.scope c)::k)) cs w).fenced P F:=fenced_calm hb hr rfl;obtain⟨e,a₁,w₁,hq,rX⟩:=h a ha b (.inScope c::k) cs TN hb hr;cases e with
 |normal=>exact⟨.normal,a₁,w₁,hq,.head h0 jC (StepsIn.trans rX (.one (fenced_calm hb hr rfl) yM))⟩
 |exit id=>
  have hx:exitTo id (.inScope c::k)=exitTo id k:=by simp[exitTo]
  exact⟨.exit id,a₁,w₁,hq,fun k' hk=> .head h0 jC (rX.1 k' (by rw[hx];exact hk)),
   fun G6 hk=>let⟨k₁,h1,h2⟩:=rX.2 G6 (by rw[hx];exact hk);⟨k₁,h1,.head h0 jC h2⟩⟩
 |goto l=>exact hq.elim
 |ret=>exact⟨_,a₁,w₁,hq,.of_steps (.one h0 jC) rX⟩
 |panic ch=>exact⟨_,a₁,w₁,hq,.of_steps (.one h0 jC) rX⟩
 |outgrown=>exact⟨_,a₁,w₁,hq,.of_steps (.one h0 jC) rX⟩
theorem O1(h: ∀a,Fr N ds l a→Q .ret a w): ∀a,Fr N ds l a→Exit.noGoto Q .ret a w:=h
end Go.K
namespace Go.K
open Go Go.RowKit
variable {F:Fence} {P:Program} {N:Nat} {ds:List Deferred} {ops:Array Oper} {Q:Exit→Act→World→Prop} {φs:List Fact} {l0:Env} {gd:G}
def uz(e i:Nat)(g g':G):Prop:=if i=e then g.le g' else a_ g g'
def zy(F:Fence)(P:Program)(N:Nat)(ds:List Deferred)(ops:Array Oper)(Q:Exit→Act→World→Prop)(φs:List Fact)(l0:Env)(gd:G)(rY:List Nat)(e i:Nat)(o:Oper):Prop:=
 ∀g',gd.le g'→((rY.contains i=true∨i=e)→a_ gd g')→QA φs g' (eM ops o) l0 fun env=>
  match o9 ops env o.guard with
  |some true=>cS F P N ds o env g'.w Q fun v w'=> ∃dM,dM.w=w'∧uz e i g' dM∧(gT φs i).p v dM
  |some false=>(gT φs i).p undef g'
  |none=>False
def og(F:Fence)(P:Program)(N:Nat)(ds:List Deferred)(ops:Array Oper)(Q:Exit→Act→World→Prop)(φs:List Fact)(l0:Env)(gd:G)(rY:List Nat)(e:Nat):Nat→List Oper→Prop
 |_,[]=>True
 |i,o::os=>zy F P N ds ops Q φs l0 gd rY e i o∧og F P N ds ops Q φs l0 gd rY e (i+1) os
def va(ops:Array Oper)(rY:List Nat)(e:Nat):Bool:=
 rY.all fun i=>Nat.blt i e&&(e::rY).any fun j=>match ops[j]? with|some o=>(ll o).contains i|none=>false
theorem og.at{rY:List Nat}{e:Nat}: ∀{l:List Oper} {i0:Nat},og F P N ds ops Q φs l0 gd rY e i0 l→ ∀(j:Nat) o,l[j]? =some o→zy F P N ds ops Q φs l0 gd rY e (i0+j) o
 |[],_,_,j,o,h=>by simp at h
 |x::l,i0,hs,0,o,h=>by simp only[List.getElem?_cons_zero,Option.some.injEq]at h;subst h;exact hs.1
 |x::l,i0,hs,j+1,o,h=>by simp only[List.getElem?_cons_succ]at h;have:=og.at (i0:=i0+1) hs.2 j o h;rw[show i0+(j+1)=i0+1+j from by omega];exact this
theorem E6{id:Nat}{g:G}(hF: ∀f,F.fn f)(hm:P.follows .mixedOrders=true)(φs:List Fact)(m:Nat)(outs:List (Nat×Nat))(own rY:List Nat)(e:Nat)(l_:uA N ops l0 m=true)(eh:E5 ops own e m outs=true)(AQ:va ops rY e=true)(hsoft:jB (e::own) 0 φs)
  (houts:outs.all (fun p=>Nat.blt p.1 m&&(dk ops p.1==some p.2))=true)
  (iC:og F P N ds ops Q φs l0 g.dr rY e 0 (ops.toList.take m))
  (kj: ∀g',g.dr.le g'→QA φs g' outs l0 fun env=>WL F P N ds ops Q (ops.toList.drop m) env g'.w):W F P N ds (.region id ops true) Q l0 g.w:=by
 intro a ha;simp only[uA,Bool.and_eq_true,List.all_eq_true,List.mem_range]at l_;obtain⟨⟨⟨c1,c2⟩,c3⟩,c4⟩:=l_;have c4:m≤ops.size:=Nat.le_of_ble_eq_true c4;have k1: ∀i o,ops[i]? =some o→ ∀j∈ll o,j<i:=by intro i o ho j hj;have:=c1 i (Array.getElem?_eq_some_iff.1 ho).1;rw[ho]at this;have:=(List.all_eq_true.1 this) j hj;simpa [Nat.blt_eq]using this
 have k2: ∀j o,m≤j→ops[j]? =some o→ ∀k,k<j→ ∃i' o',k<i'∧i'≤j∧ops[i']? =some o'∧k∈ll o':=by
  intro j o hj ho k hk;have:=c2 j (Array.getElem?_eq_some_iff.1 ho).1;simp only[Bool.or_eq_true]at this;rcases this with h|h
  ·have:j<m:=by simpa [Nat.blt_eq]using h
   omega
  have:=(List.all_eq_true.1 h) k (List.mem_range.2 hk);obtain⟨i',h1,h2⟩:=List.any_eq_true.1 this;simp only[Bool.and_eq_true]at h2;have h3:=List.mem_range.1 h1;cases pb:ops[i']? with
  |none=>rw[pb]at h2;simp at h2
  |some o'=>
   rw[pb]at h2;exact⟨i',o',by simpa [Nat.blt_eq]using h2.1,by omega,pb,by simpa using h2.2⟩
 have k4: ∀(listed:Array Bool),(∀k o,listed.getD k false=true→ops[k]? =some o→ ∀e∈ll o,listed.getD e false=true)→ ∀j o,m≤j→ops[j]? =some o→(∀e∈ll o,listed.getD e false=true)→ ∀k,k<j→listed.getD k false=true:=by
  intro listed fw j o hj ho dj;have: ∀d k,k<j→j-k=d→listed.getD k false=true:=by
   intro d
   induction d using Nat.strongRecOn with
   |_ d Cc=>
    intro k hk hd;obtain⟨i',o',h1,h2,h3,h4⟩:=k2 j o hj ho k hk;rcases Nat.lt_or_ge i' j with h|h
    ·exact fw i' o' (Cc (j-i') (by omega) i' h rfl) h3 k h4
    obtain rfl:i'=j:=by omega
    rw[ho]at h3;obtain rfl:=Option.some.inj h3;exact dj k h4
  exact fun k hk=>this _ k hk rfl
 have k3: ∀i,i<m→ ∃d,dk ops i=some d∧d<N∧lk l0 d=none∧ ∀j,j<m→j≠i→ ∃e,dk ops j=some e∧e≠d:=by
  intro i hi;have:=c3 i hi;cases hd:dk ops i with
  |none=>simp[hd]at this
  |some d=>
   simp only[hd,Bool.and_eq_true,List.all_eq_true,List.mem_range,Bool.or_eq_true]at this;refine⟨d,rfl,by simpa [Nat.blt_eq]using this.1.1,by simpa using this.1.2,fun j hj eO=>?_⟩;rcases this.2 j hj with h|h
   ·exact absurd (by simpa using h) eO
   cases he:dk ops j with
   |none=>simp[he]at h
   |some e=>exact⟨e,rfl,by simpa [he]using h⟩
 simp only[E5,Bool.and_eq_true,List.all_eq_true,List.mem_range]at eh;have o1: ∀p∈outs,own.contains p.1=false:=fun p hp=>by simpa using eh.1 p hp
 have o2: ∀i o,i<m→i≠e→ops[i]? =some o→ ∀p∈eM ops o,own.contains p.1=false:=by
  intro i o hi eO ho p hp;have:=eh.2 i hi;rw[ho]at this;simp only[Bool.or_eq_true]at this;rcases this with h|h
  ·exact absurd (by simpa using h) eO
  simpa using(List.all_eq_true.1 h) p hp
 have O': ∀(listed:Array Bool),(∀k o,listed.getD k false=true→ops[k]? =some o→ ∀e∈ll o,listed.getD e false=true)→listed.getD e false=true→ ∀i,rY.contains i=true→listed.getD i false=true:=by
  intro listed fw hle;have: ∀d i,rY.contains i=true→e-i=d→listed.getD i false=true:=by
   intro d
   induction d using Nat.strongRecOn with
   |_ d Cc=>
    intro i hi hd;have h:=(List.all_eq_true.1 AQ) i (by simpa using hi);simp only[Bool.and_eq_true,List.any_eq_true]at h;obtain⟨oh,j,hj,sn⟩:=h;have oh:i<e:=by simpa [Nat.blt_eq]using oh
    cases pb:ops[j]? with
    |none=>rw[pb]at sn;simp at sn
    |some o'=>
     rw[pb]at sn;have Bk:=k1 j o' pb i (by simpa using sn);refine fw j o' ?_ pb i (by simpa using sn);rcases List.mem_cons.1 hj with rfl|hj
     ·exact hle
     have Gp:=(List.all_eq_true.1 AQ) j hj;simp only[Bool.and_eq_true]at Gp;have Gp:j<e:=by simpa [Nat.blt_eq]using Gp.1
     exact Cc (e-j) (by omega) j (by simpa using hj) rfl
  exact fun i hi=>this _ i hi rfl
 let waits:Nat→Array Bool→Prop:=fun j listed=>(∃p∈outs,p.1=j)∨ ∃i o,i<m∧listed.getD i false=false∧ops[i]? =some o∧ ∃p∈eM ops o,p.1=j
 refine wpIn_region_any hm ?_;have key: ∀(fuel:Nat) (listed:Array Bool) (a:Act) (g':G),listed.size=ops.size→(g.dr.le g'∧(listed.getD e false=false→a_ g.dr g'))→Fr N ds l0 a→
   (∀i,i<m→listed.getD i false=true→ ∃d v,dk ops i=some d∧a.tmps[d]? =some v∧(waits i listed→(gT φs i).p v g'))→(∀j,m≤j→j<ops.size→listed.getD j false=false)→(∀k o,listed.getD k false=true→ops[k]? =some o→ ∀e∈ll o,listed.getD e false=true)→
   (ops.size-((List.range ops.size).filter fun i=>listed.getD i false).length≤fuel)→wpAnyIn F 0 P .any ops Q fuel listed a g'.w:=by
  intro fuel
  induction fuel with
  |zero=>
   intro listed a g' cK hf ha eC f_ fw td;have dj: ∀j,j<ops.size→listed.getD j false=true:=by
    have hlen:((List.range ops.size).filter fun i=>listed.getD i false).length=(List.range ops.size).length:=by have:=List.length_filter_le (fun i=>listed.getD i false) (List.range ops.size);simp only[List.length_range]at this⊢;omega
    have:=List.length_filter_eq_length_iff.1 hlen;intro j hj;exact this j (List.mem_range.2 hj)
   have F5:m=ops.size:=by
    rcases Nat.lt_or_ge m ops.size with h|h
    ·have:=f_ m (Nat.le_refl _) h;rw[dj m h]at this;cases this
    omega
   obtain⟨env,hW,gR⟩:=kA outs (kj g' hf.1) ha (fun p hp=>by
    have:=(List.all_eq_true.1 houts) p hp;simp only[Bool.and_eq_true,beq_iff_eq]at this;have bt:p.1<m:=by simpa [Nat.blt_eq]using this.1
    obtain⟨d,v,hd,hv,ke⟩:=eC p.1 bt (dj _ (by omega));replace ke:=ke (.inl ⟨p,hp,rfl⟩);rw[this.2]at hd;obtain rfl:=Option.some.inj hd;exact⟨v,hv,ke⟩)
   refine jg k1 0 ops.size listed a g'.w cK (Nat.le_refl _) (fun j o hj ho=>?_) (fun j hj=>⟨fun _=>hj,fun _=>dj j hj⟩) (by omega) (by rw[←F5];exact hW a gR);have:=(Array.getElem?_eq_some_iff.1 ho).1;omega
  |succ fuel ih=>
   intro listed a g' cK hf ha eC f_ fw td;by_cases gM: ∀j,j<m→listed.getD j false=true
   ·obtain⟨env,hW,gR⟩:=kA outs (kj g' hf.1) ha (fun p hp=>by
     have:=(List.all_eq_true.1 houts) p hp;simp only[Bool.and_eq_true,beq_iff_eq]at this;have bt:p.1<m:=by simpa [Nat.blt_eq]using this.1
     obtain⟨d,v,hd,hv,ke⟩:=eC p.1 bt (gM _ bt);replace ke:=ke (.inl ⟨p,hp,rfl⟩);rw[this.2]at hd;obtain rfl:=Option.some.inj hd;exact⟨v,hv,ke⟩)
    refine jg k1 (fuel+1) m listed a g'.w cK c4 (fun j o hj ho=>k2 j o hj ho) (fun j hj=>⟨fun h=>?_,fun h=>gM j h⟩) ?_ (hW a gR)
    ·rcases Nat.lt_or_ge j m with h'|h'
     ·exact h'
     rw[f_ j h' hj]at h;cases h
    have hle:((List.range ops.size).filter fun i=>listed.getD i false).length≤m:=by
     have oi:((List.range ops.size).filter fun i=>listed.getD i false).length≤((List.range ops.size).filter fun i=>decide (i<m)).length:=by
      refine List.Sublist.length_le ?_;rw[show((List.range ops.size).filter fun i=>listed.getD i false)=((List.range ops.size).filter fun i=>decide (i<m)).filter (fun i=>listed.getD i false)from ?_]
      ·exact List.filter_sublist
      rw[List.filter_filter];refine List.filter_congr fun i hi=>?_;have hi:=List.mem_range.1 hi;by_cases h:i<m
      ·simp[h]
      rw[f_ i (by omega) hi];simp
     have:((List.range ops.size).filter fun i=>decide (i<m)).length=m:=by
      have e:ops.size=m+(ops.size-m):=by omega
      rw[e,List.range_add,List.filter_append,List.length_append,List.filter_eq_self.2 (by intro x hx;simpa using hx),List.filter_eq_nil_iff.2 (by intro x hx;obtain⟨y,_,rfl⟩:=List.mem_map.1 hx;simp)];simp
     omega
    omega
   --qK of Bp first part is not listed:Bp least LS is ready
   have hex: ∃j,j<m∧listed.getD j false=false∧ ∀k,k<j→listed.getD k false=true:=by
    have: ∃j,j<m∧listed.getD j false=false:=by
     apply Classical.byContradiction;intro de;apply gM;intro j hj;cases hc:listed.getD j false with
     |true=>rfl
     |false=>exact absurd ⟨j,hj,hc⟩ de
    obtain⟨j,hj⟩:=this
    induction j using Nat.strongRecOn with
    |_ j LU=>
     by_cases hk: ∃k,k<j∧listed.getD k false=false
     ·obtain⟨k,rH,yA⟩:=hk;exact LU k rH ⟨by omega,yA⟩
     refine⟨j,hj.1,hj.2,fun k rH=>?_⟩;cases hc:listed.getD k false with
     |true=>rfl
     |false=>exact absurd ⟨k,rH,hc⟩ hk
   obtain⟨j0,Vb,Cd,sn⟩:=hex;have iD:j0∈Region.ready .any ops listed:=by
    rw[fk];have bt:j0<ops.size:=by omega
    refine⟨by rw[getD_lt (cK▸bt) true false];exact Cd,_,Array.getElem?_eq_getElem bt,fun k hk=>sn k (k1 j0 _ (Array.getElem?_eq_getElem bt) k hk)⟩
   refine⟨fun h0=>(by rw[h0]at iD;cases iD),fun i hi=>?_⟩;obtain⟨h0,o,ho,dj⟩:=fk.1 hi;have mV:i<ops.size:=(Array.getElem?_eq_some_iff.1 ho).1;rw[getD_lt (cK▸mV) true false]at h0;have p7:i<m:=by
    rcases Nat.lt_or_ge i m with h|h
    ·exact h
    have:=k4 listed fw i o h ho dj j0 (by omega);rw[Cd]at this;cases this
   obtain⟨d,hd,TS,TT,I8⟩:=k3 i p7;have sB:o.dst=some d:=by unfold dk at hd;rw[ho]at hd;exact hd
   have jT:=iC.at (i0:=0) i o (by rw[List.getElem?_take_of_lt p7];simpa using ho);rw[Nat.zero_add]at jT;have Xu:(rY.contains i=true∨i=e)→a_ g.dr g':=by
    intro hi;refine hf.2 ?_;cases hle:listed.getD e false with
    |false=>rfl
    |true=>
     exfalso;rcases hi with hi|hi
     ·have:=O' listed fw hle i hi;rw[this]at h0;cases h0
     subst hi;rw[hle]at h0;cases h0
   have oj: ∀p∈eM ops o,∃v,a.tmps[p.2]? =some v∧(gT φs p.1).p v g':=by
    intro p hp;have MB:=hp;unfold eM at hp;obtain⟨j,hj,xx⟩:=List.mem_filterMap.1 hp;cases ym:dk ops j with
    |none=>simp[ym]at xx
    |some e=>
     simp only[ym]at xx;have LV:j<m:=by have:=k1 i o ho j hj;omega
     obtain⟨d',v,uB,hv,ke⟩:=eC j LV (dj j hj);rw[ym]at uB;obtain rfl:=Option.some.inj uB;have DR: ∀(c:Bool) (q:Nat×Nat),(bif c then some q else none)=some p→q=p:=by
      intro c q h;cases c with
      |true=>exact Option.some.inj h
      |false=>cases h
     obtain rfl:=DR _ _ xx;exact⟨v,hv,ke (.inr ⟨i,o,p7,h0,ho,_,MB,rfl⟩)⟩
   obtain⟨env,hk,gR⟩:=kA (eM ops o) (jT g' hf.1 Xu) ha oj;have kU: ∀(a':Act) (dM:G) (v:Value),a'=a.put o.dst v→uz e i g' dM→(gT φs i).p v dM→wpAnyIn F 0 P .any ops Q fuel (listed.setIfInBounds i true) a' dM.w:=by
    intro a' dM v he eR ke;have q_:g.dr.le dM∧((listed.setIfInBounds i true).getD e false=false→a_ g.dr dM):=by
     unfold uz at eR;split at eR
     ·rename_i oh;refine⟨hf.1.trans eR,fun hl=>?_⟩;subst oh;simp[cK,mV]at hl
     rename_i oh;refine⟨hf.1.trans eR.le,fun hl=>?_⟩;refine(hf.2 ?_).trans eR;have:(listed.setIfInBounds i true).getD e false=listed.getD e false:=by simp only[Array.getD_eq_getD_getElem?];rw[Array.getElem?_setIfInBounds_ne oh]
     rw[←this];exact hl
    have pd: ∀t,t≠d→a'.tmps[t]? =a.tmps[t]?:=fun t ht=>by rw[he,sB];simp only[Act.put];rw[Array.getElem?_setIfInBounds_ne (fun e=>ht e.symm)]
    have o3:a'.tmps[d]? =some v:=by rw[he,sB];simp only[Act.put];rw[Array.getElem?_setIfInBounds_self,if_pos (by rw[ha.size];exact TS)]
    have gL: ∀k,k≠i→(listed.setIfInBounds i true).getD k false=listed.getD k false:=fun k hk=>by simp only[Array.getD_eq_getD_getElem?];rw[Array.getElem?_setIfInBounds_ne (fun e=>hk e.symm)]
    have dF:(listed.setIfInBounds i true).getD i false=true:=by simp[cK,mV]
    refine ih _ a' dM (by simpa using cK) q_ ⟨by rw[he,sB];exact ha.defers,by rw[he,sB];simp[Act.put,ha.size],fun t u hu=>?_⟩ (fun k hk jG=>?_) (fun j hj I9=>?_) (fun k o' hk AR e he=>?_) ?_
    ·have Nu:t≠d:=fun e=>by subst e;rw[TT]at hu;cases hu
     rw[pd t Nu];exact ha.get t u hu
    ·by_cases j9:k=i
     ·subst j9;exact⟨d,v,hd,o3,fun _=>ke⟩
     rw[gL k j9]at jG;obtain⟨d',v',uB,Ce,xy⟩:=eC k hk jG;obtain⟨e,KV,Nv⟩:=I8 k hk j9;rw[uB]at KV;obtain rfl:=Option.some.inj KV;refine⟨d',v',uB,by rw[pd d' Nv];exact Ce,fun TU=>?_⟩;have Pa:waits k listed:=by
      rcases TU with h|⟨i2,Pb,h1,h2,h3⟩
      ·exact .inl h
      refine .inr ⟨i2,Pb,h1,?_,h3⟩;by_cases h4:i2=i
      ·subst h4;rw[dF]at h2;cases h2
      rw[gL i2 h4]at h2;exact h2
     have hp:=xy Pa;unfold uz at eR;split at eR
     ·rename_i oh;rcases jB.at hsoft k with h|h
      ·rw[Nat.zero_add]at h;replace h:own.contains k=true:=by
        have AS:(k==e)=false:=by simp;exact fun q=>j9 (q.trans oh.symm)
        simp only[List.contains_cons,AS,Bool.false_or]at h;exact h
       rcases TU with⟨p,vD,Kq⟩|⟨i2,Pb,h1,h2,h3,p,vD,Kq⟩
       ·have:=o1 p vD;rw[Kq,h]at this;cases this
       by_cases h4:i2=e
       ·rw[h4,←oh,dF]at h2;cases h2
       have:=o2 i2 Pb h1 h4 h3 p vD;rw[Kq,h]at this;cases this
      exact h _ _ _ eR hp
     exact(gT φs k).mono _ _ _ eR hp
    ·rw[gL j (by omega)];exact f_ j hj I9
    ·have hle: ∀x,listed.getD x false=true→(listed.setIfInBounds i true).getD x false=true:=fun x hx=>by
      by_cases Bn:x=i
      ·subst Bn;exact dF
      rw[gL x Bn];exact hx
     by_cases j9:k=i
     ·subst j9;rw[ho]at AR;obtain rfl:=Option.some.inj AR;exact hle e (dj e he)
     rw[gL k j9]at hk;exact hle e (fw k o' hk AR e he)
    have bt:((List.range ops.size).filter fun k=>listed.getD k false).length<((List.range ops.size).filter fun k=>(listed.setIfInBounds i true).getD k false).length:=by
     have oi:List.Sublist ((List.range ops.size).filter fun k=>listed.getD k false) ((List.range ops.size).filter fun k=>(listed.setIfInBounds i true).getD k false):=by
      have e:((List.range ops.size).filter fun k=>listed.getD k false)=((List.range ops.size).filter fun k=>(listed.setIfInBounds i true).getD k false).filter (fun k=>listed.getD k false):=by
       rw[List.filter_filter];refine List.filter_congr fun k _=>?_;by_cases j9:k=i
       ·subst j9;rw[dF];simp
       rw[gL k j9];simp
      rw[e];exact List.filter_sublist
     refine Nat.lt_of_le_of_ne oi.length_le fun e=>?_;have:=oi.eq_of_length e;have sK:i∈((List.range ops.size).filter fun k=>(listed.setIfInBounds i true).getD k false):=List.mem_filter.2 ⟨List.mem_range.2 mV,dF⟩;rw[←this]at sK;have:=(List.mem_filter.1 sK).2;rw[h0]at this;cases this
    omega
   unfold wpOpIn;rw[ho];simp only;cases hg:o9 ops env o.guard with
   |none=>rw[hg]at hk;exact hk.elim
   |some b=>
    have mE:Region.wanted o (yielded ops a.tmps)=b:=jW (l:=env) (o:=o) hg gR;rw[hg]at hk;cases b with
    |true=>
     rw[if_pos mE];exact Oper.wpIn_mono (fun a' w' ⟨v,he,dM,hw,eR,ke⟩=>hw▸kU a' dM v he eR ke) (hk a gR)
    |false=>
     rw[if_neg (by rw[mE];simp)];exact⟨fun f _=>hF f,kU _ g' undef rfl (by unfold uz;split;exact G.le.refl _;exact a_.refl _) hk⟩
 refine key ops.size _ a g.dr (by simp) ⟨G.le.refl _,fun _=>a_.refl _⟩ ha (fun i hi hl=>?_) (fun j _ hj=>by simp[hj]) (fun k o hl=>?_) (by omega)
 ·simp only[Array.getD_eq_getD_getElem?,Array.getElem?_replicate]at hl;split at hl<;>simp at hl
 simp only[Array.getD_eq_getD_getElem?,Array.getElem?_replicate]at hl;split at hl<;>simp at hl
variable {rY:List Nat} {e:Nat} {os:List Oper} {o:Oper} {l:Env} {g:G}
theorem aY{i:Nat}(h:zy F P N ds ops Q φs l0 gd rY e i o)(h2:og F P N ds ops Q φs l0 gd rY e (i+1) os):og F P N ds ops Q φs l0 gd rY e i (o::os):=⟨h,h2⟩
theorem vb{i:Nat}:og F P N ds ops Q φs l0 gd rY e i []:=trivial
theorem qL{g':G}: ∀(js:List (Nat×Nat)) (l:Env) (k k':Env→Prop),(∀env,k env→k' env)→QA φs g' js l k→QA φs g' js l k'
 |[],_,_,_,hk,h=>hk _ h
 |_::r,_,k,k',hk,h=>fun v hv=>qL r _ k k' hk (h v hv)
theorem I_{i:Nat}(eO:Nat.beq i e=false){g':G}{env:Env}(hd:DK F P N ds ops Q (gT φs i) g' o env):(match o9 ops env o.guard with
  |some true=>cS F P N ds o env g'.w Q fun v w'=> ∃dM,dM.w=w'∧uz e i g' dM∧(gT φs i).p v dM
  |some false=>(gT φs i).p undef g'
  |none=>False):=by
 have Xv:i≠e:=fun x=>by subst x;simp at eO
 unfold DK at hd;unfold uz;simp only[if_neg Xv];exact hd
theorem bT{i:Nat}{js:List (Nat×Nat)}(hj:eM ops o=js)(eO:Nat.beq i e=false)(ha:rY.contains i=true)(h: ∀g',a_ gd g'→QA φs g' js l0 (DK F P N ds ops Q (gT φs i) g' o)):zy F P N ds ops Q φs l0 gd rY e i o:=by subst hj;intro g' _ hf;exact qL _ _ _ _ (fun env hd=>I_ eO hd) (h g' (hf (.inl ha)))
theorem p9{i:Nat}{js:List (Nat×Nat)}(hj:eM ops o=js)(eO:Nat.beq i e=false)(h: ∀g',gd.le g'→QA φs g' js l0 (DK F P N ds ops Q (gT φs i) g' o)):zy F P N ds ops Q φs l0 gd rY e i o:=by subst hj;intro g' hf _;exact qL _ _ _ _ (fun env hd=>I_ eO hd) (h g' hf)
def DM(F:Fence)(P:Program)(N:Nat)(ds:List Deferred)(ops:Array Oper)(Q:Exit→Act→World→Prop)(φ:Fact)(g':G)(o:Oper)(env:Env):Prop:=
 o9 ops env o.guard=some true∧cS F P N ds o env g'.w Q fun v w'=> ∃dM,dM.w=w'∧g'.le dM∧φ.p v dM
theorem vc{js:List (Nat×Nat)}(hj:eM ops o=js)(h: ∀g',a_ gd g'→QA φs g' js l0 (DM F P N ds ops Q (gT φs e) g' o)):zy F P N ds ops Q φs l0 gd rY e e o:=by subst hj;intro g' _ hf;refine qL _ _ _ _ (fun env hd=>?_) (h g' (hf (.inr rfl)));obtain⟨hg,hd⟩:=hd;rw[hg];unfold uz;simp only[if_true];exact hd
theorem mu{c:Code}{w:World}{J':Act→World→Prop}(J:Act→World→Prop)(h:W F P N ds c (Exit.then J Q) l w)(h2: ∀a w,J a w→J' a w):W F P N ds c (Exit.then J' Q) l w:=
 fun a ha=>Go.wpIn_mono (h a ha) fun e a w hq=>by cases e<;>first|exact h2 _ _ hq|exact hq
theorem jM{J:Act→World→Prop}{a:Act}{w:World}(h:J a w):Exit.then J Q .normal a w:=h
theorem EP.sub{g:G}{b p:Nat}{ys:List Value}(h:EP g b p ys)(i:Nat){v:Value}(hv:ys[i]? =some v):EP g b (p+i*1) [v]:=by
 refine⟨h.1,fun j y hy=>?_⟩;cases j with
 |zero=>
  simp only[List.getElem?_cons_zero,Option.some.injEq]at hy;subst hy;rw[Nat.mul_one,Nat.add_zero];exact h.2 i v hv
 |succ j=>simp at hy
def TV{α:Type}[El α](g0:G)(L:Value→List Value→List df)(n:Nat)(xs:List α):Fact:=
 ⟨fun v g=> ∃a c cells,v= .slice a n c∧St g0 g (L v cells)∧cY g cells xs,fun _ _ _ hf ⟨a,c,cells,e,h1,h2⟩=>⟨a,c,cells,e,h1.call hf,h2.mono hf.le⟩⟩
theorem cX{w:World}{t:Nat}{u:Value}(v:Value)(hl:lk l t=some u)(e:u=v)(h:WL F P N ds ops Q os (rep t v l) w):WL F P N ds ops Q os l w:=
 fun a ha=>h a (ha.rep hl e)
end Go.K
namespace Go.K
open Go Go.RowKit
variable {F:Fence} {P:Program} {N:Nat} {ds:List Deferred} {l l':Env} {a:Act} {w:World} {Q:Exit→Act→World→Prop} {ops:Array Oper} {os:List Oper} {o:Oper}
variable {g0 g g':G} {L:List df} {K:Value→World→Prop}
theorem I'{c1 c2 us:List Value}{off:Nat}(h:off+us.length≤c1.length):nr (c1++c2) off us=nr c1 off us++c2:=by unfold nr;rw[List.take_append_of_le_length (by omega),List.drop_append_of_le_length (by omega)];simp[List.append_assoc]
theorem Gq{c1 c2 us:List Value}{off:Nat}:nr (c1++c2) (c1.length+off) us=c1++nr c2 off us:=by
 unfold nr;rw[List.take_append,List.take_of_length_le (by omega),Nat.add_sub_cancel_left,List.drop_append,List.drop_of_length_le (by omega),List.nil_append,
  show c1.length+off+us.length-c1.length=off+us.length from by omega]
 simp[List.append_assoc]
theorem cY.su{α:Type}[El α]{us:List Value}{off:Nat}{x':α}(TW:off+us.length≤El.k α): ∀{xs:List α} {cells:List Value},cY g cells xs→ ∀(i:Nat) (x:α),xs[i]? =some x→(∀ys,El.rc g ys x→El.rc g (nr ys off us) x')→
  cY g (nr cells (i*El.k α+off) us) (xs.set i x')
 |[],_,_,i,x,hi,_=>by simp at hi
 |y::xs,_,⟨c1,c2,e,h1,h2⟩,0,x,hi,hf=>by simp only[List.getElem?_cons_zero,Option.some.injEq]at hi;subst hi;subst e;rw[Nat.zero_mul,Nat.zero_add,I' (by rw[El.len h1];exact TW)];exact⟨_,c2,rfl,hf c1 h1,h2⟩
 |y::xs,_,⟨c1,c2,e,h1,h2⟩,i+1,x,hi,hf=>by subst e;have:=cY.su TW h2 i x (by simpa using hi) hf;rw[show(i+1)*El.k α+off=c1.length+(i*El.k α+off)from by rw[El.len h1,Nat.add_mul];omega,Gq];exact⟨c1,_,rfl,h1,this⟩
theorem Cf{α:Type}[El α](R:G→G→Value→Prop)(R':G→G→Value→Prop){f:FuncId}(hc:ag P f)(hF: ∀f,F.fn f)(xz:F.depth=none){x:Operand}{args:Array Operand}{ts:Array TypeId}{first captured:Array Value}{vs aa:List Value}
  (ho:o.op= .call {callee:=.value x,args,argTypes:=ts}) (hx:ev l x=some (.func (.func f) first captured)) (ha:vF l args.toList=some vs) (has:first.toList++vs++captured.toList=aa)
  (hs:St g0 g L) (i:Nat) {e:TypeId} {v:Value} {n:Nat} {cells:List Value} {xs:List α} (hi:L[i]? =some (.row e (El.k α) v n cells)) (hr:cY g cells xs)
  (h: ∀gf,g.le gf→gf.w=g.w→Rs gf v xs→CallsIn F 0 P f aa.toArray gf.w (cO gf (R gf)))
  (hR: ∀gf g2 g3 v,gf.w=g.w→a_ gf g2→g3.w=g2.w→a_ g g3→(∀b,g3.im b→g2.im b)→R gf g2 v→R' g g3 v)
  (k: ∀g' v,a_ g g'→R' g g' v→K v g'.w):cS F P N ds o l g.w Q K:=by
 have eh:=hs.own i _ hi;have bt: ∀b,sA v=some b→b<g.w.heap.size:=fun b hb=>(eh.1.lt b hb).2;have sy:Rs (g.fz (sA v) bt) v xs:=eh.1.rs hr (G.sQ g _ _) fun b hb=>⟨.inr hb,rfl⟩
 refine pY hc hF xz ho hx ha has<|CallsIn.mono (h (g.fz (sA v) bt) (G.sQ g _ bt) rfl sy) ?_;rintro _ _ ⟨g2,u,rfl,hf,rfl,RD⟩;refine⟨u,rfl,?_⟩
 have fD:a_ g (⟨g2.w,fun b=>g2.im b∧sA v≠some b,fun b h=>g2.lt b h.1⟩:G):=⟨hf.below,fun b hb=>by
  have h1:=hf.im b hb;constructor
  ·intro h;rcases h1.1 h.1 with h'|h'
   ·exact h'
   exact absurd h' h.2
  intro h;exact⟨h1.2 (.inl h),fun h'=>eh.2 b h' h⟩⟩
 exact k ⟨g2.w,fun b=>g2.im b∧sA v≠some b,fun b h=>g2.lt b h.1⟩ u fD (hR (g.fz (sA v) bt) g2 _ u rfl hf rfl fD (fun b h=>h.1) RD)
end Go.K
namespace Go.K
open Go Go.RowKit Go.ChangeShapes Go.WideShapes Go.Deep
def yK(W:World):G:=⟨W,fun b=>b<W.heap.size,fun _ h=>h⟩
variable {P:Program}
def Nr(P:Program)(t:TypeId){α:Type}[El α](good:α→Prop):Prop:=
 ∀(H:Type) (enc:TypeId×Value→H) (W:World) (fuel:Nat) (cs:List Value) (x:DataW H×List MemPlace),DataW.trod enc P W 0 (fun _=>true) true fuel t cs=some x→ ∃y:α,El.rc (yK W) cs y∧good y
theorem ux{W:World}{a:Addr}{v:Value}(h:W.cell? a=some v):a.spot=none∧a.block<W.heap.size:=by
 unfold World.cell? at h;split at h
 ·rename_i c t f hh;split at h
  ·cases h
  rename_i hs;refine⟨by simpa using hs,(Array.getElem?_eq_some_iff.1 hh).1⟩
 cases h
theorem DS{α:Type}[El α]{good:α→Prop}(W:World)(a:Addr)(k n:Nat)(hk:k=El.k α)(h: ∀i,i<n→ ∃cs',cs'.length=k∧(∀j,j<k→W.cell? ((a.add (i*k)).add j)=cs'[j]?)∧ ∃y:α,El.rc (yK W) cs' y∧good y):
  ∃(cells:List Value) (xs:List α),xs.length=n∧cY (yK W) cells xs∧(∀y∈xs,good y)∧ ∀(j:Nat) y,cells[j]? =some y→W.cell? (a.add j)=some y:=by
 induction n with
 |zero=>exact⟨[],[],rfl,rfl,by simp,by simp⟩
 |succ n ih=>
  obtain⟨cells,xs,h1,h2,h3,h4⟩:=ih fun i hi=>h i (by omega);obtain⟨cs',hl,hc,y,hy,hg⟩:=h n (by omega);have fw:cells.length=n*k:=by rw[h2.len,h1,hk]
  refine⟨cells++cs',xs++[y],by simp[h1],cY.app (ys:=[y]) (show cY _ cs' [y]from⟨cs',[],by rw[List.append_nil],hy,rfl⟩) h2,?_,fun j u hu=>?_⟩
  ·intro z hz;rcases List.mem_append.1 hz with h|h
   ·exact h3 z h
   rw[List.mem_singleton]at h;exact h▸hg
  by_cases hj:j<cells.length
  ·rw[List.getElem?_append_left hj]at hu;exact h4 j u hu
  rw[List.getElem?_append_right (by omega)]at hu;have bt:=(List.getElem?_eq_some_iff.1 hu).1;have:=hc (j-cells.length) (by omega);rw[hu]at this;rw[←this,add_add,fw];congr 2;omega
theorem I1{α:Type}[El α]{good:α→Prop}{t e:TypeId}(ht:P.underlying t=some (.slice e))(hk:P.cellsOf e=El.k α)(he:Nr P e good)
  {H:Type} {enc:TypeId×Value→H} {W:World} {fuel:Nat} {v:Value} {x:DataW H×List MemPlace} (h:DataW.trod enc P W 0 (fun _=>true) true fuel t [v]=some x):
  ∃xs:List α,Rs (yK W) v xs∧ ∀y∈xs,good y:=by
 rcases open_slice ht h with⟨h0,_⟩|⟨a,len,cap,m,n,D,Pl,ph,_,hl,hm,RE,_,hi⟩
 ·obtain rfl:=(List.cons.inj h0).1;exact⟨[],Rs.nil _,by simp⟩
 obtain rfl:=(List.cons.inj ph).1;simp only[if_true]at RE;have Xw:=DS (good:=good) W a (P.cellsOf e) len hk fun i V0=>by obtain⟨cs',hc,RF⟩:=hi i (by omega);obtain⟨_,h1,h2⟩:=World.cells?_some hc;obtain⟨y,hy,hg⟩:=he H enc W _ cs' _ RF;exact⟨cs',h1,h2,y,hy,hg⟩
 obtain⟨cells,xs,h1,h2,h3,h4⟩:=Xw;refine⟨xs,⟨some a,len,cap,rfl,h1.symm,⟨hl,hm⟩,?_⟩,h3⟩;by_cases h0:len=0
 ·exact .inl h0
 right;have lK:=El.pos (α:=α);have fw:cells.length=len*El.k α:=by rw[h2.len,h1]
 have bt:0<cells.length:=by rw[fw];exact Nat.mul_pos (by omega) lK
 have nS:=h4 0 cells[0] (List.getElem?_eq_getElem bt);have RG:a.add 0=a:=by simp[Addr.add]
 rw[RG]at nS;obtain⟨hs,hb⟩:=ux nS;obtain⟨b,o,s⟩:=a;simp only at hs;subst hs;refine⟨b,o,cells,rfl,hb,h2,fun j y hy=>?_⟩;have:=h4 j y hy;rwa [Addr.add_lit]at this
theorem wf_i64{n:Int}(h:(Lit.int .i64 n).wf=true): -9223372036854775808≤n∧n≤9223372036854775807:=by simp only[Lit.wf,Bool.and_eq_true,decide_eq_true_eq]at h;exact h
end Go.K
namespace Go.K
open Go Go.RowKit Go.ChangeShapes Go.WideShapes
variable {H:Type} {enc:TypeId×Value→H} {P:Program}
theorem rp(hl:laidOutB P=true){W W':World}(hb:Below W.heap.size W W'){sp:Nat→Bool}: ∀{ts:List TypeId} {vs:List Value} {ds:List (DataW H)} {ps:List MemPlace},
  (ts.all fun t=>P.readableRec t&&decide (t<P.types.size))=true→DataW.TrodAll enc P W 0 (fun _=>true) true ts vs ds ps→(∀p∈ps,p.block<W.heap.size)→(∀p∈ps,sp p.block=true)→DataW.TrodAll enc P W' 0 sp true ts vs ds ps
 |[],vs,ds,ps,_,h,_,_=>by obtain⟨rfl,rfl,rfl⟩:=trodAll_nil h;exact trodAll_mk0
 |t::ts,[],_,_,_,h,_,_=>by cases h
 |t::ts,v::vs,[],_,_,h,_,_=>by cases h
 |t::ts,v::vs,d::ds,ps,hr,h,bt,rG=>by
  obtain⟨p,q,h1,h2,rfl⟩:=h;simp only[List.all_cons,Bool.and_eq_true,decide_eq_true_eq]at hr;exact⟨p,q,WideElems.Trod_stays hl hr.1.1 hr.1.2 h1 (fun x hx=>hb.same (bt x (by simp[hx]))) (fun x hx=>rG x (by simp[hx])),
   rp hl hb (by simpa using hr.2) h2 (fun x hx=>bt x (by simp[hx])) (fun x hx=>rG x (by simp[hx])),rfl⟩
theorem I3{f:Func}{s:ChangeSpec}{W W':World}{args:Array Value}{ds:List (DataW H)}{before:List MemPlace}{tb:TypeId}(hl:laidOutB P=true)
  (hr:(f.params.toList.all fun t=>P.readableRec t&&decide (t<P.types.size))=true) (hv:s.vars=[]) (hs:s.fn H ds={results:=[.lit (.bool true)],args:=ds}) (Xp:f.resultTypes=#[tb]) (dE:P.underlying tb=some .bool)
  (hW:DataW.Whole enc P f.params.toList s.vars false W args.toList ds [] before) (hb:Below W.heap.size W W'):s.post enc P f false true false false W args (.bool true) W':=by
 have bt: ∀p∈before,p.block<W.heap.size:=fun p hp=>hW.lt p hp;have RH:=hW;obtain⟨p,q,hA,hV,rfl,hz,hn⟩:=hW;rw[hv]at hV;obtain⟨_,rfl⟩:=trodVars_none hV;rw[List.append_nil]at*;have rn: ∀sp:Nat→Bool,(∀x∈p,sp x.block=true)→DataW.TrodAll enc P W' 0 sp true f.params.toList args.toList ds p:=fun sp rG=>rp hl hb hr hA bt rG;have Jb: ∀(b:Nat) (sp:Nat→Bool) (hd:Bool),DataW.TrodAll enc P W' b sp hd f.resultTypes.toList ((Value.bool true).resultList f.resultTypes.size) [.lit (.bool true)] []:=fun b sp hd=>by rw[Xp];exact trodAll_mk1 (shut_bool dE true)
 have Ga:s.fn H (ds++[])={results:=[.lit (.bool true)],args:=ds}:=by rw[List.append_nil];exact hs
 have TX: ∀sp:Nat→Bool,DataW.TrodVars enc P W' sp s.vars (s.fn H (ds++[])).vars []:=fun sp=>by rw[hv,Ga];rfl
 have hold: ∀x∈p,(fun b=>decide (b<W.heap.size)) x.block=true:=fun x hx=>by simpa using bt x hx
 exact⟨ds,[],p,[],p,[],RH,by rw[Ga];exact Jb _ _ _,by rw[Ga];exact rn _ hold,TX _,World.keptBut_mono (fun x hx=>⟨hx,.inr (by simpa using hx)⟩) (hb.frame (· ∈p)),fun h=>(by cases h)⟩
end Go.K
namespace Go.K
open Go Go.RowKit
variable {F:Fence} {P:Program} {N:Nat} {ds:List Deferred} {l l':Env} {a:Act} {w:World} {Q:Exit→Act→World→Prop} {ops:Array Oper} {os:List Oper} {o:Oper}
variable {g0 g:G} {L:List df} {K:Value→World→Prop}
theorem jt{tb:Tb}(dE:tb.ok P){t n e:Nat}{ti ei:TI}{parts:Array (Nat×Operand)}{vs:List (Nat×Value)}{cells:List Value}(ho:o.op= .build t parts)
  (hp:vF l (parts.toList.map (·.2))=some (vs.map (·.2))) (vD:parts.toList.map (·.1)=vs.map (·.1)) (hi:tl tb t=some ti) (hd:ti.desc= .arr n e) (hj:tl tb e=some ei)
  (pP:Instr.fill (fun i=>some (i*ei.size,ei.size)) ti.zero.cells vs=some cells.toArray) (k:K (.agg cells.toArray) w):cS F P N ds o l w Q K:=by
 obtain⟨⟨dd,hu,he⟩,inf,e1,e2,e3,e4⟩:=dE.at hi;rw[hd]at he;obtain rfl:=KD.DC he;obtain⟨_,Xy,f1,f2,_⟩:=dE.at hj;refine bX (fun c=>⟨by rw[ho];simp,by rw[ho];simp⟩) (fun a ha=>?_) k;have Gs:List.map (fun x:Nat×Operand=>(x.fst,a.eval x.snd)) parts.toList=vs:=by
  have h2:=jh ha hp;rw[List.map_map]at h2;have h3:parts.toList.map (fun p=>(p.1,a.eval p.2))=(parts.toList.map (·.1)).zip (parts.toList.map (fun p=>a.eval p.2)):=by rw[List.zip_map']
  have h4:vs=(vs.map (·.1)).zip (vs.map (·.2)):=by rw[List.zip_map'];simp
  rw[h4,←vD,←h2];exact h3
 have hz:(zeroValue t).run P w= .ok ti.zero w:=by simp[zeroValue,typeInfo,e1,e4]
 simp only[execOp,ho,Instr.build,Sem.run_bind,hz,Result.andThen_ok,run_underlying hu,sizeOf,typeInfo,run_program,f1,Sem.run_pure,f2,Array.toList_map,Gs,pP]
end Go.K
namespace Go.K
open Go Go.RowKit
variable {F:Fence} {P:Program} {N:Nat} {ds:List Deferred} {l l':Env} {a:Act} {w:World} {Q:Exit→Act→World→Prop} {ops:Array Oper} {os:List Oper} {o:Oper}
variable {g0 g:G} {L:List df} {K:Value→World→Prop} {R:Ending→World→Prop}
theorem qM{f:FuncId}(hc:ag P f)(hF: ∀f,F.fn f)(xz:F.depth=none){x:Operand}{args:Array Operand}{ts:Array TypeId}{first captured:Array Value}{vs aa:List Value}
  (ho:o.op= .call {callee:=.value x,args,argTypes:=ts}) (hx:ev l x=some (.func (.func f) first captured)) (ha:vF l args.toList=some vs) (has:first.toList++vs++captured.toList=aa)
  (h:CallsIn F 0 P f aa.toArray w fun e w'=>(∃v,e= .returned v∧K v w')∨ ∃ch,e= .panicked ch∧ ∀a,Fr N ds l a→Q (.panic ch) a w'):cS F P N ds o l w Q K:=by
 intro a E7;have Xz:first++vs.toArray++captured=aa.toArray:=by rw[←has];apply Array.ext';simp
 rw[←Xz]at h;unfold Oper.wpIn;refine⟨fun f _=>hF f,?_⟩;have rn:args.map a.eval=vs.toArray:=by apply Array.ext';simpa using jh E7 ha
 rw[Oper.semAt_eq _ _ _ (fun c e=>by rw[ho]at e;cases e)];have jX:(execOp a.eval o).run P w= .ok (.enter f (first++vs.toArray++captured)) w:=by simp only[execOp,ho,Sem.run_bind,resolve,E7.ev hx,Deferred.ofValue,Sem.run_pure,Result.andThen_ok,invoke,rn];exact iO hc _
 rw[jX];refine⟨fun h=>(by rw[xz]at h;cases h),?_⟩;refine CallsIn.mono h fun e w' he=>?_;rcases he with⟨v,he,hk⟩|⟨ch,he,hq⟩
 ·subst he;exact⟨v,rfl,hk⟩
 subst he;exact hq a E7
def db(g:G)(R:G→Value→Prop):Ending→World→Prop:=fun e w'=> ∃g' v,g'.w=w'∧e= .returned v∧g.le g'∧R g' v
def fJ(g:G)(ch:List PanicEntry)(R:G→Prop):Ending→World→Prop:=fun e w'=> ∃g',g'.w=w'∧e= .panicked ch∧g.le g'∧R g'
theorem cp{R:G→Value→Prop}{f:FuncId}(hc:ag P f)(hF: ∀f,F.fn f)(xz:F.depth=none){x:Operand}{args:Array Operand}{ts:Array TypeId}{first captured:Array Value}{vs aa:List Value}
  (ho:o.op= .call {callee:=.value x,args,argTypes:=ts}) (hx:ev l x=some (.func (.func f) first captured)) (ha:vF l args.toList=some vs) (has:first.toList++vs++captured.toList=aa)
  (h:CallsIn F 0 P f aa.toArray g.w (db g R)) (k: ∀g' v,g.le g'→R g' v→K v g'.w):cS F P N ds o l g.w Q K:=
 pY hc hF xz ho hx ha has (CallsIn.mono h fun _ _ ⟨g',v,hw,he,hf,hr⟩=>⟨v,he,hw▸k g' v hf hr⟩)
theorem Gt{x:Operand}{t:TypeId}{v:Value}(ho:o.op= .panic x)(hx:ev l x=some (.iface t v))(k: ∀a,Fr N ds l a→Q (.panic [{v:=.iface t v,recovered:=false}]) a w):cS F P N ds o l w Q K:=by
 intro a ha;unfold Oper.wpIn;refine⟨fun f hf=>?_,?_⟩
 ·unfold Oper.about at hf;simp only[ho]at hf;cases hf
 rw[Oper.semAt_eq _ _ _ (fun c e=>by rw[ho]at e;cases e)];have:(execOp a.eval o).run P w= .halt (.panic (.iface t v)) w:=by simp only[execOp,ho,ha.ev hx,Sem.run_bind,run_panic_iface];rfl
 rw[this];exact k a ha
theorem gY{J:Act→World→Prop}{ch:List PanicEntry}(h: ∀a,Fr N ds l a→Q (.panic ch) a w): ∀a,Fr N ds l a→Exit.then J Q (.panic ch) a w:=h
theorem gZ{id:Nat}{ch:List PanicEntry}(h: ∀a,Fr N ds l a→Q (.panic ch) a w): ∀a,Fr N ds l a→Exit.inBlock id Q (.panic ch) a w:=h
theorem g_{ch:List PanicEntry}(h: ∀a,Fr N ds l a→Q (.panic ch) a w): ∀a,Fr N ds l a→Exit.noGoto Q (.panic ch) a w:=h
theorem dH{fn:Func}{ch:List PanicEntry}(hR:R (.panicked ch) w)(a:Act)(ha:Fr N [] l a):bodyPost P fn R (.panic ch) a w:=⟨ha.defers,hR⟩
theorem db.intro{R:G→Value→Prop}{g':G}{v:Value}(hle:g.le g')(h:R g' v):db g R (.returned v) g'.w:=⟨g',v,rfl,rfl,hle,h⟩
theorem fJ.intro{R:G→Prop}{ch:List PanicEntry}{g':G}(hle:g.le g')(h:R g'):fJ g ch R (.panicked ch) g'.w:=⟨g',rfl,rfl,hle,h⟩
theorem St.front(hs:St g0 g L){i:Nat}{e:df}(hi:L[i]? =some e):St g0 g (e::L.eraseIdx i):=by
 have bt:=(List.getElem?_eq_some_iff.1 hi).1;have idx: ∀(j:Nat) x,(e::L.eraseIdx i)[j]? =some x→ ∃j',L[j']? =some x∧j'=(if j=0 then i else if j-1<i then j-1 else j):=by
  intro j x hj;cases j with
  |zero=>simp only[List.getElem?_cons_zero,Option.some.injEq]at hj;subst hj;exact⟨i,hi,by simp⟩
  |succ j=>
   rw[List.getElem?_cons_succ,List.getElem?_eraseIdx]at hj;split at hj
   ·rename_i h;exact⟨j,hj,by simp[h]⟩
   rename_i h;exact⟨j+1,hj,by simp[h]⟩
 refine⟨hs.below,hs.im,fun j x hj=>?_,fun j k x y Ey hj hk b Bo yl=>?_⟩
 ·obtain⟨j',AA,_⟩:=idx j x hj;exact hs.own j' x AA
 obtain⟨j',AA,e1⟩:=idx j x hj;obtain⟨k',Ki,e2⟩:=idx k y hk;refine hs.sep j' k' x y ?_ AA Ki b Bo yl;rw[e1,e2]
 repeat' split
 all_goals omega
end Go.K
namespace Go.K
open Go Go.RowKit
variable {F:Fence} {P:Program} {N:Nat} {ds:List Deferred} {l l':Env} {a:Act} {w:World} {Q:Exit→Act→World→Prop} {ops:Array Oper} {os:List Oper} {o:Oper}
variable {g0 g:G} {L:List df} {K:Value→World→Prop} {R:Ending→World→Prop}
def bh(k:IntKind)(a b:Int):Int:=k.wrap (BitVec.ofInt k.bits a&&&BitVec.ofInt k.bits b).toNat
def bY(k:IntKind)(a b:Int):Int:=k.wrap (BitVec.ofInt k.bits a|||BitVec.ofInt k.bits b).toNat
def bB(k:IntKind)(a b:Int):Int:=k.wrap (BitVec.ofInt k.bits a^^^BitVec.ofInt k.bits b).toNat
def bA(k:IntKind)(a b:Int):Int:=k.wrap (BitVec.ofInt k.bits a&&& ~~~BitVec.ofInt k.bits b).toNat
def bC(k:IntKind)(n:Int):Int:=bB k (if k.signed then -1 else k.max) n
def cL(k:IntKind)(a:Int)(n:Nat):Int:=k.wrap (a*2^min n k.bits)
def cD(k:IntKind)(a:Int)(n:Nat):Int:=a.fdiv (2^min n k.bits)
def LX(op:BinOp)(x y:Value):Option Value:=
 match x,y with
 | .int k a,.int k' b=>
  if k=k' then
   match op with
   | .and=>some (.int k (bh k a b))
   | .or=>some (.int k (bY k a b))
   | .xor=>some (.int k (bB k a b))
   | .andNot=>some (.int k (bA k a b))
   |_=>none
  else none
 |_,_=>none
def AU(op:BinOp)(x y:Value):Option Value:=
 match x,y with
 | .int k a,.int _ (.ofNat n)=>
  match op with
  | .shl=>some (.int k (cL k a n))
  | .shr=>some (.int k (cD k a n))
  |_=>none
 |_,_=>none
def Nx(d:KD)(x:Value):Option Value:=
 match d,x with
 | .int k,.int _ n=>some (.int k (k.wrap n))
 |_,_=>none
def Pe(tb:Tb)(l:Env):Op→Option Value
 | .binOp op _ x y _=>
  match op with
  | .shl| .shr=>
   match ev l x,ev l y with
   |some a,some b=>AU op a b
   |_,_=>none
  |_=>
   match ev l x,ev l y with
   |some a,some b=>LX op a b
   |_,_=>none
 | .unOp .xor _ x=>
  match ev l x with
  |some (.int k n)=>some (.int k (bC k n))
  |_=>none
 | .convert s d x=>
  match tl tb s,tl tb d,ev l x with
  |some _,some i,some v=>Nx i.desc v
  |_,_,_=>none
 |_=>none
theorem KD.of_int{d:TypeDesc}{k:IntKind}(h:KD.of d= .int k):d= .int k:=by cases d<;>simp only[KD.of,reduceCtorEq,KD.int.injEq]at h;rw[h]
theorem Jc{op:BinOp}{t:TypeId}{x y v:Value}(xo yo:Operand)(h:LX op x y=some v):(do eqGuard op t xo yo x y;binOp op t x y:Sem Value).run P w= .ok v w:=by
 unfold LX at h;split at h
 ·rename_i k a k' b;split at h
  ·rename_i hk;subst hk;have hb:(binOp op t (.int k a) (.int k b)).run P w= .ok v w:=by split at h<;>simp only[Option.some.injEq,reduceCtorEq]at h<;>subst h<;>simp[binOp,Op.intBits,bh,bY,bB,bA]
   simp only[Sem.run_bind,jl,Result.andThen_ok];exact hb
  cases h
 cases h
theorem DT{op:BinOp}{t:TypeId}{x y v:Value}(xo yo:Operand)(h:AU op x y=some v):(do eqGuard op t xo yo x y;binOp op t x y:Sem Value).run P w= .ok v w:=by
 unfold AU at h;split at h
 ·rename_i k a k' n;have hn: ¬((Int.ofNat n)<0):=by have:(Int.ofNat n)=(n:Int):=rfl;omega
  have hb:(binOp op t (.int k a) (.int k' (.ofNat n))).run P w= .ok v w:=by split at h<;>simp only[Option.some.injEq,reduceCtorEq]at h<;>subst h<;>unfold binOp<;>simp only<;>unfold Op.shift<;>rw[if_neg hn]<;>rfl
  simp only[Sem.run_bind,jl,Result.andThen_ok];exact hb
 cases h
theorem zA(tb:Tb)(dE:tb.ok P){v:Value}{K:Value→World→Prop}(h:Pe tb l o.op=some v)(k:K v w):cS F P N ds o l w Q K:=by
 obtain⟨dst,op,type,pos,after,guard⟩:=o;simp only at h;unfold Pe at h;split at h
 ·rename_i op t x y ty;have bits: ∀{a b:Value},ev l x=some a→ev l y=some b→LX op a b=some v→cS F P N ds ⟨dst,.binOp op t x y ty,type,pos,after,guard⟩ l w Q K:=fun hx hy h=>by
   refine bX (by simp) (fun a ha=>?_) k;have:=Jc (P:=P) (w:=w) (t:=t) x y h;simp only[Sem.run_bind]at this;simp only[execOp,ha.ev hx,ha.ev hy,Sem.run_bind];generalize Sem.run P (eqGuard op t x y _ _) w=r at*;cases r with
   |ok u w1=>
    simp only[Result.andThen_ok]at this⊢;rw[this];rfl
   |halt u w1=>cases this
  have shift: ∀{a b:Value},ev l x=some a→ev l y=some b→AU op a b=some v→cS F P N ds ⟨dst,.binOp op t x y ty,type,pos,after,guard⟩ l w Q K:=fun hx hy h=>by
   refine bX (by simp) (fun a ha=>?_) k;have:=DT (P:=P) (w:=w) (t:=t) x y h;simp only[Sem.run_bind]at this;simp only[execOp,ha.ev hx,ha.ev hy,Sem.run_bind];generalize Sem.run P (eqGuard op t x y _ _) w=r at*;cases r with
   |ok u w1=>
    simp only[Result.andThen_ok]at this⊢;rw[this];rfl
   |halt u w1=>cases this
  split at h<;>
   (split at h
    ·rename_i hx hy
     first|exact shift hx hy h|exact bits hx hy h
    cases h)
 ·rename_i t x;split at h
  ·rename_i k' n hx;simp only[Option.some.injEq]at h;subst h;refine bX (by simp) (fun a ha=>?_) k;simp[execOp,ha.ev hx,Op.unary,Op.intBits,bC,bB]
  cases h
 ·rename_i s d x;split at h
  ·rename_i i1 i2 v' h1 h2 hx;unfold Nx at h;split at h
   ·rename_i kk k' n hd;simp only[Option.some.injEq]at h;subst h;obtain⟨⟨d1,Ez,_⟩,_⟩:=dE.at h1;obtain⟨⟨d2,Kr,Nv⟩,_⟩:=dE.at h2;rw[hd]at Nv;obtain rfl:=KD.of_int Nv;refine bX (by simp) (fun a ha=>?_) k;simp[execOp,ha.ev hx,convert,run_underlying Ez,run_underlying Kr,Conv.intToInt]
   cases h
  cases h
 cases h
def bs(l:List UInt8):ByteArray:=⟨l.toArray⟩
def eU(l:List UInt8):List Value:=l.map fun b=> .int .u8 (b.toNat:Int)
theorem cg(l:List UInt8):(bs l).size=l.length:=by simp[bs,ByteArray.size]
theorem Ns(s:ByteArray):s=bs s.data.toList:=by simp[bs]
theorem Gu(x y:List UInt8):bs x++bs y=bs (x++y):=by apply ByteArray.ext;simp[bs]
theorem DU(x:List UInt8)(a b:Nat):(bs x).extract a b=bs ((x.take b).drop a):=by apply ByteArray.ext;simp only[bs,ByteArray.data_extract,List.extract_toArray,List.extract_eq_take_drop];rw[List.drop_take]
theorem Pf{x y:List UInt8}(h:bs x=bs y):x=y:=by have:=congrArg ByteArray.data h;simpa [bs]using this
theorem cM(x:List UInt8):(bs x).toList=x:=ByteArray.toList_mk x
instance:El UInt8 where
 k:=1
 pos:=by omega
 rc _ cs n:=cs=[.int .u8 (n.toNat:Int)]
 len h:=by rw[h];rfl
 mono _ h:=h
 one h:=by rw[h];simp[Value.oneCell']
theorem cY.bytes(g:G): ∀l:List UInt8,cY g (eU l) l
 |[]=>rfl
 |b::r=>⟨[.int .u8 (b.toNat:Int)],eU r,rfl,rfl,cY.bytes g r⟩
theorem cY.uC{g:G}: ∀{l:List UInt8} {cs:List Value},cY g cs l→cs=eU l
 |[],_,h=>h
 |b::r,_,⟨c1,c2,e,h1,h2⟩=>by rw[e,show c1=[.int .u8 (b.toNat:Int)]from h1,cY.uC h2];rfl
structure wh where
 s:List UInt8
instance:El wh where
 k:=1
 pos:=by omega
 rc _ cs n:=cs=[.string (bs n.s)]
 len h:=by rw[h];rfl
 mono _ h:=h
 one h:=by rw[h];simp[Value.oneCell']
theorem fg{tb:Tb}(dE:tb.ok P){t:Nat}{ti:TI}{x ix:Operand}{s:List UInt8}{k:IntKind}{n:Int}(ho:o.op= .index t x ix)(hx:ev l x=some (.string (bs s)))(Jd:ev l ix=some (.int k n))
  (hi:tl tb t=some ti) (hd:ti.desc= .string) (h0:0≤n) (bt:n.toNat<s.length) (kk:K (.int .u8 (s[n.toNat].toNat:Int)) w):cS F P N ds o l w Q K:=by
 obtain⟨⟨dd,hu,he⟩,_⟩:=dE.at hi;rw[hd]at he;obtain rfl:=KD.of_string he;refine bX (fun c=>⟨by rw[ho];simp,by rw[ho];simp⟩) (fun a ha=>?_) kk;have hg:(bs s)[n.toNat]? =some s[n.toNat]:=by
  have h1:n.toNat<(bs s).size:=by rw[cg];exact bt
  rw[getElem?_pos (bs s) n.toNat h1];rfl
 simp[execOp,ho,ha.ev hx,ha.ev Jd,Instr.index,asIntOf,run_underlying hu,h0,hg]
theorem p6{t t':TypeId}{x y:Operand}{p q:List UInt8}(ho:o.op= .binOp .add t x y t')(hx:ev l x=some (.string (bs p)))(hy:ev l y=some (.string (bs q)))(hl:p.length+q.length≤9223372036854775807)(kk:K (.string (bs (p++q))) w):cS F P N ds o l w Q K:=by
 refine bX (fun c=>⟨by rw[ho];simp,by rw[ho];simp⟩) (fun a ha=>?_) kk;have h: ¬(((bs p).size+(bs q).size:Nat):Int)>IntKind.i64.max:=by
  rw[cg,cg];have:IntKind.i64.max=9223372036854775807:=by decide
  omega
 have h': ¬(IntKind.i64.max<((bs p).size:Int)+((bs q).size:Int)):=by
  have e:(((bs p).size+(bs q).size:Nat):Int)=((bs p).size:Int)+((bs q).size:Int):=by omega
  rw[←e];exact h
 have h3:((bs p).size:Int)+((bs q).size:Int)≤9223372036854775807:=by rw[cg,cg];omega
 simp[execOp,ho,ha.ev hx,ha.ev hy,ju,binOp,Op.stringOp,h3,Gu]
theorem AV{t t':TypeId}{x y:Operand}{neg:Bool}{p q:List UInt8}(ho:o.op= .binOp (if neg then .neq else .eql) t x y t')(hx:ev l x=some (.string (bs p)))(hy:ev l y=some (.string (bs q)))(kk:K (.bool (neg !=(p==q))) w):cS F P N ds o l w Q K:=by refine bX (fun c=>⟨by rw[ho];simp,by rw[ho];simp⟩) (fun a ha=>?_) kk;cases neg<;>simp[execOp,ho,ha.ev hx,ha.ev hy,ju,binOp,Op.stringOp,cM]
theorem nD{tb:Tb}(dE:tb.ok P){t:Nat}{ti:TI}{x:Operand}{lo hi':Option Operand}{s:List UInt8}{a b:Nat}(ho:o.op= .slice t x lo hi' none)(hi:tl tb t=some ti)(hd:ti.desc= .string)
  (hx:ev l x=some (.string (bs s))) (yk:(match lo with|some v=> ∃k,ev l v=some (.int k (a:Int))|none=>a=0)) (tI:(match hi' with|some v=> ∃k,ev l v=some (.int k (b:Int))|none=>b=s.length))
  (h1:a≤b) (h2:b≤s.length) (k:K (.string (bs ((s.take b).drop a))) w):cS F P N ds o l w Q K:=by
 obtain⟨⟨dd,hu,he⟩,_⟩:=dE.at hi;rw[hd]at he;obtain rfl:=KD.of_string he;refine bX (fun c=>⟨by rw[ho];simp,by rw[ho];simp⟩) (fun ac ha=>?_) k;have hr: ∀(u v:Option Value),(match u with|some v=> ∃k,v= .int k (a:Int)|none=>a=0)→(match v with|some v=> ∃k,v= .int k (b:Int)|none=>b=s.length)→(Instr.sliceAt t (.string (bs s)) u v none).run P w= .ok (.string (bs ((s.take b).drop a))) w:=by
  intro u v yk tI;have e: ∀b,b≤s.length→(bs s).extract a b=bs ((s.take b).drop a):=fun b _=>DU s a b;cases u with
  |none=>
   have yk:a=0:=yk;subst yk;cases v with
   |none=>
    have tI:b=s.length:=tI;subst tI;simp[Instr.sliceAt,run_underlying hu,Instr.slice,Instr.sliceBounds]
   |some v=>
    obtain⟨k,rfl⟩:=tI;simp[Instr.sliceAt,run_underlying hu,Instr.slice,Instr.sliceBounds,Instr.sliceBound,asIntOf,cg,h2,e _ h2]
  |some u=>
   obtain⟨k',rfl⟩:=yk;cases v with
   |none=>
    have tI:b=s.length:=tI;subst tI;simp[Instr.sliceAt,run_underlying hu,Instr.slice,Instr.sliceBounds,Instr.sliceBound,asIntOf,cg,h1,e _ (Nat.le_refl _)]
   |some v=>
    obtain⟨k,rfl⟩:=tI;simp[Instr.sliceAt,run_underlying hu,Instr.slice,Instr.sliceBounds,Instr.sliceBound,asIntOf,cg,h1,h2,e _ h2]
 have:=hr (lo.map ac.eval) (hi'.map ac.eval)
  (by cases lo with
   |none=>exact yk
   |some v=>obtain⟨k,hk⟩:=yk;exact⟨k,ha.ev hk⟩)
  (by cases hi' with
   |none=>exact tI
   |some v=>obtain⟨k,hk⟩:=tI;exact⟨k,ha.ev hk⟩)
 simp[execOp,ho,ha.ev hx,this]
theorem oe{tb:Tb}(dE:tb.ok P){s d e:Nat}{si di ei:TI}{x:Operand}{ad:Option Addr}{n c:Nat}{ns:List Int}(ho:o.op= .convert s d x)(hx:ev l x=some (.slice ad n c))
  (hi:tl tb s=some si) (hd:si.desc= .slice e) (hj:tl tb e=some ei) (he:ei.desc= .int .u8) (hk:tl tb d=some di) (RI:di.desc= .string)
  (iu:Src w ad n 1 (ns.map (Value.int .u8))) (kk:K (.string (bs (ns.map fun m=>UInt8.ofNat m.toNat))) w):cS F P N ds o l w Q K:=by
 obtain⟨⟨d1,Ez,h1⟩,_⟩:=dE.at hi;rw[hd]at h1;obtain rfl:=KD.of_slice h1;obtain⟨⟨d2,Kr,h2⟩,_⟩:=dE.at hj;rw[he]at h2;obtain rfl:=KD.of_int h2;obtain⟨⟨d3,RJ,h3⟩,_⟩:=dE.at hk;rw[RI]at h3;obtain rfl:=KD.of_string h3;refine bX (fun c=>⟨by rw[ho];simp,by rw[ho];simp⟩) (fun a ha=>?_) kk;have TY: ∀(l:List Int) (r:ByteArray),l.foldl (fun r m=>r.push (UInt8.ofNat m.toNat)) r=⟨r.data++(l.map fun m=>UInt8.ofNat m.toNat).toArray⟩:=by
  intro l
  induction l with
  |nil=>intro r;simp
  |cons m l ih=>intro r;rw[List.foldl_cons,ih];simp[ByteArray.push]
 have jX:(convert s d (.slice ad n c)).run P w= .ok (.string (bs (ns.map fun m=>UInt8.ofNat m.toNat))) w:=by
  rw[run_convert_bytes_string w s d e ad n c Ez Kr RJ];obtain⟨hl,hc⟩:=iu;rw[List.length_map,Nat.mul_one]at hl;by_cases h0:n=0
  ·subst h0;obtain rfl:ns=[]:=List.eq_nil_of_length_eq_zero hl;cases ad with
   |none=>simp[Conv.bytesToString,bs];rfl
   |some a=>
    have:=run_bytesToString (P:=P) w a 0 c [] (by simp[loadCells,loadCellsFrom]);rw[this];simp[bs];rfl
  obtain⟨b,p,rfl,IS⟩:=hc.resolve_left h0;have Pg:=run_loadCells_list (P:=P) w ⟨b,p,none⟩ (ns.map (Value.int .u8)) (fun j y hy=>by rw[Addr.add_lit];exact IS j y hy);rw[List.length_map,hl]at Pg;rw[run_bytesToString w _ n c ns Pg,TY];have:ByteArray.empty.data=#[]:=rfl;rw[this];simp[bs]
 simp[execOp,ho,ha.ev hx,jX]
structure E8(P:Program)(w:World)(v:Value)(us:List Value):Prop where
 len:(Builtin.lenOf v).run P w= .ok us.length w
 fst: ∀k,k≤us.length→(Builtin.firstCells 1 k v).run P w= .ok (us.take k).toArray w
 one: ∀u∈us,u.oneCell'=true
theorem E8.src{ad:Option Addr}{n c:Nat}{us:List Value}(h:Src w ad n 1 us)(h1: ∀u∈us,u.oneCell'=true):E8 P w (.slice ad n c) us:=by
 obtain⟨hl,h⟩:=h;rw[Nat.mul_one]at hl;refine⟨by simp[Builtin.lenOf,hl],fun k hk=>?_,h1⟩;rcases h with h0|⟨b,p,rfl,hc⟩
 ·obtain rfl:us=[]:=List.eq_nil_of_length_eq_zero (by omega);obtain rfl:k=0:=by simpa using hk
  cases ad<;>simp[Builtin.firstCells,loadCells,loadCellsFrom]
 have:=run_firstCells_some (P:=P) w 1 k ⟨b,p,none⟩ n c (us.take k) (by rw[List.length_take];omega) (fun j u hu=>by
  rw[Addr.add_lit];have hj:j<k:=by have:=(List.getElem?_eq_some_iff.1 hu).1;rw[List.length_take]at this;omega
  rw[List.getElem?_take_of_lt hj]at hu;exact hc j u hu)
 exact this
end Go.K
namespace Go.K
open Go Go.RowKit
variable {F:Fence} {P:Program} {N:Nat} {ds:List Deferred} {l l':Env} {a:Act} {w:World} {Q:Exit→Act→World→Prop} {ops:Array Oper} {os:List Oper} {o:Oper}
variable {g0 g:G} {L:List df} {K:Value→World→Prop} {R:Ending→World→Prop}
theorem cO.below{R:G→Value→Prop}{v:Value}{w':World}(hb:Below g.w.heap.size g.w w')(hR: ∀g':G,g'.w=w'→a_ g g'→R g' v):cO g R (.returned v) w':=by
 let g':G:=⟨w',g.im,fun b h=>Nat.lt_of_lt_of_le (g.lt b h) hb.size⟩
 have hf:a_ g g':=⟨hb,fun _ _=>Iff.rfl⟩;exact⟨g',v,rfl,hf,rfl,hR g' rfl hf⟩
theorem lD{f:FuncId}{args:Array Value}{R:G→Value→Prop}{v:Value}(h:Calls P f args g.w fun e w'=>e= .returned v∧Below g.w.heap.size g.w w')(hR: ∀g':G,a_ g g'→R g' v):CallsIn Wd 0 P f args g.w (cO g R):=by refine callsIn_wide.2<|h.mono ?_;rintro e w' ⟨rfl,hb⟩;exact cO.below hb fun g' _ hf=>hR g' hf
theorem Rs.part{α:Type}[El α]{b p n c:Nat}{xs:List α}(h:Rs g (.slice (some ⟨b,p,none⟩) n c) xs){a m c':Nat}(hm:0<m)(h1:a+m≤n)(h2:m≤c')(h3:c'≤maxLen):Rs g (.slice (some ⟨b,p+a*El.k α,none⟩) m c') ((xs.drop a).take m):=by
 obtain⟨ad,n',V1,e,rfl,pU,h⟩:=h;simp only[Value.slice.injEq]at e;obtain⟨rfl,rfl,rfl⟩:=e;rcases h with h|⟨b',p',cells,e,hb,hr,hc⟩
 ·omega
 simp only[Option.some.injEq,Addr.mk.injEq,and_true]at e;obtain⟨rfl,rfl⟩:=e;refine⟨_,m,c',rfl,by rw[List.length_take,List.length_drop];omega,⟨h2,h3⟩,.inr ⟨b,p+a*El.k α,(cells.drop (a*El.k α)).take (m*El.k α),rfl,hb,(hr.drop a).take m,fun j y hy=>?_⟩⟩;have bt:=(List.getElem?_eq_some_iff.1 hy).1;rw[List.length_take]at bt;rw[List.getElem?_take_of_lt (by omega),List.getElem?_drop]at hy;have:=hc _ _ hy;rw[Nat.add_assoc];exact this
end Go.K
