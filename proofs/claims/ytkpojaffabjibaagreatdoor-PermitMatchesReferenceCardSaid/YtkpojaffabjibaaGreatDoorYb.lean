/- Parts of the proof, from: Entering and leaving a function; struct literals; arrays behind pointers; tests against nil. -/
import Derived.Test.YtkpojaffabjibaaGreatDoorYa
import Derived.WalkSpells
import Derived.WalkLawsBesides
import Derived.Scope
import Derived.Deep.Slices
import Derived.ProofKit
import Derived.OpenShut
import Derived.RecoverIn
import Derived.Laws.IdiomStrings
namespace Go.K
open Go Go.RowKit
variable {F:Fence} {P:Program} {N:Nat} {ds:List Deferred} {l l':Env} {a:Act} {w:World} {Q:Exit→Act→World→Prop} {ops:Array Oper} {os:List Oper} {o:Oper}
variable {g0 g:G} {L:List dc} {K:Value→World→Prop} {R:Ending→World→Prop}
def pL:Nat→List Value→Env
 |_,[]=>[]
 |i,v::r=>(i,v)::pL (i+1) r
theorem Bn: ∀(vs:List Value) (i t:Nat) (v:Value),lk (pL i vs) t=some v→ ∃j,t=i+j∧vs[j]? =some v
 |[],i,t,v,h=>by simp[pL,lk]at h
 |u::r,i,t,v,h=>by
  by_cases e:i=t
  ·subst e;simp only[pL,dz,aau]at h;exact⟨0,rfl,by simp[h]⟩
  simp only[pL,cG _ _ e]at h;obtain⟨j,rfl,hj⟩:=Bn r (i+1) t v h;exact⟨j+1,by omega,by simpa using hj⟩
theorem zf(args:Array Value)(N:Nat)(h:Nat.ble args.size N=true):Fr N [] (pL 0 args.toList) {tmps:=args++Array.replicate (N-args.size) undef,defers:=[]}:=by
 have h:=ab7 h;refine⟨rfl,by simp;omega,fun t v hv=>?_⟩;obtain⟨j,rfl,hj⟩:=Bn _ _ _ _ hv;have Cb:args[j]? =some v:=by simpa using hj
 have aV:=(ab6.1 Cb).1;rw[abo,Array.getElem?_append_left aV,Cb]
abbrev Wd:Fence:=Fence.wide
theorem enter{f:FuncId}{fn:Func}{c:Code}{args:Array Value}(hf:P.funcs[f]? =some fn)(hb:fn.body=some c)(hN:fn.ntmps=N)(hle:Nat.ble args.size N=true)
  (h:W Wd P N [] c (bodyPost P fn R) (pL 0 args.toList) w):CallsIn Wd 0 P f args w R:=by
 refine callsIn_of_wp hf hb trivial ?_;rw[hN];exact h _ (zf args N hle)
theorem vK{f:FuncId}{fn:Func}{c:Code}{args:Array Value}(hf:P.funcs[f]? =some fn)(hb:fn.body=some c)(hN:fn.ntmps=N)(hle:Nat.ble args.size N=true)
  (h:W Wd P N [] c (bodyPostM Wd 0 P fn R) (pL 0 args.toList) w):CallsIn Wd 0 P f args w R:=by
 refine callsIn_of_wp_marks hf hb trivial ?_;rw[hN];exact h _ (zf args N hle)
theorem tA{fn:Func}(hr:fn.results=#[])(hR:R (.returned (.tuple #[])) w)(a:Act)(ha:Fr N [] l a):bodyPost P fn R .ret a w:=
 ⟨ha.defers,_,results_none hr _ _ _,hR⟩
theorem nd{fn:Func}(hr:fn.results=#[])(hR:R (.returned (.tuple #[])) w)(a:Act)(ha:Fr N [] l a):bodyPost P fn R .normal a w:=
 ⟨ha.defers,_,results_none hr _ _ _,hR⟩
theorem CE{t:Nat}{v:Value}(ha:Fr N ds l a)(h:lk l t=some v):a.tmps.getD t undef=v:=by simp[ha.get t v h]
theorem adw{fn:Func}{t:Nat}{v:Value}(hr:fn.results=#[.tmp t])(hl:lk l t=some v)(hR:R (.returned v) w)(a:Act)(ha:Fr N [] l a):bodyPost P fn R .ret a w:=
 ⟨ha.defers,_,results_tmp hr _ _ _,by rw[CE ha hl];exact hR⟩
theorem uv{fn:Func}{t u:Nat}{v x:Value}(hr:fn.results=#[.tmp t,.tmp u])(hl:lk l t=some v)(rD:lk l u=some x)(hR:R (.returned (.tuple #[v,x])) w)(a:Act)(ha:Fr N [] l a):bodyPost P fn R .ret a w:=
 ⟨ha.defers,_,results_tmp2 hr _ _ _,by rw[CE ha hl,CE ha rD];exact hR⟩
theorem my{fn:Func}{tb:Tb}(dS:tb.ok P)(i:Nat){t T b:Nat}{cs:List Value}{E:TypeId}{fz:Nat×Nat}{v:Value}(hr:fn.results=#[.cell t T])(hs:St g0 g L)(hi:L[i]? =some (.obj b (.cells cs.toArray E fz)))
  (hl:lk l t=some (vP b)) (hv:Ad tb T cs 0=some v) (hR:R (.returned v) g.w) (a:Act) (ha:Fr N [] l a):bodyPost P fn R .ret a g.w:=by
 refine⟨ha.defers,v,?_,hR⟩;have:=jo (P:=P) (w:=g.w) (off:=0) (o:=0) dS hv (lZ (hs.own i _ hi).2.1);simp only[abj]at this;simp[results,hr,ha.get t _ hl,asAddr,this]
def places(tb:Tb)(fs:List (TypeId×Nat)):List (Option (Nat×Nat)):=fs.map fun(t,off)=>(tl tb t).map fun i=>(off,i.size)
theorem iS{tb:Tb}(dS:tb.ok P){t:Nat}{ti:TI}{fs:List (TypeId×Nat)}{parts:Array (Nat×Operand)}{vs:List (Nat×Value)}{cells:List Value}(ho:o.op= .build t parts)
  (hp:xv l (parts.toList.map (·.2))=some (vs.map (·.2))) (z':parts.toList.map (·.1)=vs.map (·.1)) (hi:tl tb t=some ti) (hd:ti.desc= .struct fs) (pl:List (Nat×Nat)) (Fv:places tb fs=pl.map some)
  (qK:Instr.fill (fun i=>pl.toArray[i]?) ti.zero.cells vs=some cells.toArray) (k:K (.agg cells.toArray) w):cQ F P N ds o l w Q K:=by
 obtain⟨⟨dd,hu,he⟩,inf,e1,e2,e3,e4⟩:=dS.at hi;rw[hd]at he;obtain⟨U4,rfl,rfl⟩:=KD.of_struct he;refine bC (fun c=>⟨by rw[ho];simp,by rw[ho];simp⟩) (fun a ha=>?_) k;have Ir:List.map (fun x:Nat×Operand=>(x.fst,a.eval x.snd)) parts.toList=vs:=by
  have h2:=j9 ha hp;rw[abw]at h2;have h3:parts.toList.map (fun p=>(p.1,a.eval p.2))=(parts.toList.map (·.1)).zip (parts.toList.map (fun p=>a.eval p.2)):=by rw[acg]
  have h4:vs=(vs.map (·.1)).zip (vs.map (·.2)):=by rw[acg];simp
  rw[h4,←z',←h2];exact h3
 have Oh: ∀(xs:List Field) (pl:List (Nat×Nat)),places tb (xs.map fun f=>(f.type,f.offset))=pl.map some→(xs.mapM fun f=>do pure (f.offset,←sizeOf f.type):Sem (List (Nat×Nat))).run P w= .ok pl w:=by
  intro xs
  induction xs with
  |nil=>intro pl h;cases pl with
   |nil=>rfl
   |cons _ _=>simp[places]at h
  |cons f xs ih=>
   intro pl h;cases pl with
   |nil=>simp[places]at h
   |cons q pl=>
    simp only[places,aa8,ab1]at h;obtain⟨h1,h2⟩:=h;cases hj:tl tb f.type with
    |none=>rw[hj]at h1;cases h1
    |some j=>
     rw[hj]at h1;simp only[abn,aau]at h1;obtain⟨_,WJ,f1,f2,_⟩:=dS.at hj;have:=ih pl h2;simp only[List.mapM_cons,aaE,sizeOf,typeInfo,run_program,aaH,f1,aa5,f2]at this⊢;simp only[this,aaH,h1]
 have hm:=Oh U4.toList pl Fv;have TJ:(U4.mapM fun f=>do pure (f.offset,←sizeOf f.type):Sem (Array (Nat×Nat))).run P w= .ok pl.toArray w:=by rw[Array.mapM_eq_mapM_toList];simp only[Sem.run_map,hm,aaH]
 have hz:(zeroValue t).run P w= .ok ti.zero w:=by simp[zeroValue,typeInfo,e1,e4]
 simp only[execOp,ho,Instr.build,aaE,hz,aaH,run_underlying hu,TJ,ac8,Ir,qK];simp
theorem dG{tb:Tb}(dS:tb.ok P){t e n:Nat}{i j:TI}{x ix:Operand}{kk:IntKind}{q b p:Nat}(ho:o.op= .indexAddr t x ix)(hx:ev l x=some (.pointer (some ⟨b,p,none⟩)))(Lj:ev l ix=some (.int kk (q:Int)))
  (hi:tl tb t=some i) (hd:i.desc= .arr n e) (hj:tl tb e=some j) (hq:q<n) (k:K (.pointer (some ⟨b,p+q*j.size,none⟩)) w):cQ F P N ds o l w Q K:=by
 obtain⟨⟨dd,hu,he⟩,_⟩:=dS.at hi;rw[hd]at he;obtain rfl:=KD.FD he;obtain⟨_,inf,e1,e2,_⟩:=dS.at hj;refine bC (fun c=>⟨by rw[ho];simp,by rw[ho];simp⟩) (fun a ha=>?_) k;have h1:(q:Int)<(n:Int):=by omega
 simp[execOp,ho,ha.ev hx,ha.ev Lj,Instr.indexAt,asIntOf,run_underlying hu,Instr.sureAddr,hq,sizeOf,typeInfo,e1,e2,abM]
theorem KD.Q5{d:TypeDesc}{e:TypeId}(h:KD.of d= .ptr e):d= .pointer e:=by cases d<;>simp only[KD.of,reduceCtorEq,KD.ptr.injEq]at h;rw[h]
theorem il{tb:Tb}(dS:tb.ok P){t e t':Nat}{i:TI}{x y:Operand}{neg:Bool}{ad:Option Addr}{n c n' c':Nat}(ho:o.op= .binOp (if neg then .neq else .eql) t x y t')(hx:ev l x=some (.slice ad n c))(hy:ev l y=some (.slice none n' c'))
  (hi:tl tb t=some i) (hd:i.desc= .slice e) (k:K (.bool (neg !=ad.isNone)) w):cQ F P N ds o l w Q K:=by
 obtain⟨⟨dd,hu,he⟩,_⟩:=dS.at hi;rw[hd]at he;obtain rfl:=KD.of_slice he;refine bC (fun c=>⟨by rw[ho];simp,by rw[ho];simp⟩) (fun a ha=>?_) k;have hg: ∀op,(eqGuard op t x y (.slice ad n c) (.slice none n' c')).run P w= .ok () w:=fun op=>by unfold eqGuard;split<;>rfl
 have hq: ∀d,(Op.equalIn (d+1) t (.slice ad n c) (.slice none n' c')).run P w= .ok ad.isNone w:=fun d=>by cases ad<;>simp[Op.equalIn,run_underlying hu]
 have heq:(Op.equal t (.slice ad n c) (.slice none n' c')).run P w= .ok ad.isNone w:=hq 9999;cases neg<;>simp[execOp,ho,ha.ev hx,ha.ev hy,hg,binOp,heq]
theorem jx{tb:Tb}(dS:tb.ok P){t e t':Nat}{i:TI}{x y:Operand}{neg:Bool}{ad:Option Addr}(ho:o.op= .binOp (if neg then .neq else .eql) t x y t')(hx:ev l x=some (.pointer ad))(hy:ev l y=some (.pointer none))
  (hi:tl tb t=some i) (hd:i.desc= .ptr e) (k:K (.bool (neg !=ad.isNone)) w):cQ F P N ds o l w Q K:=by
 obtain⟨⟨dd,hu,he⟩,_⟩:=dS.at hi;rw[hd]at he;obtain rfl:=KD.Q5 he;refine bC (fun c=>⟨by rw[ho];simp,by rw[ho];simp⟩) (fun a ha=>?_) k;have hg: ∀op,(eqGuard op t x y (.pointer ad) (.pointer none)).run P w= .ok () w:=fun op=>by unfold eqGuard;split<;>rfl
 have hq: ∀d,(Op.equalIn (d+1) t (.pointer ad) (.pointer none)).run P w= .ok ad.isNone w:=fun d=>by cases ad<;>simp[Op.equalIn,run_underlying hu]
 have heq:(Op.equal t (.pointer ad) (.pointer none)).run P w= .ok ad.isNone w:=hq 9999;cases neg<;>simp[execOp,ho,ha.ev hx,ha.ev hy,hg,binOp,heq]
def ug(g:G)(R:G→Value→Prop):Ending→World→Prop:=fun e w'=> ∃g' v,g'.w=w'∧bW g g'∧e= .returned v∧R g' v
theorem St.ret{R:G→Value→Prop}{v:Value}(hs:St g0 g L)(h:R g v):ug g0 R (.returned v) g.w:=⟨g,v,rfl,hs.p9,rfl,h⟩
theorem bu{R:G→Value→Prop}{f:FuncId}(hc:cS P f)(hF: ∀f,F.fn f)(y_:F.depth=none){x:Operand}{args:Array Operand}{ts:Array TypeId}{first captured:Array Value}{vs aa:List Value}
  (ho:o.op= .call {callee:=.value x,args,argTypes:=ts}) (hx:ev l x=some (.func (.func f) first captured)) (ha:xv l args.toList=some vs) (has:first.toList++vs++captured.toList=aa)
  (h:CallsIn F 0 P f aa.toArray g.w (ug g R)) (k: ∀g' v,bW g g'→R g' v→K v g'.w):cQ F P N ds o l g.w Q K:=
 qT hc hF y_ ho hx ha has (ab0 h fun _ _ ⟨g',v,hw,hf,he,hr⟩=>⟨v,he,hw▸k g' v hf hr⟩)
def jX(P:Program)(fv:Value)(args:List Value)(w:World)(R:Ending→World→Prop):Prop:=
 match fv with
 | .func (.func f) first captured=>cS P f∧CallsIn Wd 0 P f (first.toList++args++captured.toList).toArray w R
 | .func (.yield l) first _=> ∃fn tmps assign body,(Instr.yield l (first++args.toArray)).run P w= .ok (.round l fn tmps assign body) w∧RoundIn Wd 0 P l fn tmps assign body w R
 |_=>False
theorem jX.mono{fv:Value}{args:List Value}{R R':Ending→World→Prop}(h:jX P fv args w R)(hr: ∀e w',R e w'→R' e w'):jX P fv args w R':=by
 unfold jX at h⊢;split
 ·simp only at h;exact⟨h.1,h.2.mono hr⟩
 ·simp only at h;obtain⟨fn,tmps,aa,bo,h1,h2⟩:=h;exact⟨fn,tmps,aa,bo,h1,h2.mono hr⟩
 rename_i h1 h2;split at h
 ·exact(h1 _ _ _ rfl).elim
 ·exact(h2 _ _ _ rfl).elim
 exact h.elim
theorem CallsIn.nB{f:FuncId}{args:Array Value}(hF:F.fn=Wd.fn)(hd:F.depth=none)(ha:F.alive=false)(h:CallsIn Wd 0 P f args w R):CallsIn F 0 P f args w R:=by obtain⟨fn,dep,al,ro⟩:=F;simp only at hF hd ha;subst hF;subst hd;subst ha;exact h
theorem RoundIn.nB{k:Nat}{f:FuncId}{tmps:Array Value}{aa bo:Code}(hF:F.fn=Wd.fn)(hd:F.depth=none)(ha:F.alive=false)(h:RoundIn Wd 0 P k f tmps aa bo w R):RoundIn F 0 P k f tmps aa bo w R:=by obtain⟨fn,dep,al,ro⟩:=F;simp only at hF hd ha;subst hF;subst hd;subst ha;exact h
theorem fZ(hF:F.fn=Wd.fn)(hd:F.depth=none)(xt:F.alive=false){x:Operand}{args:Array Operand}{ts:Array TypeId}{fv:Value}{vs:List Value}
  (ho:o.op= .call {callee:=.value x,args,argTypes:=ts}) (hx:ev l x=some fv) (ha:xv l args.toList=some vs)
  (h:jX P fv vs w fun e w'=> ∃v,e= .returned v∧K v w'):cQ F P N ds o l w Q K:=by
 unfold jX at h;split at h
 ·rename_i f first captured
  exact qT h.1 (by intro f;rw[hF];trivial) hd ho hx ha rfl (CallsIn.nB hF hd xt h.2)
 ·rename_i k first captured
  obtain⟨fn,tmps,aa,bo,h1,h2⟩:=h;intro a Jd;unfold Oper.wpIn;refine⟨fun f _=>by rw[hF];trivial,?_⟩;have uX:args.map a.eval=vs.toArray:=by apply abJ;simpa using j9 Jd ha
  rw[abR _ _ _ (fun c e=>by rw[ho]at e;cases e)];have lz:(execOp a.eval o).run P w= .ok (.round k fn tmps aa bo) w:=by simp only[execOp,ho,aaE,resolve,Jd.ev hx,Deferred.ofValue,aa5,aaH,invoke,uX];exact h1
  rw[lz];refine⟨fun h=>(by rw[hd]at h;cases h),?_⟩;refine RoundIn.mono (RoundIn.nB hF hd xt h2) fun e w' ⟨v,he,hk⟩=>?_;subst he;exact⟨v,rfl,hk⟩
 exact h.elim
def yH{α:Type}(P:Program)(mJ:FuncId)(fO:Array Value)(iq:α→List Value)(xs:List α)(g:G):Prop:=
 ∀(g1:G),g.le g1→ ∀(yv:Value) (J Jx:List α→G→Prop),(∀pre g g',bW g g'→J pre g→J pre g')→(∀pre g g',bW g g'→Jx pre g→Jx pre g')→
  (∀pre x rest g2,xs=pre++x::rest→g1.le g2→J pre g2→jX P yv (iq x) g2.w fun e w'=> ∃g3 b,g3.w=w'∧e= .returned (.bool b)∧g2.le g3∧(b=true→J (pre++[x]) g3)∧(b=false→Jx (pre++[x]) g3))→
  J [] g1→CallsIn Wd 0 P mJ (yv::fO.toList).toArray g1.w fun e w'=> ∃g2 v,g2.w=w'∧e= .returned v∧g1.le g2∧(J xs g2∨ ∃pre,pre<+:xs∧Jx pre g2)
theorem yH.mono{α:Type}{mJ:FuncId}{fO:Array Value}{iq:α→List Value}{xs:List α}{g g':G}(h:yH P mJ fO iq xs g)(hle:g.le g'):yH P mJ fO iq xs g':=
 fun g1 h1=>h g1 (hle.trans h1)
def qW:List Tmp→List Value→Env→Env
 |t::ts,v::vs,l=>qW ts vs ((t,v)::l)
 |_,_,l=>l
theorem Cv: ∀(ts:List Tmp) (vs:List Value) (l:Env) (tm:Array Value),(ts.all fun t=>Nat.blt t N)=true→Fr N [] l {tmps:=tm,defers:=[]}→
  Fr N [] (qW ts vs l) {tmps:=(ts.zip vs).foldl (fun tmps (t,a)=>tmps.setIfInBounds t a) tm,defers:=[]}
 |[],vs,l,tm,_,h=>by cases vs<;>exact h
 |t::ts,[],l,tm,_,h=>h
 |t::ts,v::vs,l,tm,hb,h=>by simp only[ab_,aaA]at hb;exact Cv ts vs ((t,v)::l) (tm.setIfInBounds t v) hb.2<|h.put (d:=some t) hb.1 v
def kR(fn:FuncId)(tmps:Array Value)(ps:Array Tmp)(assign body:Code)(D:Nat)(st:LoopState)(W9:Option Code):Obj:=
 .loop {state:=st,pending:=W9,fn,tmps,params:=ps,assign,body,defers:=D}
abbrev g_:Obj:=.deferred (some [])
def FY(I:List dc→G→Prop)(Ix:Code→List dc→G→Prop)(g0 gr:G)(lp D:Nat)(ro:LoopState→Obj):Exit→Act→World→Prop
 | .normal,_,w=> ∃L' g',g'.w=w∧St g0 g' (.obj lp (ro .busy):: .obj D g_::L')∧gr.le g'∧I L' g'
 | .ret,_,w=> ∃L' g',g'.w=w∧St g0 g' (.obj lp (ro .busy):: .obj D g_::L')∧gr.le g'∧Ix .ret L' g'
 | .exit id,_,w=> ∃L' g',g'.w=w∧St g0 g' (.obj lp (ro .busy):: .obj D g_::L')∧gr.le g'∧Ix (.exit id) L' g'
 |_,_,_=>False
def G.po(g:G)(b:Nat)(o:Obj):G:=⟨g.w.putObj b o,g.im,fun x h=>by have:=g.lt x h;simpa using this⟩
theorem CF(w:World)(b:Nat)(o:Obj):w.grownBy (w.putObj b o) (some b):=
 ⟨rfl,rfl,rfl,by simp,fun k _ hk=>World.putObj_heap_other (fun e=>hk (congrArg some e))⟩
theorem St.po{i b:Nat}{o o':Obj}(hs:St g0 g L)(hi:L[i]? =some (.obj b o)):St g0 (g.po b o') (L.set i (.obj b o'))∧g.le (g.po b o'):=by have hh:=(hs.own i _ hi).2.1;exact hs.MK hi (CF _ _ _) (fun _ _=>aba) ⟨(hs.own i _ hi).1,World.putObj_heap_same (ab6.1 hh).1,(hs.own i _ hi).2.2⟩ (fun b' xw=> .inl xw)
theorem GO{α:Type}{mJ:FuncId}{fO:Array Value}{iq:α→List Value}{xs:List α}{f:Operand}{ps:Array Tmp}{assign body:Code}
  (hs:St g0 g L) (hf:ev l f=some (.func (.func mJ) #[] fO)) (qS:cS P mJ) (vJ:yH P mJ fO iq xs g) (uf:(ps.toList.all fun t=>Nat.blt t N)=true) (Tp: ∀x,(iq x).length=ps.size)
  (I:List α→List dc→G→Prop) (Ix:Code→List α→List dc→G→Prop) (hI: ∀pre L g g',g.le g'→I pre L g→I pre L g') (E1: ∀c pre L g g',g.le g'→Ix c pre L g→Ix c pre L g')
  (h0:I [] L g) (la:α→Env)
  (uY: ∀x ro w,W {Wd with round:=some ro} P N [] assign (Exit.then (fun a w'=>w'=w∧Fr N [] (la x) a) (fun _ _ _=>False)) (qW ps.toList (iq x) l) w)
  (uZ: ∀lp D ro pre x rest gr Lr,xs=pre++x::rest→g.le gr→St g0 gr (.obj lp (ro .busy):: .obj D g_::Lr)→I pre Lr gr→
   W {Wd with round:=some lp} P N [] body (FY (I (pre++[x])) (fun c=>Ix c (pre++[x])) g0 gr lp D ro) (la x) gr.w)
  (lL: ∀lp D o Lr ge,g.le ge→St g0 ge (.obj lp o:: .obj D g_::Lr)→I xs Lr ge→ ∀a,Fr N (⟨.collected D,#[]⟩::ds) l a→Q .normal a ge.w)
  (D1: ∀c lp D o pre Lr ge,pre<+:xs→g.le ge→St g0 ge (.obj lp o:: .obj D g_::Lr)→Ix c pre Lr ge→W Wd P N (⟨.collected D,#[]⟩::ds) c Q l ge.w):
  W Wd P N ds (.rangeFunc f ps assign body) Q l g.w:=by
 intro a ha;refine wpIn_rangeFunc fun fn _=>?_;let ro:LoopState→Obj:=fun st=>kR fn a.tmps ps assign body g.w.heap.size st none
 have pH:=hs.al g_;have dm:=pH.1.al (ro .ready);have dk:(g.al g_).w.heap.size=g.w.heap.size+1:=by simp[G.al]
 let g2:=(g.al g_).al (ro .ready)
 have tq:g.le g2:=pH.2.trans dm.2;refine⟨g.w.heap.size+1,[⟨.collected g.w.heap.size,#[]⟩],g2.w,⟨.fn (.func mJ) fO,#[.func (.yield (g.w.heap.size+1)) #[] #[]]⟩,g2.w,mJ,(.func (.yield (g.w.heap.size+1)) #[] #[]::fO.toList).toArray,g2.w,?_,?_,fun _ _=>trivial,?_,fun h=>(by cases h),?_⟩
 ·exact run_enterLoop_outer fn a.tmps ps assign body
 ·simp only[resolve,ha.ev hf,Deferred.ofValue];simp[Act.eval,g2]
 ·have e:#[Value.func (.yield (g.w.heap.size+1)) #[] #[]]++fO=(.func (.yield (g.w.heap.size+1)) #[] #[]::fO.toList).toArray:=by apply abJ;simp
  rw[←e];exact jA qS _
 --Ph zc uS,with Tq holds G_ Ph rounds
 have Cu:St g0 g2 (.obj (g.w.heap.size+1) (ro .ready):: .obj g.w.heap.size g_::L):=by have:=dm.1;rw[dk]at this;exact this
 refine ab0 (vJ g2 tq (.func (.yield (g.w.heap.size+1)) #[] #[])
  (fun pre g'=>g.le g'∧ ∃Lr,St g0 g' (.obj (g.w.heap.size+1) (ro .ready):: .obj g.w.heap.size g_::Lr)∧I pre Lr g')
  (fun pre g'=>g.le g'∧ ∃c Lr,St g0 g' (.obj (g.w.heap.size+1) (kR fn a.tmps ps assign body g.w.heap.size .done (some c)):: .obj g.w.heap.size g_::Lr)∧Ix c pre Lr g')
  (fun pre ga gb hf ⟨h1,Lr,h2,h3⟩=>⟨h1.trans hf.le,Lr,h2.call hf,hI _ _ _ _ hf.le h3⟩)
  (fun pre ga gb hf ⟨h1,c,Lr,h2,h3⟩=>⟨h1.trans hf.le,c,Lr,h2.call hf,E1 _ _ _ _ _ hf.le h3⟩) ?_ ⟨tq,L,Cu,hI _ _ _ _ tq h0⟩) ?_
 ·--one round
  rintro pre x rest gp lG Tr ⟨tL,Lr,dj,hi⟩;have pJ:gp.w.heap[g.w.heap.size+1]? =some (ro .ready):=(dj.own 0 _ rfl).2.1;refine⟨fn,_,assign,body,run_yield pJ (by simpa [kR]using Tp x),?_⟩;refine roundIn_of_wpIn trivial ?_;have zd:Fr N [] (qW ps.toList (iq x) l) {tmps:=(ps.zip (#[]++(iq x).toArray)).foldl (fun tmps (x:Nat×Value)=>tmps.setIfInBounds x.1 x.2) a.tmps,defers:=[]}:=by
   have h:=Cv (N:=N) ps.toList (iq x) l a.tmps uf ⟨rfl,ha.size,ha.get⟩;have e:(ps.zip (#[]++(iq x).toArray)).foldl (fun tmps (x:Nat×Value)=>tmps.setIfInBounds x.1 x.2) a.tmps=(ps.toList.zip (iq x)).foldl (fun tmps (x:Nat×Value)=>tmps.setIfInBounds x.1 x.2) a.tmps:=by rw[←adr];simp
   rw[e];exact h
  refine ab3 (uY x (g.w.heap.size+1) gp.w _ zd) fun e a1 w1 he=>?_;cases e with
  |normal=>
   obtain⟨rfl,Ll⟩:=he;have hb:=dj.po (i:=0) (o':=ro .busy) rfl;refine⟨(gp.po (g.w.heap.size+1) (ro .busy)).w,run_beginRound pJ rfl,?_⟩;have FZ:St g0 (gp.po (g.w.heap.size+1) (ro .busy)) (.obj (g.w.heap.size+1) (ro .busy):: .obj g.w.heap.size g_::Lr):=hb.1;refine ab3 (uZ _ _ ro pre x rest _ Lr lG (tL.trans hb.2) FZ (hI _ _ _ _ hb.2 hi) a1 Ll) fun e a2 w2 he=>?_;cases e with
   |normal=>
    obtain⟨L',g',rfl,mB,gZ,hi'⟩:=he;have mC:g'.w.heap[g.w.heap.size+1]? =some (ro .busy):=(mB.own 0 _ rfl).2.1;have hp:=mB.po (i:=0) (o':=ro .ready) rfl;refine⟨_,_,run_endRound none mC,g'.po (g.w.heap.size+1) (ro .ready),true,rfl,rfl,(hb.2.trans gZ).trans hp.2,fun _=>⟨((tL.trans hb.2).trans gZ).trans hp.2,L',hp.1,hI _ _ _ _ hp.2 hi'⟩,fun h=>(by cases h)⟩
   |ret=>
    obtain⟨L',g',rfl,mB,gZ,hi'⟩:=he;have mC:g'.w.heap[g.w.heap.size+1]? =some (ro .busy):=(mB.own 0 _ rfl).2.1;have hp:=mB.po (i:=0) (o':=kR fn a.tmps ps assign body g.w.heap.size .done (some .ret)) rfl;refine⟨_,_,run_endRound (some .ret) mC,g'.po (g.w.heap.size+1) (kR fn a.tmps ps assign body g.w.heap.size .done (some .ret)),false,rfl,rfl,(hb.2.trans gZ).trans hp.2,fun h=>(by cases h),
     fun _=>⟨((tL.trans hb.2).trans gZ).trans hp.2,.ret,L',hp.1,E1 _ _ _ _ _ hp.2 hi'⟩⟩
   |exit id=>
    obtain⟨L',g',rfl,mB,gZ,hi'⟩:=he;have mC:g'.w.heap[g.w.heap.size+1]? =some (ro .busy):=(mB.own 0 _ rfl).2.1;have hp:=mB.po (i:=0) (o':=kR fn a.tmps ps assign body g.w.heap.size .done (some (.exit id))) rfl;refine⟨_,_,run_endRound (some (.exit id)) mC,g'.po (g.w.heap.size+1) (kR fn a.tmps ps assign body g.w.heap.size .done (some (.exit id))),false,rfl,rfl,(hb.2.trans gZ).trans hp.2,fun h=>(by cases h),
     fun _=>⟨((tL.trans hb.2).trans gZ).trans hp.2,.exit id,L',hp.1,E1 _ _ _ _ _ hp.2 hi'⟩⟩
   |goto t=>exact he.elim
   |panic c=>exact he.elim
   |outgrown=>exact he.elim
  |exit id=>exact he.elim
  |goto t=>exact he.elim
  |ret=>exact he.elim
  |panic c=>exact he.elim
  |outgrown=>exact he.elim
 --Ph iterator has ended
 rintro e w' ⟨ge,v,rfl,rfl,gZ,h⟩;have D2:Fr N (⟨.collected g.w.heap.size,#[]⟩::ds) l {a with defers:=[⟨.collected g.w.heap.size,#[]⟩]++a.defers}:=⟨by simp[ha.defers],ha.size,ha.get⟩;rcases h with⟨hle,Lr,dj,hi⟩|⟨pre,oz,hle,c,Lr,dj,hi⟩
 ·have pJ:ge.w.heap[g.w.heap.size+1]? =some (ro .ready):=(dj.own 0 _ rfl).2.1;have hp:=dj.po (i:=0) (o':=kR fn a.tmps ps assign body g.w.heap.size .exhausted none) rfl;exact⟨none,_,run_endLoop pJ (by simp),lL _ _ _ Lr (ge.po _ _) (hle.trans hp.2) hp.1 (hI _ _ _ _ hp.2 hi) _ D2⟩
 have pJ:ge.w.heap[g.w.heap.size+1]? =some (kR fn a.tmps ps assign body g.w.heap.size .done (some c)):=(dj.own 0 _ rfl).2.1;have hp:=dj.po (i:=0) (o':=kR fn a.tmps ps assign body g.w.heap.size .exhausted (some c)) rfl;exact⟨some c,_,run_endLoop pJ (by simp),D1 c _ _ _ pre Lr (ge.po _ _) oz (hle.trans hp.2) hp.1 (E1 _ _ _ _ _ hp.2 hi) _ D2⟩
theorem Co{fn:Func}{tmps:Array Value}{D i:Nat}{ds:List Deferred}(hs:St g0 g L)(hi:L[i]? =some (.obj D g_))
  (h:LeavesInM Wd 0 P fn tmps R ds .returning (g.po D (.deferred none)).w):LeavesInM Wd 0 P fn tmps R (⟨.collected D,#[]⟩::ds) .returning g.w:=
 ⟨by simp,.inl ⟨D,_,rfl,run_takeDeferred (hs.own i _ hi).2.1,h⟩⟩
def rep(d:Nat)(v:Value):Env→Env
 |[]=>[]
 |(k,u)::r=>bif Nat.beq k d then(k,v)::r else(k,u)::rep d v r
theorem F8{d:Nat}{v:Value}: ∀(l:Env) (t:Nat) (u:Value),lk (rep d v l) t=some u→(t=d∧u=v)∨(t≠d∧lk l t=some u)
 |[],t,u,h=>by simp[rep,lk]at h
 |(k,x)::r,t,u,h=>by
  simp only[rep]at h;cases hk:Nat.beq k d with
  |true=>
   have W1:=abZ hk;subst W1;rw[hk]at h;simp only[cond_true]at h;by_cases e:k=t
   ·subst e;rw[dz]at h;exact .inl ⟨rfl,(aax h).symm⟩
   rw[cG _ _ e]at h;exact .inr ⟨fun q=>e q.symm,by rw[cG _ _ e];exact h⟩
  |false=>
   rw[hk]at h;simp only[cond_false]at h;by_cases e:k=t
   ·subst e;rw[dz]at h;refine .inr ⟨fun q=>?_,by rw[dz];exact h⟩;subst q;simp at hk
   rw[cG _ _ e]at h;rcases F8 r t u h with h'|⟨h1,h2⟩
   ·exact .inl h'
   exact .inr ⟨h1,by rw[cG _ _ e];exact h2⟩
theorem Bo{d:Nat}{v x:Value}: ∀(l:Env),lk l d=some x→lk (rep d v l) d=some v
 |[],h=>by simp[lk]at h
 |(k,y)::r,h=>by
  simp only[rep];cases hk:Nat.beq k d with
  |true=>
   have:=abZ hk;subst this;simp[dz]
  |false=>
   have fL:k≠d:=fun q=>by subst q;simp at hk
   rw[cG _ _ fL]at h;simp only[cond_false];rw[cG _ _ fL];exact Bo r h
theorem u9{d:Nat}{v:Value}: ∀(l:Env) (t:Nat),t≠d→lk (rep d v l) t=lk l t
 |[],t,_=>rfl
 |(k,y)::r,t,h=>by
  simp only[rep];cases hk:Nat.beq k d with
  |true=>
   have:=abZ hk;subst this;simp only[cond_true];rw[cG _ _ (fun q=>h q.symm),cG _ _ (fun q=>h q.symm)]
  |false=>
   simp only[cond_false];by_cases e:k=t
   ·subst e;rw[dz,dz]
   rw[cG _ _ e,cG _ _ e];exact u9 r t h
theorem Fr.rep{d:Nat}{v:Value}(ha:Fr N ds l a)(h:lk l d=some v){v':Value}(e:v=v'):Fr N ds (rep d v' l) a:=by
 refine⟨ha.defers,ha.size,fun t u hu=>?_⟩;rcases F8 l t u hu with⟨rfl,rfl⟩|⟨_,h2⟩
 ·subst e;exact ha.get _ _ h
 exact ha.get _ _ h2
theorem Fr.TK{d:Nat}{v v':Value}(ha:Fr N ds (Go.K.rep d v' l) a)(h:lk l d=some v)(e:v=v'):Fr N ds l a:=by
 refine⟨ha.defers,ha.size,fun t u hu=>?_⟩;by_cases Y5:t=d
 ·subst Y5;rw[h]at hu;obtain rfl:=aax hu;subst e;exact ha.get _ _ (Bo l h)
 exact ha.get _ _ (by rw[u9 l t Y5];exact hu)
def zp(ops:Array Oper):Env→List Oper→Option Env
 |l,[]=>some l
 |l,o::os=>
  match rP ops l o.guard,o.dst with
  |some false,some d=>zp ops ((d,undef)::l) os
  |_,_=>none
theorem zq(hF: ∀f,F.fn f): ∀(o1:List Oper) {l l':Env} {a:Act} {w:World},zp ops l o1=some l'→(o1.all fun o=>RQ N o.dst)=true→Fr N ds l a→
  (∀a',Fr N ds l' a'→(∀t,(∀o∈o1,o.dst≠some t)→a'.tmps[t]? =a.tmps[t]?)→wpListIn F 0 P ops Q os a' w)→wpListIn F 0 P ops Q (o1++os) a w
 |[],l,l',a,w,hp,_,ha,h=>by simp only[zp,aau]at hp;subst hp;exact h a ha fun _ _=>rfl
 |o::o1,l,l',a,w,hp,hd,ha,h=>by
  simp only[zp]at hp;split at hp
  ·rename_i d hg TH;simp only[ab_,aaA]at hd;have LD:=ha.put hd.1 undef;rw[TH]at LD;simp only[aa0,wpListIn,qZ hg ha];refine⟨fun f _=>hF f,?_⟩;rw[TH];refine zq hF o1 hp hd.2 LD fun a' dT hk=>h a' dT fun t ht=>?_;rw[hk t (fun o' Lz=>ht o' (by simp[Lz]))];simp only[Act.put];rw[adg (fun e=>ht o (by simp) (by rw[TH,e]))]
  cases hp
theorem cI(n:Nat){want b x:Bool}{d dp da:Nat}{ty:TypeId}{pos:String}{af:Array Edge}{gp:Option (Nat×Bool)}{A B:Operand}(hF: ∀f,F.fn f){l1:Env}
  (GF:os[n]? =some ⟨some dp,.pick (.tmp d) A B,ty,pos,af,gp⟩) (hl:lk l d=some (.bool b)) (Y8:Nat.blt dp N=true) (MN:rP ops l gp=some true)
  (EZ:(want=true∧A= .tmp da∧B= .const (.bool false))∨(want=false∧A= .const (.bool true)∧B= .tmp da)) (Va:lk l da=none)
  (TL:zp ops (rep d (.bool (!want)) l) (os.take n)=some l1) (kQ:((os.take n).all fun o=>RQ N o.dst)=true) (Q6:((os.take n).all fun o=>match o.dst with|some t=>(lk l t).isNone|none=>false)=true)
  (h1:b=want→ ∀Q':Exit→Act→World→Prop,(∀g' a,bW g g'→Fr N ds ((da,.bool x)::rep d (.bool want) l) a→Q' .normal a g'.w)→WL F P N ds ops Q' (os.take n) (rep d (.bool want) l) g.w)
  (k: ∀g',bW g g'→WL F P N ds ops Q (os.drop (n+1)) ((dp,.bool (bif want then b&&x else b||x))::l) g'.w):WL F P N ds ops Q os l g.w:=by
 have UY:os=os.take n++(⟨some dp,.pick (.tmp d) A B,ty,pos,af,gp⟩::os.drop (n+1)):=by have aV:=(aaN.1 GF).1;have h2:=(aaN.1 GF).2;rw[←h2,←aa7 aV,aaY]
 intro a ha;have Hn: ∀(g':G) (a':Act),bW g g'→Fr N ds l a'→(execOp a'.eval ⟨some dp,.pick (.tmp d) A B,ty,pos,af,gp⟩).run P g'.w= .ok (.value (.bool (bif want then b&&x else b||x))) g'.w→
   wpListIn F 0 P ops Q (⟨some dp,.pick (.tmp d) A B,ty,pos,af,gp⟩::os.drop (n+1)) a' g'.w:=by
  intro g' a' hf dT lz;simp only[wpListIn,qZ (o:=⟨some dp,.pick (.tmp d) A B,ty,pos,af,gp⟩) MN dT,if_true];unfold Oper.wpIn;refine⟨fun f _=>hF f,?_⟩;rw[abR _ _ _ (fun c e=>by cases e),lz];exact k g' hf _ (dT.put (d:=some dp) Y8 _)
 by_cases hb:b=want
 ·subst hb;have W_:=h1 rfl (Exit.then (fun a' w'=> ∃g',bW g g'∧g'.w=w'∧Fr N ds ((da,.bool x)::rep d (.bool b) l) a') Q) (fun g' a' hf dT=>⟨g',hf,rfl,dT⟩);refine QK _ UY (fun a' dT=>W_ a' (dT.rep hl rfl)) ?_ a ha;rintro a' _ ⟨g',hf,rfl,dT⟩;have TM:a'.eval (.tmp da)= .bool x:=dT.ev (x:=.tmp da) (dz _ _ _);have TN:Fr N ds l a':=by
   refine Fr.TK (d:=d) (v:=.bool b) (v':=.bool b) ⟨dT.defers,dT.size,fun t u hu=>?_⟩ hl rfl;refine dT.get t u ?_;rw[cG _ _ (fun e=>?_)]
   ·exact hu
   subst e;rcases F8 l da u hu with⟨h1,_⟩|⟨_,h2⟩
   ·rw[h1,hl]at Va;cases Va
   rw[h2]at Va;cases Va
  refine Hn g' a' hf TN ?_;have TO:a'.eval (.tmp d)= .bool b:=TN.ev (x:=.tmp d) hl;rcases EZ with⟨rfl,rfl,rfl⟩|⟨rfl,rfl,rfl⟩
  ·simp only[execOp,TO,TM,asBool,aaE,aa5,aaH];rfl
  simp only[execOp,TO,TM,asBool,aaE,aa5,aaH];rfl
 have Xc:b= !want:=(show ∀b want:Bool,¬b=want→b= !want from fun b want=>by cases b<;>cases want<;>simp) b want hb;rw[UY];refine zq hF (os.take n) TL kQ (ha.rep hl (by rw[Xc])) fun a' dT hk=>?_;have TN:Fr N ds l a':=by
  have TP:a'.defers=ds∧a'.tmps.size=N:=⟨dT.defers,dT.size⟩;refine⟨TP.1,TP.2,fun t u hu=>?_⟩;rw[hk t (fun o ho e=>?_)]
  ·exact ha.get t u hu
  have:=(aa2.1 Q6) o ho;simp only[e]at this;rw[hu]at this;cases this
 refine Hn g a' (bW.refl _) TN ?_;have TO:a'.eval (.tmp d)= .bool b:=TN.ev (x:=.tmp d) hl;rcases EZ with⟨rfl,rfl,rfl⟩|⟨rfl,rfl,rfl⟩
 ·subst Xc;simp only[execOp,TO,asBool,aaE,aa5,aaH];rfl
 subst Xc;simp only[execOp,TO,asBool,aaE,aa5,aaH];rfl
theorem kI{t:Nat}{k:IntKind}{m n:Int}(h:lk l t=some (.int k m))(e:m=n):lk l t=some (.int k n):=e▸h
theorem kB{t:Nat}{m n:Bool}(h:lk l t=some (.bool m))(e:m=n):lk l t=some (.bool n):=e▸h
theorem kV{t:Nat}{u v:Value}(h:lk l t=some u)(e:u=v):lk l t=some v:=e▸h
theorem wr{n:Int}(h1: -9223372036854775808≤n)(h2:n≤9223372036854775807):IntKind.i64.wrap n=n:=by exact IntWalk.i64_in n ⟨h1,h2⟩
theorem jK{t:Nat}{u:Value}(v:Value)(hl:lk l t=some u)(e:u=v)(h:WL F P N ds ops Q os ((t,v)::l) w):WL F P N ds ops Q os l w:=by
 refine fun a ha=>h a (ha.sub fun s x hs=>?_);by_cases q:t=s
 ·subst q;rw[dz]at hs;rw[hl,e];exact hs
 rw[cG _ _ q]at hs;exact hs
theorem St.fM(hs:St g0 g L){i b:Nat}{cs:List Value}{E:TypeId}{fz:Nat×Nat}(hi:L[i]? =some (.obj b (.cells cs.toArray E fz))):
  ∃g',g'.w=g.w∧St g0 g' (L.eraseIdx i)∧g.le g'∧EP g' b 0 cs:=by
 refine⟨g.fz _ (fun b hb=>((hs.own i _ hi).lt b hb).2.1),rfl,hs.fz hi,G.uC g _ _,.inr rfl,fun j y hy=>?_⟩;have h:=(hs.own i _ hi).2.1;show g.w.cell? _=_;simp[World.cell?,h,hy]
theorem St.cD{α:Type}[El α](hs:St g0 g L){i:Nat}{e:TypeId}{v:Value}{n:Nat}{cells:List Value}{xs:List α}(hi:L[i]? =some (.row e (El.k α) v n cells))(hr:cR g cells xs):
  ∃g',g'.w=g.w∧St g0 g' (L.eraseIdx i)∧g.le g'∧Rs g' v xs:=by
 refine⟨g.fz _ (fun b hb=>((hs.own i _ hi).lt b hb).2.1),rfl,hs.fz hi,G.uC g _ _,?_⟩;exact(hs.own i _ hi).1.rs hr (G.uC g _ _) fun b hb=>⟨.inr hb,rfl⟩
theorem fF{R:G→Value→Prop}(hF:F.fn=Wd.fn)(hd:F.depth=none)(xt:F.alive=false){x:Operand}{args:Array Operand}{ts:Array TypeId}{fv:Value}{vs:List Value}
  (ho:o.op= .call {callee:=.value x,args,argTypes:=ts}) (hx:ev l x=some fv) (ha:xv l args.toList=some vs)
  (h:jX P fv vs g.w (ug g R)) (k: ∀g' v,bW g g'→R g' v→K v g'.w):cQ F P N ds o l g.w Q K:=
 fZ hF hd xt ho hx ha (h.mono fun _ _ ⟨g',v,hw,hf,he,hr⟩=>⟨v,he,hw▸k g' v hf hr⟩)
theorem dF{R:Ending→World→Prop}{f:FuncId}{first captured:Array Value}{args aa:List Value}(hc:cS P f)(has:first.toList++args++captured.toList=aa)(h:CallsIn Wd 0 P f aa.toArray w R):
  jX P (.func (.func f) first captured) args w R:=⟨hc,by rw[has];exact h⟩
def ox{α:Type}(p:α→Bool)(l:List α):Int:=if l.any p then l.findIdx p else -1
theorem xP{α:Type}{p:α→Bool}{l:List α}{k:Nat}(h:k<l.length)(hp:p l[k]=true)(dt: ∀j (h:j<l.length),j<k→p l[j]=false):ox p l=k:=by unfold ox;rw[if_pos (abW.2 ⟨_,aaQ h,hp⟩)];rw[(List.findIdx_eq h).2 ⟨hp,fun j hj=>dt j (by omega) hj⟩]
theorem xQ{α:Type}{p:α→Bool}{l:List α}(dt: ∀j (h:j<l.length),p l[j]=false):ox p l= -1:=by unfold ox;rw[if_neg];intro h;obtain⟨x,hx,hp⟩:=abW.1 h;obtain⟨j,hj,rfl⟩:=aa4.1 hx;rw[dt j hj]at hp;cases hp
theorem qQ{α:Type}(p:α→Bool)(l:List α):decide (0≤ox p l)=l.any p:=by unfold ox;cases l.any p<;>simp
variable {gd:G} {φs:List Fact} {l0:Env}
theorem adq{i:Nat}(h:Lb F P N ds ops Q φs l0 gd i o)(h2:mM F P N ds ops Q φs l0 gd (i+1) os):mM F P N ds ops Q φs l0 gd i (o::os):=⟨h,h2⟩
theorem fk{i:Nat}:mM F P N ds ops Q φs l0 gd i []:=trivial
theorem az{k:Env→Prop}(h:k l):QA φs g [] l k:=h
theorem bU{k:Env→Prop}{j d:Nat}{x:Value}{r:List (Nat×Nat)}(he:iT φs j=Fact.eq x)(h:QA φs g r ((d,x)::l) k):QA φs g ((j,d)::r) l k:=by intro v hv;rw[he]at hv;obtain rfl:v=x:=hv;exact h
theorem aI{k:Env→Prop}{j d:Nat}{r:List (Nat×Nat)}(h: ∀v,(iT φs j).p v g→QA φs g r ((d,v)::l) k):QA φs g ((j,d)::r) l k:=h
def DK(F:Fence)(P:Program)(N:Nat)(ds:List Deferred)(ops:Array Oper)(Q:Exit→Act→World→Prop)(φ:Fact)(g':G)(o:Oper)(env:Env):Prop:=
 match rP ops env o.guard with
 |some true=>cQ F P N ds o env g'.w Q fun v w'=> ∃ez,ez.w=w'∧bW g' ez∧φ.p v ez
 |some false=>φ.p undef g'
 |none=>False
theorem ado{i:Nat}{js:List (Nat×Nat)}(hj:jn ops o=js)(h: ∀g',bW gd g'→QA φs g' js l0 (DK F P N ds ops Q (iT φs i) g' o)):Lb F P N ds ops Q φs l0 gd i o:=by subst hj;exact h
theorem jO{φ:Fact}(hg:rP ops l o.guard=some false)(h:φ.p undef g):DK F P N ds ops Q φ g o l:=by unfold DK;rw[hg];exact h
theorem ay{φ:Fact}(hg:rP ops l o.guard=some true)(h:cQ F P N ds o l g.w Q fun v w'=> ∃ez,ez.w=w'∧bW g ez∧φ.p v ez):DK F P N ds ops Q φ g o l:=by unfold DK;rw[hg];exact h
variable {Q':Exit→Act→World→Prop} {c y:Code} {J:Act→World→Prop} {id:Nat}
theorem ai(h:W F P N ds y Q' l w): ∀a,Fr N ds l a→Exit.then (y.wpIn F 0 P Q') Q .normal a w:=h
theorem bT(h:W F P N ds c Q l w): ∀a,Fr N ds l a→c.wpIn F 0 P Q a w:=h
theorem aX(h: ∀a,Fr N ds l a→Q .normal a w): ∀a,Fr N ds l a→Exit.inBlock id Q .normal a w:=h
theorem b_(h: ∀a,Fr N ds l a→Q .normal a w): ∀a,Fr N ds l a→Exit.inBlock id Q (.exit id) a w:=fun a ha=>by unfold Exit.inBlock;simp only[if_true];exact h a ha
theorem P4{WB:Nat}(fL:Nat.beq WB id=false)(h: ∀a,Fr N ds l a→Q (.exit WB) a w): ∀a,Fr N ds l a→Exit.inBlock id Q (.exit WB) a w:=fun a ha=>by unfold Exit.inBlock;simp only;rw[if_neg (fun e=>by subst e;simp at fL)];exact h a ha
theorem aM(h: ∀a,Fr N ds l a→Q (.exit id) a w): ∀a,Fr N ds l a→Exit.then J Q (.exit id) a w:=h
theorem ec(h: ∀a,Fr N ds l a→Q .ret a w): ∀a,Fr N ds l a→Exit.then J Q .ret a w:=h
theorem iy(h: ∀a,Fr N ds l a→Q .ret a w): ∀a,Fr N ds l a→Exit.inBlock id Q .ret a w:=h
variable {g':G}
theorem Kw{fn:Func}{t D:Nat}{v:Value}(i:Nat)(hr:fn.results=#[.tmp t])(hs:St g0 g L)(hi:L[i]? =some (.obj D g_))(hl:lk l t=some v)
  (hR: ∀g',St g0 g' (L.eraseIdx i)→g.le g'→R (.returned v) g'.w) (a:Act) (ha:Fr N [⟨.collected D,#[]⟩] l a):bodyPostM Wd 0 P fn R .ret a g.w:=by
 show LeavesInM Wd 0 P fn a.tmps R a.defers .returning g.w;rw[ha.defers];have hp:=hs.po (o':=.deferred none) hi;refine Co hs hi ⟨_,results_tmp hr _ _ _,?_⟩;have:a.tmps.getD t undef=v:=by simp[ha.get t v hl]
 rw[this];refine hR _ ?_ hp.2;have h2:=hp.1.drop i;rwa [show(L.set i (dc.obj D (.deferred none))).eraseIdx i=L.eraseIdx i from by apply abL;intro j;simp only[acG,abG];split<;>(rw[if_neg (by omega)])]at h2
theorem O3{fn:Func}{D:Nat}(i:Nat)(hr:fn.results=#[])(hs:St g0 g L)(hi:L[i]? =some (.obj D g_))
  (hR: ∀g',St g0 g' (L.eraseIdx i)→g.le g'→R (.returned (.tuple #[])) g'.w) (a:Act) (ha:Fr N [⟨.collected D,#[]⟩] l a):bodyPostM Wd 0 P fn R .normal a g.w:=by
 show LeavesInM Wd 0 P fn a.tmps R a.defers .returning g.w;rw[ha.defers];have hp:=hs.po (o':=.deferred none) hi;refine Co hs hi ⟨_,results_none hr _ _ _,?_⟩;refine hR _ ?_ hp.2;have h2:=hp.1.drop i;rwa [show(L.set i (dc.obj D (.deferred none))).eraseIdx i=L.eraseIdx i from by apply abL;intro j;simp only[acG,abG];split<;>(rw[if_neg (by omega)])]at h2
def lj{α:Type}[El α](e:TypeId)(g:G)(xs:List α)(g':G)(v:Value):Prop:=∃cells,dc.holds g.w.heap.size g' (.row e (El.k α) v xs.length cells)∧cR g' cells xs
theorem St.jl(hs:St g0 g L)(hf:bW g g'){e:dc}(h:e.holds g.w.heap.size g'):St g0 g' (e::L):=by
 have dm:=hs.call hf;refine⟨dm.below,dm.im,?_,?_⟩
 ·intro j x hj;cases j with
  |zero=>
   simp only[abF,aau]at hj;subst hj;cases e with
   |obj b o=>exact⟨aaC hs.below.size h.1,h.2⟩
   |row t k v n xs=>
    refine⟨⟨h.1.1,?_⟩,h.2⟩;rcases h.1.2 with h'|⟨b,off,cap,cur,e1,hB,h'⟩
    ·exact .inl h'
    exact .inr ⟨b,off,cap,cur,e1,aaC hs.below.size hB,h'⟩
  |succ j=>exact dm.own j x (by simpa using hj)
 intro j k x y ER hj hk b Be xS;cases j with
 |zero=>
  cases k with
  |zero=>exact ER rfl
  |succ k=>
   simp only[abF,aau]at hj;subst hj;have h1:=(h.lt b Be).1;have h2:=((hs.own k y (by simpa using hk)).lt b xS).2.1;omega
 |succ j=>
  cases k with
  |zero=>
   simp only[abF,aau]at hk;subst hk;have h1:=(h.lt b xS).1;have h2:=((hs.own j x (by simpa using hj)).lt b Be).2.1;omega
  |succ k=>exact dm.sep j k x y (by omega) (by simpa using hj) (by simpa using hk) b Be xS
theorem St.nu{α:Type}[El α](hs:St g0 g L){i:Nat}{e:TypeId}{v:Value}{n:Nat}{cells:List Value}{xs:List α}(hi:L[i]? =some (.row e (El.k α) v n cells))(hr:cR g cells xs):lj e g0 xs g v:=by
 have h:=hs.own i _ hi;have hn:n=xs.length:=by have h1:=h.1.1;have hp:=El.pos (α:=α);rw[hr.len]at h1;exact(Nat.eq_of_mul_eq_mul_right hp h1).symm
 subst hn;exact⟨cells,h,hr⟩
theorem lj.nil{α:Type}[El α](e:TypeId)(g g':G)(a:Option Addr):lj e g ([]:List α) g' (.slice a 0 0):=
 ⟨[],⟨Row.nil _ _ _ _ _,fun b hb=>by rw[mA]at hb;cases hb⟩,rfl⟩
theorem St.lS{α:Type}[El α](hs:St g0 g L)(hf:bW g g'){e:TypeId}{v:Value}{xs:List α}(h:lj e g xs g' v): ∃g2,g2.w=g'.w∧St g0 g2 L∧g'.le g2∧Rs g2 v xs:=by obtain⟨cells,h1,h2⟩:=h;obtain⟨g2,e1,e2,e3,e4⟩:=(hs.jl hf h1).cD (i:=0) rfl h2;exact⟨g2,e1,e2,e3,e4⟩
theorem cR.ints(g:G): ∀xs:List Int,cR g (xs.map (Value.int .i64)) xs
 |[]=>rfl
 |x::xs=>⟨[vI x],xs.map (Value.int .i64),rfl,rfl,cR.ints g xs⟩
theorem Iq(z:Array Value)(n:Nat)(hz:0<z.size):(Builtin.zeroCells z n).toList=(List.replicate n z.toList).flatten:=Bf z n hz
theorem A4{tb:Tb}(dS:tb.ok P)(i:Nat){t e:Nat}{ti ei:TI}{k:Nat}{x:Operand}{b p m cap n c' a:Nat}{ad:Option Addr}{xs xs':List Value}
  (ho:o.op= .call {callee:=.builtin .clear,args:=#[x],argTypes:=#[t]}) (hs:St g0 g L) (hL:L[i]? =some (.row e k (.slice (some ⟨b,p,none⟩) n cap) n xs)) (hx:ev l x=some (.slice ad m c'))
  (hi:tl tb t=some ti) (hd:ti.desc= .slice e) (hj:tl tb e=some ei) (hk:ei.size=k) (nv:0<k) (hz:ei.zero.cells.size=k) (h1:ei.zero.cells.toList.all Value.oneCell'=true)
  (WC:m=0∨ad=some ⟨b,p+a*k,none⟩) (U0:a+m=n) (lG:xs'=xs.take (a*k)++(List.replicate m ei.zero.cells.toList).flatten)
  (kk: ∀g',St g0 g' (L.set i (.row e k (.slice (some ⟨b,p,none⟩) n cap) n xs'))→g.le g'→K (.tuple #[]) g'.w):cQ F P N ds o l g.w Q K:=by
 obtain⟨⟨dd,hu,he⟩,_⟩:=dS.at hi;rw[hd]at he;obtain rfl:=KD.of_slice he;obtain⟨_,inf,e1,e2,e3,e4⟩:=dS.at hj;have eF:=hs.own i _ hL;have nL:=eF.1.1;by_cases hm:m=0
 ·subst hm;have hxx:xs'=xs:=by rw[lG,show a=n from by omega,aaD (by omega)];simp
  subst hxx;refine gM ho (w':=g.w) (v:=.tuple #[]) (fun ac ha=>?_) (kk g (by
   rw[show L.set i (dc.row e k (.slice (some ⟨b,p,none⟩) n cap) n xs')=L from by
    apply abL;intro j;rw[abG];split
    ·rename_i h;subst h;rw[hL];simp[(aaN.1 hL).1]
    rfl]
   exact hs) (G.le.refl g))
  cases ad<;>simp[resolve,invoke,builtin,ha.ev hx,Builtin.clear_,run_underlying hu]
 have WC:=WC.resolve_left hm;subst WC;have YQ:((List.replicate m ei.zero.cells.toList).flatten).length=m*k:=by simp[hz]
 have hmk:0<m*k:=Nat.mul_pos (by omega) nv;have YR:n*k=a*k+m*k:=by rw[←U0,abh]
 obtain⟨cur,_,hh,Lc,hR,tp,_⟩:=eF.1.store (us:=(List.replicate m ei.zero.cells.toList).flatten) (off:=a*k) (by rw[YQ,nL];omega) (by omega);have WD:nY xs (a*k) (List.replicate m ei.zero.cells.toList).flatten=xs':=by unfold nY;rw[YQ,abr (by omega),aaI,lG]
 rw[WD]at hR;have dj:=hs.MK (g':=g.sr b (nY cur (p+a*k) (List.replicate m ei.zero.cells.toList).flatten).toArray) (e':=.row e k (.slice (some ⟨b,p,none⟩) n cap) n xs') hL
  (by simp only[dc.xy,lx tp];exact nh _ _ _) (fun _ _=>aba) ⟨hR,eF.2⟩ (fun b' xw=> .inl xw)
 refine gM ho (w':=(g.sr b (nY cur (p+a*k) (List.replicate m ei.zero.cells.toList).flatten).toArray).w) (v:=.tuple #[]) (fun ac ha=>?_) (kk _ dj.1 dj.2);have G4:=jz (P:=P) b (p+a*k) e (List.replicate m ei.zero.cells.toList).flatten 0 cur.toArray g.w hh (by simpa using Lc) (by intro u hu;obtain⟨l',BM,U1⟩:=List.mem_flatten.1 hu;rw[(List.mem_replicate.1 BM).2]at U1;exact aa2.1 h1 u U1);simp only[abj]at G4;obtain⟨m',rfl⟩: ∃m',m=m'+1:=⟨m-1,by omega⟩;simp[resolve,invoke,builtin,ha.ev hx,Builtin.clear_,run_underlying hu,zeroValue,typeInfo,e1,e4,Iq _ _ (by omega:0<ei.zero.cells.size),G4,G.sr,nY]
theorem Row.DA{B:Nat}{e:TypeId}{k n c a:Nat}{ad:Option Addr}{xs:List Value}(h:Row B e k (.slice ad n c) n xs w)(h1:a≤n):
  Row B e k (.slice (if c=0 then ad else ad.map (·.add (0*k))) (a-0) (c-0)) a (xs.take (a*k)) w:=by
 refine⟨by rw[aat,h.1];exact abD (acB k h1),?_⟩;rcases h.2 with⟨rfl,a',e1⟩|⟨b,p,cap,cur,e1,hB,hh,qP,tG,oR,ht⟩
 ·simp only[aaK]at e1;obtain⟨rfl,_,rfl⟩:=e1;obtain rfl:a=0:=by omega
  exact .inl ⟨rfl,ad,by simp⟩
 simp only[aaK]at e1;obtain⟨rfl,_,rfl⟩:=e1;by_cases pg:c=0
 ·subst pg;exact .inl ⟨by omega,_,by rw[show a-0=0 from by omega,show(0:Nat)-0=0 from rfl]⟩
 rw[if_neg pg];refine .inr ⟨b,p,c,cur,by simp[abM],hB,hh,by omega,tG,oR,?_⟩;rw[←ht,List.take_take,abD (acB k h1)]
theorem St.DA(hs:St g0 g L){i:Nat}{e:TypeId}{k n c a:Nat}{ad:Option Addr}{xs:List Value}(hi:L[i]? =some (.row e k (.slice ad n c) n xs))(h1:a≤n):
  St g0 g (L.set i (.row e k (.slice (if c=0 then ad else ad.map (·.add (0*k))) (a-0) (c-0)) a (xs.take (a*k)))):=by
 have eF:=hs.own i _ hi;have Aj: ∀b,uj (.slice (if c=0 then ad else ad.map (·.add (0*k))) (a-0) (c-0))=some b→uj (.slice ad n c)=some b:=by
  intro b hb;by_cases hc:c=0
  ·subst hc;rw[show(0:Nat)-0=0 from rfl,mA]at hb;cases hb
  rw[if_neg hc]at hb;cases ad with
  |none=>simp[uj]at hb
  |some ad=>
   rw[abn,Nat.sub_zero,Nat.sub_zero,lx hc]at hb;rw[lx hc];rw[abP]at hb;simpa [Addr.add]using hb
 exact(hs.MK (g':=g) (e':=.row e k (.slice (if c=0 then ad else ad.map (·.add (0*k))) (a-0) (c-0)) a (xs.take (a*k))) hi (ly _ _) (fun _ _=>aba)
  ⟨eF.1.DA h1,fun b hb=>eF.2 b (Aj b hb)⟩ (fun b hb=> .inl (Aj b hb))).1
theorem St.cutFrom(hs:St g0 g L){i:Nat}{e:TypeId}{k n c a:Nat}{ad:Option Addr}{xs:List Value}(hi:L[i]? =some (.row e k (.slice ad n c) n xs))(h1:a≤n):
  St g0 g (L.set i (.row e k (.slice (if c=a then ad else ad.map (·.add (a*k))) (n-a) (c-a)) (n-a) (xs.drop (a*k)))):=by
 have eF:=hs.own i _ hi;have qP:n≤c:=by
  rcases eF.1.2 with⟨h,a',e1⟩|⟨b,p,cap,cur,e1,_,_,h2,_⟩
  ·omega
  simp only[aaK]at e1;omega
 have Aj: ∀b,uj (.slice (if c=a then ad else ad.map (·.add (a*k))) (n-a) (c-a))=some b→uj (.slice ad n c)=some b:=by
  intro b hb;by_cases hc:c=a
  ·rw[show c-a=0 from by omega,mA]at hb;cases hb
  rw[if_neg hc]at hb;cases ad with
  |none=>simp[uj]at hb
  |some ad=>
   rw[abn,lx (by omega)]at hb;rw[lx (by omega)];rw[←hb];unfold Addr.add;split<;>rfl
 exact(hs.MK (g':=g) (e':=.row e k (.slice (if c=a then ad else ad.map (·.add (a*k))) (n-a) (c-a)) (n-a) (xs.drop (a*k))) hi (ly _ _) (fun _ _=>aba)
  ⟨eF.1.cutFrom h1,fun b hb=>eF.2 b (Aj b hb)⟩ (fun b hb=> .inl (Aj b hb))).1
theorem St.Qo{α:Type}[El α](hs:St g0 g L){i:Nat}{e:TypeId}{v:Value}{n:Nat}{cells:List Value}{xs:List α}(hi:L[i]? =some (.row e (El.k α) v n cells))(hr:cR g cells xs):
  ∃gf,gf.w=g.w∧g.le gf∧Rs gf v xs∧ ∀g2,bW gf g2→ ∃g3,g3.w=g2.w∧bW g g3:=by
 have eF:=hs.own i _ hi;have aV: ∀b,uj v=some b→b<g.w.heap.size:=fun b hb=>(eF.1.lt b hb).2;refine⟨g.fz (uj v) aV,rfl,G.uC g _ _,eF.1.rs hr (G.uC g _ _) fun b hb=>⟨.inr hb,rfl⟩,fun g2 hf=>?_⟩;refine⟨⟨g2.w,fun b=>g2.im b∧uj v≠some b,fun b h=>g2.lt b h.1⟩,rfl,hf.below,fun b hb=>?_⟩;have h1:=hf.im b hb;constructor
 ·intro h;rcases h1.1 h.1 with h'|h'
  ·exact h'
  exact absurd h' h.2
 intro h;exact⟨h1.2 (.inl h),fun h'=>eF.2 b h' h⟩
def xq(φ:Fact):Prop:=∀v g g',g.le g'→φ.p v g→φ.p v g'
def kM(own:List Nat):Nat→List Fact→Prop
 |_,[]=>True
 |i,φ::r=>(own.contains i=true∨xq φ)∧kM own (i+1) r
theorem ml(x:Value):xq (Fact.eq x):=fun _ _ _ _ h=>h
theorem cw{α:Type}[El α](xs:List α):xq (Fact.rs xs):=fun _ _ _ hle h=>Rs.mono hle h
theorem dw:xq Fact.any:=fun _ _ _ _ h=>h
theorem wN{own:List Nat}{i:Nat}:kM own i []:=trivial
theorem cX{own:List Nat}{i:Nat}{φ:Fact}{r:List Fact}(h:xq φ)(h2:kM own (i+1) r):kM own i (φ::r):=⟨.inr h,h2⟩
theorem wO{own:List Nat}{i:Nat}{x:Value}{r:List Fact}(h2:kM own (i+1) r):kM own i (Fact.eq x::r):=⟨.inr (ml x),h2⟩
theorem wP{own:List Nat}{i:Nat}{φ:Fact}{r:List Fact}(h:own.contains i=true)(h2:kM own (i+1) r):kM own i (φ::r):=⟨.inl h,h2⟩
theorem kM.at{own:List Nat}: ∀{φs:List Fact} {i:Nat},kM own i φs→ ∀j,own.contains (i+j)=true∨xq (iT φs j)
 |[],i,_,j=> .inr (by unfold iT;simpa using dw)
 |φ::r,i,h,0=>by simpa [iT]using h.1
 |φ::r,i,h,j+1=>by have:=kM.at (i:=i+1) h.2 j;rw[show i+(j+1)=i+1+j from by omega];simpa [iT]using this
def Eff(e:Nat)(gd:G)(i:Nat)(g g':G):Prop:=if i=e then g.le g'∧bW gd g' else bW g g'
def Pe(F:Fence)(P:Program)(N:Nat)(ds:List Deferred)(ops:Array Oper)(Q:Exit→Act→World→Prop)(φs:List Fact)(l0:Env)(gd:G)(e i:Nat)(o:Oper):Prop:=
 ∀g',bW gd g'→QA φs g' (jn ops o) l0 fun env=>
  match rP ops env o.guard with
  |some true=>cQ F P N ds o env g'.w Q fun v w'=> ∃ez,ez.w=w'∧Eff e gd i g' ez∧(iT φs i).p v ez
  |some false=>(iT φs i).p undef g'
  |none=>False
def Cp(F:Fence)(P:Program)(N:Nat)(ds:List Deferred)(ops:Array Oper)(Q:Exit→Act→World→Prop)(φs:List Fact)(l0:Env)(gd:G)(e:Nat):Nat→List Oper→Prop
 |_,[]=>True
 |i,o::os=>Pe F P N ds ops Q φs l0 gd e i o∧Cp F P N ds ops Q φs l0 gd e (i+1) os
def G6(ops:Array Oper)(own:List Nat)(e m:Nat)(outs:List (Nat×Nat)):Bool:=
 outs.all (fun p=> !own.contains p.1)&&(List.range m).all (fun i=>i==e||(match ops[i]? with|some o=>(jn ops o).all (fun p=> !own.contains p.1)|none=>true))
theorem Cp.at{e:Nat}: ∀{l:List Oper} {i0:Nat},Cp F P N ds ops Q φs l0 gd e i0 l→ ∀(j:Nat) o,l[j]? =some o→Pe F P N ds ops Q φs l0 gd e (i0+j) o
 |[],_,_,j,o,h=>by simp at h
 |x::l,i0,hs,0,o,h=>by simp only[abF,aau]at h;subst h;exact hs.1
 |x::l,i0,hs,j+1,o,h=>by simp only[ab2]at h;have:=Cp.at (i0:=i0+1) hs.2 j o h;rw[show i0+(j+1)=i0+1+j from by omega];exact this
variable {e:Nat}
end Go.K
namespace Go.K
open Go Go.RowKit
variable {F:Fence} {P:Program} {N:Nat} {ds:List Deferred} {l l':Env} {a:Act} {w:World} {Q:Exit→Act→World→Prop} {c:Code}
theorem kN{b:Frame}{k:List Item}{cs:List Frame}:step P (lone (b.atR a (.code (.scope c)::k)) cs w)= .next (lone (b.atR a (.code c:: .inScope c::k)) cs w):=
 step_lone_go (by simp[stepG,stepG.exec,Frame.atR])
theorem Aq{b:Frame}{k:List Item}{cs:List Frame}:step P (lone (b.atR a (.inScope c::k)) cs w)= .next (lone (b.atR a k) cs w):=
 step_lone_go (by simp[stepG,stepG.exec,Frame.atR])
theorem NV(h:W F P N ds c (Exit.noGoto Q) l w):W F P N ds (.scope c) Q l w:=by
 intro a ha b k cs Tg hb hr;have h0:(lone (b.atR a (.code (.scope c)::k)) cs w).fenced P F:=fenced_calm hb hr rfl;obtain⟨e,a₁,w₁,hq,tK⟩:=h a ha b (.inScope c::k) cs Tg hb hr;cases e with
 |normal=>exact⟨.normal,a₁,w₁,hq,.head h0 kN (StepsIn.trans tK (.one (fenced_calm hb hr rfl) Aq))⟩
 |exit id=>
  have hx:exitTo id (.inScope c::k)=exitTo id k:=by simp[exitTo]
  exact⟨.exit id,a₁,w₁,hq,fun k' hk=> .head h0 kN (tK.1 k' (by rw[hx];exact hk)),
   fun I7 hk=>let⟨k₁,h1,h2⟩:=tK.2 I7 (by rw[hx];exact hk);⟨k₁,h1,.head h0 kN h2⟩⟩
 |goto l=>exact hq.elim
 |ret=>exact⟨_,a₁,w₁,hq,.of_steps (.one h0 kN) tK⟩
 |panic ch=>exact⟨_,a₁,w₁,hq,.of_steps (.one h0 kN) tK⟩
 |outgrown=>exact⟨_,a₁,w₁,hq,.of_steps (.one h0 kN) tK⟩
theorem QC(h: ∀a,Fr N ds l a→Q .ret a w): ∀a,Fr N ds l a→Exit.noGoto Q .ret a w:=h
variable {o:Oper} {K:Value→World→Prop}
theorem rW{t t':TypeId}{x y:Operand}{k:IntKind}{m n:Int}(ho:o.op= .binOp .rem t x y t')(hx:ev l x=some (.int k m))(hy:ev l y=some (.int k n))(hn:n≠0)(kk:K (.int k (m.tmod n)) w):cQ F P N ds o l w Q K:=by refine bC (fun c=>⟨by rw[ho];simp,by rw[ho];simp⟩) (fun a ha=>?_) kk;simp only[execOp,ho,ha.ev hx,ha.ev hy,aaE,iP,aaH];unfold binOp;simp only[ne_eq,not_true_eq_false,if_false];unfold Op.intDiv;rw[if_neg hn];rfl
variable {ops:Array Oper} {φs:List Fact} {l0:Env} {gd:G}
def FR(e i:Nat)(g g':G):Prop:=if i=e then g.le g' else bW g g'
def DS(F:Fence)(P:Program)(N:Nat)(ds:List Deferred)(ops:Array Oper)(Q:Exit→Act→World→Prop)(φs:List Fact)(l0:Env)(gd:G)(vm:List Nat)(e i:Nat)(o:Oper):Prop:=
 ∀g',gd.le g'→((vm.contains i=true∨i=e)→bW gd g')→QA φs g' (jn ops o) l0 fun env=>
  match rP ops env o.guard with
  |some true=>cQ F P N ds o env g'.w Q fun v w'=> ∃ez,ez.w=w'∧FR e i g' ez∧(iT φs i).p v ez
  |some false=>(iT φs i).p undef g'
  |none=>False
def vX(F:Fence)(P:Program)(N:Nat)(ds:List Deferred)(ops:Array Oper)(Q:Exit→Act→World→Prop)(φs:List Fact)(l0:Env)(gd:G)(vm:List Nat)(e:Nat)(i:Nat)(os:List Oper):Prop:=iZ (DS F P N ds ops Q φs l0 gd vm e) i os
def sW(ops:Array Oper)(vm:List Nat)(e:Nat):Bool:=
 vm.all fun i=>Nat.blt i e&&(e::vm).any fun j=>match ops[j]? with|some o=>(uU o).contains i|none=>false
theorem G7{m e:Nat}{A:List Nat}(kQ:jb N ops l0 m=true)(DT:sW ops A e=true){L:Nat→Bool}(je: ∀k o,L k=true→ops[k]? =some o→ ∀e∈uU o,L e=true)(he:L e=true): ∀i∈A,L i=true:=by
 simp only[sW,aa2,aaA]at DT;have: ∀d i,i∈A→e-i=d→L i=true:=by
  intro d
  induction d using Nat.strongRecOn with
  |_ d ih=>
   intro i hi hd;obtain⟨h2,h3⟩:=DT i hi;obtain⟨j,hj,U2⟩:=abW.1 h3;cases ho:ops[j]? with
   |none=>rw[ho]at U2;simp at U2
   |some o=>
    rw[ho]at U2;have I8:i∈uU o:=by simpa using U2
    have aV:=Ld kQ j o ho i I8;have FT:i<e:=by simpa [abQ]using h2
    rcases aav.1 hj with rfl|hj
    ·exact je _ o he ho i I8
    exact je j o (ih (e-j) (by omega) j hj rfl) ho i I8
 exact fun i hi=>this _ i hi rfl
theorem DU{id:Nat}{g:G}(hF: ∀f,F.fn f)(hm:P.follows .mixedOrders=true)(φs:List Fact)(m:Nat)(outs:List (Nat×Nat))(own vm:List Nat)(e:Nat)(kQ:jb N ops l0 m=true)(eF:G6 ops own e m outs=true)(DT:sW ops vm e=true)(hsoft:kM (e::own) 0 φs)
  (houts:outs.all (fun p=>Nat.blt p.1 m&&(gC ops p.1==some p.2))=true)
  (iF:vX F P N ds ops Q φs l0 g.dr vm e 0 (ops.toList.take m))
  (lL: ∀g',g.dr.le g'→(e<m→ ∃v,(iT φs e).p v g')→QA φs g' outs l0 fun env=>WL F P N ds ops Q (ops.toList.drop m) env g'.w):W F P N ds (.region id ops true) Q l0 g.w:=by
 simp only[G6,aaA,aa2,aa9]at eF;have o2: ∀i o,i<m→i≠e→ops[i]? =some o→ ∀p∈jn ops o,own.contains p.1=false:=by intro i o hi fL ho p hp;have:=eF.2 i hi;rw[ho]at this;simp only[abz]at this;simpa using(aa2.1 (this.resolve_left fun h=>fL (by simpa using h))) p hp
 let waits:Nat→(Nat→Bool)→Prop:=fun j L=>(∃p∈outs,p.1=j)∨ ∃i o,i<m∧L i=false∧ops[i]? =some o∧ ∃p∈jn ops o,p.1=j
 refine xT hF hm m kQ (fun L ρ g'=>(g.dr.le g'∧(L e=false→bW g.dr g'))∧(L e=true→(iT φs e).p (ρ e) g')∧ ∀j,L j=true→waits j L→(iT φs j).p (ρ j) g') ⟨⟨G.le.refl _,fun _=>bW.refl _⟩,fun h=>((by cases h)),fun _ h=>((by cases h))⟩ (fun L ρ g' i o a ⟨hf,hE,hφ⟩ uk ho h0 dW je ha mN=>?_) fun L ρ g' a ⟨hf,hE,hφ⟩ dW ha mN=>Bg (lL g' hf.1 fun he=>⟨_,hE (dW _ he)⟩) ha mN fun p hp=>have h:=uV houts hp;⟨dW _ h.1,h.2,hφ _ (dW _ h.1) (.inl ⟨p,hp,rfl⟩)⟩;have hFr:(vm.contains i=true∨i=e)→bW g.dr g':=fun hi=>hf.2<|by
  cases hle:L e with
  |false=>rfl
  |true=>
   rcases hi with hi|rfl
   ·rw[G7 kQ DT je hle i (by simpa using hi)]at h0;cases h0
   rw[hle]at h0;cases h0
 obtain⟨env,hk,sB⟩:=Bg (iZ.at iF uk ho g' hf.1 hFr) ha mN fun p hp=>⟨dW _ (gH hp).1,(gH hp).2,hφ _ (dW _ (gH hp).1) (.inr ⟨i,o,uk,h0,ho,p,hp,rfl⟩)⟩
 have key: ∀v ez,FR e i g' ez∧(iT φs i).p v ez→(g.dr.le ez∧(sC L i e=false→bW g.dr ez))∧(sC L i e=true→(iT φs e).p (Cq ρ i v e) ez)∧ ∀j,sC L i j=true→waits j (sC L i)→(iT φs j).p (Cq ρ i v j) ez:=by
  rintro v ez ⟨gN,hv⟩;have hw: ∀j,waits j (sC L i)→waits j L:=fun j h=>h.imp_right fun⟨i2,WE,h1,h2,h3⟩=>⟨i2,WE,h1,by unfold sC at h2;split at h2;cases h2;exact h2,h3⟩
  have YS:(∀j,j≠i→L j=true→waits j (sC L i)→(iT φs j).p (ρ j) ez)→ ∀j,sC L i j=true→waits j (sC L i)→(iT φs j).p (Cq ρ i v j) ez:=y9 (p:=fun j v=>waits j (sC L i)→(iT φs j).p v ez) fun _=>hv;unfold FR at gN;by_cases FT:i=e
  ·subst FT;rw[if_pos rfl]at gN;refine⟨⟨hf.1.trans gN,fun h=>by rw[uW]at h;cases h⟩,fun _=>by rw[Cq,if_pos rfl];exact hv,YS fun j Tk hj U3=>?_⟩;rcases kM.at hsoft j with h|h
   ·have h:own.contains j=true:=by simpa [Tk]using h
    rcases U3 with⟨p,z',ML⟩|⟨i2,WE,h1,h2,h3,p,z',ML⟩
    ·have:=eF.1 p z';rw[ML,h]at this;cases this
    have:=o2 i2 WE h1 (fun h4=>by rw[h4,uW]at h2;cases h2) h3 p z';rw[ML,h]at this;cases this
   exact h _ _ _ gN (hφ j hj (hw j U3))
  rw[if_neg FT]at gN;rw[FU (Ne.symm FT),Cq,if_neg (Ne.symm FT)];exact⟨⟨hf.1.trans gN.le,fun h=>(hf.2 h).trans gN⟩,fun h=>(iT φs e).mono _ _ _ gN (hE h),YS fun j _ hj U3=>(iT φs j).mono _ _ _ gN (hφ j hj (hw j U3))⟩
 exact⟨env,_,_,sB,hk,key,fun h=>key undef g' ⟨by unfold FR;split;exact G.le.refl _;exact bW.refl _,h⟩⟩
theorem G8{id:Nat}{g:G}(hF: ∀f,F.fn f)(hm:P.follows .mixedOrders=true)(φs:List Fact)(m:Nat)(outs:List (Nat×Nat))(own vm:List Nat)(e:Nat)(kQ:vY N ops l0 m=true)(eF:G6 ops own e m outs=true)(DT:sW ops vm e=true)(hsoft:kM (e::own) 0 φs)
  (houts:outs.all (fun p=>Nat.blt p.1 m&&(gC ops p.1==some p.2))=true)
  (iF:vX F P N ds ops Q φs l0 g.dr vm e 0 (ops.toList.take m))
  (lL: ∀g',g.dr.le g'→QA φs g' outs l0 fun env=>WL F P N ds ops Q (ops.toList.drop m) env g'.w):W F P N ds (.region id ops true) Q l0 g.w:=
 DU hF hm φs m outs own vm e (DV kQ) eF DT hsoft houts iF fun g' h _=>lL g' h
variable {vm:List Nat} {e:Nat} {os:List Oper} {g:G}
theorem jP{i:Nat}(h:DS F P N ds ops Q φs l0 gd vm e i o)(h2:vX F P N ds ops Q φs l0 gd vm e (i+1) os):vX F P N ds ops Q φs l0 gd vm e i (o::os):=⟨h,h2⟩
theorem wQ{i:Nat}:vX F P N ds ops Q φs l0 gd vm e i []:=trivial
theorem rX{g':G}: ∀(js:List (Nat×Nat)) (l:Env) (k k':Env→Prop),(∀env,k env→k' env)→QA φs g' js l k→QA φs g' js l k'
 |[],_,_,_,hk,h=>hk _ h
 |_::r,_,k,k',hk,h=>fun v hv=>rX r _ k k' hk (h v hv)
theorem Lf{i:Nat}(fL:Nat.beq i e=false){g':G}{env:Env}(hd:DK F P N ds ops Q (iT φs i) g' o env):(match rP ops env o.guard with
  |some true=>cQ F P N ds o env g'.w Q fun v w'=> ∃ez,ez.w=w'∧FR e i g' ez∧(iT φs i).p v ez
  |some false=>(iT φs i).p undef g'
  |none=>False):=by
 have WG:i≠e:=fun x=>by subst x;simp at fL
 unfold DK at hd;unfold FR;simp only[if_neg WG];exact hd
theorem adv{i:Nat}{js:List (Nat×Nat)}(hj:jn ops o=js)(fL:Nat.beq i e=false)(ha:vm.contains i=true)(h: ∀g',bW gd g'→QA φs g' js l0 (DK F P N ds ops Q (iT φs i) g' o)):DS F P N ds ops Q φs l0 gd vm e i o:=by subst hj;intro g' _ hf;exact rX _ _ _ _ (fun env hd=>Lf fL hd) (h g' (hf (.inl ha)))
theorem qV{i:Nat}{js:List (Nat×Nat)}(hj:jn ops o=js)(fL:Nat.beq i e=false)(h: ∀g',gd.le g'→QA φs g' js l0 (DK F P N ds ops Q (iT φs i) g' o)):DS F P N ds ops Q φs l0 gd vm e i o:=by subst hj;intro g' hf _;exact rX _ _ _ _ (fun env hd=>Lf fL hd) (h g' hf)
def DM(F:Fence)(P:Program)(N:Nat)(ds:List Deferred)(ops:Array Oper)(Q:Exit→Act→World→Prop)(φ:Fact)(g':G)(o:Oper)(env:Env):Prop:=
 rP ops env o.guard=some true∧cQ F P N ds o env g'.w Q fun v w'=> ∃ez,ez.w=w'∧g'.le ez∧φ.p v ez
theorem wR{js:List (Nat×Nat)}(hj:jn ops o=js)(h: ∀g',bW gd g'→QA φs g' js l0 (DM F P N ds ops Q (iT φs e) g' o)):DS F P N ds ops Q φs l0 gd vm e e o:=by subst hj;intro g' _ hf;refine rX _ _ _ _ (fun env hd=>?_) (h g' (hf (.inr rfl)));obtain⟨hg,hd⟩:=hd;rw[hg];unfold FR;simp only[if_true];exact hd
theorem lR{c:Code}{w:World}{J':Act→World→Prop}(J:Act→World→Prop)(h:W F P N ds c (Exit.then J Q) l w)(h2: ∀a w,J a w→J' a w):W F P N ds c (Exit.then J' Q) l w:=
 fun a ha=>ab3 (h a ha) fun e a w hq=>by cases e<;>first|exact h2 _ _ hq|exact hq
theorem k_{J:Act→World→Prop}{a:Act}{w:World}(h:J a w):Exit.then J Q .normal a w:=h
theorem EP.sub{g:G}{b p:Nat}{ys:List Value}(h:EP g b p ys)(i:Nat){v:Value}(hv:ys[i]? =some v):EP g b (p+i*1) [v]:=by
 refine⟨h.1,fun j y hy=>?_⟩;cases j with
 |zero=>
  simp only[abF,aau]at hy;subst hy;rw[aaW,abj];exact h.2 i v hv
 |succ j=>simp at hy
def Tl{α:Type}[El α](g0:G)(L:Value→List Value→List dc)(n:Nat)(xs:List α):Fact:=
 ⟨fun v g=> ∃a c cells,v= .slice a n c∧St g0 g (L v cells)∧cR g cells xs,fun _ _ _ hf ⟨a,c,cells,e,h1,h2⟩=>⟨a,c,cells,e,h1.call hf,h2.mono hf.le⟩⟩
theorem cT{w:World}{t:Nat}{u:Value}(v:Value)(hl:lk l t=some u)(e:u=v)(h:WL F P N ds ops Q os (rep t v l) w):WL F P N ds ops Q os l w:=
 fun a ha=>h a (ha.rep hl e)
variable {g0 g':G} {L:List dc}
theorem DW{c1 c2 us:List Value}{off:Nat}(h:off+us.length≤c1.length):nY (c1++c2) off us=nY c1 off us++c2:=by unfold nY;rw[acY (by omega),adh (by omega)];simp
theorem Bh{c1 c2 us:List Value}{off:Nat}:nY (c1++c2) (c1.length+off) us=c1++nY c2 off us:=by
 unfold nY;rw[List.take_append,aaD (by omega),abO,List.drop_append,abr (by omega),aa1,
  show c1.length+off+us.length-c1.length=off+us.length from by omega]
 simp
theorem cR.uB{α:Type}[El α]{us:List Value}{off:Nat}{x':α}(Tm:off+us.length≤El.k α): ∀{xs:List α} {cells:List Value},cR g cells xs→ ∀(i:Nat) (x:α),xs[i]? =some x→(∀ys,El.rc g ys x→El.rc g (nY ys off us) x')→
  cR g (nY cells (i*El.k α+off) us) (xs.set i x')
 |[],_,_,i,x,hi,_=>by simp at hi
 |y::xs,_,⟨c1,c2,e,h1,h2⟩,0,x,hi,hf=>by simp only[abF,aau]at hi;subst hi;subst e;rw[abP,abo,DW (by rw[El.len h1];exact Tm)];exact⟨_,c2,rfl,hf c1 h1,h2⟩
 |y::xs,_,⟨c1,c2,e,h1,h2⟩,i+1,x,hi,hf=>by subst e;have:=cR.uB Tm h2 i x (by simpa using hi) hf;rw[show(i+1)*El.k α+off=c1.length+(i*El.k α+off)from by rw[El.len h1,abh];omega,Bh];exact⟨c1,_,rfl,h1,this⟩
theorem DX{α:Type}[El α](R:G→G→Value→Prop)(R':G→G→Value→Prop){f:FuncId}(hc:cS P f)(hF: ∀f,F.fn f)(y_:F.depth=none){x:Operand}{args:Array Operand}{ts:Array TypeId}{first captured:Array Value}{vs aa:List Value}
  (ho:o.op= .call {callee:=.value x,args,argTypes:=ts}) (hx:ev l x=some (.func (.func f) first captured)) (ha:xv l args.toList=some vs) (has:first.toList++vs++captured.toList=aa)
  (hs:St g0 g L) (i:Nat) {e:TypeId} {v:Value} {n:Nat} {cells:List Value} {xs:List α} (hi:L[i]? =some (.row e (El.k α) v n cells)) (hr:cR g cells xs)
  (h: ∀gf,g.le gf→gf.w=g.w→Rs gf v xs→CallsIn F 0 P f aa.toArray gf.w (ug gf (R gf)))
  (hR: ∀gf g2 g3 v,gf.w=g.w→bW gf g2→g3.w=g2.w→bW g g3→(∀b,g3.im b→g2.im b)→R gf g2 v→R' g g3 v)
  (k: ∀g' v,bW g g'→R' g g' v→K v g'.w):cQ F P N ds o l g.w Q K:=by
 have eF:=hs.own i _ hi;have aV: ∀b,uj v=some b→b<g.w.heap.size:=fun b hb=>(eF.1.lt b hb).2;have uh:Rs (g.fz (uj v) aV) v xs:=eF.1.rs hr (G.uC g _ _) fun b hb=>⟨.inr hb,rfl⟩
 refine qT hc hF y_ ho hx ha has<|ab0 (h (g.fz (uj v) aV) (G.uC g _ aV) rfl uh) ?_;rintro _ _ ⟨g2,u,rfl,hf,rfl,hru⟩;refine⟨u,rfl,?_⟩
 have fT:bW g (⟨g2.w,fun b=>g2.im b∧uj v≠some b,fun b h=>g2.lt b h.1⟩:G):=⟨hf.below,fun b hb=>by
  have h1:=hf.im b hb;constructor
  ·intro h;rcases h1.1 h.1 with h'|h'
   ·exact h'
   exact absurd h' h.2
  intro h;exact⟨h1.2 (.inl h),fun h'=>eF.2 b h' h⟩⟩
 exact k ⟨g2.w,fun b=>g2.im b∧uj v≠some b,fun b h=>g2.lt b h.1⟩ u fT (hR (g.fz (uj v) aV) g2 _ u rfl hf rfl fT (fun b h=>h.1) hru)
open Go.ChangeShapes Go.WideShapes Go.Deep
def vV(W:World):G:=⟨W,fun b=>b<W.heap.size,fun _ h=>h⟩
def DQ(P:Program)(t:TypeId){α:Type}[El α](good:α→Prop):Prop:=
 ∀(H:Type) (enc:TypeId×Value→H) (W:World) (fuel:Nat) (cs:List Value) (x:DataW H×List MemPlace),DataW.trod enc P W 0 (fun _=>true) true fuel t cs=some x→ ∃y:α,El.rc (vV W) cs y∧good y
theorem vW{W:World}{a:Addr}{v:Value}(h:W.cell? a=some v):a.spot=none∧a.block<W.heap.size:=by
 unfold World.cell? at h;split at h
 ·rename_i c t f hh;split at h
  ·cases h
  rename_i hs;refine⟨by simpa using hs,(ab6.1 hh).1⟩
 cases h
theorem FV{α:Type}[El α]{good:α→Prop}(W:World)(a:Addr)(k n:Nat)(hk:k=El.k α)(h: ∀i,i<n→ ∃cs',cs'.length=k∧(∀j,j<k→W.cell? ((a.add (i*k)).add j)=cs'[j]?)∧ ∃y:α,El.rc (vV W) cs' y∧good y):
  ∃(cells:List Value) (xs:List α),xs.length=n∧cR (vV W) cells xs∧(∀y∈xs,good y)∧ ∀(j:Nat) y,cells[j]? =some y→W.cell? (a.add j)=some y:=by
 induction n with
 |zero=>exact⟨[],[],rfl,rfl,by simp,by simp⟩
 |succ n ih=>
  obtain⟨cells,xs,h1,h2,h3,h4⟩:=ih fun i hi=>h i (by omega);obtain⟨cs',hl,hc,y,hy,hg⟩:=h n (by omega);have je:cells.length=n*k:=by rw[h2.len,h1,hk]
  refine⟨cells++cs',xs++[y],by simp[h1],cR.app (ys:=[y]) (show cR _ cs' [y]from⟨cs',[],by rw[aaI],hy,rfl⟩) h2,?_,fun j u hu=>?_⟩
  ·intro z hz;rcases aaJ.1 hz with h|h
   ·exact h3 z h
   rw[aaL]at h;exact h▸hg
  by_cases hj:j<cells.length
  ·rw[abV hj]at hu;exact h4 j u hu
  rw[aby (by omega)]at hu;have aV:=(aaN.1 hu).1;have:=hc (j-cells.length) (by omega);rw[hu]at this;rw[←this,add_add,je];congr 2;omega
theorem uR{α:Type}[El α]{good:α→Prop}{t e:TypeId}(ht:P.underlying t=some (.slice e))(hk:P.cellsOf e=El.k α)(he:DQ P e good)
  {H:Type} {enc:TypeId×Value→H} {W:World} {fuel:Nat} {v:Value} {x:DataW H×List MemPlace} (h:DataW.trod enc P W 0 (fun _=>true) true fuel t [v]=some x):
  ∃xs:List α,Rs (vV W) v xs∧ ∀y∈xs,good y:=by
 rcases open_slice ht h with⟨h0,_⟩|⟨a,len,cap,m,n,D,Pl,oR,_,hl,hm,hmm,_,hi⟩
 ·obtain rfl:=(abY h0).1;exact⟨[],Rs.nil _,by simp⟩
 obtain rfl:=(abY oR).1;simp only[if_true]at hmm;have WH:=FV (good:=good) W a (P.cellsOf e) len hk fun i hil=>by obtain⟨cs',hc,ht'⟩:=hi i (by omega);obtain⟨_,h1,h2⟩:=World.cells?_some hc;obtain⟨y,hy,hg⟩:=he H enc W _ cs' _ ht';exact⟨cs',h1,h2,y,hy,hg⟩
 obtain⟨cells,xs,h1,h2,h3,h4⟩:=WH;refine⟨xs,⟨some a,len,cap,rfl,h1.symm,⟨hl,hm⟩,?_⟩,h3⟩;by_cases h0:len=0
 ·exact .inl h0
 right;have nv:=El.pos (α:=α);have je:cells.length=len*El.k α:=by rw[h2.len,h1]
 have aV:0<cells.length:=by rw[je];exact Nat.mul_pos (by omega) nv
 have pg:=h4 0 cells[0] (aas aV);have ha0:a.add 0=a:=by simp[Addr.add]
 rw[ha0]at pg;obtain⟨hs,hb⟩:=vW pg;obtain⟨b,o,s⟩:=a;simp only at hs;subst hs;refine⟨b,o,cells,rfl,hb,h2,fun j y hy=>?_⟩;have:=h4 j y hy;rwa [abM]at this
theorem wf_i64{n:Int}(h:(Lit.int .i64 n).wf=true): -9223372036854775808≤n∧n≤9223372036854775807:=by simp only[Lit.wf,aaA,decide_eq_true_eq]at h;exact h
theorem Il{t:TypeId}(ht:P.underlying t=some (.int .i64)):DQ P t (α:=Int) fun n=> -9223372036854775808≤n∧n≤9223372036854775807:=by intro H enc W fuel cs x h;obtain⟨n,rfl,_,hw⟩:=ac7 ht h;exact⟨n,rfl,wf_i64 hw⟩
theorem y8{t e:TypeId}{n:Nat}(ht:P.underlying t=some (.array n e))(he:P.underlying e=some (.int .i64))(hc:P.cellsOf e=1)(hct:P.cellsOf t=n)
  {H:Type} {enc:TypeId×Value→H} {W:World} {fuel:Nat} {cs:List Value} {x:DataW H×List MemPlace} (h:DataW.trod enc P W 0 (fun _=>true) true fuel t cs=some x):
  cs.length=n∧ ∀i,i<n→ ∃m,cs[i]? =some (vI m)∧ -9223372036854775808≤m∧m≤9223372036854775807:=by
 obtain⟨xs,m,_,_,hl,nL,hi⟩:=DataW.trod_array ht h;rw[hct]at hl;refine⟨hl,fun i ES=>?_⟩;have h1:=hi i ES;rw[hc,aaW,aas (by omega)]at h1;obtain⟨k,hk,_,hw⟩:=ac7 he h1;refine⟨k,?_,wf_i64 hw⟩;have h2:((cs.drop i).take 1)[0]? =some (vI k):=by rw[hk];rfl
 rw[abt (by omega),abB]at h2;simpa using h2
variable {H:Type} {enc:TypeId×Value→H}
theorem sX(hl:laidOutB P=true){W W':World}(hb:Below W.heap.size W W'){sp:Nat→Bool}: ∀{ts:List TypeId} {vs:List Value} {ds:List (DataW H)} {ps:List MemPlace},
  (ts.all fun t=>P.readableRec t&&decide (t<P.types.size))=true→DataW.TrodAll enc P W 0 (fun _=>true) true ts vs ds ps→(∀p∈ps,p.block<W.heap.size)→(∀p∈ps,sp p.block=true)→DataW.TrodAll enc P W' 0 sp true ts vs ds ps
 |[],vs,ds,ps,_,h,_,_=>by obtain⟨rfl,rfl,rfl⟩:=trodAll_nil h;exact trodAll_mk0
 |t::ts,[],_,_,_,h,_,_=>by cases h
 |t::ts,v::vs,[],_,_,h,_,_=>by cases h
 |t::ts,v::vs,d::ds,ps,hr,h,aV,th=>by
  obtain⟨p,q,h1,h2,rfl⟩:=h;simp only[ab_,aaA,decide_eq_true_eq]at hr;exact⟨p,q,WideElems.Trod_stays hl hr.1.1 hr.1.2 h1 (fun x hx=>hb.same (aV x (by simp[hx]))) (fun x hx=>th x (by simp[hx])),
   sX hl hb (by simpa using hr.2) h2 (fun x hx=>aV x (by simp[hx])) (fun x hx=>th x (by simp[hx])),rfl⟩
theorem K9{f:Func}{s:ChangeSpec}{W W':World}{args:Array Value}{ds:List (DataW H)}{before:List MemPlace}{tb:TypeId}(hl:laidOutB P=true)
  (hr:(f.params.toList.all fun t=>P.readableRec t&&decide (t<P.types.size))=true) (hv:s.vars=[]) (hs:s.fn H ds={results:=[.lit (.bool true)],args:=ds}) (Wx:f.resultTypes=#[tb]) (dS:P.underlying tb=some .bool)
  (hW:DataW.Whole enc P f.params.toList s.vars false W args.toList ds [] before) (hb:Below W.heap.size W W'):s.post enc P f false true false false W args (.bool true) W':=by
 have aV: ∀p∈before,p.block<W.heap.size:=fun p hp=>hW.lt p hp;have hWc:=hW;obtain⟨p,q,hA,hV,rfl,hz,hn⟩:=hW;rw[hv]at hV;obtain⟨_,rfl⟩:=trodVars_none hV;rw[aaI]at*;have uX: ∀sp:Nat→Bool,(∀x∈p,sp x.block=true)→DataW.TrodAll enc P W' 0 sp true f.params.toList args.toList ds p:=fun sp th=>sX hl hb hr hA aV th;have Lh: ∀(b:Nat) (sp:Nat→Bool) (hd:Bool),DataW.TrodAll enc P W' b sp hd f.resultTypes.toList ((Value.bool true).resultList f.resultTypes.size) [.lit (.bool true)] []:=fun b sp hd=>by rw[Wx];exact trodAll_mk1 (shut_bool dS true)
 have H7:s.fn H (ds++[])={results:=[.lit (.bool true)],args:=ds}:=by rw[aaI];exact hs
 have Tn: ∀sp:Nat→Bool,DataW.TrodVars enc P W' sp s.vars (s.fn H (ds++[])).vars []:=fun sp=>by rw[hv,H7];rfl
 have hold: ∀x∈p,(fun b=>decide (b<W.heap.size)) x.block=true:=fun x hx=>by simpa using aV x hx
 exact⟨ds,[],p,[],p,[],hWc,by rw[H7];exact Lh _ _ _,by rw[H7];exact uX _ hold,Tn _,World.keptBut_mono (fun x hx=>⟨hx,.inr (by simpa using hx)⟩) (hb.frame (· ∈p)),fun h=>(by cases h)⟩
theorem ky{tb:Tb}(dS:tb.ok P){t n e:Nat}{ti ei:TI}{parts:Array (Nat×Operand)}{vs:List (Nat×Value)}{cells:List Value}(ho:o.op= .build t parts)
  (hp:xv l (parts.toList.map (·.2))=some (vs.map (·.2))) (z':parts.toList.map (·.1)=vs.map (·.1)) (hi:tl tb t=some ti) (hd:ti.desc= .arr n e) (hj:tl tb e=some ei)
  (qK:Instr.fill (fun i=>some (i*ei.size,ei.size)) ti.zero.cells vs=some cells.toArray) (k:K (.agg cells.toArray) w):cQ F P N ds o l w Q K:=by
 obtain⟨⟨dd,hu,he⟩,inf,e1,e2,e3,e4⟩:=dS.at hi;rw[hd]at he;obtain rfl:=KD.FD he;obtain⟨_,WJ,f1,f2,_⟩:=dS.at hj;refine bC (fun c=>⟨by rw[ho];simp,by rw[ho];simp⟩) (fun a ha=>?_) k;have Ir:List.map (fun x:Nat×Operand=>(x.fst,a.eval x.snd)) parts.toList=vs:=by
  have h2:=j9 ha hp;rw[abw]at h2;have h3:parts.toList.map (fun p=>(p.1,a.eval p.2))=(parts.toList.map (·.1)).zip (parts.toList.map (fun p=>a.eval p.2)):=by rw[acg]
  have h4:vs=(vs.map (·.1)).zip (vs.map (·.2)):=by rw[acg];simp
  rw[h4,←z',←h2];exact h3
 have hz:(zeroValue t).run P w= .ok ti.zero w:=by simp[zeroValue,typeInfo,e1,e4]
 simp only[execOp,ho,Instr.build,aaE,hz,aaH,run_underlying hu,sizeOf,typeInfo,run_program,f1,aa5,f2,ac8,Ir,qK]
variable {R:Ending→World→Prop}
theorem rY{f:FuncId}(hc:cS P f)(hF: ∀f,F.fn f)(y_:F.depth=none){x:Operand}{args:Array Operand}{ts:Array TypeId}{first captured:Array Value}{vs aa:List Value}
  (ho:o.op= .call {callee:=.value x,args,argTypes:=ts}) (hx:ev l x=some (.func (.func f) first captured)) (ha:xv l args.toList=some vs) (has:first.toList++vs++captured.toList=aa)
  (h:CallsIn F 0 P f aa.toArray w fun e w'=>(∃v,e= .returned v∧K v w')∨ ∃ch,e= .panicked ch∧ ∀a,Fr N ds l a→Q (.panic ch) a w'):cQ F P N ds o l w Q K:=by
 intro a Jd;have WK:first++vs.toArray++captured=aa.toArray:=by rw[←has];apply abJ;simp
 rw[←WK]at h;unfold Oper.wpIn;refine⟨fun f _=>hF f,?_⟩;have uX:args.map a.eval=vs.toArray:=by apply abJ;simpa using j9 Jd ha
 rw[abR _ _ _ (fun c e=>by rw[ho]at e;cases e)];have lz:(execOp a.eval o).run P w= .ok (.enter f (first++vs.toArray++captured)) w:=by simp only[execOp,ho,aaE,resolve,Jd.ev hx,Deferred.ofValue,aa5,aaH,invoke,uX];exact jA hc _
 rw[lz];refine⟨fun h=>(by rw[y_]at h;cases h),?_⟩;refine ab0 h fun e w' he=>?_;rcases he with⟨v,he,hk⟩|⟨ch,he,hq⟩
 ·subst he;exact⟨v,rfl,hk⟩
 subst he;exact hq a Jd
def df(g:G)(R:G→Value→Prop):Ending→World→Prop:=fun e w'=> ∃g' v,g'.w=w'∧e= .returned v∧g.le g'∧R g' v
def gj(g:G)(ch:List PanicEntry)(R:G→Prop):Ending→World→Prop:=fun e w'=> ∃g',g'.w=w'∧e= .panicked ch∧g.le g'∧R g'
theorem lu{R:G→Value→Prop}{f:FuncId}(hc:cS P f)(hF: ∀f,F.fn f)(y_:F.depth=none){x:Operand}{args:Array Operand}{ts:Array TypeId}{first captured:Array Value}{vs aa:List Value}
  (ho:o.op= .call {callee:=.value x,args,argTypes:=ts}) (hx:ev l x=some (.func (.func f) first captured)) (ha:xv l args.toList=some vs) (has:first.toList++vs++captured.toList=aa)
  (h:CallsIn F 0 P f aa.toArray g.w (df g R)) (k: ∀g' v,g.le g'→R g' v→K v g'.w):cQ F P N ds o l g.w Q K:=
 qT hc hF y_ ho hx ha has (ab0 h fun _ _ ⟨g',v,hw,he,hf,hr⟩=>⟨v,he,hw▸k g' v hf hr⟩)
theorem Is{x:Operand}{t:TypeId}{v:Value}(ho:o.op= .panic x)(hx:ev l x=some (.iface t v))(k: ∀a,Fr N ds l a→Q (.panic [{v:=.iface t v,recovered:=false}]) a w):cQ F P N ds o l w Q K:=by
 intro a ha;unfold Oper.wpIn;refine⟨fun f hf=>?_,?_⟩
 ·unfold Oper.about at hf;simp only[ho]at hf;cases hf
 rw[abR _ _ _ (fun c e=>by rw[ho]at e;cases e)];have:(execOp a.eval o).run P w= .halt (.panic (.iface t v)) w:=by simp only[execOp,ho,ha.ev hx,aaE,run_panic_iface];rfl
 rw[this];exact k a ha
class iH(Q:Exit→Act→World→Prop)(Q':outParam (Exit→Act→World→Prop)):Prop where
  p: ∀ch a w,Q' (.panic ch) a w→Q (.panic ch) a w
instance:iH Q Q:=⟨fun _ _ _ h=>h⟩
instance{Q':Exit→Act→World→Prop}{J:Act→World→Prop}[C:iH Q Q']:iH (Exit.then J Q) Q':=⟨C.p⟩
instance{Q':Exit→Act→World→Prop}{id:Nat}[C:iH Q Q']:iH (Exit.inBlock id Q) Q':=⟨C.p⟩
instance{Q':Exit→Act→World→Prop}[C:iH Q Q']:iH (Exit.noGoto Q) Q':=⟨C.p⟩
theorem iG{Q':Exit→Act→World→Prop}[C:iH Q Q']{ch:List PanicEntry}(h: ∀a,Fr N ds l a→Q' (.panic ch) a w): ∀a,Fr N ds l a→Q (.panic ch) a w:=fun a ha=>C.p ch a w (h a ha)
theorem dO{fn:Func}{ch:List PanicEntry}(hR:R (.panicked ch) w)(a:Act)(ha:Fr N [] l a):bodyPost P fn R (.panic ch) a w:=⟨ha.defers,hR⟩
theorem df.intro{R:G→Value→Prop}{g':G}{v:Value}(hle:g.le g')(h:R g' v):df g R (.returned v) g'.w:=⟨g',v,rfl,rfl,hle,h⟩
theorem gj.intro{R:G→Prop}{ch:List PanicEntry}{g':G}(hle:g.le g')(h:R g'):gj g ch R (.panicked ch) g'.w:=⟨g',rfl,rfl,hle,h⟩
theorem St.front(hs:St g0 g L){i:Nat}{e:dc}(hi:L[i]? =some e):St g0 g (e::L.eraseIdx i):=by
 have aV:=(aaN.1 hi).1;have idx: ∀(j:Nat) x,(e::L.eraseIdx i)[j]? =some x→ ∃j',L[j']? =some x∧j'=(if j=0 then i else if j-1<i then j-1 else j):=by
  intro j x hj;cases j with
  |zero=>simp only[abF,aau]at hj;subst hj;exact⟨i,hi,by simp⟩
  |succ j=>
   rw[ab2,acG]at hj;split at hj
   ·rename_i h;exact⟨j,hj,by simp[h]⟩
   rename_i h;exact⟨j+1,hj,by simp[h]⟩
 refine⟨hs.below,hs.im,fun j x hj=>?_,fun j k x y ER hj hk b Be xS=>?_⟩
 ·obtain⟨j',Cb,_⟩:=idx j x hj;exact hs.own j' x Cb
 obtain⟨j',Cb,e1⟩:=idx j x hj;obtain⟨k',MD,e2⟩:=idx k y hk;refine hs.sep j' k' x y ?_ Cb MD b Be xS;rw[e1,e2]
 repeat' split
 all_goals omega
def aP(k:IntKind)(a b:Int):Int:=k.wrap (BitVec.ofInt k.bits a&&&BitVec.ofInt k.bits b).toNat
def bG(k:IntKind)(a b:Int):Int:=k.wrap (BitVec.ofInt k.bits a|||BitVec.ofInt k.bits b).toNat
def aR(k:IntKind)(a b:Int):Int:=k.wrap (BitVec.ofInt k.bits a^^^BitVec.ofInt k.bits b).toNat
def aQ(k:IntKind)(a b:Int):Int:=k.wrap (BitVec.ofInt k.bits a&&& ~~~BitVec.ofInt k.bits b).toNat
def aS(k:IntKind)(n:Int):Int:=aR k (if k.signed then -1 else k.max) n
def cK(k:IntKind)(a:Int)(n:Nat):Int:=k.wrap (a*2^min n k.bits)
def ct(k:IntKind)(a:Int)(n:Nat):Int:=a.fdiv (2^min n k.bits)
def N7(op:BinOp)(x y:Value):Option Value:=
 match x,y with
 | .int k a,.int k' b=>
  if k=k' then
   match op with
   | .and=>some (.int k (aP k a b))
   | .or=>some (.int k (bG k a b))
   | .xor=>some (.int k (aR k a b))
   | .andNot=>some (.int k (aQ k a b))
   |_=>none
  else none
 |_,_=>none
def Cs(op:BinOp)(x y:Value):Option Value:=
 match x,y with
 | .int k a,.int _ (.ofNat n)=>
  match op with
  | .shl=>some (.int k (cK k a n))
  | .shr=>some (.int k (ct k a n))
  |_=>none
 |_,_=>none
def Pg(d:KD)(x:Value):Option Value:=
 match d,x with
 | .int k,.int _ n=>some (.int k (k.wrap n))
 |_,_=>none
def QO(tb:Tb)(l:Env):Op→Option Value
 | .binOp op _ x y _=>
  match op with
  | .shl| .shr=>
   match ev l x,ev l y with
   |some a,some b=>Cs op a b
   |_,_=>none
  |_=>
   match ev l x,ev l y with
   |some a,some b=>N7 op a b
   |_,_=>none
 | .unOp .xor _ x=>
  match ev l x with
  |some (.int k n)=>some (.int k (aS k n))
  |_=>none
 | .convert s d x=>
  match tl tb s,tl tb d,ev l x with
  |some _,some i,some v=>Pg i.desc v
  |_,_,_=>none
 |_=>none
theorem KD.of_int{d:TypeDesc}{k:IntKind}(h:KD.of d= .int k):d= .int k:=by cases d<;>simp only[KD.of,reduceCtorEq,KD.int.injEq]at h;rw[h]
theorem Li{op:BinOp}{t:TypeId}{x y v:Value}(xo yo:Operand)(h:N7 op x y=some v):(do eqGuard op t xo yo x y;binOp op t x y:Sem Value).run P w= .ok v w:=by
 unfold N7 at h;split at h
 ·rename_i k a k' b;split at h
  ·rename_i hk;subst hk;have hb:(binOp op t (.int k a) (.int k b)).run P w= .ok v w:=by split at h<;>simp only[aau,reduceCtorEq]at h<;>subst h<;>simp[binOp,Op.intBits,aP,bG,aR,aQ]
   simp only[aaE,iP,aaH];exact hb
  cases h
 cases h
theorem FW{op:BinOp}{t:TypeId}{x y v:Value}(xo yo:Operand)(h:Cs op x y=some v):(do eqGuard op t xo yo x y;binOp op t x y:Sem Value).run P w= .ok v w:=by
 unfold Cs at h;split at h
 ·rename_i k a k' n;have hn: ¬((Int.ofNat n)<0):=by have:(Int.ofNat n)=(n:Int):=rfl;omega
  have hb:(binOp op t (.int k a) (.int k' (.ofNat n))).run P w= .ok v w:=by split at h<;>simp only[aau,reduceCtorEq]at h<;>subst h<;>unfold binOp<;>simp only<;>unfold Op.shift<;>rw[if_neg hn]<;>rfl
  simp only[aaE,iP,aaH];exact hb
 cases h
theorem Bi(tb:Tb)(dS:tb.ok P){v:Value}{K:Value→World→Prop}(h:QO tb l o.op=some v)(k:K v w):cQ F P N ds o l w Q K:=by
 obtain⟨dst,op,type,pos,after,guard⟩:=o;simp only at h;unfold QO at h;split at h
 ·rename_i op t x y ty;have bits: ∀{a b:Value},ev l x=some a→ev l y=some b→N7 op a b=some v→cQ F P N ds ⟨dst,.binOp op t x y ty,type,pos,after,guard⟩ l w Q K:=fun hx hy h=>by
   refine bC (by simp) (fun a ha=>?_) k;have:=Li (P:=P) (w:=w) (t:=t) x y h;simp only[aaE]at this;simp only[execOp,ha.ev hx,ha.ev hy,aaE];generalize Sem.run P (eqGuard op t x y _ _) w=r at*;cases r with
   |ok u w1=>
    simp only[aaH]at this⊢;rw[this];rfl
   |halt u w1=>cases this
  have shift: ∀{a b:Value},ev l x=some a→ev l y=some b→Cs op a b=some v→cQ F P N ds ⟨dst,.binOp op t x y ty,type,pos,after,guard⟩ l w Q K:=fun hx hy h=>by
   refine bC (by simp) (fun a ha=>?_) k;have:=FW (P:=P) (w:=w) (t:=t) x y h;simp only[aaE]at this;simp only[execOp,ha.ev hx,ha.ev hy,aaE];generalize Sem.run P (eqGuard op t x y _ _) w=r at*;cases r with
   |ok u w1=>
    simp only[aaH]at this⊢;rw[this];rfl
   |halt u w1=>cases this
  split at h<;>
   (split at h
    ·rename_i hx hy
     first|exact shift hx hy h|exact bits hx hy h
    cases h)
 ·rename_i t x;split at h
  ·rename_i k' n hx;simp only[aau]at h;subst h;refine bC (by simp) (fun a ha=>?_) k;simp[execOp,ha.ev hx,Op.unary,Op.intBits,aS,aR]
  cases h
 ·rename_i s d x;split at h
  ·rename_i i1 i2 v' h1 h2 hx;unfold Pg at h;split at h
   ·rename_i kk k' n hd;simp only[aau]at h;subst h;obtain⟨⟨d1,GD,_⟩,_⟩:=dS.at h1;obtain⟨⟨d2,MM,YW⟩,_⟩:=dS.at h2;rw[hd]at YW;obtain rfl:=KD.of_int YW;refine bC (by simp) (fun a ha=>?_) k;simp[execOp,ha.ev hx,convert,run_underlying GD,run_underlying MM,Conv.intToInt]
   cases h
  cases h
 cases h
def bs(l:List UInt8):ByteArray:=⟨l.toArray⟩
def fq(l:List UInt8):List Value:=l.map fun b=> .int .u8 (b.toNat:Int)
theorem bX(l:List UInt8):(bs l).size=l.length:=by simp[bs,ByteArray.size]
theorem Pd(s:ByteArray):s=bs s.data.toList:=by simp[bs]
theorem It(x y:List UInt8):bs x++bs y=bs (x++y):=by apply ByteArray.ext;simp[bs]
theorem FX(x:List UInt8)(a b:Nat):(bs x).extract a b=bs ((x.take b).drop a):=by apply ByteArray.ext;simp only[bs,ByteArray.data_extract,List.extract_toArray,List.extract_eq_take_drop];rw[acH]
theorem QP{x y:List UInt8}(h:bs x=bs y):x=y:=by have:=congrArg ByteArray.data h;simpa [bs]using this
theorem cH(x:List UInt8):(bs x).toList=x:=ByteArray.toList_mk x
instance:El UInt8 where
 k:=1
 pos:=by omega
 rc _ cs n:=cs=[.int .u8 (n.toNat:Int)]
 len h:=by rw[h];rfl
 mono _ h:=h
 one h:=by rw[h];simp[Value.oneCell']
theorem cR.bytes(g:G): ∀l:List UInt8,cR g (fq l) l
 |[]=>rfl
 |b::r=>⟨[.int .u8 (b.toNat:Int)],fq r,rfl,rfl,cR.bytes g r⟩
theorem cR.vZ{g:G}: ∀{l:List UInt8} {cs:List Value},cR g cs l→cs=fq l
 |[],_,h=>h
 |b::r,_,⟨c1,c2,e,h1,h2⟩=>by rw[e,show c1=[.int .u8 (b.toNat:Int)]from h1,cR.vZ h2];rfl
structure xU where
 s:List UInt8
instance:El xU where
 k:=1
 pos:=by omega
 rc _ cs n:=cs=[.string (bs n.s)]
 len h:=by rw[h];rfl
 mono _ h:=h
 one h:=by rw[h];simp[Value.oneCell']
theorem fH{tb:Tb}(dS:tb.ok P){t:Nat}{ti:TI}{x ix:Operand}{s:List UInt8}{k:IntKind}{n:Int}(ho:o.op= .index t x ix)(hx:ev l x=some (.string (bs s)))(Lj:ev l ix=some (.int k n))
  (hi:tl tb t=some ti) (hd:ti.desc= .string) (h0:0≤n) (aV:n.toNat<s.length) (kk:K (.int .u8 (s[n.toNat].toNat:Int)) w):cQ F P N ds o l w Q K:=by
 obtain⟨⟨dd,hu,he⟩,_⟩:=dS.at hi;rw[hd]at he;obtain rfl:=KD.of_string he;refine bC (fun c=>⟨by rw[ho];simp,by rw[ho];simp⟩) (fun a ha=>?_) kk;have hg:(bs s)[n.toNat]? =some s[n.toNat]:=by
  have h1:n.toNat<(bs s).size:=by rw[bX];exact aV
  rw[getElem?_pos (bs s) n.toNat h1];rfl
 simp[execOp,ho,ha.ev hx,ha.ev Lj,Instr.index,asIntOf,run_underlying hu,h0,hg]
theorem cL{t t':TypeId}{x y:Operand}{p q:List UInt8}(ho:o.op= .binOp .add t x y t')(hx:ev l x=some (.string (bs p)))(hy:ev l y=some (.string (bs q)))(hl:p.length+q.length≤9223372036854775807)(kk:K (.string (bs (p++q))) w):cQ F P N ds o l w Q K:=by
 refine bC (fun c=>⟨by rw[ho];simp,by rw[ho];simp⟩) (fun a ha=>?_) kk;have h: ¬(((bs p).size+(bs q).size:Nat):Int)>IntKind.i64.max:=by
  rw[bX,bX];have:IntKind.i64.max=9223372036854775807:=by decide
  omega
 have h': ¬(IntKind.i64.max<((bs p).size:Int)+((bs q).size:Int)):=by
  have e:(((bs p).size+(bs q).size:Nat):Int)=((bs p).size:Int)+((bs q).size:Int):=by omega
  rw[←e];exact h
 have h3:((bs p).size:Int)+((bs q).size:Int)≤9223372036854775807:=by rw[bX,bX];omega
 simp[execOp,ho,ha.ev hx,ha.ev hy,kC,binOp,Op.stringOp,h3,It]
theorem Ct{t t':TypeId}{x y:Operand}{neg:Bool}{p q:List UInt8}(ho:o.op= .binOp (if neg then .neq else .eql) t x y t')(hx:ev l x=some (.string (bs p)))(hy:ev l y=some (.string (bs q)))(kk:K (.bool (neg !=(p==q))) w):cQ F P N ds o l w Q K:=by refine bC (fun c=>⟨by rw[ho];simp,by rw[ho];simp⟩) (fun a ha=>?_) kk;cases neg<;>simp[execOp,ho,ha.ev hx,ha.ev hy,kC,binOp,Op.stringOp,cH]
theorem oY{tb:Tb}(dS:tb.ok P){t:Nat}{ti:TI}{x:Operand}{lo hi':Option Operand}{s:List UInt8}{a b:Nat}(ho:o.op= .slice t x lo hi' none)(hi:tl tb t=some ti)(hd:ti.desc= .string)
  (hx:ev l x=some (.string (bs s))) (zY:(match lo with|some v=> ∃k,ev l v=some (.int k (a:Int))|none=>a=0)) (vk:(match hi' with|some v=> ∃k,ev l v=some (.int k (b:Int))|none=>b=s.length))
  (h1:a≤b) (h2:b≤s.length) (k:K (.string (bs ((s.take b).drop a))) w):cQ F P N ds o l w Q K:=by
 obtain⟨⟨dd,hu,he⟩,_⟩:=dS.at hi;rw[hd]at he;obtain rfl:=KD.of_string he;refine bC (fun c=>⟨by rw[ho];simp,by rw[ho];simp⟩) (fun ac ha=>?_) k;have hr: ∀(u v:Option Value),(match u with|some v=> ∃k,v= .int k (a:Int)|none=>a=0)→(match v with|some v=> ∃k,v= .int k (b:Int)|none=>b=s.length)→(Instr.sliceAt t (.string (bs s)) u v none).run P w= .ok (.string (bs ((s.take b).drop a))) w:=by
  intro u v zY vk;have e: ∀b,b≤s.length→(bs s).extract a b=bs ((s.take b).drop a):=fun b _=>FX s a b;cases u with
  |none=>
   have zY:a=0:=zY;subst zY;cases v with
   |none=>
    have vk:b=s.length:=vk;subst vk;simp[Instr.sliceAt,run_underlying hu,Instr.slice,Instr.sliceBounds]
   |some v=>
    obtain⟨k,rfl⟩:=vk;simp[Instr.sliceAt,run_underlying hu,Instr.slice,Instr.sliceBounds,Instr.sliceBound,asIntOf,bX,h2,e _ h2]
  |some u=>
   obtain⟨k',rfl⟩:=zY;cases v with
   |none=>
    have vk:b=s.length:=vk;subst vk;simp[Instr.sliceAt,run_underlying hu,Instr.slice,Instr.sliceBounds,Instr.sliceBound,asIntOf,bX,h1,e _ (aaz _)]
   |some v=>
    obtain⟨k,rfl⟩:=vk;simp[Instr.sliceAt,run_underlying hu,Instr.slice,Instr.sliceBounds,Instr.sliceBound,asIntOf,bX,h1,h2,e _ h2]
 have:=hr (lo.map ac.eval) (hi'.map ac.eval)
  (by cases lo with
   |none=>exact zY
   |some v=>obtain⟨k,hk⟩:=zY;exact⟨k,ha.ev hk⟩)
  (by cases hi' with
   |none=>exact vk
   |some v=>obtain⟨k,hk⟩:=vk;exact⟨k,ha.ev hk⟩)
 simp[execOp,ho,ha.ev hx,this]
theorem pI{tb:Tb}(dS:tb.ok P){s d e:Nat}{si di ei:TI}{x:Operand}{ad:Option Addr}{n c:Nat}{ns:List Int}(ho:o.op= .convert s d x)(hx:ev l x=some (.slice ad n c))
  (hi:tl tb s=some si) (hd:si.desc= .slice e) (hj:tl tb e=some ei) (he:ei.desc= .int .u8) (hk:tl tb d=some di) (hds:di.desc= .string)
  (iO:Src w ad n 1 (ns.map (Value.int .u8))) (kk:K (.string (bs (ns.map fun m=>UInt8.ofNat m.toNat))) w):cQ F P N ds o l w Q K:=by
 obtain⟨⟨d1,GD,h1⟩,_⟩:=dS.at hi;rw[hd]at h1;obtain rfl:=KD.of_slice h1;obtain⟨⟨d2,MM,h2⟩,_⟩:=dS.at hj;rw[he]at h2;obtain rfl:=KD.of_int h2;obtain⟨⟨d3,hu3,h3⟩,_⟩:=dS.at hk;rw[hds]at h3;obtain rfl:=KD.of_string h3;refine bC (fun c=>⟨by rw[ho];simp,by rw[ho];simp⟩) (fun a ha=>?_) kk;have To: ∀(l:List Int) (r:ByteArray),l.foldl (fun r m=>r.push (UInt8.ofNat m.toNat)) r=⟨r.data++(l.map fun m=>UInt8.ofNat m.toNat).toArray⟩:=by
  intro l
  induction l with
  |nil=>intro r;simp
  |cons m l ih=>intro r;rw[abT,ih];simp[ByteArray.push]
 have lz:(convert s d (.slice ad n c)).run P w= .ok (.string (bs (ns.map fun m=>UInt8.ofNat m.toNat))) w:=by
  rw[run_convert_bytes_string w s d e ad n c GD MM hu3];obtain⟨hl,hc⟩:=iO;rw[aaS,aaW]at hl;by_cases h0:n=0
  ·subst h0;obtain rfl:ns=[]:=aa' hl;cases ad with
   |none=>simp[Conv.bytesToString,bs];rfl
   |some a=>
    have:=run_bytesToString (P:=P) w a 0 c [] (by simp[loadCells,loadCellsFrom]);rw[this];simp[bs];rfl
  obtain⟨b,p,rfl,KQ⟩:=hc.resolve_left h0;have Lk:=run_loadCells_list (P:=P) w ⟨b,p,none⟩ (ns.map (Value.int .u8)) (fun j y hy=>by rw[abM];exact KQ j y hy);rw[aaS,hl]at Lk;rw[run_bytesToString w _ n c ns Lk,To];have:ByteArray.empty.data=#[]:=rfl;rw[this];simp[bs]
 simp[execOp,ho,ha.ev hx,lz]
structure G9(P:Program)(w:World)(v:Value)(us:List Value):Prop where
 len:(Builtin.lenOf v).run P w= .ok us.length w
 fst: ∀k,k≤us.length→(Builtin.firstCells 1 k v).run P w= .ok (us.take k).toArray w
 one: ∀u∈us,u.oneCell'=true
theorem G9.src{ad:Option Addr}{n c:Nat}{us:List Value}(h:Src w ad n 1 us)(h1: ∀u∈us,u.oneCell'=true):G9 P w (.slice ad n c) us:=by
 obtain⟨hl,h⟩:=h;rw[aaW]at hl;refine⟨by simp[Builtin.lenOf,hl],fun k hk=>?_,h1⟩;rcases h with h0|⟨b,p,rfl,hc⟩
 ·obtain rfl:us=[]:=aa' (by omega);obtain rfl:k=0:=by simpa using hk
  cases ad<;>simp[Builtin.firstCells,loadCells,loadCellsFrom]
 have:=run_firstCells_some (P:=P) w 1 k ⟨b,p,none⟩ n c (us.take k) (by rw[aat];omega) (fun j u hu=>by
  rw[abM];have hj:j<k:=by have:=(aaN.1 hu).1;rw[aat]at this;omega
  rw[abt hj]at hu;exact hc j u hu)
 exact this
theorem ug.below{R:G→Value→Prop}{v:Value}{w':World}(hb:Below g.w.heap.size g.w w')(hR: ∀g':G,g'.w=w'→bW g g'→R g' v):ug g R (.returned v) w':=by
 let g':G:=⟨w',g.im,fun b h=>abp (g.lt b h) hb.size⟩
 have hf:bW g g':=⟨hb,fun _ _=>aba⟩;exact⟨g',v,rfl,hf,rfl,hR g' rfl hf⟩
theorem nf{f:FuncId}{args:Array Value}{R:G→Value→Prop}{v:Value}(h:Calls P f args g.w fun e w'=>e= .returned v∧Below g.w.heap.size g.w w')(hR: ∀g':G,bW g g'→R g' v):CallsIn Wd 0 P f args g.w (ug g R):=by refine callsIn_wide.2<|h.mono ?_;rintro e w' ⟨rfl,hb⟩;exact ug.below hb fun g' _ hf=>hR g' hf
theorem Rs.part{α:Type}[El α]{b p n c:Nat}{xs:List α}(h:Rs g (.slice (some ⟨b,p,none⟩) n c) xs){a m c':Nat}(hm:0<m)(h1:a+m≤n)(h2:m≤c')(h3:c'≤maxLen):Rs g (.slice (some ⟨b,p+a*El.k α,none⟩) m c') ((xs.drop a).take m):=by
 obtain⟨ad,n',c'',e,rfl,qP,h⟩:=h;simp only[aaK]at e;obtain⟨rfl,rfl,rfl⟩:=e;rcases h with h|⟨b',p',cells,e,hb,hr,hc⟩
 ·omega
 simp only[aau,adi,and_true]at e;obtain⟨rfl,rfl⟩:=e;refine⟨_,m,c',rfl,by rw[aat,aaM];omega,⟨h2,h3⟩,.inr ⟨b,p+a*El.k α,(cells.drop (a*El.k α)).take (m*El.k α),rfl,hb,(hr.drop a).take m,fun j y hy=>?_⟩⟩;have aV:=(aaN.1 hy).1;rw[aat]at aV;rw[abt (by omega),abB]at hy;have:=hc _ _ hy;rw[abv];exact this
def Td{α:Type}(P:Program)(mJ:FuncId)(fO:Array Value)(iq:α→List Value)(xs:List α)(st:dc)(g:G):Prop:=
 ∀(g1:G),g.le g1→ ∀(yv:Value) (J Jx:List α→dc→G→Prop),
  (∀pre e g,J pre e g→ ∃(g0:G) (L:List dc) (i:Nat),St g0 g L∧L[i]? =some e∧ ∀e' g',St g0 g' (L.set i e')→g.le g'→J pre e' g')→
  (∀pre x rest e g2,xs=pre++x::rest→g1.le g2→J pre e g2→jX P yv (iq x) g2.w fun en w'=> ∃g3 b,g3.w=w'∧en= .returned (.bool b)∧g2.le g3∧(b=true→J (pre++[x]) e g3)∧(b=false→Jx (pre++[x]) e g3))→
  J [] st g1→CallsIn Wd 0 P mJ (yv::fO.toList).toArray g1.w fun en w'=> ∃g2 v,g2.w=w'∧en= .returned v∧g1.le g2∧((∃e,J xs e g2)∨ ∃pre e,pre<+:xs∧Jx pre e g2)
theorem La{α:Type}{mJ:FuncId}{fO:Array Value}{iq:α→List Value}{xs:List α}{f:Operand}{ps:Array Tmp}{assign body:Code}
  {st:dc} (hs:St g0 g (st::L)) (hf:ev l f=some (.func (.func mJ) #[] fO)) (qS:cS P mJ) (vJ:Td P mJ fO iq xs st g) (uf:(ps.toList.all fun t=>Nat.blt t N)=true) (Tp: ∀x,(iq x).length=ps.size)
  (I:List α→List dc→G→Prop) (Ix:Code→List α→List dc→G→Prop) (hI: ∀pre L g g',g.le g'→I pre L g→I pre L g') (E1: ∀c pre L g g',g.le g'→Ix c pre L g→Ix c pre L g')
  (h0:I [] L g) (la:α→Env)
  (uY: ∀x ro w,W {Wd with round:=some ro} P N [] assign (Exit.then (fun a w'=>w'=w∧Fr N [] (la x) a) (fun _ _ _=>False)) (qW ps.toList (iq x) l) w)
  (uZ: ∀lp D ro pre x rest e gr Lr,xs=pre++x::rest→g.le gr→St g0 gr (.obj lp (ro .busy):: .obj D g_::e::Lr)→I pre Lr gr→
   W {Wd with round:=some lp} P N [] body (FY (fun L' g'=> ∃Lr,L'=e::Lr∧I (pre++[x]) Lr g') (fun c L' g'=> ∃Lr,L'=e::Lr∧Ix c (pre++[x]) Lr g') g0 gr lp D ro) (la x) gr.w)
  (lL: ∀lp D o e Lr ge,g.le ge→St g0 ge (.obj lp o:: .obj D g_::e::Lr)→I xs Lr ge→ ∀a,Fr N (⟨.collected D,#[]⟩::ds) l a→Q .normal a ge.w)
  (D1: ∀c lp D o pre e Lr ge,pre<+:xs→g.le ge→St g0 ge (.obj lp o:: .obj D g_::e::Lr)→Ix c pre Lr ge→W Wd P N (⟨.collected D,#[]⟩::ds) c Q l ge.w):
  W Wd P N ds (.rangeFunc f ps assign body) Q l g.w:=by
 intro a ha;refine wpIn_rangeFunc fun fn _=>?_;let ro:LoopState→Obj:=fun st=>kR fn a.tmps ps assign body g.w.heap.size st none
 have pH:=hs.al g_;have dm:=pH.1.al (ro .ready);have dk:(g.al g_).w.heap.size=g.w.heap.size+1:=by simp[G.al]
 let g2:=(g.al g_).al (ro .ready)
 have tq:g.le g2:=pH.2.trans dm.2;refine⟨g.w.heap.size+1,[⟨.collected g.w.heap.size,#[]⟩],g2.w,⟨.fn (.func mJ) fO,#[.func (.yield (g.w.heap.size+1)) #[] #[]]⟩,g2.w,mJ,(.func (.yield (g.w.heap.size+1)) #[] #[]::fO.toList).toArray,g2.w,?_,?_,fun _ _=>trivial,?_,fun h=>(by cases h),?_⟩
 ·exact run_enterLoop_outer fn a.tmps ps assign body
 ·simp only[resolve,ha.ev hf,Deferred.ofValue];simp[Act.eval,g2]
 ·have e:#[Value.func (.yield (g.w.heap.size+1)) #[] #[]]++fO=(.func (.yield (g.w.heap.size+1)) #[] #[]::fO.toList).toArray:=by apply abJ;simp
  rw[←e];exact jA qS _
 --Ph zc uS,with Tq holds G_ Ph rounds
 have Cu:St g0 g2 (.obj (g.w.heap.size+1) (ro .ready):: .obj g.w.heap.size g_::st::L):=by have:=dm.1;rw[dk]at this;exact this
 refine ab0 (vJ g2 tq (.func (.yield (g.w.heap.size+1)) #[] #[])
  (fun pre e g'=>g.le g'∧ ∃Lr,St g0 g' (.obj (g.w.heap.size+1) (ro .ready):: .obj g.w.heap.size g_::e::Lr)∧I pre Lr g')
  (fun pre e g'=>g.le g'∧ ∃c Lr,St g0 g' (.obj (g.w.heap.size+1) (kR fn a.tmps ps assign body g.w.heap.size .done (some c)):: .obj g.w.heap.size g_::e::Lr)∧Ix c pre Lr g')
  (fun pre e ga ⟨h1,Lr,h2,h3⟩=>⟨g0,_,2,h2,rfl,fun e' gb dj gZ=>⟨h1.trans gZ,Lr,dj,hI _ _ _ _ gZ h3⟩⟩) ?_ ⟨tq,L,Cu,hI _ _ _ _ tq h0⟩) ?_
 ·--one round
  rintro pre x rest e0 gp lG Tr ⟨tL,Lr,dj,hi⟩;have pJ:gp.w.heap[g.w.heap.size+1]? =some (ro .ready):=(dj.own 0 _ rfl).2.1;refine⟨fn,_,assign,body,run_yield pJ (by simpa [kR]using Tp x),?_⟩;refine roundIn_of_wpIn trivial ?_;have zd:Fr N [] (qW ps.toList (iq x) l) {tmps:=(ps.zip (#[]++(iq x).toArray)).foldl (fun tmps (x:Nat×Value)=>tmps.setIfInBounds x.1 x.2) a.tmps,defers:=[]}:=by
   have h:=Cv (N:=N) ps.toList (iq x) l a.tmps uf ⟨rfl,ha.size,ha.get⟩;have e:(ps.zip (#[]++(iq x).toArray)).foldl (fun tmps (x:Nat×Value)=>tmps.setIfInBounds x.1 x.2) a.tmps=(ps.toList.zip (iq x)).foldl (fun tmps (x:Nat×Value)=>tmps.setIfInBounds x.1 x.2) a.tmps:=by rw[←adr];simp
   rw[e];exact h
  refine ab3 (uY x (g.w.heap.size+1) gp.w _ zd) fun e a1 w1 he=>?_;cases e with
  |normal=>
   obtain⟨rfl,Ll⟩:=he;have hb:=dj.po (i:=0) (o':=ro .busy) rfl;refine⟨(gp.po (g.w.heap.size+1) (ro .busy)).w,run_beginRound pJ rfl,?_⟩;have FZ:St g0 (gp.po (g.w.heap.size+1) (ro .busy)) (.obj (g.w.heap.size+1) (ro .busy):: .obj g.w.heap.size g_::e0::Lr):=hb.1;refine ab3 (uZ _ _ ro pre x rest e0 _ Lr lG (tL.trans hb.2) FZ (hI _ _ _ _ hb.2 hi) a1 Ll) fun e a2 w2 he=>?_;cases e with
   |normal=>
    obtain⟨L',g',rfl,mB,gZ,Ts,rfl,hi'⟩:=he;have mC:g'.w.heap[g.w.heap.size+1]? =some (ro .busy):=(mB.own 0 _ rfl).2.1;have hp:=mB.po (i:=0) (o':=ro .ready) rfl;refine⟨_,_,run_endRound none mC,g'.po (g.w.heap.size+1) (ro .ready),true,rfl,rfl,(hb.2.trans gZ).trans hp.2,fun _=>⟨((tL.trans hb.2).trans gZ).trans hp.2,Ts,hp.1,hI _ _ _ _ hp.2 hi'⟩,fun h=>(by cases h)⟩
   |ret=>
    obtain⟨L',g',rfl,mB,gZ,Ts,rfl,hi'⟩:=he;have mC:g'.w.heap[g.w.heap.size+1]? =some (ro .busy):=(mB.own 0 _ rfl).2.1;have hp:=mB.po (i:=0) (o':=kR fn a.tmps ps assign body g.w.heap.size .done (some .ret)) rfl;refine⟨_,_,run_endRound (some .ret) mC,g'.po (g.w.heap.size+1) (kR fn a.tmps ps assign body g.w.heap.size .done (some .ret)),false,rfl,rfl,(hb.2.trans gZ).trans hp.2,fun h=>(by cases h),
     fun _=>⟨((tL.trans hb.2).trans gZ).trans hp.2,.ret,Ts,hp.1,E1 _ _ _ _ _ hp.2 hi'⟩⟩
   |exit id=>
    obtain⟨L',g',rfl,mB,gZ,Ts,rfl,hi'⟩:=he;have mC:g'.w.heap[g.w.heap.size+1]? =some (ro .busy):=(mB.own 0 _ rfl).2.1;have hp:=mB.po (i:=0) (o':=kR fn a.tmps ps assign body g.w.heap.size .done (some (.exit id))) rfl;refine⟨_,_,run_endRound (some (.exit id)) mC,g'.po (g.w.heap.size+1) (kR fn a.tmps ps assign body g.w.heap.size .done (some (.exit id))),false,rfl,rfl,(hb.2.trans gZ).trans hp.2,fun h=>(by cases h),
     fun _=>⟨((tL.trans hb.2).trans gZ).trans hp.2,.exit id,Ts,hp.1,E1 _ _ _ _ _ hp.2 hi'⟩⟩
   |goto t=>exact he.elim
   |panic c=>exact he.elim
   |outgrown=>exact he.elim
  |exit id=>exact he.elim
  |goto t=>exact he.elim
  |ret=>exact he.elim
  |panic c=>exact he.elim
  |outgrown=>exact he.elim
 --Ph iterator has ended
 rintro e w' ⟨ge,v,rfl,rfl,gZ,h⟩;have D2:Fr N (⟨.collected g.w.heap.size,#[]⟩::ds) l {a with defers:=[⟨.collected g.w.heap.size,#[]⟩]++a.defers}:=⟨by simp[ha.defers],ha.size,ha.get⟩;rcases h with⟨e0,hle,Lr,dj,hi⟩|⟨pre,e0,oz,hle,c,Lr,dj,hi⟩
 ·have pJ:ge.w.heap[g.w.heap.size+1]? =some (ro .ready):=(dj.own 0 _ rfl).2.1;have hp:=dj.po (i:=0) (o':=kR fn a.tmps ps assign body g.w.heap.size .exhausted none) rfl;exact⟨none,_,run_endLoop pJ (by simp),lL _ _ _ e0 Lr (ge.po _ _) (hle.trans hp.2) hp.1 (hI _ _ _ _ hp.2 hi) _ D2⟩
 have pJ:ge.w.heap[g.w.heap.size+1]? =some (kR fn a.tmps ps assign body g.w.heap.size .done (some c)):=(dj.own 0 _ rfl).2.1;have hp:=dj.po (i:=0) (o':=kR fn a.tmps ps assign body g.w.heap.size .exhausted (some c)) rfl;exact⟨some c,_,run_endLoop pJ (by simp),D1 c _ _ _ pre e0 Lr (ge.po _ _) oz (hle.trans hp.2) hp.1 (E1 _ _ _ _ _ hp.2 hi) _ D2⟩
theorem Tf{fn:Func}{t t2 D:Nat}{v v2:Value}(i:Nat)(hr:fn.results=#[.tmp t,.tmp t2])(hs:St g0 g L)(hi:L[i]? =some (.obj D g_))(hl:lk l t=some v)(rD:lk l t2=some v2)
  (hR: ∀g',St g0 g' (L.eraseIdx i)→g.le g'→R (.returned (.tuple #[v,v2])) g'.w) (a:Act) (ha:Fr N [⟨.collected D,#[]⟩] l a):bodyPostM Wd 0 P fn R .ret a g.w:=by
 show LeavesInM Wd 0 P fn a.tmps R a.defers .returning g.w;rw[ha.defers];have hp:=hs.po (o':=.deferred none) hi;refine Co hs hi ⟨_,results_tmp2 hr _ _ _,?_⟩;have h1:a.tmps.getD t undef=v:=by simp[ha.get t v hl]
 have h2:a.tmps.getD t2 undef=v2:=by simp[ha.get t2 v2 rD]
 rw[h1,h2];refine hR _ ?_ hp.2;have h2:=hp.1.drop i;rwa [show(L.set i (dc.obj D (.deferred none))).eraseIdx i=L.eraseIdx i from by apply abL;intro j;simp only[acG,abG];split<;>(rw[if_neg (by omega)])]at h2
theorem QQ{fn:Func}{t u x:Nat}{v1 v2 v3:Value}(hr:fn.results=#[.tmp t,.tmp u,.tmp x])(hl:lk l t=some v1)(rD:lk l u=some v2)(RN:lk l x=some v3)(hR:R (.returned (.tuple #[v1,v2,v3])) w)(a:Act)(ha:Fr N [] l a):bodyPost P fn R .ret a w:=by refine⟨ha.defers,.tuple #[v1,v2,v3],?_,hR⟩;simp[results,hr,ha.get t _ hl,ha.get u _ rD,ha.get x _ RN]
variable {L':List dc}
theorem St.perm(hs:St g0 g L)(hp:L.Perm L'):St g0 g L':=by
 let S:dc→dc→Prop:=fun e e'=> ∀b,e.xy=some b→e'.xy≠some b
 have hS: ∀{x y},S x y→S y x:=fun h b hy hx=>h b hx hy;have h1:L.Pairwise S:=by rw[abu];intro i j hi hj I8;exact hs.sep i j _ _ (by omega) (aas hi) (aas hj)
 have h2:L'.Pairwise S:=(hp.pairwise_iff hS).1 h1;rw[abu]at h2;refine⟨hs.below,hs.im,fun j e he=>?_,fun j k e e' fL hj hk=>?_⟩
 ·obtain⟨i,hi,e1⟩:=aa4.1 (hp.mem_iff.2 (abm he));exact hs.own i e (by rw[←e1];exact aas hi)
 obtain⟨Tu,rfl⟩:=aaN.1 hj;obtain⟨JG,rfl⟩:=aaN.1 hk;rcases Nat.lt_or_gt_of_ne fL with h|h
 ·exact h2 j k Tu JG h
 exact hS (h2 k j JG Tu h)
theorem St.swap{A B C:List dc}(hs:St g0 g (A++(B++C))):St g0 g (B++(A++C)):=hs.perm (by rw[←aaG,←aaG];exact List.Perm.append_right _ acO)
theorem ug.same{R:G→Value→Prop}{v:Value}(h:R g v):ug g R (.returned v) g.w:=⟨g,v,rfl,bW.refl g,rfl,h⟩
theorem ug.of{g':G}{R:G→Value→Prop}{v:Value}(hf:bW g g')(h:R g' v):ug g R (.returned v) g'.w:=⟨g',v,rfl,hf,rfl,h⟩
theorem Row.pos{B:Nat}{e:TypeId}{k n c:Nat}{ad:Option Addr}{xs:List Value}(h:Row B e k (.slice ad n c) n xs w)(hn:n≠0): ∃b p,ad=some ⟨b,p,none⟩:=by
 rcases h.2 with⟨h0,_⟩|⟨b,off,cap,cur,e1,_⟩
 ·exact absurd h0 hn
 simp only[aaK]at e1;exact⟨b,off,e1.1⟩
theorem St.in1{g0 g:G}{e:dc}{B C:List dc}(hs:St g0 g (e::(B++C))):St g0 g (B++(e::C)):=hs.perm abA.symm
theorem St.WO{g0 g:G}{e:dc}{B C:List dc}(hs:St g0 g (B++(e::C))):St g0 g (e::(B++C)):=hs.perm abA
end Go.K
