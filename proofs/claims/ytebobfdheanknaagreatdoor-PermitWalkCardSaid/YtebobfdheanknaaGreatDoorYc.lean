/- Parts of the proof, from: The end of a statement 'for every input the law returns true': arguments read behind the call as ahead of it. -/
import Derived.Test.YtebobfdheanknaaGreatDoorYb
import Derived.RecoverIn
import Derived.Laws.IdiomStrings
import Derived.Test.YtebobfdheanknaaGreatDoorYa
import Derived.Lib.Bytealg
import Derived.Maps.RangeRun
import Derived.Shelf.Strings.BuilderK
namespace Go.K
open Go Go.RowKit Go.ChangeShapes Go.WideShapes
variable {H:Type} {enc:TypeId×Value→H} {P:Program}
theorem oo(hl:laidOutB P=true){W W':World}(hb:Below W.heap.size W W'){sp:Nat→Bool}: ∀{ts:List TypeId} {vs:List Value} {ds:List (DataW H)} {ps:List MemPlace},
  (ts.all fun t=>P.readableRec t&&decide (t<P.types.size))=true→DataW.TrodAll enc P W 0 (fun _=>true) true ts vs ds ps→(∀p∈ps,p.block<W.heap.size)→(∀p∈ps,sp p.block=true)→DataW.TrodAll enc P W' 0 sp true ts vs ds ps
 |[],vs,ds,ps,_,h,_,_=>by
  obtain⟨rfl,rfl,rfl⟩:=trodAll_nil h
  exact trodAll_mk0
 |t::ts,[],_,_,_,h,_,_=>by cases h
 |t::ts,v::vs,[],_,_,h,_,_=>by cases h
 |t::ts,v::vs,d::ds,ps,hr,h,bh,qF=>by
  obtain⟨p,q,h1,h2,rfl⟩:=h
  simp only[List.all_cons,Bool.and_eq_true,decide_eq_true_eq]at hr
  exact⟨p,q,WideElems.Trod_stays hl hr.1.1 hr.1.2 h1 (fun x hx=>hb.same (bh x (by simp[hx]))) (fun x hx=>qF x (by simp[hx])),
   oo hl hb (by simpa using hr.2) h2 (fun x hx=>bh x (by simp[hx])) (fun x hx=>qF x (by simp[hx])),rfl⟩
theorem EI{f:Func}{s:ChangeSpec}{W W':World}{args:Array Value}{ds:List (DataW H)}{before:List MemPlace}{tb:TypeId}(hl:laidOutB P=true)
  (hr:(f.params.toList.all fun t=>P.readableRec t&&decide (t<P.types.size))=true) (hv:s.vars=[]) (hs:s.fn H ds={results:=[.lit (.bool true)],args:=ds}) (Q8:f.resultTypes=#[tb]) (dn:P.underlying tb=some .bool)
  (hW:DataW.Whole enc P f.params.toList s.vars false W args.toList ds [] before) (hb:Below W.heap.size W W'):s.post enc P f false true false false W args (.bool true) W':=by
 have bh: ∀p∈before,p.block<W.heap.size:=fun p hp=>hW.lt p hp
 have U_:=hW
 obtain⟨p,q,hA,hV,rfl,hz,hn⟩:=hW
 rw[hv]at hV
 obtain⟨_,rfl⟩:=trodVars_none hV
 rw[List.append_nil]at*
 have pT: ∀sp:Nat→Bool,(∀x∈p,sp x.block=true)→DataW.TrodAll enc P W' 0 sp true f.params.toList args.toList ds p:=fun sp qF=>oo hl hb hr hA bh qF
 have EV: ∀(b:Nat) (sp:Nat→Bool) (hd:Bool),DataW.TrodAll enc P W' b sp hd f.resultTypes.toList ((Value.bool true).resultList f.resultTypes.size) [.lit (.bool true)] []:=fun b sp hd=>by
  rw[Q8];exact trodAll_mk1 (shut_bool dn true)
 have Gt:s.fn H (ds++[])={results:=[.lit (.bool true)],args:=ds}:=by rw[List.append_nil];exact hs
 have Ob: ∀sp:Nat→Bool,DataW.TrodVars enc P W' sp s.vars (s.fn H (ds++[])).vars []:=fun sp=>by rw[hv,Gt];rfl
 have hold: ∀x∈p,(fun b=>decide (b<W.heap.size)) x.block=true:=fun x hx=>by simpa using bh x hx
 exact⟨ds,[],p,[],p,[],U_,by rw[Gt];exact EV _ _ _,by rw[Gt];exact pT _ hold,Ob _,World.keptBut_mono (fun x hx=>⟨hx,.inr (by simpa using hx)⟩) (hb.frame (· ∈p)),fun h=>(by cases h)⟩
end Go.K
namespace Go.K
open Go Go.RowKit
variable {F:Fence} {P:Program} {N:Nat} {ds:List Deferred} {l l':Env} {a:Act} {w:World} {Q:Exit→Act→World→Prop} {ops:Array Oper} {os:List Oper} {o:Oper}
variable {g0 g:G} {L:List cV} {K:Value→World→Prop}
theorem iH{tb:Tb}(dn:tb.ok P){t n e:Nat}{ti ei:TI}{parts:Array (Nat×Operand)}{vs:List (Nat×Value)}{cells:List Value}(ho:o.op= .build t parts)
  (hp:rP l (parts.toList.map (·.2))=some (vs.map (·.2))) (wk:parts.toList.map (·.1)=vs.map (·.1)) (hi:tl tb t=some ti) (hd:ti.desc= .arr n e) (hj:tl tb e=some ei)
  (mT:Instr.fill (fun i=>some (i*ei.size,ei.size)) ti.zero.cells vs=some cells.toArray) (k:K (.agg cells.toArray) w):cT F P N ds o l w Q K:=by
 obtain⟨⟨dd,hu,he⟩,inf,e1,e2,e3,e4⟩:=dn.at hi
 rw[hd]at he
 obtain rfl:=KD.zN he
 obtain⟨_,Rn,f1,f2,_⟩:=dn.at hj
 refine bG (fun c=>⟨by rw[ho];simp,by rw[ho];simp⟩) (fun a ha=>?_) k
 have Cx:List.map (fun x:Nat×Operand=>(x.fst,a.eval x.snd)) parts.toList=vs:=by
  have h2:=iA ha hp
  rw[List.map_map]at h2
  have h3:parts.toList.map (fun p=>(p.1,a.eval p.2))=(parts.toList.map (·.1)).zip (parts.toList.map (fun p=>a.eval p.2)):=by rw[List.zip_map']
  have h4:vs=(vs.map (·.1)).zip (vs.map (·.2)):=by rw[List.zip_map'];simp
  rw[h4,←wk,←h2]
  exact h3
 have hz:(zeroValue t).run P w= .ok ti.zero w:=by simp[zeroValue,typeInfo,e1,e4]
 simp only[execOp,ho,Instr.build,Sem.run_bind,hz,Result.andThen_ok,run_underlying hu,sizeOf,typeInfo,run_program,f1,Sem.run_pure,f2,Array.toList_map,Cx,mT]
end Go.K
namespace Go.K
open Go Go.RowKit
variable {F:Fence} {P:Program} {N:Nat} {ds:List Deferred} {l l':Env} {a:Act} {w:World} {Q:Exit→Act→World→Prop} {ops:Array Oper} {os:List Oper} {o:Oper}
variable {g0 g:G} {L:List cV} {K:Value→World→Prop} {R:Ending→World→Prop}
theorem nT{f:FuncId}(hc:ag P f)(hF: ∀f,F.fn f)(tQ:F.depth=none){x:Operand}{args:Array Operand}{ts:Array TypeId}{first captured:Array Value}{vs aa:List Value}
  (ho:o.op= .call {callee:=.value x,args,argTypes:=ts}) (hx:ev l x=some (.func (.func f) first captured)) (ha:rP l args.toList=some vs) (has:first.toList++vs++captured.toList=aa)
  (h:CallsIn F 0 P f aa.toArray w fun e w'=>(∃v,e= .returned v∧K v w')∨ ∃ch,e= .panicked ch∧ ∀a,Fr N ds l a→Q (.panic ch) a w'):cT F P N ds o l w Q K:=by
 intro a C4
 have Ro:first++vs.toArray++captured=aa.toArray:=by rw[←has];apply Array.ext';simp
 rw[←Ro]at h
 unfold Oper.wpIn
 refine⟨fun f _=>hF f,?_⟩
 have pT:args.map a.eval=vs.toArray:=by apply Array.ext';simpa using iA C4 ha
 rw[Oper.semAt_eq _ _ _ (fun c e=>by rw[ho]at e;cases e)]
 have jf:(execOp a.eval o).run P w= .ok (.enter f (first++vs.toArray++captured)) w:=by
  simp only[execOp,ho,Sem.run_bind,resolve,C4.ev hx,Deferred.ofValue,Sem.run_pure,Result.andThen_ok,invoke,pT]
  exact gV hc _
 rw[jf]
 refine⟨fun h=>(by rw[tQ]at h;cases h),?_⟩
 refine CallsIn.mono h fun e w' he=>?_
 rcases he with⟨v,he,hk⟩|⟨ch,he,hq⟩
 ·subst he;exact⟨v,rfl,hk⟩
 ·subst he;exact hq a C4
def eu(g:G)(R:G→Value→Prop):Ending→World→Prop:=fun e w'=> ∃g' v,g'.w=w'∧e= .returned v∧g.le g'∧R g' v
def eW(g:G)(ch:List PanicEntry)(R:G→Prop):Ending→World→Prop:=fun e w'=> ∃g',g'.w=w'∧e= .panicked ch∧g.le g'∧R g'
theorem dv{R:G→Value→Prop}{f:FuncId}(hc:ag P f)(hF: ∀f,F.fn f)(tQ:F.depth=none){x:Operand}{args:Array Operand}{ts:Array TypeId}{first captured:Array Value}{vs aa:List Value}
  (ho:o.op= .call {callee:=.value x,args,argTypes:=ts}) (hx:ev l x=some (.func (.func f) first captured)) (ha:rP l args.toList=some vs) (has:first.toList++vs++captured.toList=aa)
  (h:CallsIn F 0 P f aa.toArray g.w (eu g R)) (k: ∀g' v,g.le g'→R g' v→K v g'.w):cT F P N ds o l g.w Q K:=
 ni hc hF tQ ho hx ha has (CallsIn.mono h fun _ _ ⟨g',v,hw,he,hf,hr⟩=>⟨v,he,hw▸k g' v hf hr⟩)
theorem Cy{x:Operand}{t:TypeId}{v:Value}(ho:o.op= .panic x)(hx:ev l x=some (.iface t v))(k: ∀a,Fr N ds l a→Q (.panic [{v:=.iface t v,recovered:=false}]) a w):cT F P N ds o l w Q K:=by
 intro a ha
 unfold Oper.wpIn
 refine⟨fun f hf=>?_,?_⟩
 ·unfold Oper.about at hf
  simp only[ho]at hf
  cases hf
 ·rw[Oper.semAt_eq _ _ _ (fun c e=>by rw[ho]at e;cases e)]
  have:(execOp a.eval o).run P w= .halt (.panic (.iface t v)) w:=by
   simp only[execOp,ho,ha.ev hx,Sem.run_bind,run_panic_iface]
   rfl
  rw[this]
  exact k a ha
theorem f_{J:Act→World→Prop}{ch:List PanicEntry}(h: ∀a,Fr N ds l a→Q (.panic ch) a w): ∀a,Fr N ds l a→Exit.then J Q (.panic ch) a w:=h
theorem gg{id:Nat}{ch:List PanicEntry}(h: ∀a,Fr N ds l a→Q (.panic ch) a w): ∀a,Fr N ds l a→Exit.inBlock id Q (.panic ch) a w:=h
theorem gh{ch:List PanicEntry}(h: ∀a,Fr N ds l a→Q (.panic ch) a w): ∀a,Fr N ds l a→Exit.noGoto Q (.panic ch) a w:=h
theorem dt{fn:Func}{ch:List PanicEntry}(hR:R (.panicked ch) w)(a:Act)(ha:Fr N [] l a):bodyPost P fn R (.panic ch) a w:=⟨ha.defers,hR⟩
theorem eu.intro{R:G→Value→Prop}{g':G}{v:Value}(hle:g.le g')(h:R g' v):eu g R (.returned v) g'.w:=⟨g',v,rfl,rfl,hle,h⟩
theorem eW.intro{R:G→Prop}{ch:List PanicEntry}{g':G}(hle:g.le g')(h:R g'):eW g ch R (.panicked ch) g'.w:=⟨g',rfl,rfl,hle,h⟩
theorem St.front(hs:St g0 g L){i:Nat}{e:cV}(hi:L[i]? =some e):St g0 g (e::L.eraseIdx i):=by
 have bh:=(List.getElem?_eq_some_iff.1 hi).1
 have idx: ∀(j:Nat) x,(e::L.eraseIdx i)[j]? =some x→ ∃j',L[j']? =some x∧j'=(if j=0 then i else if j-1<i then j-1 else j):=by
  intro j x hj
  cases j with
  |zero=>simp only[List.getElem?_cons_zero,Option.some.injEq]at hj;subst hj;exact⟨i,hi,by simp⟩
  |succ j=>
   rw[List.getElem?_cons_succ,List.getElem?_eraseIdx]at hj
   split at hj
   ·rename_i h;exact⟨j,hj,by simp[h]⟩
   ·rename_i h;exact⟨j+1,hj,by simp[h]⟩
 refine⟨hs.below,hs.im,fun j x hj=>?_,fun j k x y zO hj hk b vG sx=>?_⟩
 ·obtain⟨j',wD,_⟩:=idx j x hj
  exact hs.own j' x wD
 ·obtain⟨j',wD,e1⟩:=idx j x hj
  obtain⟨k',FH,e2⟩:=idx k y hk
  refine hs.sep j' k' x y ?_ wD FH b vG sx
  rw[e1,e2]
  repeat' split
  all_goals omega
end Go.K
namespace Go.K
open Go Go.RowKit
variable {F:Fence} {P:Program} {N:Nat} {ds:List Deferred} {l l':Env} {a:Act} {w:World} {Q:Exit→Act→World→Prop} {ops:Array Oper} {os:List Oper} {o:Oper}
variable {g0 g:G} {L:List cV} {K:Value→World→Prop} {R:Ending→World→Prop}
def cn(k:IntKind)(a b:Int):Int:=k.wrap (BitVec.ofInt k.bits a&&&BitVec.ofInt k.bits b).toNat
def bX(k:IntKind)(a b:Int):Int:=k.wrap (BitVec.ofInt k.bits a|||BitVec.ofInt k.bits b).toNat
def bA(k:IntKind)(a b:Int):Int:=k.wrap (BitVec.ofInt k.bits a^^^BitVec.ofInt k.bits b).toNat
def bB(k:IntKind)(a b:Int):Int:=k.wrap (BitVec.ofInt k.bits a&&& ~~~BitVec.ofInt k.bits b).toNat
def bD(k:IntKind)(n:Int):Int:=bA k (if k.signed then -1 else k.max) n
def cW(k:IntKind)(a:Int)(n:Nat):Int:=k.wrap (a*2^min n k.bits)
def cG(k:IntKind)(a:Int)(n:Nat):Int:=a.fdiv (2^min n k.bits)
def G6(op:BinOp)(x y:Value):Option Value:=
 match x,y with
 | .int k a,.int k' b=>
  if k=k' then
   match op with
   | .and=>some (.int k (cn k a b))
   | .or=>some (.int k (bX k a b))
   | .xor=>some (.int k (bA k a b))
   | .andNot=>some (.int k (bB k a b))
   |_=>none
  else none
 |_,_=>none
def w9(op:BinOp)(x y:Value):Option Value:=
 match x,y with
 | .int k a,.int _ (.ofNat n)=>
  match op with
  | .shl=>some (.int k (cW k a n))
  | .shr=>some (.int k (cG k a n))
  |_=>none
 |_,_=>none
def Iw(d:KD)(x:Value):Option Value:=
 match d,x with
 | .int k,.int _ n=>some (.int k (k.wrap n))
 |_,_=>none
def JU(tb:Tb)(l:Env):Op→Option Value
 | .binOp op _ x y _=>
  match op with
  | .shl| .shr=>
   match ev l x,ev l y with
   |some a,some b=>w9 op a b
   |_,_=>none
  |_=>
   match ev l x,ev l y with
   |some a,some b=>G6 op a b
   |_,_=>none
 | .unOp .xor _ x=>
  match ev l x with
  |some (.int k n)=>some (.int k (bD k n))
  |_=>none
 | .convert s d x=>
  match tl tb s,tl tb d,ev l x with
  |some _,some i,some v=>Iw i.desc v
  |_,_,_=>none
 |_=>none
theorem KD.of_int{d:TypeDesc}{k:IntKind}(h:KD.of d= .int k):d= .int k:=by
 cases d<;>simp only[KD.of,reduceCtorEq,KD.int.injEq]at h
 rw[h]
theorem EW{op:BinOp}{t:TypeId}{x y v:Value}(xo yo:Operand)(h:G6 op x y=some v):(do eqGuard op t xo yo x y;binOp op t x y:Sem Value).run P w= .ok v w:=by
 unfold G6 at h
 split at h
 ·rename_i k a k' b
  split at h
  ·rename_i hk
   subst hk
   have hb:(binOp op t (.int k a) (.int k b)).run P w= .ok v w:=by
    split at h<;>simp only[Option.some.injEq,reduceCtorEq]at h<;>subst h<;>simp[binOp,Op.intBits,cn,bX,bA,bB]
   simp only[Sem.run_bind,gv,Result.andThen_ok]
   exact hb
  ·cases h
 ·cases h
theorem Ah{op:BinOp}{t:TypeId}{x y v:Value}(xo yo:Operand)(h:w9 op x y=some v):(do eqGuard op t xo yo x y;binOp op t x y:Sem Value).run P w= .ok v w:=by
 unfold w9 at h
 split at h
 ·rename_i k a k' n
  have hn: ¬((Int.ofNat n)<0):=by have:(Int.ofNat n)=(n:Int):=rfl;omega
  have hb:(binOp op t (.int k a) (.int k' (.ofNat n))).run P w= .ok v w:=by
   split at h<;>simp only[Option.some.injEq,reduceCtorEq]at h<;>subst h<;>unfold binOp<;>simp only<;>unfold Op.shift<;>rw[if_neg hn]<;>rfl
  simp only[Sem.run_bind,gv,Result.andThen_ok]
  exact hb
 ·cases h
theorem Cz(tb:Tb)(dn:tb.ok P){v:Value}{K:Value→World→Prop}(h:JU tb l o.op=some v)(k:K v w):cT F P N ds o l w Q K:=by
 obtain⟨dst,op,type,pos,after,guard⟩:=o
 simp only at h
 unfold JU at h
 split at h
 ·rename_i op t x y ty
  have bits: ∀{a b:Value},ev l x=some a→ev l y=some b→G6 op a b=some v→cT F P N ds ⟨dst,.binOp op t x y ty,type,pos,after,guard⟩ l w Q K:=fun hx hy h=>by
   refine bG (by simp) (fun a ha=>?_) k
   have:=EW (P:=P) (w:=w) (t:=t) x y h
   simp only[Sem.run_bind]at this
   simp only[execOp,ha.ev hx,ha.ev hy,Sem.run_bind]
   generalize Sem.run P (eqGuard op t x y _ _) w=r at*
   cases r with
   |ok u w1=>
    simp only[Result.andThen_ok]at this⊢
    rw[this];rfl
   |halt u w1=>cases this
  have shift: ∀{a b:Value},ev l x=some a→ev l y=some b→w9 op a b=some v→cT F P N ds ⟨dst,.binOp op t x y ty,type,pos,after,guard⟩ l w Q K:=fun hx hy h=>by
   refine bG (by simp) (fun a ha=>?_) k
   have:=Ah (P:=P) (w:=w) (t:=t) x y h
   simp only[Sem.run_bind]at this
   simp only[execOp,ha.ev hx,ha.ev hy,Sem.run_bind]
   generalize Sem.run P (eqGuard op t x y _ _) w=r at*
   cases r with
   |ok u w1=>
    simp only[Result.andThen_ok]at this⊢
    rw[this];rfl
   |halt u w1=>cases this
  split at h<;>
   (split at h
    ·rename_i hx hy
     first|exact shift hx hy h|exact bits hx hy h
    ·cases h)
 ·rename_i t x
  split at h
  ·rename_i k' n hx
   simp only[Option.some.injEq]at h
   subst h
   refine bG (by simp) (fun a ha=>?_) k
   simp[execOp,ha.ev hx,Op.unary,Op.intBits,bD,bA]
  ·cases h
 ·rename_i s d x
  split at h
  ·rename_i i1 i2 v' h1 h2 hx
   unfold Iw at h
   split at h
   ·rename_i kk k' n hd
    simp only[Option.some.injEq]at h
    subst h
    obtain⟨⟨d1,C5,_⟩,_⟩:=dn.at h1
    obtain⟨⟨d2,FW,KJ⟩,_⟩:=dn.at h2
    rw[hd]at KJ
    obtain rfl:=KD.of_int KJ
    refine bG (by simp) (fun a ha=>?_) k
    simp[execOp,ha.ev hx,convert,run_underlying C5,run_underlying FW,Conv.intToInt]
   ·cases h
  ·cases h
 ·cases h
def bs(l:List UInt8):ByteArray:=⟨l.toArray⟩
def eo(l:List UInt8):List Value:=l.map fun b=> .int .u8 (b.toNat:Int)
theorem ec(l:List UInt8):(bs l).size=l.length:=by simp[bs,ByteArray.size]
theorem Im(s:ByteArray):s=bs s.data.toList:=by simp[bs]
theorem CA(x y:List UInt8):bs x++bs y=bs (x++y):=by
 apply ByteArray.ext;simp[bs]
theorem JV{x y:List UInt8}(h:bs x=bs y):x=y:=by
 have:=congrArg ByteArray.data h
 simpa [bs]using this
theorem cD(x:List UInt8):(bs x).toList=x:=ByteArray.toList_mk x
instance:El UInt8 where
 k:=1
 pos:=by omega
 rc _ cs n:=cs=[.int .u8 (n.toNat:Int)]
 len h:=by rw[h];rfl
 mono _ h:=h
 one h:=by rw[h];simp[Value.oneCell']
theorem cO.bytes(g:G): ∀l:List UInt8,cO g (eo l) l
 |[]=>rfl
 |b::r=>⟨[.int .u8 (b.toNat:Int)],eo r,rfl,rfl,cO.bytes g r⟩
theorem cO.Cp{g:G}: ∀{l:List UInt8} {cs:List Value},cO g cs l→cs=eo l
 |[],_,h=>h
 |b::r,_,⟨c1,c2,e,h1,h2⟩=>by rw[e,show c1=[.int .u8 (b.toNat:Int)]from h1,cO.Cp h2];rfl
structure w_ where
 s:List UInt8
instance:El w_ where
 k:=1
 pos:=by omega
 rc _ cs n:=cs=[.string (bs n.s)]
 len h:=by rw[h];rfl
 mono _ h:=h
 one h:=by rw[h];simp[Value.oneCell']
theorem cA{t t':TypeId}{x y:Operand}{p q:List UInt8}(ho:o.op= .binOp .add t x y t')(hx:ev l x=some (.string (bs p)))(hy:ev l y=some (.string (bs q)))(hl:p.length+q.length≤9223372036854775807)(kk:K (.string (bs (p++q))) w):cT F P N ds o l w Q K:=by
 refine bG (fun c=>⟨by rw[ho];simp,by rw[ho];simp⟩) (fun a ha=>?_) kk
 have h: ¬(((bs p).size+(bs q).size:Nat):Int)>IntKind.i64.max:=by
  rw[ec,ec]
  have:IntKind.i64.max=9223372036854775807:=by decide
  omega
 have h': ¬(IntKind.i64.max<((bs p).size:Int)+((bs q).size:Int)):=by
  have e:(((bs p).size+(bs q).size:Nat):Int)=((bs p).size:Int)+((bs q).size:Int):=by omega
  rw[←e];exact h
 have h3:((bs p).size:Int)+((bs q).size:Int)≤9223372036854775807:=by rw[ec,ec];omega
 simp[execOp,ho,ha.ev hx,ha.ev hy,kE,binOp,Op.stringOp,h',h3,CA]
theorem mh{tb:Tb}(dn:tb.ok P){s d e:Nat}{si di ei:TI}{x:Operand}{ad:Option Addr}{n c:Nat}{ns:List Int}(ho:o.op= .convert s d x)(hx:ev l x=some (.slice ad n c))
  (hi:tl tb s=some si) (hd:si.desc= .slice e) (hj:tl tb e=some ei) (he:ei.desc= .int .u8) (hk:tl tb d=some di) (U':di.desc= .string)
  (gn:Src w ad n 1 (ns.map (Value.int .u8))) (kk:K (.string (bs (ns.map fun m=>UInt8.ofNat m.toNat))) w):cT F P N ds o l w Q K:=by
 obtain⟨⟨d1,C5,h1⟩,_⟩:=dn.at hi
 rw[hd]at h1
 obtain rfl:=KD.of_slice h1
 obtain⟨⟨d2,FW,h2⟩,_⟩:=dn.at hj
 rw[he]at h2
 obtain rfl:=KD.of_int h2
 obtain⟨⟨d3,Va,h3⟩,_⟩:=dn.at hk
 rw[U']at h3
 obtain rfl:=KD.of_string h3
 refine bG (fun c=>⟨by rw[ho];simp,by rw[ho];simp⟩) (fun a ha=>?_) kk
 have Oc: ∀(l:List Int) (r:ByteArray),l.foldl (fun r m=>r.push (UInt8.ofNat m.toNat)) r=⟨r.data++(l.map fun m=>UInt8.ofNat m.toNat).toArray⟩:=by
  intro l
  induction l with
  |nil=>intro r;simp
  |cons m l ih=>intro r;rw[List.foldl_cons,ih];simp[ByteArray.push]
 have jf:(convert s d (.slice ad n c)).run P w= .ok (.string (bs (ns.map fun m=>UInt8.ofNat m.toNat))) w:=by
  rw[run_convert_bytes_string w s d e ad n c C5 FW Va]
  obtain⟨hl,hc⟩:=gn
  rw[List.length_map,Nat.mul_one]at hl
  by_cases h0:n=0
  ·subst h0
   obtain rfl:ns=[]:=List.eq_nil_of_length_eq_zero hl
   cases ad with
   |none=>simp[Conv.bytesToString,bs];rfl
   |some a=>
    have:=run_bytesToString (P:=P) w a 0 c [] (by simp[loadCells,loadCellsFrom])
    rw[this];simp[bs];rfl
  ·obtain⟨b,p,rfl,SG⟩:=hc.resolve_left h0
   have Iy:=run_loadCells_list (P:=P) w ⟨b,p,none⟩ (ns.map (Value.int .u8)) (fun j y hy=>by rw[Addr.add_lit];exact SG j y hy)
   rw[List.length_map,hl]at Iy
   rw[run_bytesToString w _ n c ns Iy,Oc]
   have:ByteArray.empty.data=#[]:=rfl
   rw[this];simp[bs]
 simp[execOp,ho,ha.ev hx,jf]
structure Bp(P:Program)(w:World)(v:Value)(us:List Value):Prop where
 len:(Builtin.lenOf v).run P w= .ok us.length w
 fst: ∀k,k≤us.length→(Builtin.firstCells 1 k v).run P w= .ok (us.take k).toArray w
 one: ∀u∈us,u.oneCell'=true
theorem Bp.src{ad:Option Addr}{n c:Nat}{us:List Value}(h:Src w ad n 1 us)(h1: ∀u∈us,u.oneCell'=true):Bp P w (.slice ad n c) us:=by
 obtain⟨hl,h⟩:=h
 rw[Nat.mul_one]at hl
 refine⟨by simp[Builtin.lenOf,hl],fun k hk=>?_,h1⟩
 rcases h with h0|⟨b,p,rfl,hc⟩
 ·obtain rfl:us=[]:=List.eq_nil_of_length_eq_zero (by omega)
  obtain rfl:k=0:=by simpa using hk
  cases ad<;>simp[Builtin.firstCells,loadCells,loadCellsFrom]
 ·have:=run_firstCells_some (P:=P) w 1 k ⟨b,p,none⟩ n c (us.take k) (by rw[List.length_take];omega) (fun j u hu=>by
   rw[Addr.add_lit]
   have hj:j<k:=by have:=(List.getElem?_eq_some_iff.1 hu).1;rw[List.length_take]at this;omega
   rw[List.getElem?_take_of_lt hj]at hu
   exact hc j u hu)
  exact this
end Go.K
namespace Go.K
open Go Go.RowKit
variable {F:Fence} {P:Program} {N:Nat} {ds:List Deferred} {l l':Env} {a:Act} {w:World} {Q:Exit→Act→World→Prop} {ops:Array Oper} {os:List Oper} {o:Oper}
variable {g0 g:G} {L:List cV} {K:Value→World→Prop} {R:Ending→World→Prop}
theorem Cg{k:IntKind}{cs:List Int}{off:Nat}{n:Int}(h:off<cs.length):lF (cs.map (Value.int k)) off [.int k n]=(cs.set off n).map (Value.int k):=by
 unfold lF
 rw[List.map_set,List.set_eq_take_append_cons_drop,if_pos (by rw[List.length_map];exact h)]
 simp
end Go.K
namespace Go.K
open Go Go.RowKit
variable {F:Fence} {P:Program} {N:Nat} {ds:List Deferred} {l l':Env} {a:Act} {w:World} {Q:Exit→Act→World→Prop} {ops:Array Oper} {os:List Oper} {o:Oper}
variable {g0 g:G} {L:List cV} {K:Value→World→Prop} {R:Ending→World→Prop}
theorem cR.below{R:G→Value→Prop}{v:Value}{w':World}(hb:Below g.w.heap.size g.w w')(hR: ∀g':G,g'.w=w'→aZ g g'→R g' v):cR g R (.returned v) w':=by
 let g':G:=⟨w',g.im,fun b h=>Nat.lt_of_lt_of_le (g.lt b h) hb.size⟩
 have hf:aZ g g':=⟨hb,fun _ _=>Iff.rfl⟩
 exact⟨g',v,rfl,hf,rfl,hR g' rfl hf⟩
theorem j1{f:FuncId}{args:Array Value}{R:G→Value→Prop}{v:Value}(h:Calls P f args g.w fun e w'=>e= .returned v∧Below g.w.heap.size g.w w')(hR: ∀g':G,aZ g g'→R g' v):CallsIn Wd 0 P f args g.w (cR g R):=by
 refine callsIn_wide.2 (h.mono ?_)
 rintro e w' ⟨rfl,hb⟩
 exact cR.below hb fun g' _ hf=>hR g' hf
theorem Rs.part{α:Type}[El α]{b p n c:Nat}{xs:List α}(h:Rs g (.slice (some ⟨b,p,none⟩) n c) xs){a m c':Nat}(hm:0<m)(h1:a+m≤n)(h2:m≤c')(h3:c'≤maxLen):Rs g (.slice (some ⟨b,p+a*El.k α,none⟩) m c') ((xs.drop a).take m):=by
 obtain⟨ad,n',WR,e,rfl,nd,h⟩:=h
 simp only[Value.slice.injEq]at e
 obtain⟨rfl,rfl,rfl⟩:=e
 rcases h with h|⟨b',p',cells,e,hb,hr,hc⟩
 ·omega
 simp only[Option.some.injEq,Addr.mk.injEq,and_true]at e
 obtain⟨rfl,rfl⟩:=e
 refine⟨_,m,c',rfl,by rw[List.length_take,List.length_drop];omega,⟨h2,h3⟩,.inr ⟨b,p+a*El.k α,(cells.drop (a*El.k α)).take (m*El.k α),rfl,hb,(hr.drop a).take m,fun j y hy=>?_⟩⟩
 have bh:=(List.getElem?_eq_some_iff.1 hy).1
 rw[List.length_take]at bh
 rw[List.getElem?_take_of_lt (by omega),List.getElem?_drop]at hy
 have:=hc _ _ hy
 rw[Nat.add_assoc];exact this
end Go.K
namespace Go.K
open Go Go.RowKit
variable {F:Fence} {P:Program} {N:Nat} {ds:List Deferred} {l l':Env} {a:Act} {w:World} {Q:Exit→Act→World→Prop} {ops:Array Oper} {os:List Oper} {o:Oper}
variable {g0 g:G} {L:List cV} {K:Value→World→Prop} {R:Ending→World→Prop}
def N4{α:Type}(P:Program)(jR:FuncId)(eG:Array Value)(fU:α→List Value)(xs:List α)(st:cV)(g:G):Prop:=
 ∀(g1:G),g.le g1→ ∀(yv:Value) (J Jx:List α→cV→G→Prop),
  (∀pre e g,J pre e g→ ∃(g0:G) (L:List cV) (i:Nat),St g0 g L∧L[i]? =some e∧ ∀e' g',St g0 g' (L.set i e')→g.le g'→J pre e' g')→
  (∀pre x rest e g2,xs=pre++x::rest→g1.le g2→J pre e g2→ir P yv (fU x) g2.w fun en w'=> ∃g3 b,g3.w=w'∧en= .returned (.bool b)∧g2.le g3∧(b=true→J (pre++[x]) e g3)∧(b=false→Jx (pre++[x]) e g3))→
  J [] st g1→CallsIn Wd 0 P jR (yv::eG.toList).toArray g1.w fun en w'=> ∃g2 v,g2.w=w'∧en= .returned v∧g1.le g2∧((∃e,J xs e g2)∨ ∃pre e,pre<+:xs∧Jx pre e g2)
theorem EL{α:Type}{jR:FuncId}{eG:Array Value}{fU:α→List Value}{xs:List α}{f:Operand}{ps:Array Tmp}{assign body:Code}
  {st:cV} (hs:St g0 g (st::L)) (hf:ev l f=some (.func (.func jR) #[] eG)) (nh:ag P jR) (qG:N4 P jR eG fU xs st g) (sO:(ps.toList.all fun t=>Nat.blt t N)=true) (Od: ∀x,(fU x).length=ps.size)
  (I:List α→List cV→G→Prop) (Ix:Code→List α→List cV→G→Prop) (hI: ∀pre L g g',g.le g'→I pre L g→I pre L g') (zo: ∀c pre L g g',g.le g'→Ix c pre L g→Ix c pre L g')
  (h0:I [] L g) (la:α→Env)
  (pU: ∀x ro w,W {Wd with round:=some ro} P N [] assign (Exit.then (fun a w'=>w'=w∧Fr N [] (la x) a) (fun _ _ _=>False)) (jE ps.toList (fU x) l) w)
  (pV: ∀lp D ro pre x rest e gr Lr,xs=pre++x::rest→g.le gr→St g0 gr (.obj lp (ro .busy):: .obj D fM::e::Lr)→I pre Lr gr→
   W {Wd with round:=some lp} P N [] body (Aj (fun L' g'=> ∃Lr,L'=e::Lr∧I (pre++[x]) Lr g') (fun c L' g'=> ∃Lr,L'=e::Lr∧Ix c (pre++[x]) Lr g') g0 gr lp D ro) (la x) gr.w)
  (jT: ∀lp D o e Lr ge,g.le ge→St g0 ge (.obj lp o:: .obj D fM::e::Lr)→I xs Lr ge→ ∀a,Fr N (⟨.collected D,#[]⟩::ds) l a→Q .normal a ge.w)
  (yG: ∀c lp D o pre e Lr ge,pre<+:xs→g.le ge→St g0 ge (.obj lp o:: .obj D fM::e::Lr)→Ix c pre Lr ge→W Wd P N (⟨.collected D,#[]⟩::ds) c Q l ge.w):
  W Wd P N ds (.rangeFunc f ps assign body) Q l g.w:=by
 intro a ha
 refine wpIn_rangeFunc fun fn _=>?_
 let ro:LoopState→Obj:=fun st=>iV fn a.tmps ps assign body g.w.heap.size st none
 have mK:=hs.al fM
 have aU:=mK.1.al (ro .ready)
 have cS:(g.al fM).w.heap.size=g.w.heap.size+1:=by simp[G.al]
 let g2:=(g.al fM).al (ro .ready)
 have sb:g.le g2:=mK.2.trans aU.2
 refine⟨g.w.heap.size+1,[⟨.collected g.w.heap.size,#[]⟩],g2.w,⟨.fn (.func jR) eG,#[.func (.yield (g.w.heap.size+1)) #[] #[]]⟩,g2.w,jR,(.func (.yield (g.w.heap.size+1)) #[] #[]::eG.toList).toArray,g2.w,?_,?_,fun _ _=>trivial,?_,fun h=>(by cases h),?_⟩
 ·exact run_enterLoop_outer fn a.tmps ps assign body
 ·simp only[resolve,ha.ev hf,Deferred.ofValue]
  simp[Act.eval,g2]
 ·have e:#[Value.func (.yield (g.w.heap.size+1)) #[] #[]]++eG=(.func (.yield (g.w.heap.size+1)) #[] #[]::eG.toList).toArray:=by apply Array.ext';simp
  rw[←e]
  exact gV nh _
 ·--zp tT pR,with Oe holds Bq zp rounds
  have xd:St g0 g2 (.obj (g.w.heap.size+1) (ro .ready):: .obj g.w.heap.size fM::st::L):=by
   have:=aU.1
   rw[cS]at this
   exact this
  refine CallsIn.mono (qG g2 sb (.func (.yield (g.w.heap.size+1)) #[] #[])
   (fun pre e g'=>g.le g'∧ ∃Lr,St g0 g' (.obj (g.w.heap.size+1) (ro .ready):: .obj g.w.heap.size fM::e::Lr)∧I pre Lr g')
   (fun pre e g'=>g.le g'∧ ∃c Lr,St g0 g' (.obj (g.w.heap.size+1) (iV fn a.tmps ps assign body g.w.heap.size .done (some c)):: .obj g.w.heap.size fM::e::Lr)∧Ix c pre Lr g')
   (fun pre e ga ⟨h1,Lr,h2,h3⟩=>⟨g0,_,2,h2,rfl,fun e' gb dm fL=>⟨h1.trans fL,Lr,dm,hI _ _ _ _ fL h3⟩⟩) ?_ ⟨sb,L,xd,hI _ _ _ _ sb h0⟩) ?_
  ·--one round
   rintro pre x rest e0 gp jm Of ⟨oV,Lr,dm,hi⟩
   have mi:gp.w.heap[g.w.heap.size+1]? =some (ro .ready):=(dm.own 0 _ rfl).2.1
   refine⟨fn,_,assign,body,run_yield mi (by simpa [iV]using Od x),?_⟩
   refine roundIn_of_wpIn trivial ?_
   have Cv:Fr N [] (jE ps.toList (fU x) l) {tmps:=(ps.zip (#[]++(fU x).toArray)).foldl (fun tmps (x:Nat×Value)=>tmps.setIfInBounds x.1 x.2) a.tmps,defers:=[]}:=by
    have h:=xe (N:=N) ps.toList (fU x) l a.tmps sO ⟨rfl,ha.size,ha.get⟩
    have e:(ps.zip (#[]++(fU x).toArray)).foldl (fun tmps (x:Nat×Value)=>tmps.setIfInBounds x.1 x.2) a.tmps=(ps.toList.zip (fU x)).foldl (fun tmps (x:Nat×Value)=>tmps.setIfInBounds x.1 x.2) a.tmps:=by
     rw[←Array.foldl_toList];simp
    rw[e]
    exact h
   refine Go.wpIn_mono (pU x (g.w.heap.size+1) gp.w _ Cv) fun e a1 w1 he=>?_
   cases e with
   |normal=>
    obtain⟨rfl,xf⟩:=he
    have hb:=dm.po (i:=0) (o':=ro .busy) rfl
    refine⟨(gp.po (g.w.heap.size+1) (ro .busy)).w,run_beginRound mi rfl,?_⟩
    have EX:St g0 (gp.po (g.w.heap.size+1) (ro .busy)) (.obj (g.w.heap.size+1) (ro .busy):: .obj g.w.heap.size fM::e0::Lr):=hb.1
    refine Go.wpIn_mono (pV _ _ ro pre x rest e0 _ Lr jm (oV.trans hb.2) EX (hI _ _ _ _ hb.2 hi) a1 xf) fun e a2 w2 he=>?_
    cases e with
    |normal=>
     obtain⟨L',g',rfl,jO,fL,Og,rfl,hi'⟩:=he
     have jP:g'.w.heap[g.w.heap.size+1]? =some (ro .busy):=(jO.own 0 _ rfl).2.1
     have hp:=jO.po (i:=0) (o':=ro .ready) rfl
     refine⟨_,_,run_endRound none jP,g'.po (g.w.heap.size+1) (ro .ready),true,rfl,rfl,(hb.2.trans fL).trans hp.2,fun _=>⟨((oV.trans hb.2).trans fL).trans hp.2,Og,hp.1,hI _ _ _ _ hp.2 hi'⟩,fun h=>(by cases h)⟩
    |ret=>
     obtain⟨L',g',rfl,jO,fL,Og,rfl,hi'⟩:=he
     have jP:g'.w.heap[g.w.heap.size+1]? =some (ro .busy):=(jO.own 0 _ rfl).2.1
     have hp:=jO.po (i:=0) (o':=iV fn a.tmps ps assign body g.w.heap.size .done (some .ret)) rfl
     refine⟨_,_,run_endRound (some .ret) jP,g'.po (g.w.heap.size+1) (iV fn a.tmps ps assign body g.w.heap.size .done (some .ret)),false,rfl,rfl,(hb.2.trans fL).trans hp.2,fun h=>(by cases h),
      fun _=>⟨((oV.trans hb.2).trans fL).trans hp.2,.ret,Og,hp.1,zo _ _ _ _ _ hp.2 hi'⟩⟩
    |exit id=>
     obtain⟨L',g',rfl,jO,fL,Og,rfl,hi'⟩:=he
     have jP:g'.w.heap[g.w.heap.size+1]? =some (ro .busy):=(jO.own 0 _ rfl).2.1
     have hp:=jO.po (i:=0) (o':=iV fn a.tmps ps assign body g.w.heap.size .done (some (.exit id))) rfl
     refine⟨_,_,run_endRound (some (.exit id)) jP,g'.po (g.w.heap.size+1) (iV fn a.tmps ps assign body g.w.heap.size .done (some (.exit id))),false,rfl,rfl,(hb.2.trans fL).trans hp.2,fun h=>(by cases h),
      fun _=>⟨((oV.trans hb.2).trans fL).trans hp.2,.exit id,Og,hp.1,zo _ _ _ _ _ hp.2 hi'⟩⟩
    |goto t=>exact he.elim
    |panic c=>exact he.elim
    |outgrown=>exact he.elim
   |exit id=>exact he.elim
   |goto t=>exact he.elim
   |ret=>exact he.elim
   |panic c=>exact he.elim
   |outgrown=>exact he.elim
  ·--zp iterator has ended
   rintro e w' ⟨ge,v,rfl,rfl,fL,h⟩
   have yH:Fr N (⟨.collected g.w.heap.size,#[]⟩::ds) l {a with defers:=[⟨.collected g.w.heap.size,#[]⟩]++a.defers}:=⟨by simp[ha.defers],ha.size,ha.get⟩
   rcases h with⟨e0,hle,Lr,dm,hi⟩|⟨pre,e0,gD,hle,c,Lr,dm,hi⟩
   ·have mi:ge.w.heap[g.w.heap.size+1]? =some (ro .ready):=(dm.own 0 _ rfl).2.1
    have hp:=dm.po (i:=0) (o':=iV fn a.tmps ps assign body g.w.heap.size .exhausted none) rfl
    exact⟨none,_,run_endLoop mi (by simp),jT _ _ _ e0 Lr (ge.po _ _) (hle.trans hp.2) hp.1 (hI _ _ _ _ hp.2 hi) _ yH⟩
   ·have mi:ge.w.heap[g.w.heap.size+1]? =some (iV fn a.tmps ps assign body g.w.heap.size .done (some c)):=(dm.own 0 _ rfl).2.1
    have hp:=dm.po (i:=0) (o':=iV fn a.tmps ps assign body g.w.heap.size .exhausted (some c)) rfl
    exact⟨some c,_,run_endLoop mi (by simp),yG c _ _ _ pre e0 Lr (ge.po _ _) gD (hle.trans hp.2) hp.1 (zo _ _ _ _ _ hp.2 hi) _ yH⟩
end Go.K
namespace Go.K
open Go Go.RowKit
variable {F:Fence} {P:Program} {N:Nat} {ds:List Deferred} {l l':Env} {a:Act} {w:World} {Q:Exit→Act→World→Prop} {ops:Array Oper} {os:List Oper} {o:Oper}
variable {g0 g:G} {L:List cV} {K:Value→World→Prop} {R:Ending→World→Prop}
theorem N6{fn:Func}{t t2 D:Nat}{v v2:Value}(i:Nat)(hr:fn.results=#[.tmp t,.tmp t2])(hs:St g0 g L)(hi:L[i]? =some (.obj D fM))(hl:lk l t=some v)(sP:lk l t2=some v2)
  (hR: ∀g',St g0 g' (L.eraseIdx i)→g.le g'→R (.returned (.tuple #[v,v2])) g'.w) (a:Act) (ha:Fr N [⟨.collected D,#[]⟩] l a):bodyPostM Wd 0 P fn R .ret a g.w:=by
 show LeavesInM Wd 0 P fn a.tmps R a.defers .returning g.w
 rw[ha.defers]
 have hp:=hs.po (o':=.deferred none) hi
 refine w3 hs hi ⟨_,results_tmp2 hr _ _ _,?_⟩
 have h1:a.tmps.getD t undef=v:=by simp[Array.getD_eq_getD_getElem?,ha.get t v hl]
 have h2:a.tmps.getD t2 undef=v2:=by simp[Array.getD_eq_getD_getElem?,ha.get t2 v2 sP]
 rw[h1,h2]
 refine hR _ ?_ hp.2
 have h2:=hp.1.drop i
 rwa [show(L.set i (cV.obj D (.deferred none))).eraseIdx i=L.eraseIdx i from by
  apply List.ext_getElem?
  intro j
  simp only[List.getElem?_eraseIdx,List.getElem?_set]
  split<;>(rw[if_neg (by omega)])]at h2
end Go.K
namespace Go.K
open Go Go.RowKit
variable {F:Fence} {P:Program} {N:Nat} {ds:List Deferred} {l l':Env} {a:Act} {w:World} {Q:Exit→Act→World→Prop} {ops:Array Oper} {os:List Oper} {o:Oper}
variable {g0 g:G} {L L':List cV} {K:Value→World→Prop} {R:Ending→World→Prop}
theorem St.perm(hs:St g0 g L)(hp:L.Perm L'):St g0 g L':=by
 let S:cV→cV→Prop:=fun e e'=> ∀b,e.rV=some b→e'.rV≠some b
 have hS: ∀{x y},S x y→S y x:=fun h b hy hx=>h b hx hy
 have h1:L.Pairwise S:=by
  rw[List.pairwise_iff_getElem]
  intro i j hi hj zK
  exact hs.sep i j _ _ (by omega) (List.getElem?_eq_getElem hi) (List.getElem?_eq_getElem hj)
 have h2:L'.Pairwise S:=(hp.pairwise_iff hS).1 h1
 rw[List.pairwise_iff_getElem]at h2
 refine⟨hs.below,hs.im,fun j e he=>?_,fun j k e e' fu hj hk=>?_⟩
 ·obtain⟨i,hi,e1⟩:=List.mem_iff_getElem.1 (hp.mem_iff.2 (List.mem_of_getElem? he))
  exact hs.own i e (by rw[←e1];exact List.getElem?_eq_getElem hi)
 ·obtain⟨Bo,rfl⟩:=List.getElem?_eq_some_iff.1 hj
  obtain⟨rS,rfl⟩:=List.getElem?_eq_some_iff.1 hk
  rcases Nat.lt_or_gt_of_ne fu with h|h
  ·exact h2 j k Bo rS h
  ·exact hS (h2 k j rS Bo h)
theorem St.swap{A B C:List cV}(hs:St g0 g (A++(B++C))):St g0 g (B++(A++C)):=hs.perm (by
 rw[←List.append_assoc,←List.append_assoc];exact List.Perm.append_right _ List.perm_append_comm)
theorem cR.same{R:G→Value→Prop}{v:Value}(h:R g v):cR g R (.returned v) g.w:=⟨g,v,rfl,aZ.refl g,rfl,h⟩
theorem cR.of{g':G}{R:G→Value→Prop}{v:Value}(hf:aZ g g')(h:R g' v):cR g R (.returned v) g'.w:=⟨g',v,rfl,hf,rfl,h⟩
theorem Row.pos{B:Nat}{e:TypeId}{k n c:Nat}{ad:Option Addr}{xs:List Value}(h:Row B e k (.slice ad n c) n xs w)(hn:n≠0): ∃b p,ad=some ⟨b,p,none⟩:=by
 rcases h.2 with⟨h0,_⟩|⟨b,off,cap,cur,e1,_⟩
 ·exact absurd h0 hn
 ·simp only[Value.slice.injEq]at e1
  exact⟨b,off,e1.1⟩
end Go.K
namespace Go.K
open Go Go.RowKit
variable {F:Fence} {P:Program} {N:Nat} {ds:List Deferred} {l l':Env} {a:Act} {w:World} {Q:Exit→Act→World→Prop} {ops:Array Oper} {os:List Oper} {o:Oper}
variable {g0 g:G} {L L':List cV} {K:Value→World→Prop} {R:Ending→World→Prop}
theorem St.Vc{g0 g:G}{e:cV}{B C:List cV}(hs:St g0 g (e::(B++C))):St g0 g (B++(e::C)):=hs.perm List.perm_middle.symm
theorem St.Rr{g0 g:G}{e:cV}{B C:List cV}(hs:St g0 g (B++(e::C))):St g0 g (e::(B++C)):=hs.perm List.perm_middle
end Go.K
namespace Go.K
open Go Go.RowKit
class dN(P:Program) where
 tb:Tb
 ok:tb.ok P
 mixed:P.follows .mixedOrders=true
class jg(F:Fence):Prop where
 all: ∀f,F.fn f
 fn:F.fn=Wd.fn
 deep:F.depth=none
 alive:F.alive=false
instance:jg Wd:=⟨fun _=>trivial,rfl,rfl,rfl⟩
instance{r:Option Nat}:jg {Wd with round:=r}:=⟨fun _=>trivial,rfl,rfl,rfl⟩
inductive q_(P:Program)(g:G) where
 |o (i:Nat)
 |e {b p:Nat} {ys:List Value} (h:EP g b p ys) (off:Nat)
 |z {b:Nat} {ys:List Value} (h:EP g b 0 ys)
 |c {f:Nat} {aa:List Value} {v:Value} (hc:ag P f) (h: ∀g',g.le g'→CallsIn Wd 0 P f aa.toArray g'.w (cR g' fun _ r=>r=v))
variable {F:Fence} {P:Program} {N:Nat} {ds:List Deferred} {l l':Env} {a:Act} {w:World} {Q Q':Exit→Act→World→Prop} {ops:Array Oper} {os jQ:List Oper} {o:Oper}
variable {g0 g:G} {L:List cV}
def IA(tb:Tb)(l:Env)(L:List cV)(t:Nat)(x:Operand):q_ P g→Option (Addr×Addr×Value)
 | .o i=>
  match L[i]? with
  |some (.obj b (.cells c _ _))=>
   match ev l x with
   |some (.pointer (some ad))=>
    match ve tb t c.toList ad.off with
    |some v=>some (ad,⟨b,ad.off,none⟩,v)
    |none=>none
   |_=>none
  |_=>none
 | @q_.e _ _ b p ys _ off=>
  match ev l x with
  |some (.pointer (some ad))=>
   match ve tb t ys off with
   |some v=>some (ad,⟨b,p+off,none⟩,v)
   |none=>none
  |_=>none
 | @q_.z _ _ b ys _=>
  match ev l x with
  |some (.pointer (some ad))=>
   match ve tb t ys ad.off with
   |some v=>some (ad,⟨b,ad.off,none⟩,v)
   |none=>none
  |_=>none
 | .c .. =>none
def E0(tb:Tb)(l:Env)(op:Op):Option Value:=
 match Rl tb l op with
 |some v=>some v
 |none=>JU tb l op
def eZ(tb:Tb)(ops:Array Oper)(N:Nat)(L:List cV):List (q_ P g)→List Oper→Nat→Env→List Addr→List Addr→Option (List Addr×List Addr×List Oper×Env)
 |_,os,0,l,xs,ys=>some (xs,ys,os,l)
 |_,[],_+1,_,_,_=>none
 |hs,o::os,n+1,l,xs,ys=>
  match mJ ops l o.guard with
  |none=>none
  |some false=>
   match o.dst with
   |some d=>bif Nat.blt d N then eZ tb ops N L hs os n ((d,undef)::l) xs ys else none
   |none=>eZ tb ops N L hs os n l xs ys
  |some true=>
   match o.dst with
   |none=>none
   |some d=>bif Nat.blt d N then
     match o.op with
     | .load t x=>
      match hs with
      |[]=>none
      |h::hr=>
       match IA tb l L t x h with
       |some (p,q,v)=>eZ tb ops N L hr os n ((d,v)::l) (p::xs) (q::ys)
       |none=>none
     |op=>
      match E0 tb l op with
      |some v=>eZ tb ops N L hs os n ((d,v)::l) xs ys
      |none=>none
    else none
theorem sN{K:Value→World→Prop}{tb:Tb}(dn:tb.ok P){t:Nat}{x:Operand}{ys:List Value}{b off:Nat}{v:Value}(ho:o.op= .load t x)(he:EP g b 0 ys)
  (hx:ev l x=some (.pointer (some ⟨b,off,none⟩))) (hv:ve tb t ys off=some v) (k:K v g.w):cT F P N ds o l g.w Q K:=
 cp dn off (p:=0) ho he (by rw[Nat.zero_add];exact hx) hv k
theorem Bu{tb:Tb}(dn:tb.ok P)(hs:St g0 g L){t:Nat}{x:Operand}{h:q_ P g}{p:Addr}{v:Value}{K:Value→World→Prop}(ho:o.op= .load t x)(hl:IA tb l L t x h=some (p,p,v))(k:K v g.w):
  cT F P N ds o l g.w Q K:=by
 cases h with
 |o i=>
  simp only[IA]at hl
  split at hl
  ·rename_i b c E fz hi
   split at hl
   ·rename_i ad hx
    split at hl
    ·rename_i u hv
     simp only[Option.some.injEq,Prod.mk.injEq]at hl
     obtain⟨rfl,h2,rfl⟩:=hl
     have Ve:ev l x=some (.pointer (some ⟨b,ad.off,none⟩)):=by rw[hx,h2]
     exact eS dn i (cs:=c.toList) ho hs (by simpa using hi) Ve hv k
    ·cases hl
   ·cases hl
  ·cases hl
 | @e b q ys he off=>
  simp only[IA]at hl
  split at hl
  ·rename_i ad hx
   split at hl
   ·rename_i u hv
    simp only[Option.some.injEq,Prod.mk.injEq]at hl
    obtain⟨rfl,h2,rfl⟩:=hl
    exact cp dn off ho he (by rw[hx,h2]) hv k
   ·cases hl
  ·cases hl
 | @z b q he=>
  simp only[IA]at hl
  split at hl
  ·rename_i ad hx
   split at hl
   ·rename_i u hv
    simp only[Option.some.injEq,Prod.mk.injEq]at hl
    obtain⟨rfl,h2,rfl⟩:=hl
    exact sN dn ho he (off:=ad.off) (by rw[hx,h2]) hv k
   ·cases hl
  ·cases hl
 |c hc h=>simp[IA]at hl
theorem nw{tb:Tb}(dn:tb.ok P){v:Value}{K:Value→World→Prop}(h:E0 tb l o.op=some v)(k:K v w):cT F P N ds o l w Q K:=by
 unfold E0 at h
 split at h
 ·rename_i u hu
  simp only[Option.some.injEq]at h;subst h
  exact aM tb dn hu k
 ·exact Cz tb dn h k
def Pc:Op→Bool
 | .load .. =>true
 | .call {callee:=.value _,..}=>true
 |_=>false
def yP(tb:Tb)(l:Env)(L:List cV)(op:Op)(h:q_ P g):Option (Value×Value×Value):=
 match h with
 | @q_.c _ _ f aa v _ _=>
  match op with
  | .call {callee:=.value x,args,argTypes:=_}=>
   match ev l x with
   |some (.func (.func f') first cap)=>
    match rP l args.toList with
    |some vs=>some (.func (.func f') #[] (first.toList++vs++cap.toList).toArray,.func (.func f) #[] aa.toArray,v)
    |none=>none
   |_=>none
  |_=>none
 |h=>
  match op with
  | .load t x=>
   match IA tb l L t x h with
   |some (p,q,v)=>some (.pointer (some p),.pointer (some q),v)
   |none=>none
  |_=>none
def q_.mono{g':G}(h:q_ P g)(hle:g.le g'):q_ P g':=
 match h with
 | .o i=> .o i
 | .e h off=> .e (h.mono hle) off
 | .z h=> .z (h.mono hle)
 | .c hc h=> .c hc fun g2 h2=>h g2 (hle.trans h2)
theorem oY{g':G}{tb:Tb}{op:Op}(h:q_ P g)(hle:g.le g'):yP tb l L op (h.mono hle)=yP tb l L op h:=by
 cases h<;>rfl
theorem ub{tb:Tb}(dn:tb.ok P)(hA:jg F)(hs:St g0 g L){h:q_ P g}{p:Value}{v:Value}{K:Value→World→Prop}(hl:yP tb l L o.op h=some (p,p,v))(k: ∀g',aZ g g'→K v g'.w):
  cT F P N ds o l g.w Q K:=by
 have ld: ∀h:q_ P g,(match o.op with
   | .load t x=>match IA tb l L t x h with
    |some (p,q,v)=>some (Value.pointer (some p),Value.pointer (some q),v)
    |none=>none
   |_=>none)=some (p,p,v)→cT F P N ds o l g.w Q K:=by
  intro h hl
  split at hl
  ·rename_i t x ho
   split at hl
   ·rename_i p' q' v' Iy
    simp only[Option.some.injEq,Prod.mk.injEq]at hl
    obtain⟨h1,h2,rfl⟩:=hl
    rw[←h1]at h2
    obtain rfl:q'=p':=by simpa using h2
    exact Bu dn hs ho Iy (k g (aZ.refl g))
   ·cases hl
  ·cases hl
 cases h with
 |o i=>exact ld _ hl
 |e he off=>exact ld _ hl
 |z he=>exact ld _ hl
 | @c f aa v' hc nh=>
  simp only[yP]at hl
  split at hl
  ·rename_i x args ts ho
   split at hl
   ·rename_i f' first cap hx
    split at hl
    ·rename_i vs Ry
     simp only[Option.some.injEq,Prod.mk.injEq]at hl
     obtain⟨h1,h2,rfl⟩:=hl
     rw[←h1]at h2
     simp only[Value.func.injEq,Fn.func.injEq,true_and]at h2
     obtain⟨h3,h4⟩:=h2
     have h4:aa=first.toList++vs++cap.toList:=by simpa using h4
     subst h4
     subst h3
     refine ay hc hA.all hA.deep ho hx Ry rfl (CallsIn.qx hA.fn hA.deep hA.alive (nh g (G.le.refl g))) fun g' r hf hr=>?_
     subst hr
     exact k g' hf
    ·cases hl
   ·cases hl
  ·cases hl
theorem ny{tb:Tb}(dn:tb.ok P)(hF: ∀f,F.fn f)(dm:St g0 g L): ∀(n:Nat) (hs:List (q_ P g)) (os:List Oper) (l:Env) (xs ys rs ts:List Addr) (jQ:List Oper) (l':Env),
  eZ tb ops N L hs os n l xs ys=some (rs,ts,jQ,l')→ ∃zs us,rs=zs++xs∧ts=us++ys∧zs.length=us.length∧(zs=us→WL F P N ds ops Q jQ l' g.w→WL F P N ds ops Q os l g.w)
 |0,hs,os,l,xs,ys,rs,ts,jQ,l',h=>by
  simp only[eZ,Option.some.injEq,Prod.mk.injEq]at h
  obtain⟨rfl,rfl,rfl,rfl⟩:=h
  exact⟨[],[],rfl,rfl,rfl,fun _ k=>k⟩
 |n+1,hs,[],l,xs,ys,rs,ts,jQ,l',h=>by simp[eZ]at h
 |n+1,hs,o::os,l,xs,ys,rs,ts,jQ,l',h=>by
  simp only[eZ]at h
  split at h
  ·cases h
  ·rename_i hg
   split at h
   ·rename_i d hd
    cases hb:Nat.blt d N with
    |false=>simp[hb]at h
    |true=>
     simp only[hb,cond_true]at h
     obtain⟨zs,us,e1,e2,e3,k⟩:=ny dn hF dm n _ _ _ _ _ _ _ _ _ h
     refine⟨zs,us,e1,e2,e3,fun hz hk=>pW hF hg (by rw[hd];exact hb) ?_⟩
     rw[hd];exact k hz hk
   ·rename_i hd
    obtain⟨zs,us,e1,e2,e3,k⟩:=ny dn hF dm n _ _ _ _ _ _ _ _ _ h
    refine⟨zs,us,e1,e2,e3,fun hz hk=>pW hF hg (by rw[hd];rfl) ?_⟩
    rw[hd];exact k hz hk
  ·rename_i hg
   split at h
   ·cases h
   ·rename_i d hd
    cases hb:Nat.blt d N with
    |false=>simp[hb]at h
    |true=>
     simp only[hb,cond_true]at h
     split at h
     ·rename_i t x ho
      split at h
      ·cases h
      ·rename_i s hr
       split at h
       ·rename_i p q v hl
        obtain⟨zs,us,e1,e2,e3,k⟩:=ny dn hF dm n _ _ _ _ _ _ _ _ _ h
        refine⟨zs++[p],us++[q],by rw[e1];simp,by rw[e2];simp,by simp[e3],fun hz hk=>?_⟩
        obtain⟨Ru,Vf⟩:=List.append_inj hz e3
        obtain rfl:p=q:=by simpa using Vf
        refine tZ hg (by rw[hd];exact hb) (Bu dn dm ho hl ?_)
        rw[hd];exact k Ru hk
       ·cases h
     ·rename_i op WS
      split at h
      ·rename_i v hv
       obtain⟨zs,us,e1,e2,e3,k⟩:=ny dn hF dm n _ _ _ _ _ _ _ _ _ h
       refine⟨zs,us,e1,e2,e3,fun hz hk=>tZ hg (by rw[hd];exact hb) (nw dn hv ?_)⟩
       rw[hd];exact k hz hk
      ·cases h
theorem Wm[dN P][jg F](n:Nat)(ss:List (q_ P g))(hs:St g0 g L){xs:List Addr}(h:eZ (dN.tb P) ops N L ss os n l [] []=some (xs,xs,jQ,l'))(k:WL F P N ds ops Q jQ l' g.w):WL F P N ds ops Q os l g.w:=by
 obtain⟨zs,us,e1,e2,_,f⟩:=ny (F:=F) (P:=P) (ds:=ds) (Q:=Q) dN.ok jg.all hs n ss os l [] [] xs xs jQ l' h
 simp only[List.append_nil]at e1 e2
 exact f (e1.symm.trans e2) k
theorem mq{α:Type}: ∀{l:List (α×α)},l.map Prod.fst=l.map Prod.snd→ ∀p∈l,p.1=p.2
 |[],_,p,h=>by simp at h
 |x::l,e,p,h=>by
  simp only[List.map_cons,List.cons.injEq]at e
  rcases List.mem_cons.1 h with rfl|h
  ·exact e.1
  ·exact mq e.2 p h
def nz(tb:Tb)(ops:Array Oper)(N:Nat):List Oper→Nat→Env→Option (List Oper×Env)
 |os,0,l=>some (os,l)
 |[],_+1,_=>none
 |o::os,n+1,l=>
  match mJ ops l o.guard with
  |none=>none
  |some false=>
   match o.dst with
   |some d=>bif Nat.blt d N then nz tb ops N os n ((d,undef)::l)else none
   |none=>nz tb ops N os n l
  |some true=>
   match o.dst with
   |none=>none
   |some d=>bif Nat.blt d N then
     match E0 tb l o.op with
     |some v=>nz tb ops N os n ((d,v)::l)
     |none=>none
    else none
theorem pY{tb:Tb}(dn:tb.ok P)(hF: ∀f,F.fn f): ∀(n:Nat) (os:List Oper) (l:Env) (jQ:List Oper) (l':Env),
  nz tb ops N os n l=some (jQ,l')→WL F P N ds ops Q jQ l' w→WL F P N ds ops Q os l w
 |0,os,l,jQ,l',h,k=>by
  simp only[nz,Option.some.injEq,Prod.mk.injEq]at h
  obtain⟨rfl,rfl⟩:=h
  exact k
 |n+1,[],l,jQ,l',h,k=>by simp[nz]at h
 |n+1,o::os,l,jQ,l',h,k=>by
  simp only[nz]at h
  split at h
  ·cases h
  ·rename_i hg
   split at h
   ·rename_i d hd
    cases hb:Nat.blt d N with
    |false=>simp[hb]at h
    |true=>
     simp only[hb,cond_true]at h
     refine pW hF hg (by rw[hd];exact hb) ?_
     rw[hd];exact pY dn hF n _ _ _ _ h k
   ·rename_i hd
    refine pW hF hg (by rw[hd];rfl) ?_
    rw[hd];exact pY dn hF n _ _ _ _ h k
  ·rename_i hg
   split at h
   ·cases h
   ·rename_i d hd
    cases hb:Nat.blt d N with
    |false=>simp[hb]at h
    |true=>
     simp only[hb,cond_true]at h
     split at h
     ·rename_i v hv
      refine tZ hg (by rw[hd];exact hb) (nw dn hv ?_)
      rw[hd];exact pY dn hF n _ _ _ _ h k
     ·cases h
theorem Wp[dN P][jg F](n:Nat)(h:nz (dN.tb P) ops N os n l=some (jQ,l'))(k:WL F P N ds ops Q jQ l' w):WL F P N ds ops Q os l w:=
 pY dN.ok jg.all n os l jQ l' h k
variable {id:Nat} {y:Code}
theorem c_(h:WL F P N ds ops (Exit.then (y.wpIn F 0 P Q) Q) ops.toList l w):W F P N ds (.seq (.region id ops false) y) Q l w:=aB (ar h)
theorem cf(h:W F P N ds y Q' l w):WL F P N ds ops (Exit.then (y.wpIn F 0 P Q') Q) [] l w:=aD (au h)
theorem aX[dN P][jg F](h:nz (dN.tb P) ops N ops.toList ops.toList.length l=some ([],l'))(k:W F P N ds y Q l' w):W F P N ds (.seq (.region id ops false) y) Q l w:=c_ (Wp _ h (cf k))
theorem cP[dN P][jg F](n:Nat)(h:nz (dN.tb P) ops N ops.toList n l=some (jQ,l'))(k:WL F P N ds ops (Exit.then (y.wpIn F 0 P Q) Q) jQ l' w):W F P N ds (.seq (.region id ops false) y) Q l w:=c_ (Wp _ h k)
theorem ba[dN P][jg F](h:nz (dN.tb P) ops N os os.length l=some ([],l'))(k:W F P N ds y Q' l' w):WL F P N ds ops (Exit.then (y.wpIn F 0 P Q') Q) os l w:=Wp _ h (cf k)
theorem nK[dN P][jg F](ss:List (q_ P g))(hs:St g0 g L){xs:List Addr}(h:eZ (dN.tb P) ops N L ss ops.toList ops.toList.length l [] []=some (xs,xs,[],l'))(k:W F P N ds y Q l' g.w):W F P N ds (.seq (.region id ops false) y) Q l g.w:=c_ (Wm _ ss hs h (cf k))
theorem dx[dN P][jg F](n:Nat)(ss:List (q_ P g))(hs:St g0 g L){xs:List Addr}(h:eZ (dN.tb P) ops N L ss ops.toList n l [] []=some (xs,xs,jQ,l'))(k:WL F P N ds ops (Exit.then (y.wpIn F 0 P Q) Q) jQ l' g.w):W F P N ds (.seq (.region id ops false) y) Q l g.w:=c_ (Wm _ ss hs h k)
theorem A3[dN P][jg F](ss:List (q_ P g))(hs:St g0 g L){xs:List Addr}(h:eZ (dN.tb P) ops N L ss os os.length l [] []=some (xs,xs,[],l'))(k:W F P N ds y Q' l' g.w):WL F P N ds ops (Exit.then (y.wpIn F 0 P Q') Q) os l g.w:=Wm _ ss hs h (cf k)
end Go.K
namespace Go.K
open Go Go.RowKit
inductive FK where
 |e (x:Value)
 |f (φ:Fact)
def FK.fact:FK→Fact
 | .e x=>Fact.eq x
 | .f φ=>φ
abbrev fe{a:Value}(r:List FK):List FK:=.e a::r
abbrev eJ{a b:Value}(r:List FK):List FK:=.e a:: .e b::r
abbrev gE{a b c d:Value}(r:List FK):List FK:=.e a:: .e b:: .e c:: .e d::r
abbrev fj{a b c d e f g h:Value}(r:List FK):List FK:=.e a:: .e b:: .e c:: .e d:: .e e:: .e f:: .e g:: .e h::r
variable {F:Fence} {P:Program} {N:Nat} {ds:List Deferred} {l l' l0:Env} {a:Act} {w:World} {Q Q':Exit→Act→World→Prop} {ops:Array Oper} {os jQ:List Oper} {o:Oper}
variable {g0 g gd g':G} {L:List cV} {φs:List Fact} {ks:List FK}
def J2(ks:List FK)(kv:List (Nat×Value))(j:Nat):Option Value:=
 match lk kv j with
 |some v=>some v
 |none=>
  match ks[j]? with
  |some (.e x)=>some x
  |_=>none
def CD(ks:List FK)(kv:List (Nat×Value)):List (Nat×Nat)→Env→Option Env
 |[],l=>some l
 |(j,d)::r,l=>
  match J2 ks kv j with
  |some v=>CD ks kv r ((d,v)::l)
  |none=>none
def S6(ops:Array Oper)(js:List Nat):List (Nat×Nat):=js.filterMap fun j=>(dH ops j).map (j,·)
def gW(ops:Array Oper):List Oper→List (List Nat)→Bool
 |o::os,js::kG=>eQ ops o==S6 ops js&&gW ops os kG
 |_,[]=>true
 |_,_=>false
def dG(tb:Tb)(ops:Array Oper)(ks:List FK)(l0:Env)(L:List cV):List (List Nat)→List (q_ P g)→Nat→List Oper→List (Nat×Value)→List (Value×Value)→Option (List (Value×Value)×List Oper×Nat)
 |[],_,i,os,_,us=>some (us,os,i)
 |_::_,_,_,[],_,_=>none
 |js::kG,hs,i,o::os,kv,us=>
  match CD ks kv (S6 ops js) l0 with
  |none=>none
  |some env=>
   match ks[i]? with
   |some (.e x)=>
    match mJ ops env o.guard with
    |none=>none
    |some false=>dG tb ops ks l0 L kG hs (i+1) os ((i,undef)::kv) ((x,undef)::us)
    |some true=>
     bif Pc o.op then
      match hs with
      |[]=>none
      |h::hr=>
       match yP tb env L o.op h with
       |some (p,q,v)=>dG tb ops ks l0 L kG hr (i+1) os ((i,v)::kv) ((p,q)::(x,v)::us)
       |none=>none
     else
      match E0 tb env o.op with
      |some v=>dG tb ops ks l0 L kG hs (i+1) os ((i,v)::kv) ((x,v)::us)
      |none=>none
   |_=>none
theorem sA(j:Nat){x:Value}(h:ks[j]? =some (.e x)):gP (ks.map FK.fact) j=Fact.eq x:=by
 unfold gP
 rw[List.getD_eq_getElem?_getD,List.getElem?_map,h];rfl
theorem G'{kv:List (Nat×Value)}(Pd: ∀j v,lk kv j=some v→gP (ks.map FK.fact) j=Fact.eq v){j:Nat}{v:Value}(h:J2 ks kv j=some v):gP (ks.map FK.fact) j=Fact.eq v:=by
 unfold J2 at h
 split at h
 ·rename_i u hu
  simp only[Option.some.injEq]at h;subst h
  exact Pd _ _ hu
 ·split at h
  ·rename_i x hx
   simp only[Option.some.injEq]at h;subst h
   exact sA _ hx
  ·cases h
theorem pZ{kv:List (Nat×Value)}(Pd: ∀j v,lk kv j=some v→gP (ks.map FK.fact) j=Fact.eq v){k:Env→Prop}: ∀(r:List (Nat×Nat)) (l env:Env),CD ks kv r l=some env→k env→QA (ks.map FK.fact) g r l k
 |[],l,env,h,hk=>by
  simp only[CD,Option.some.injEq]at h;subst h;exact hk
 |(j,d)::r,l,env,h,hk=>by
  simp only[CD]at h
  split at h
  ·rename_i v hv
   intro u hu
   rw[G' Pd hv]at hu
   obtain rfl:u=v:=hu
   exact pZ Pd r _ _ h hk
  ·cases h
theorem p9{tb:Tb}(dn:tb.ok P)(hA:jg F)(dm:St g0 g L): ∀(kG:List (List Nat)) (hs:List (q_ P g)) (i:Nat) (os:List Oper) (kv:List (Nat×Value)) (us ts:List (Value×Value)) (jQ:List Oper) (i':Nat),
  dG tb ops ks l0 L kG hs i os kv us=some (ts,jQ,i')→gW ops os kG=true→
  (∀p∈us,p∈ts)∧((∀p∈ts,p.1=p.2)→(∀j v,lk kv j=some v→gP (ks.map FK.fact) j=Fact.eq v)→gB F P N ds ops Q (ks.map FK.fact) l0 g.dr i' jQ→gB F P N ds ops Q (ks.map FK.fact) l0 g.dr i os)
 |[],hs,i,os,kv,us,ts,jQ,i',h,_=>by
  simp only[dG,Option.some.injEq,Prod.mk.injEq]at h
  obtain⟨rfl,rfl,rfl⟩:=h
  exact⟨fun _ h=>h,fun _ _ k=>k⟩
 |_::_,hs,i,[],kv,us,ts,jQ,i',h,_=>by simp[dG]at h
 |js::kG,hs,i,o::os,kv,us,ts,jQ,i',h,hn=>by
  simp only[gW,Bool.and_eq_true,beq_iff_eq]at hn
  obtain⟨C1,C3⟩:=hn
  simp only[dG]at h
  split at h
  ·cases h
  ·rename_i env hZ
   split at h
   ·rename_i x hx
    have su:=sA i hx
    have ud: ∀{v:Value},x=v→(∀j v,lk kv j=some v→gP (ks.map FK.fact) j=Fact.eq v)→ ∀j u,lk ((i,v)::kv) j=some u→gP (ks.map FK.fact) j=Fact.eq u:=by
     rintro v rfl hk j u hu
     by_cases e:i=j
     ·subst e;rw[cK]at hu;obtain rfl:=Option.some.inj hu;exact su
     ·rw[bZ _ _ e]at hu;exact hk j u hu
    have one: ∀{v:Value},x=v→(∀j v,lk kv j=some v→gP (ks.map FK.fact) j=Fact.eq v)→(∀g',aZ g.dr g'→DK F P N ds ops Q (Fact.eq v) g' o env)→vF F P N ds ops Q (ks.map FK.fact) l0 g.dr i o:=by
     rintro v rfl hk hd
     refine JM fun g' hf=>?_
     rw[C1]
     refine pZ hk _ _ _ hZ ?_
     rw[su]
     exact hd g' hf
    split at h
    ·cases h
    ·rename_i hg
     obtain⟨m2,k⟩:=p9 dn hA dm _ _ _ _ _ _ _ _ _ h C3
     refine⟨fun p hp=>m2 p (List.mem_cons_of_mem _ hp),fun e2 hk hr=>?_⟩
     have he:x=undef:=e2 _ (m2 _ (List.mem_cons_self ..))
     exact⟨one he hk fun g' hf=>qX hg rfl,k e2 (ud he hk) hr⟩
    ·rename_i hg
     cases hh:Pc o.op with
     |true=>
      simp only[hh,cond_true]at h
      split at h
      ·cases h
      ·rename_i s hr
       split at h
       ·rename_i p q v hl
        obtain⟨m2,k⟩:=p9 dn hA dm _ _ _ _ _ _ _ _ _ h C3
        refine⟨fun p hp=>m2 p (List.mem_cons_of_mem _ (List.mem_cons_of_mem _ hp)),fun e2 hk hr=>?_⟩
        have he:x=v:=e2 _ (m2 _ (List.mem_cons_of_mem _ (List.mem_cons_self ..)))
        obtain rfl:p=q:=e2 _ (m2 _ (List.mem_cons_self ..))
        refine⟨one he hk fun g' hf=>az hg ?_,k e2 (ud he hk) hr⟩
        exact ub dn hA (dm.dr.call hf) ((oY s ((G.bJ _).trans hf.le)).trans hl) fun g2 wF=>⟨g2,rfl,wF,rfl⟩
       ·cases h
     |false=>
      simp only[hh,cond_false]at h
      split at h
      ·rename_i v hv
       obtain⟨m2,k⟩:=p9 dn hA dm _ _ _ _ _ _ _ _ _ h C3
       refine⟨fun p hp=>m2 p (List.mem_cons_of_mem _ hp),fun e2 hk hr=>?_⟩
       have he:x=v:=e2 _ (m2 _ (List.mem_cons_self ..))
       exact⟨one he hk fun g' hf=>az hg (nw dn hv ⟨g',rfl,aZ.refl g',rfl⟩),k e2 (ud he hk) hr⟩
      ·cases h
   ·cases h
def mr(tb:Tb)(ops:Array Oper)(ks:List FK)(l0:Env)(L:List cV)(kG:List (List Nat))(ss:List (q_ P g))(i:Nat)(os:List Oper):Option (List Value×List Value×List Oper×Nat):=
 match dG tb ops ks l0 L kG ss i os [] []with
 |some (ts,jQ,i')=>some (ts.map Prod.fst,ts.map Prod.snd,jQ,i')
 |none=>none
theorem Dm[dN P][hA:jg F]{i i':Nat}{A:List Value}(kG:List (List Nat))(ss:List (q_ P g))(hs:St g0 g L)(hn:gW ops os kG=true)(h:mr (dN.tb P) ops ks l0 L kG ss i os=some (A,A,jQ,i'))
  (k:gB F P N ds ops Q (ks.map FK.fact) l0 g.dr i' jQ):gB F P N ds ops Q (ks.map FK.fact) l0 g.dr i os:=by
 unfold mr at h
 split at h
 ·rename_i ts S7 i2 h2
  simp only[Option.some.injEq,Prod.mk.injEq]at h
  obtain⟨rfl,e2,rfl,rfl⟩:=h
  exact(p9 dN.ok hA hs kG ss i os [] [] _ _ _ h2 hn).2 (mq e2.symm) (fun j v hv=>by simp[lk]at hv) k
 ·cases h
theorem Dz[dN P][jg F]{i i':Nat}{A:List Value}(kG:List (List Nat))(ss:List (q_ P g))(hs:St g0 g L)(hn:gW ops os kG=true)(h:mr (dN.tb P) ops ks l0 L kG ss i os=some (A,A,[],i')):
  gB F P N ds ops Q (ks.map FK.fact) l0 g.dr i os:=Dm kG ss hs hn h trivial
theorem Dx[dN P][jg F]{i i':Nat}{A:List Value}(kG:List (List Nat))(hn:gW ops os kG=true)(h:mr (P:=P) (g:=g) (dN.tb P) ops ks l0 [] kG [] i os=some (A,A,jQ,i'))
  (k:gB F P N ds ops Q (ks.map FK.fact) l0 g.dr i' jQ):gB F P N ds ops Q (ks.map FK.fact) l0 g.dr i os:=Dm kG [] (St.start g) hn h k
theorem Dy[dN P][jg F]{i i':Nat}{A:List Value}(kG:List (List Nat))(hn:gW ops os kG=true)(h:mr (P:=P) (g:=g) (dN.tb P) ops ks l0 [] kG [] i os=some (A,A,[],i')):
  gB F P N ds ops Q (ks.map FK.fact) l0 g.dr i os:=Dx kG hn h trivial
variable {id:Nat} {y:Code}
theorem ed[dN P][jg F](ks:List FK)(m:Nat)(outs:List (Nat×Nat))(lH:(qY N ops l0 m&&outs.all (fun p=>Nat.blt p.1 m&&(dH ops p.1==some p.2)))=true)
  (iJ:gB F P N ds ops Q (ks.map FK.fact) l0 g.dr 0 (ops.toList.take m))
  (jT: ∀g',aZ g.dr g'→QA (ks.map FK.fact) g' outs l0 fun env=>WL F P N ds ops Q (ops.toList.drop m) env g'.w):W F P N ds (.region id ops true) Q l0 g.w:=by
 rw[Bool.and_eq_true]at lH
 exact J3 jg.all dN.mixed (ks.map FK.fact) m outs lH.1 lH.2 iJ jT
theorem bO[dN P][jg F](hs:St g0 g L)(ks:List FK)(m:Nat)(outs:List (Nat×Nat))(lH:(qY N ops l0 m&&outs.all (fun p=>Nat.blt p.1 m&&(dH ops p.1==some p.2)))=true){env:Env}(he:CD ks [] outs l0=some env)
  (iJ:gB F P N ds ops Q (ks.map FK.fact) l0 g.dr 0 (ops.toList.take m))
  (jT: ∀g',St g0 g' L→g.le g'→WL F P N ds ops Q (ops.toList.drop m) env g'.w):W F P N ds (.region id ops true) Q l0 g.w:=
 ed ks m outs lH iJ fun g' hf=>pZ (fun j v hv=>by simp[lk]at hv) _ _ _ he (jT g' (hs.dr.call hf) ((G.bJ _).trans hf.le))
end Go.K
namespace Go.Proofs.YtebobfdheanknaaGreatDoor
open Go Go.K
theorem aI(f:FuncId):Wd.fn f:=trivial
instance:dN Tryz.prog:=⟨T,T.ok,by kernel_rfl⟩
theorem Ps:ag Tryz.prog 10:=by unfold ag;rw[Tryz.func10];kernel_rfl
theorem Pt:ag Tryz.prog 11:=by unfold ag;rw[Tryz.func11];kernel_rfl
theorem Pv:ag Tryz.prog 13:=by unfold ag;rw[Tryz.func13];kernel_rfl
theorem Dc:ag Tryz.prog 15:=by unfold ag;rw[Tryz.func15];kernel_rfl
theorem Px:ag Tryz.prog 16:=by unfold ag;rw[Tryz.func16];kernel_rfl
theorem Pz:ag Tryz.prog 19:=by unfold ag;rw[Tryz.func19];kernel_rfl
theorem IN:ag Tryz.prog 21:=by unfold ag;rw[Tryz.func21];kernel_rfl
theorem UU:ag Tryz.prog 23:=by unfold ag;rw[Tryz.func23];kernel_rfl
theorem IP:ag Tryz.prog 26:=by unfold ag;rw[Tryz.func26];kernel_rfl
theorem KR:ag Tryz.prog 27:=by unfold ag;rw[Tryz.func27];kernel_rfl
theorem KS:ag Tryz.prog 28:=by unfold ag;rw[Tryz.func28];kernel_rfl
theorem KT:ag Tryz.prog 29:=by unfold ag;rw[Tryz.func29];kernel_rfl
theorem Yv:ag Tryz.prog 30:=by unfold ag;rw[Tryz.func30];kernel_rfl
theorem KV:ag Tryz.prog 31:=by unfold ag;rw[Tryz.func31];kernel_rfl
theorem KW:ag Tryz.prog 32:=by unfold ag;rw[Tryz.func32];kernel_rfl
theorem Uu:ag Tryz.prog 33:=by unfold ag;rw[Tryz.func33];kernel_rfl
theorem PB:ag Tryz.prog 34:=by unfold ag;rw[Tryz.func34];kernel_rfl
theorem PC:ag Tryz.prog 36:=by unfold ag;rw[Tryz.func36];kernel_rfl
theorem PD:ag Tryz.prog 37:=by unfold ag;rw[Tryz.func37];kernel_rfl
theorem IQ:ag Tryz.prog 40:=by unfold ag;rw[Tryz.func40];kernel_rfl
theorem PG:ag Tryz.prog 41:=by unfold ag;rw[Tryz.func41];kernel_rfl
theorem PH:ag Tryz.prog 42:=by unfold ag;rw[Tryz.func42];kernel_rfl
theorem PI:ag Tryz.prog 43:=by unfold ag;rw[Tryz.func43];kernel_rfl
theorem KX:ag Tryz.prog 44:=by unfold ag;rw[Tryz.func44];kernel_rfl
theorem KY:ag Tryz.prog 45:=by unfold ag;rw[Tryz.func45];kernel_rfl
theorem IS:ag Tryz.prog 46:=by unfold ag;rw[Tryz.func46];kernel_rfl
theorem PJ:ag Tryz.prog 47:=by unfold ag;rw[Tryz.func47];kernel_rfl
theorem IT:ag Tryz.prog 48:=by unfold ag;rw[Tryz.func48];kernel_rfl
theorem IU:ag Tryz.prog 49:=by unfold ag;rw[Tryz.func49];kernel_rfl
theorem SI:ag Tryz.prog 50:=by unfold ag;rw[Tryz.func50];kernel_rfl
theorem IV:ag Tryz.prog 55:=by unfold ag;rw[Tryz.func55];kernel_rfl
theorem KZ:ag Tryz.prog 57:=by unfold ag;rw[Tryz.func57];kernel_rfl
theorem K0:ag Tryz.prog 58:=by unfold ag;rw[Tryz.func58];kernel_rfl
theorem wj:ag Tryz.prog 60:=by unfold ag;rw[Tryz.func60];kernel_rfl
theorem K1:ag Tryz.prog 61:=by unfold ag;rw[Tryz.func61];kernel_rfl
theorem PL:ag Tryz.prog 62:=by unfold ag;rw[Tryz.func62];kernel_rfl
theorem IW:ag Tryz.prog 63:=by unfold ag;rw[Tryz.func63];kernel_rfl
theorem K2:ag Tryz.prog 64:=by unfold ag;rw[Tryz.func64];kernel_rfl
theorem PM:ag Tryz.prog 65:=by unfold ag;rw[Tryz.func65];kernel_rfl
theorem K3:ag Tryz.prog 66:=by unfold ag;rw[Tryz.func66];kernel_rfl
theorem K4:ag Tryz.prog 67:=by unfold ag;rw[Tryz.func67];kernel_rfl
theorem PN:ag Tryz.prog 68:=by unfold ag;rw[Tryz.func68];kernel_rfl
theorem IX:ag Tryz.prog 69:=by unfold ag;rw[Tryz.func69];kernel_rfl
theorem PO:ag Tryz.prog 70:=by unfold ag;rw[Tryz.func70];kernel_rfl
theorem PQ:ag Tryz.prog 71:=by unfold ag;rw[Tryz.func71];kernel_rfl
theorem PR:ag Tryz.prog 72:=by unfold ag;rw[Tryz.func72];kernel_rfl
theorem PS:ag Tryz.prog 73:=by unfold ag;rw[Tryz.func73];kernel_rfl
theorem PT:ag Tryz.prog 74:=by unfold ag;rw[Tryz.func74];kernel_rfl
theorem PU:ag Tryz.prog 75:=by unfold ag;rw[Tryz.func75];kernel_rfl
theorem PV:ag Tryz.prog 76:=by unfold ag;rw[Tryz.func76];kernel_rfl
theorem oy:ag Tryz.prog 79:=by unfold ag;rw[Tryz.func79];kernel_rfl
theorem F3:ag Tryz.prog 80:=by unfold ag;rw[Tryz.func80];kernel_rfl
theorem PW:ag Tryz.prog 81:=by unfold ag;rw[Tryz.func81];kernel_rfl
theorem qy:ag Tryz.prog 82:=by unfold ag;rw[Tryz.func82];kernel_rfl
theorem PX:ag Tryz.prog 83:=by unfold ag;rw[Tryz.func83];kernel_rfl
theorem PY:ag Tryz.prog 84:=by unfold ag;rw[Tryz.func84];kernel_rfl
theorem K5:ag Tryz.prog 86:=by unfold ag;rw[Tryz.func86];kernel_rfl
theorem IY:ag Tryz.prog 87:=by unfold ag;rw[Tryz.func87];kernel_rfl
theorem K6:ag Tryz.prog 88:=by unfold ag;rw[Tryz.func88];kernel_rfl
theorem K7:ag Tryz.prog 89:=by unfold ag;rw[Tryz.func89];kernel_rfl
theorem IZ:ag Tryz.prog 90:=by unfold ag;rw[Tryz.func90];kernel_rfl
theorem I0:ag Tryz.prog 91:=by unfold ag;rw[Tryz.func91];kernel_rfl
theorem K8:ag Tryz.prog 92:=by unfold ag;rw[Tryz.func92];kernel_rfl
theorem P1:ag Tryz.prog 93:=by unfold ag;rw[Tryz.func93];kernel_rfl
theorem P2:ag Tryz.prog 94:=by unfold ag;rw[Tryz.func94];kernel_rfl
theorem zv:ag Tryz.prog 95:=by unfold ag;rw[Tryz.func95];kernel_rfl
theorem P3:ag Tryz.prog 96:=by unfold ag;rw[Tryz.func96];kernel_rfl
theorem P4:ag Tryz.prog 97:=by unfold ag;rw[Tryz.func97];kernel_rfl
theorem P5:ag Tryz.prog 98:=by unfold ag;rw[Tryz.func98];kernel_rfl
theorem P6:ag Tryz.prog 99:=by unfold ag;rw[Tryz.func99];kernel_rfl
theorem K9:ag Tryz.prog 100:=by unfold ag;rw[Tryz.func100];kernel_rfl
theorem K_:ag Tryz.prog 101:=by unfold ag;rw[Tryz.func101];kernel_rfl
theorem K':ag Tryz.prog 102:=by unfold ag;rw[Tryz.func102];kernel_rfl
theorem La:ag Tryz.prog 103:=by unfold ag;rw[Tryz.func103];kernel_rfl
theorem Lb:ag Tryz.prog 104:=by unfold ag;rw[Tryz.func104];kernel_rfl
theorem Lc:ag Tryz.prog 105:=by unfold ag;rw[Tryz.func105];kernel_rfl
theorem Ld:ag Tryz.prog 106:=by unfold ag;rw[Tryz.func106];kernel_rfl
theorem Le:ag Tryz.prog 107:=by unfold ag;rw[Tryz.func107];kernel_rfl
theorem Lf:ag Tryz.prog 108:=by unfold ag;rw[Tryz.func108];kernel_rfl
theorem Lg:ag Tryz.prog 109:=by unfold ag;rw[Tryz.func109];kernel_rfl
theorem Lh:ag Tryz.prog 110:=by unfold ag;rw[Tryz.func110];kernel_rfl
theorem Li:ag Tryz.prog 111:=by unfold ag;rw[Tryz.func111];kernel_rfl
theorem HB:ag Tryz.prog 112:=by unfold ag;rw[Tryz.func112];kernel_rfl
theorem AP:ag Tryz.prog 113:=by unfold ag;rw[Tryz.func113];kernel_rfl
theorem Lj:ag Tryz.prog 114:=by unfold ag;rw[Tryz.func114];kernel_rfl
theorem Dd:ag Tryz.prog 115:=by unfold ag;rw[Tryz.func115];kernel_rfl
theorem HC:ag Tryz.prog 116:=by unfold ag;rw[Tryz.func116];kernel_rfl
theorem Lk:ag Tryz.prog 117:=by unfold ag;rw[Tryz.func117];kernel_rfl
theorem Ll:ag Tryz.prog 118:=by unfold ag;rw[Tryz.func118];kernel_rfl
theorem Wv:ag Tryz.prog 127:=by unfold ag;rw[Tryz.func127];kernel_rfl
theorem Lp:ag Tryz.prog 128:=by unfold ag;rw[Tryz.func128];kernel_rfl
theorem Lt:ag Tryz.prog 129:=by unfold ag;rw[Tryz.func129];kernel_rfl
theorem De:ag Tryz.prog 130:=by unfold ag;rw[Tryz.func130];kernel_rfl
theorem HD:ag Tryz.prog 131:=by unfold ag;rw[Tryz.func131];kernel_rfl
theorem Lu:ag Tryz.prog 132:=by unfold ag;rw[Tryz.func132];kernel_rfl
theorem vb:ag Tryz.prog 139:=by unfold ag;rw[Tryz.func139];kernel_rfl
theorem Lv:ag Tryz.prog 140:=by unfold ag;rw[Tryz.func140];kernel_rfl
theorem Lx:ag Tryz.prog 141:=by unfold ag;rw[Tryz.func141];kernel_rfl
theorem Ly:ag Tryz.prog 142:=by unfold ag;rw[Tryz.func142];kernel_rfl
theorem HE:ag Tryz.prog 143:=by unfold ag;rw[Tryz.func143];kernel_rfl
theorem pd:ag Tryz.prog 144:=by unfold ag;rw[Tryz.func144];kernel_rfl
theorem Lz:ag Tryz.prog 145:=by unfold ag;rw[Tryz.func145];kernel_rfl
theorem LA:ag Tryz.prog 146:=by unfold ag;rw[Tryz.func146];kernel_rfl
theorem HF:ag Tryz.prog 147:=by unfold ag;rw[Tryz.func147];kernel_rfl
theorem sJ:ag Tryz.prog 148:=by unfold ag;rw[Tryz.func148];kernel_rfl
theorem Df:ag Tryz.prog 149:=by unfold ag;rw[Tryz.func149];kernel_rfl
theorem LB:ag Tryz.prog 150:=by unfold ag;rw[Tryz.func150];kernel_rfl
theorem LC:ag Tryz.prog 151:=by unfold ag;rw[Tryz.func151];kernel_rfl
theorem LD:ag Tryz.prog 152:=by unfold ag;rw[Tryz.func152];kernel_rfl
theorem LF:ag Tryz.prog 153:=by unfold ag;rw[Tryz.func153];kernel_rfl
theorem HG:ag Tryz.prog 154:=by unfold ag;rw[Tryz.func154];kernel_rfl
theorem LG:ag Tryz.prog 155:=by unfold ag;rw[Tryz.func155];kernel_rfl
theorem LH:ag Tryz.prog 156:=by unfold ag;rw[Tryz.func156];kernel_rfl
theorem LI:ag Tryz.prog 157:=by unfold ag;rw[Tryz.func157];kernel_rfl
theorem HH:ag Tryz.prog 158:=by unfold ag;rw[Tryz.func158];kernel_rfl
theorem LJ:ag Tryz.prog 159:=by unfold ag;rw[Tryz.func159];kernel_rfl
theorem LK:ag Tryz.prog 160:=by unfold ag;rw[Tryz.func160];kernel_rfl
theorem LL:ag Tryz.prog 161:=by unfold ag;rw[Tryz.func161];kernel_rfl
theorem LM:ag Tryz.prog 162:=by unfold ag;rw[Tryz.func162];kernel_rfl
theorem mQ:ag Tryz.prog 163:=by unfold ag;rw[Tryz.func163];kernel_rfl
theorem LN:ag Tryz.prog 164:=by unfold ag;rw[Tryz.func164];kernel_rfl
theorem AQ:ag Tryz.prog 165:=by unfold ag;rw[Tryz.func165];kernel_rfl
theorem HI:ag Tryz.prog 166:=by unfold ag;rw[Tryz.func166];kernel_rfl
theorem HJ:ag Tryz.prog 167:=by unfold ag;rw[Tryz.func167];kernel_rfl
theorem HK:ag Tryz.prog 168:=by unfold ag;rw[Tryz.func168];kernel_rfl
theorem LO:ag Tryz.prog 169:=by unfold ag;rw[Tryz.func169];kernel_rfl
theorem jV:ag Tryz.prog 170:=by unfold ag;rw[Tryz.func170];kernel_rfl
theorem LP:ag Tryz.prog 171:=by unfold ag;rw[Tryz.func171];kernel_rfl
theorem LQ:ag Tryz.prog 172:=by unfold ag;rw[Tryz.func172];kernel_rfl
theorem LR:ag Tryz.prog 173:=by unfold ag;rw[Tryz.func173];kernel_rfl
theorem LS:ag Tryz.prog 174:=by unfold ag;rw[Tryz.func174];kernel_rfl
theorem LU:ag Tryz.prog 175:=by unfold ag;rw[Tryz.func175];kernel_rfl
theorem LV:ag Tryz.prog 176:=by unfold ag;rw[Tryz.func176];kernel_rfl
theorem LW:ag Tryz.prog 177:=by unfold ag;rw[Tryz.func177];kernel_rfl
theorem LX:ag Tryz.prog 178:=by unfold ag;rw[Tryz.func178];kernel_rfl
theorem LY:ag Tryz.prog 179:=by unfold ag;rw[Tryz.func179];kernel_rfl
theorem LZ:ag Tryz.prog 180:=by unfold ag;rw[Tryz.func180];kernel_rfl
theorem L0:ag Tryz.prog 181:=by unfold ag;rw[Tryz.func181];kernel_rfl
theorem sK:ag Tryz.prog 182:=by unfold ag;rw[Tryz.func182];kernel_rfl
theorem AR:ag Tryz.prog 183:=by unfold ag;rw[Tryz.func183];kernel_rfl
theorem AS:ag Tryz.prog 184:=by unfold ag;rw[Tryz.func184];kernel_rfl
theorem L1:ag Tryz.prog 185:=by unfold ag;rw[Tryz.func185];kernel_rfl
theorem pf:ag Tryz.prog 186:=by unfold ag;rw[Tryz.func186];kernel_rfl
theorem HL:ag Tryz.prog 187:=by unfold ag;rw[Tryz.func187];kernel_rfl
theorem L3:ag Tryz.prog 188:=by unfold ag;rw[Tryz.func188];kernel_rfl
theorem L4:ag Tryz.prog 189:=by unfold ag;rw[Tryz.func189];kernel_rfl
theorem L5:ag Tryz.prog 190:=by unfold ag;rw[Tryz.func190];kernel_rfl
theorem L6:ag Tryz.prog 191:=by unfold ag;rw[Tryz.func191];kernel_rfl
theorem L8:ag Tryz.prog 193:=by unfold ag;rw[Tryz.func193];kernel_rfl
theorem HM:ag Tryz.prog 194:=by unfold ag;rw[Tryz.func194];kernel_rfl
theorem L9:ag Tryz.prog 195:=by unfold ag;rw[Tryz.func195];kernel_rfl
theorem L_:ag Tryz.prog 196:=by unfold ag;rw[Tryz.func196];kernel_rfl
theorem Ma:ag Tryz.prog 197:=by unfold ag;rw[Tryz.func197];kernel_rfl
theorem Mb:ag Tryz.prog 198:=by unfold ag;rw[Tryz.func198];kernel_rfl
theorem Mc:ag Tryz.prog 199:=by unfold ag;rw[Tryz.func199];kernel_rfl
theorem Md:ag Tryz.prog 200:=by unfold ag;rw[Tryz.func200];kernel_rfl
theorem Me:ag Tryz.prog 201:=by unfold ag;rw[Tryz.func201];kernel_rfl
theorem Mf:ag Tryz.prog 202:=by unfold ag;rw[Tryz.func202];kernel_rfl
theorem Mg:ag Tryz.prog 203:=by unfold ag;rw[Tryz.func203];kernel_rfl
theorem Mh:ag Tryz.prog 204:=by unfold ag;rw[Tryz.func204];kernel_rfl
theorem Mi:ag Tryz.prog 205:=by unfold ag;rw[Tryz.func205];kernel_rfl
theorem Dg:ag Tryz.prog 206:=by unfold ag;rw[Tryz.func206];kernel_rfl
theorem Mj:ag Tryz.prog 207:=by unfold ag;rw[Tryz.func207];kernel_rfl
theorem Mk:ag Tryz.prog 208:=by unfold ag;rw[Tryz.func208];kernel_rfl
theorem Ml:ag Tryz.prog 209:=by unfold ag;rw[Tryz.func209];kernel_rfl
theorem Mm:ag Tryz.prog 210:=by unfold ag;rw[Tryz.func210];kernel_rfl
theorem Mo:ag Tryz.prog 211:=by unfold ag;rw[Tryz.func211];kernel_rfl
theorem AT:ag Tryz.prog 239:=by unfold ag;rw[Tryz.func239];kernel_rfl
theorem fh:ag Tryz.prog 240:=by unfold ag;rw[Tryz.func240];kernel_rfl
theorem HN:ag Tryz.prog 241:=by unfold ag;rw[Tryz.func241];kernel_rfl
theorem HO:ag Tryz.prog 242:=by unfold ag;rw[Tryz.func242];kernel_rfl
theorem pg:ag Tryz.prog 243:=by unfold ag;rw[Tryz.func243];kernel_rfl
theorem HP:ag Tryz.prog 244:=by unfold ag;rw[Tryz.func244];kernel_rfl
theorem Mp:ag Tryz.prog 245:=by unfold ag;rw[Tryz.func245];kernel_rfl
theorem HQ:ag Tryz.prog 246:=by unfold ag;rw[Tryz.func246];kernel_rfl
theorem Mq:ag Tryz.prog 247:=by unfold ag;rw[Tryz.func247];kernel_rfl
theorem Mr:ag Tryz.prog 248:=by unfold ag;rw[Tryz.func248];kernel_rfl
theorem HR:ag Tryz.prog 249:=by unfold ag;rw[Tryz.func249];kernel_rfl
theorem Ms:ag Tryz.prog 250:=by unfold ag;rw[Tryz.func250];kernel_rfl
theorem Mt:ag Tryz.prog 251:=by unfold ag;rw[Tryz.func251];kernel_rfl
theorem Mu:ag Tryz.prog 252:=by unfold ag;rw[Tryz.func252];kernel_rfl
theorem Mv:ag Tryz.prog 253:=by unfold ag;rw[Tryz.func253];kernel_rfl
theorem Mw:ag Tryz.prog 254:=by unfold ag;rw[Tryz.func254];kernel_rfl
theorem Mx:ag Tryz.prog 255:=by unfold ag;rw[Tryz.func255];kernel_rfl
theorem HS:ag Tryz.prog 256:=by unfold ag;rw[Tryz.func256];kernel_rfl
theorem My:ag Tryz.prog 257:=by unfold ag;rw[Tryz.func257];kernel_rfl
theorem Mz:ag Tryz.prog 258:=by unfold ag;rw[Tryz.func258];kernel_rfl
theorem MA:ag Tryz.prog 259:=by unfold ag;rw[Tryz.func259];kernel_rfl
theorem MB:ag Tryz.prog 260:=by unfold ag;rw[Tryz.func260];kernel_rfl
theorem MC:ag Tryz.prog 262:=by unfold ag;rw[Tryz.func262];kernel_rfl
theorem MD:ag Tryz.prog 263:=by unfold ag;rw[Tryz.func263];kernel_rfl
theorem ME:ag Tryz.prog 264:=by unfold ag;rw[Tryz.func264];kernel_rfl
theorem MF:ag Tryz.prog 265:=by unfold ag;rw[Tryz.func265];kernel_rfl
theorem MG:ag Tryz.prog 285:=by unfold ag;rw[Tryz.func285];kernel_rfl
theorem MH:ag Tryz.prog 287:=by unfold ag;rw[Tryz.func287];kernel_rfl
theorem MI:ag Tryz.prog 288:=by unfold ag;rw[Tryz.func288];kernel_rfl
theorem MJ:ag Tryz.prog 289:=by unfold ag;rw[Tryz.func289];kernel_rfl
theorem MK:ag Tryz.prog 291:=by unfold ag;rw[Tryz.func291];kernel_rfl
theorem ML:ag Tryz.prog 292:=by unfold ag;rw[Tryz.func292];kernel_rfl
theorem MM:ag Tryz.prog 293:=by unfold ag;rw[Tryz.func293];kernel_rfl
theorem MN:ag Tryz.prog 304:=by unfold ag;rw[Tryz.func304];kernel_rfl
theorem MO:ag Tryz.prog 305:=by unfold ag;rw[Tryz.func305];kernel_rfl
theorem MQ:ag Tryz.prog 317:=by unfold ag;rw[Tryz.func317];kernel_rfl
end Go.Proofs.YtebobfdheanknaaGreatDoor
namespace Go.K
open Go
class Mn(p:Prop)(g g':G)(q:outParam Prop):Prop where
 mn:g.le g'→p→q
variable {g g':G} {A B C D E F A' B' C' D' E' F':Prop}
instance{α:Type}[El α]{v:Value}{xs:List α}:Mn (Rs g v xs) g g' (Rs g' v xs):=⟨fun h a=>a.mono h⟩
instance{α:Type}[El α]{cs:List Value}{xs:List α}:Mn (cO g cs xs) g g' (cO g' cs xs):=⟨fun h a=>a.mono h⟩
instance{b o:Nat}{ys:List Value}:Mn (EP g b o ys) g g' (EP g' b o ys):=⟨fun h a=>a.mono h⟩
instance{g0:G}:Mn (G.le g0 g) g g' (G.le g0 g'):=⟨fun h a=>a.trans h⟩
theorem cC[Mn A g g' A'][Mn B g g' B'](h:g.le g')(a:A)(b:B):A'∧B':=⟨Mn.mn h a,Mn.mn h b⟩
theorem ef[Mn A g g' A'][Mn B g g' B'][Mn C g g' C'](h:g.le g')(a:A)(b:B)(c:C):A'∧B'∧C':=⟨Mn.mn h a,cC h b c⟩
theorem dE[Mn A g g' A'][Mn B g g' B'][Mn C g g' C'][Mn D g g' D'](h:g.le g')(a:A)(b:B)(c:C)(d:D):A'∧B'∧C'∧D':=⟨Mn.mn h a,ef h b c d⟩
theorem kN[Mn A g g' A'][Mn B g g' B'][Mn C g g' C'][Mn D g g' D'][Mn E g g' E'](h:g.le g')(a:A)(b:B)(c:C)(d:D)(e:E):A'∧B'∧C'∧D'∧E':=⟨Mn.mn h a,dE h b c d e⟩
theorem iu[Mn A g g' A'][Mn B g g' B'][Mn C g g' C'][Mn D g g' D'][Mn E g g' E'][Mn F g g' F'](h:g.le g')(a:A)(b:B)(c:C)(d:D)(e:E)(f:F):A'∧B'∧C'∧D'∧E'∧F':=⟨Mn.mn h a,kN h b c d e f⟩
end Go.K
namespace Go.Proofs.YtebobfdheanknaaGreatDoor
structure Step where
 dD:Int
 dB:List Int
 min:Int
 max:Int
 next:List Int
 back:Int
 dF:Int
structure cj where
 src:Int
 dst:Int
 dF:Int
structure bV where
 ck:Int
 cu:Int
 steps:List Step
 windows:List cj
def within(n lo hi:Int):Bool:=decide (lo≤n)&&decide (n≤hi)
def kU(lo hi:Int):Int→List Int→Bool
 |_,[]=>true
 |p,n::r=>within n lo hi&&decide (p<n)&&kU lo hi n r
def ascending(l:List Int)(lo hi:Int):Bool:=
 match l with
 |[]=>true
 |n::r=>within n lo hi&&kU lo hi n r
def cg(s:Step)(n:Int):Bool:=
 ((s.back== -1&&s.dF==0)||(within s.back 0 (n-1)&&within s.dF 1 9))&&(within s.dB.length 1 8&&decide ((s.next.length:Int)≤4))&&
 within s.dD 1 1000000&&ascending s.dB 0 59&&ascending s.next 0 (n-1)&&decide (1≤s.min)&&decide (s.min≤s.max)&&decide (s.max≤10000)
def dS(w:cj)(n:Int):Bool:=
 within w.src 0 (n-1)&&within w.dst 0 (n-1)&&(w.src !=w.dst)&&within w.dF 0 1000000
def kW(v w:cj):Bool:=decide (v.src<w.src)||(v.src==w.src&&decide (v.dst<w.dst))
def follows(l:List cj)(w:cj):Bool:=
 match l.getLast? with
 |none=>true
 |some v=>kW v w
def eh(f:bV):Bool:=decide (0≤f.ck)&&decide (f.ck≤f.cu)&&decide (f.cu≤10000)
def ek(n:Int):List cj→List cj→Bool
 |_,[]=>true
 |pre,w::r=>dS w n&&follows pre w&&ek n (pre++[w]) r
def valid(f:bV):Bool:=
 eh f&&within f.steps.length 1 40&&decide ((f.windows.length:Int)≤20)&&f.steps.all (fun s=>cg s f.steps.length)&&ek f.steps.length [] f.windows
end Go.Proofs.YtebobfdheanknaaGreatDoor
namespace Go.Proofs.YtebobfdheanknaaGreatDoor
open Go Go.K
def pB(g:G)(cs:List Value)(s:Step):Prop:=
 ∃a1 n1 c1 a2 n2 c2,cs=[.int .i64 s.dD,.slice a1 n1 c1,.int .i64 s.min,.int .i64 s.max,.slice a2 n2 c2,.int .i64 s.back,.int .i64 s.dF]∧Rs g (.slice a1 n1 c1) s.dB∧Rs g (.slice a2 n2 c2) s.next
instance:El Step where
 k:=7
 pos:=by omega
 rc:=pB
 len h:=by obtain⟨_,_,_,_,_,_,rfl,_⟩:=h;rfl
 mono hle h:=by obtain⟨a1,n1,c1,a2,n2,c2,e,h1,h2⟩:=h;exact⟨a1,n1,c1,a2,n2,c2,e,h1.mono hle,h2.mono hle⟩
 one h:=by obtain⟨_,_,_,_,_,_,rfl,_⟩:=h;simp[Value.oneCell']
instance:El cj where
 k:=3
 pos:=by omega
 rc _ cs w:=cs=[.int .i64 w.src,.int .i64 w.dst,.int .i64 w.dF]
 len h:=by rw[h];rfl
 mono _ h:=h
 one h:=by rw[h];simp[Value.oneCell']
def fA(g:G)(v:Value)(f:bV):Prop:=
 ∃a1 n1 c1 a2 n2 c2,v= .agg #[.int .i64 f.ck,.int .i64 f.cu,.slice a1 n1 c1,.slice a2 n2 c2]∧Rs g (.slice a1 n1 c1) f.steps∧Rs g (.slice a2 n2 c2) f.windows
theorem fA.mono{g g':G}{v:Value}{f:bV}(hle:g.le g')(h:fA g v f):fA g' v f:=by
 obtain⟨a1,n1,c1,a2,n2,c2,e,h1,h2⟩:=h
 exact⟨a1,n1,c1,a2,n2,c2,e,h1.mono hle,h2.mono hle⟩
instance{g g':G}{v:Value}{f:bV}:Mn (fA g v f) g g' (fA g' v f):=⟨fun h a=>a.mono h⟩
def ja(g:G)(v:Value)(s:Step):Prop:=∃cs,v= .agg cs.toArray∧pB g cs s
theorem ja.mono{g g':G}{v:Value}{s:Step}(hle:g.le g')(h:ja g v s):ja g' v s:=by
 obtain⟨cs,e,h⟩:=h
 exact⟨cs,e,El.mono (α:=Step) hle h⟩
def kS:Nat→Int→List (Int×Bool)
 |0,_=>[]
 |k+1,z=>(IntKind.u8.wrap (cn .u64 z 127),decide (z<128))::if z<128 then []else kS k (cG .u64 z 7)
def zz(n:Int):Int:=bA .u64 (cW .u64 (IntKind.u64.wrap n) 1) (IntKind.u64.wrap (cG .i64 n 63))
def Cr(x:Int×Bool):Int:=if x.2=true then x.1 else bX .u8 x.1 128
def fO(n:Int):List UInt8:=((kS 10 (zz n)).map Cr).map fun m=>UInt8.ofNat m.toNat
def o_(n:Int):Prop:=-4611686018427387903≤n∧n≤4611686018427387903
theorem vE(k:Nat): ∀z,(kS k z).length≤k:=by
 induction k with
 |zero=>intro z;simp[kS]
 |succ k ih=>
  intro z;unfold kS;rw[List.length_cons];split
  ·simp
  ·have:=ih (cG .u64 z 7);omega
theorem kR(n:Int):(fO n).length≤10:=by
 unfold fO;rw[List.length_map,List.length_map];exact vE 10 _
theorem uY(n:Int):0≤IntKind.u64.wrap n∧IntKind.u64.wrap n<18446744073709551616:=by
 unfold IntKind.wrap;simp[IntKind.signed,IntKind.bits];omega
theorem EK(n:Int):0≤zz n∧zz n<128^10:=by
 have:zz n=IntKind.u64.wrap ((BitVec.ofInt IntKind.u64.bits (cW .u64 (IntKind.u64.wrap n) 1)^^^BitVec.ofInt IntKind.u64.bits (IntKind.u64.wrap (cG .i64 n 63))).toNat:Int):=rfl
 rw[this]
 have h:=uY ((BitVec.ofInt IntKind.u64.bits (cW .u64 (IntKind.u64.wrap n) 1)^^^BitVec.ofInt IntKind.u64.bits (IntKind.u64.wrap (cG .i64 n 63))).toNat:Int)
 generalize IntKind.u64.wrap _=m at*
 omega
theorem Q9{z:Int}(_h0:0≤z):cG .u64 z 7=z/128:=by
 have:cG .u64 z 7=z.fdiv 128:=rfl
 rw[this,Int.fdiv_eq_ediv_of_nonneg _ (by omega)]
def lW(s:List UInt8):List UInt8×Int:=if 65536<s.length then([],10)else(fO s.length++s,0)
structure bc where
 kind:Int
 idn:Int
 ver:Int
 day:Int
 gone:Bool
 time:Int
 til:Int
 waf:Int
 oth:Int
 lot:Int
 prod:Int
 tool:Int
 cham:Int
 step:Int
 rcp:Int
 rvn:Int
 val:Int
 par:Int
 text:List UInt8
 deriving DecidableEq
def gF:bc:=⟨0,0,0,0,false,0,0,0,0,0,0,0,0,0,0,0,0,0,[]⟩
def bc.num(f:bc):Nat→Int
 |0=>f.kind
 |1=>f.idn
 |2=>f.ver
 |3=>f.day
 |5=>f.time
 |6=>f.til
 |7=>f.waf
 |8=>f.oth
 |9=>f.lot
 |10=>f.prod
 |11=>f.tool
 |12=>f.cham
 |13=>f.step
 |14=>f.rcp
 |15=>f.rvn
 |16=>f.val
 |17=>f.par
 |_=>0
def bc.put(f:bc)(i:Nat)(n:Int):bc:=
 match i with
 |0=>{f with kind:=n}
 |1=>{f with idn:=n}
 |2=>{f with ver:=n}
 |3=>{f with day:=n}
 |5=>{f with time:=n}
 |6=>{f with til:=n}
 |7=>{f with waf:=n}
 |8=>{f with oth:=n}
 |9=>{f with lot:=n}
 |10=>{f with prod:=n}
 |11=>{f with tool:=n}
 |12=>{f with cham:=n}
 |13=>{f with step:=n}
 |14=>{f with rcp:=n}
 |15=>{f with rvn:=n}
 |16=>{f with val:=n}
 |17=>{f with par:=n}
 |_=>f
structure jD where
 at_:Nat
 lo:Int
 hi:Int
structure zi where
 fields:List jD
 key:List jD
 rest:Nat
 iW:Bool
def eD(i:Nat):jD:=⟨i,1,1000000⟩
def ez:jD:=⟨5,0,1000000⟩
def gG:List jD:=[ez,⟨6,0,1000000⟩]
def eU:List jD:=[⟨11,0,59⟩,⟨12,0,3⟩]
def lT:List jD:=[eD 1]
def rM:List jD:=[eD 14,eD 15]
def mL:List jD:=[⟨7,0,1000000⟩,⟨9,0,1000000⟩,⟨11,0,60⟩,⟨12,0,4⟩,⟨13,0,40⟩,⟨14,0,1000000⟩,⟨15,0,1000000⟩]
def qq:jD:=⟨17,1,255⟩
def v_:jD:=⟨16,-1000000,1000000⟩
def lU:List zi:=[
 ⟨lT++[eD 7]++eU++[⟨13,0,39⟩]++rM++gG++[⟨16,-10000000,10000000⟩],lT,1,false⟩,
 ⟨lT++[ez,v_],lT,0,false⟩,
 ⟨lT++[eD 7,eD 8,ez],lT,2,false⟩,
 ⟨[eD 7,eD 9,eD 10,ez],[eD 7,ez],0,false⟩,
 ⟨[eD 10],[eD 10],0,true⟩,
 ⟨lT++eU++rM++gG,lT,1,false⟩,
 ⟨lT++mL++gG++[qq],lT,1,false⟩,
 ⟨[eD 8,qq,ez],[eD 8,qq],0,false⟩,
 ⟨lT++eU++[ez],lT,0,false⟩,
 ⟨[eD 14,ez,v_],[eD 14,ez],0,false⟩,
 ⟨lT++eU++gG,lT,1,false⟩]
def dM(k:Int):Option zi:=if k<1 then none else lU[(k-1).toNat]?
def o7:Nat→bc→Bool
 |1,f=>decide (f.time≤f.til)
 |2,f=>f.waf !=f.oth
 |_,_=>true
def lV:List jD→bc→Option bc
 |[],f=>some f
 |x::l,f=>if f.num x.at_<x.lo||x.hi<f.num x.at_ then none else lV l (f.put x.at_ 0)
def ow(f:bc):bc:={gF with kind:=f.kind,ver:=f.ver,day:=f.day,gone:=f.gone}
def fm(f:bc):Bool:=
 match dM f.kind with
 |none=>false
 |some s=>
  if f.ver<1||1000000<f.ver||f.day<0||100000<f.day||8192<(f.text.length:Int)|| !o7 s.rest f then false
  else match lV s.fields f with
   |none=>false
   |some g=>decide ((if s.iW then {g with text:=[]}else g)=ow f)
def sD(f:bc)(l:List jD):List UInt8:=l.flatMap fun x=>fO (f.num x.at_)
def fp(f:bc):List UInt8:=if fm f then fO f.kind++sD f ((dM f.kind).elim [] (·.key))else []
def mM(b:Bool):Int:=if b then 1 else 0
def lh(f:bc):List UInt8×Int:=
 if fm f then(fO f.kind++fO f.ver++fO f.day++fO (mM f.gone)++sD f ((dM f.kind).elim [] (·.fields))++(if(dM f.kind).elim false (·.iW)then(lW f.text).1 else []),0)else([],150)
def oa(a b:bc):Bool:=
 if(lh a).2≠0∨(lh b).2≠0∨fp a≠fp b then false
 else if a.ver≠b.ver then decide (b.ver<a.ver)else decide (0<Lib.compareBytes (lh a).1 (lh b).1)
structure fX where
 ls:Nat→List bc
def fX.procs(b:fX):=b.ls 0
def fX.C7(b:fX):=b.ls 2
def fX.jw(b:fX):=b.ls 3
def fX.oc(b:fX):=b.ls 4
def fX.sE(b:fX):=b.ls 5
def fX.holds(b:fX):=b.ls 6
def fX.jS(b:fX):=b.ls 7
structure fD where
 waf:Int
 step:Int
 tool:Int
 cham:Int
 rcp:Int
 rvn:Int
 time:Int
end Go.Proofs.YtebobfdheanknaaGreatDoor
namespace Go.K
open Go Go.RowKit Go.MapKept
class fg(κ:Type)[DecidableEq κ] where
 enc:κ→Value
 desc:TypeDesc
 kd:KD
 of: ∀{d},KD.of d=kd→d=desc
 same: ∀a b,Instr.sameNow desc (enc a) (enc b)=some (decide (a=b))
 key: ∀a,IsKey desc (enc a)
 bits: ∀a,Instr.sameBits 10000 (enc a) (enc a)=true
instance:fg Int where
 enc:=.int .i64
 desc:=.int .i64
 kd:=.int .i64
 of h:=KD.of_int h
 same a b:=by simp[Instr.sameNow];rfl
 key a:=rfl
 bits a:=by simp[Instr.sameBits]
instance:fg (List UInt8) where
 enc x:=.string (bs x)
 desc:=.string
 kd:=.string
 of h:=KD.of_string h
 same a b:=by
  simp only[Instr.sameNow,Option.some.injEq]
  by_cases h:a=b
  ·subst h;simp[(MapKept.bytes_beq _ _).2 rfl]
  ·rw[decide_eq_false h]
   cases hb:(bs a==bs b)with
   |false=>rfl
   |true=>exact absurd (JV ((MapKept.bytes_beq _ _).1 hb)) h
 key a:=trivial
 bits a:=by simp[Instr.sameBits,(MapKept.bytes_beq _ _).2 rfl]
variable {F:Fence} {P:Program} {N:Nat} {ds:List Deferred} {l:Env} {w:World} {Q:Exit→Act→World→Prop} {o:Oper} {g0 g:G} {L:List cV} {K:Value→World→Prop}
variable {κ:Type} [DecidableEq κ] [fg κ]
def lI:Nat→List (κ×Value)→List MapEntry
 |_,[]=>[]
 |i,(k,v)::r=>{key:=fg.enc k,val:=v,born:=i}::lI (i+1) r
def ct(cq:List (κ×Value)):Obj:=.map (lI 0 cq).toArray cq.length
def mf(a:κ):List (κ×Value)→Nat→Option (Nat×Value)
 |[],_=>none
 |(k,v)::r,j=>if a=k then some (j,v)else mf a r (j+1)
def ij(a:κ):List (κ×Value)→Option Value
 |[]=>none
 |(k,v)::r=>if a=k then some v else ij a r
def iX(a:κ)(x:Value):List (κ×Value)→List (κ×Value)
 |[]=>[(a,x)]
 |(k,v)::r=>if a=k then(k,x)::r else(k,v)::iX a x r
theorem Bv: ∀(cq:List (κ×Value)) (i:Nat),(lI i cq).length=cq.length
 |[],_=>rfl
 |_::r,i=>by simp[lI,Bv r]
theorem jB: ∀(cq:List (κ×Value)) (i j:Nat),(lI i cq)[j]? =(cq[j]?).map fun p=>{key:=fg.enc p.1,val:=p.2,born:=i+j}
 |[],_,_=>by simp[lI]
 |(k,v)::r,i,0=>by simp[lI]
 |(k,v)::r,i,j+1=>by
  simp only[lI,List.getElem?_cons_succ]
  rw[jB r (i+1) j,show i+1+j=i+(j+1)from by omega]
theorem xk(ys:List (κ×Value)): ∀(xs:List (κ×Value)) (i:Nat),lI i (xs++ys)=lI i xs++lI (i+xs.length) ys
 |[],i=>by simp[lI]
 |(k,v)::r,i=>by
  simp only[List.cons_append,lI,List.length_cons]
  rw[xk ys r (i+1),show i+1+r.length=i+(r.length+1)from by omega]
theorem mu(a:κ): ∀(cq:List (κ×Value)) (i j:Nat),Instr.findNow (fg.desc κ) (fg.enc a) (lI i cq) j=some (mf a cq j)
 |[],_,_=>rfl
 |(k,v)::r,i,j=>by
  simp only[lI,Instr.findNow,fg.same,mf]
  by_cases h:a=k
  ·simp[h]
  ·simp[h,mu a r]
omit [fg κ] in
theorem qb{a:κ}: ∀{cq:List (κ×Value)} {j:Nat},mf a cq j=none→ij a cq=none∧ ∀x,iX a x cq=cq++[(a,x)]
 |[],_,_=>⟨rfl,fun _=>rfl⟩
 |(k,v)::r,j,h=>by
  unfold mf at h
  split at h
  ·cases h
  ·rename_i fu
   obtain⟨h1,h2⟩:=qb h
   exact⟨by simp[ij,fu,h1],fun x=>by simp[iX,fu,h2]⟩
omit [fg κ] in
theorem nV{a:κ}: ∀{cq:List (κ×Value)} {j i:Nat} {v:Value},mf a cq j=some (i,v)→ij a cq=some v∧ ∃n,i=j+n∧cq[n]? =some (a,v)∧ ∀x,iX a x cq=cq.set n (a,x)
 |[],_,_,_,h=>by cases h
 |(k,u)::r,j,i,v,h=>by
  unfold mf at h
  split at h
  ·rename_i he
   simp only[Option.some.injEq,Prod.mk.injEq]at h
   obtain⟨rfl,rfl⟩:=h
   subst he
   exact⟨by simp[ij],0,rfl,rfl,fun x=>by simp[iX]⟩
  ·rename_i fu
   obtain⟨h1,n,h2,h3,h4⟩:=nV h
   exact⟨by simp[ij,fu,h1],n+1,by omega,by simpa using h3,fun x=>by simp[iX,fu,h4]⟩
omit [fg κ] in
theorem qC(a b:κ)(x:Value): ∀cq:List (κ×Value),ij b (iX a x cq)=if b=a then some x else ij b cq
 |[]=>by simp[iX,ij]
 |(k,v)::r=>by
  by_cases h:a=k
  ·subst h;by_cases hb:b=a<;>simp[iX,ij,hb]
  ·by_cases hb:b=k
   ·subst hb;simp[iX,ij,h];intro e;exact absurd e.symm h
   ·simp[iX,ij,h,hb,qC a b x r]
theorem KD.of_map{d:TypeDesc}{k e:TypeId}(h:KD.of d= .map k e):d= .map k e:=by
 cases d<;>simp only[KD.of,reduceCtorEq,KD.map.injEq]at h
 rw[h.1,h.2]
structure qJ(κ:Type)[DecidableEq κ][fg κ](P:Program)(T:TypeId)(zero:Value):Prop where
 kt: ∃k e,P.underlying T=some (.map k e)∧P.underlying k=some (fg.desc κ)∧ ∀w,(zeroValue e).run P w= .ok zero w
theorem zw{tb:Tb}(dn:tb.ok P){T k e:Nat}{i j m:TI}(hi:tl tb T=some i)(hd:i.desc= .map k e)(hk:tl tb k=some j)(RC:j.desc=fg.kd κ)(he:tl tb e=some m):qJ κ P T m.zero:=by
 obtain⟨⟨d,hu,S8⟩,_⟩:=dn.at hi
 rw[hd]at S8
 obtain rfl:=KD.of_map S8
 obtain⟨⟨d2,FW,On⟩,_⟩:=dn.at hk
 rw[RC]at On
 obtain rfl:=fg.of On
 obtain⟨_,inf,h1,_,_,h4⟩:=dn.at he
 exact⟨k,e,hu,FW,fun w=>by simp[zeroValue,typeInfo,h1,h4]⟩
theorem Ap{T:TypeId}{z:Value}(ht:qJ κ P T z){b:Nat}{cq:List (κ×Value)}(hb:w.heap[b]? =some (ct cq))(a:κ)(x:Value):
  (Instr.mapUpdate T (.map (some b)) (fg.enc a) x).run P w= .ok () (w.putObj b (ct (iX a x cq))):=by
 obtain⟨k,e,h1,h2,_⟩:=ht.kt
 have hf:=run_findKey (P:=P) (w:=w) (l:=lI 0 cq) h2 (mu a cq 0 0)
 simp only[Instr.mapUpdate,Sem.run_bind,run_underlying h1,Result.andThen_ok,MapKept.run_getObj_map hb,run_checkKey h2 (fg.key a),List.toList_toArray]
 rw[show(Instr.findKey k (fg.enc a) (lI 0 cq)).run P w=_ from hf]
 cases hm:mf a cq 0 with
 |none=>
  simp only[Result.andThen_ok]
  rw[run_setObj_map _ hb,(qb hm).2 x]
  unfold World.putObj ct
  rw[xk]
  simp[lI]
 |some p=>
  obtain⟨i,v⟩:=p
  obtain⟨_,n,h3,h4,h5⟩:=nV hm
  obtain rfl:i=n:=by omega
  have h6:(lI 0 cq)[i]? =some {key:=fg.enc a,val:=v,born:=i}:=by rw[jB,h4];simp
  simp only[Result.andThen_ok,List.getElem?_toArray,h6,Option.map_some,Option.getD_some,Instr.keyThatStays,fg.bits,if_true,Sem.run_bind,Sem.run_pure]
  rw[run_setObj_map _ hb,h5 x]
  unfold World.putObj ct
  congr 3
  rw[List.length_set]
  congr 1
  apply Array.ext'
  rw[Array.toList_modify]
  simp only[List.toList_toArray]
  apply List.ext_getElem?
  intro j
  rw[List.getElem?_modify,jB,jB,List.getElem?_set]
  by_cases hj:i=j
  ·subst hj
   have bh:=(List.getElem?_eq_some_iff.1 h4).1
   simp[h4,bh]
  ·simp[hj]
theorem Aq{T:TypeId}{z:Value}(ht:qJ κ P T z){b:Nat}{cq:List (κ×Value)}(hb:w.heap[b]? =some (ct cq))(a:κ)(ok:Bool):
  (Instr.lookup T (.map (some b)) (fg.enc a) ok).run P w= .ok (if ok then .tuple #[(ij a cq).getD z,.bool (ij a cq).isSome]else(ij a cq).getD z) w:=by
 obtain⟨k,e,h1,h2,h3⟩:=ht.kt
 have hf:=run_findKey (P:=P) (w:=w) (l:=lI 0 cq) h2 (mu a cq 0 0)
 simp only[Instr.lookup,Sem.run_bind,run_underlying h1,Result.andThen_ok,MapKept.run_getObj_map hb,run_checkKey h2 (fg.key a),List.toList_toArray,Sem.run_pure]
 rw[show(Instr.findKey k (fg.enc a) (lI 0 cq)).run P w=_ from hf]
 cases hm:mf a cq 0 with
 |none=>
  simp only[Result.andThen_ok,Sem.run_bind,h3,Sem.run_pure,(qb hm).1]
  cases ok<;>rfl
 |some p=>
  obtain⟨i,v⟩:=p
  simp only[Result.andThen_ok,Sem.run_pure,(nV hm).1]
  cases ok<;>rfl
theorem jH{T:TypeId}(ho:o.op= .makeMap T none)(hs:St g0 g L)(k: ∀b g',St g0 g' (.obj b (ct ([]:List (κ×Value)))::L)→g.le g'→K (.map (some b)) g'.w):cT F P N ds o l g.w Q K:=by
 refine bG (w':=(g.al (.map #[] 0)).w) (fun c=>⟨by rw[ho];simp,by rw[ho];simp⟩) (fun a ha=>?_) (k _ _ (hs.al _).1 (hs.al _).2)
 simp[execOp,ho,Instr.makeMap,newObj];rfl
theorem dC{T:TypeId}{z:Value}(ht:qJ κ P T z)(i:Nat){m kk x:Operand}{b:Nat}{cq:List (κ×Value)}{a:κ}{v:Value}(ho:o.op= .mapUpdate T m kk x∨o.op= .insert T m kk x)(hs:St g0 g L)(hi:L[i]? =some (.obj b (ct cq)))
  (hm:ev l m=some (.map (some b))) (hk:ev l kk=some (fg.enc a)) (hx:ev l x=some v) (k: ∀g',St g0 g' (L.set i (.obj b (ct (iX a v cq))))→g.le g'→K undef g'.w):cT F P N ds o l g.w Q K:=by
 have hh:=(hs.own i _ hi).2.1
 have h:=hs.po hi (o':=ct (iX a v cq))
 have hr:=Ap ht hh a v
 rcases ho with ho|ho
 all_goals
  refine pS (w':=(g.po b (ct (iX a v cq))).w) (fun c=>⟨by rw[ho];simp,by rw[ho];simp⟩) (fun ac ha=>?_) (k _ h.1 h.2)
  simp only[execOp,ho,ha.ev hm,ha.ev hk,ha.ev hx,Sem.run_bind,hr];rfl
theorem l_{T:TypeId}{z:Value}(ht:qJ κ P T z){m kk:Operand}{ok:Bool}{b:Nat}{cq:List (κ×Value)}{a:κ}(ho:o.op= .lookup T m kk ok)(hh:w.heap[b]? =some (ct cq))
  (hm:ev l m=some (.map (some b))) (hk:ev l kk=some (fg.enc a)) (k:K (if ok then .tuple #[(ij a cq).getD z,.bool (ij a cq).isSome]else(ij a cq).getD z) w):cT F P N ds o l w Q K:=by
 refine bG (fun c=>⟨by rw[ho];simp,by rw[ho];simp⟩) (fun ac ha=>?_) k
 simp only[execOp,ho,ha.ev hm,ha.ev hk,Sem.run_bind,Aq ht hh a ok];rfl
def wB(b n:Nat)(seen:Array Nat):Obj:=.mapIter (some b) n seen n
theorem qM{T:TypeId}{z:Value}(ht:qJ κ P T z){m:Operand}{b:Nat}{cq:List (κ×Value)}(ho:o.op= .range T m)(hh:g.w.heap[b]? =some (ct cq))(hm:ev l m=some (.map (some b)))(hs:St g0 g L)
  (k: ∀r g',St g0 g' (.obj r (wB b cq.length #[])::L)→g.le g'→K (.pointer (some ⟨r,0,none⟩)) g'.w):cT F P N ds o l g.w Q K:=by
 obtain⟨kt,e,h1,_,_⟩:=ht.kt
 refine bG (w':=(g.al (wB b cq.length #[])).w) (fun c=>⟨by rw[ho];simp,by rw[ho];simp⟩) (fun a ha=>?_) (k _ _ (hs.al _).1 (hs.al _).2)
 have:=run_range_map (P:=P) g.w T kt e b _ _ h1 hh
 simp only[execOp,ho,ha.ev hm,Sem.run_bind,this];rfl
theorem sT(i:Nat){it:Operand}{r b:Nat}{cq:List (κ×Value)}{seen:Array Nat}(ho:o.op= .next it false)(hs:St g0 g L)(hi:L[i]? =some (.obj r (wB b cq.length seen)))(hh:g.w.heap[b]? =some (ct cq))
  (hit:ev l it=some (.pointer (some ⟨r,0,none⟩)))
  (k0:(∀j,j<cq.length→j∈seen)→K (.tuple #[.bool false]) g.w)
  (k1: ∀(j:Nat) p g',cq[j]? =some p→j∉seen→St g0 g' (L.set i (.obj r (wB b cq.length (seen.push j))))→g.le g'→K (.tuple #[.bool true,fg.enc p.1,p.2]) g'.w):cT F P N ds o l g.w Q K:=by
 have hr:=(hs.own i _ hi).2.1
 have O3: ∀x∈(lI 0 cq).toArray.toList,x.born<cq.length:=by
  intro x hx
  obtain⟨j,hj⟩:=List.mem_iff_getElem?.1 (by simpa using hx:x∈lI 0 cq)
  rw[jB]at hj
  obtain⟨p,hp,rfl⟩:=Option.map_eq_some_iff.1 hj
  have:=(List.getElem?_eq_some_iff.1 hp).1
  simpa using this
 rcases run_next_at (P:=P) g.w o.type r b cq.length cq.length seen (lI 0 cq).toArray cq.length hr hh O3 (Nat.le_refl _)with⟨h1,h2⟩|⟨e,he,w1,hw,h2⟩
 ·refine bG (fun c=>⟨by rw[ho];simp,by rw[ho];simp⟩) (fun a ha=>by simp only[execOp,ho,ha.ev hit,Sem.run_bind,h2];rfl) (k0 fun j hj=>?_)
  apply Classical.byContradiction
  intro GW
  have hx:(lI 0 cq)[j]? =some {key:=fg.enc cq[j].1,val:=cq[j].2,born:=j}:=by rw[jB,List.getElem?_eq_getElem hj];simp
  have:({key:=fg.enc cq[j].1,val:=cq[j].2,born:=j}:MapEntry)∈leftOf (lI 0 cq).toArray seen:=by
   unfold leftOf
   rw[Array.mem_filter]
   exact⟨by simpa using List.mem_of_getElem? hx,by simpa using GW⟩
  rw[Array.eq_empty_of_size_eq_zero h1]at this
  simp at this
 ·unfold leftOf at he
  have IK:e∈(Array.filter (fun e=> !seen.contains e.born) (lI 0 cq).toArray):=by simpa using he
  rw[Array.mem_filter]at IK
  obtain⟨hm,GW⟩:=IK
  obtain⟨j,hj⟩:=List.mem_iff_getElem?.1 (by simpa using hm:e∈lI 0 cq)
  rw[jB]at hj
  obtain⟨p,hp,rfl⟩:=Option.map_eq_some_iff.1 hj
  simp only[Nat.zero_add]at h2 GW
  have RD:j∉seen:=by simpa using GW
  have fin: ∀g1:G,St g0 g1 L→g.le g1→g1.w=w1→cT F P N ds o l g.w Q K:=fun g1 mK hle yQ=>by
   have h:=mK.po hi (o':=wB b cq.length (seen.push j))
   refine bG (w':=(g1.po r (wB b cq.length (seen.push j))).w) (fun c=>⟨by rw[ho];simp,by rw[ho];simp⟩) (fun a ha=>?_) (k1 j p _ hp RD h.1 (hle.trans h.2))
   simp only[execOp,ho,ha.ev hit,Sem.run_bind,h2,←yQ];rfl
  rcases hw with rfl|rfl
  ·exact fin g hs (G.le.refl g) rfl
  ·exact fin g.dr hs.dr (G.bJ g) rfl
theorem vL: ∀(cq:List (κ×Value)) (i:Nat),((lI i cq).map (·.born)).Nodup∧ ∀x∈lI i cq,i≤x.born
 |[],_=>by simp[lI]
 |(k,v)::r,i=>by
  obtain⟨h1,h2⟩:=vL r (i+1)
  refine⟨?_,fun x hx=>?_⟩
  ·simp only[lI,List.map_cons,List.nodup_cons]
   refine⟨fun hm=>?_,h1⟩
   obtain⟨x,hx,he⟩:=List.mem_map.1 hm
   have:=h2 x hx;omega
  ·simp only[lI,List.mem_cons]at hx
   rcases hx with rfl|hx
   ·exact Nat.le_refl _
   ·have:=h2 x hx;omega
theorem qN(i:Nat){it:Operand}{r b j:Nat}{p:κ×Value}{cq:List (κ×Value)}{seen:Array Nat}(ho:o.op= .entry it)(hs:St g0 g L)(hi:L[i]? =some (.obj r (wB b cq.length (seen.push j))))(hh:g.w.heap[b]? =some (ct cq))
  (hit:ev l it=some (.pointer (some ⟨r,0,none⟩))) (hp:cq[j]? =some p) (k:K (.tuple #[fg.enc p.1,p.2]) g.w):cT F P N ds o l g.w Q K:=by
 have hr:=(hs.own i _ hi).2.1
 have he:(lI 0 cq)[j]? =some {key:=fg.enc p.1,val:=p.2,born:=j}:=by rw[jB,hp];simp
 have:=run_entry_at (P:=P) g.w r b cq.length seen (lI 0 cq).toArray cq.length {key:=fg.enc p.1,val:=p.2,born:=j} hr hh (by simpa using List.mem_of_getElem? he) (by simpa using(vL cq 0).1)
 refine bG (fun c=>⟨by rw[ho];simp,by rw[ho];simp⟩) (fun a ha=>?_) k
 simp only[execOp,ho,ha.ev hit,Sem.run_bind,this];rfl
end Go.K
namespace Go.K
open Go Go.RowKit
variable {F:Fence} {P:Program} {N:Nat} {ds:List Deferred} {l l':Env} {a:Act} {w:World} {Q:Exit→Act→World→Prop} {ops:Array Oper} {os:List Oper} {o:Oper}
variable {g0 g:G} {L L':List cV} {K:Value→World→Prop} {R:Ending→World→Prop}
def lK(e:TypeId)(v:Value)(xs:List UInt8)(Lr:List cV):Prop:=
 (v= .slice none 0 0∧xs=[]∧Lr=[])∨ ∃br cap cur,v= .slice (some ⟨br,0,none⟩) xs.length cap∧Lr=[.obj br (.cells cur e (0,0))]∧xs.length≤cap∧cap≤maxLen∧cur.size=cap∧cur.toList.take xs.length=eo xs
theorem lK.nil(e:TypeId):lK e (.slice none 0 0) [] []:=.inl ⟨rfl,rfl,rfl⟩
theorem rr(s:List UInt8):Lib.strCells (bs s)=eo s:=by simp[Lib.strCells,eo,bs]
theorem mj(s:List UInt8):(eo s).length=s.length:=by simp[eo]
theorem CB(s t:List UInt8):eo (s++t)=eo s++eo t:=by simp[eo]
theorem CC{g:G}{w':World}(hg:g.w.grownBy w' none):aZ g ⟨w',g.im,fun b h=>Nat.lt_of_lt_of_le (g.lt b h) hg.size⟩:=
 ⟨⟨hg.os,hg.tape,hg.output,hg.size,fun k hk=>hg.block k hk (by simp)⟩,fun _ _=>Iff.rfl⟩
theorem u3{tb:Tb}(dn:tb.ok P){t u e ty:Nat}{ti ei ui:TI}{v:Value}{xs ys:List UInt8}{Lr:List cV}(hb:lK e v xs Lr)(hs:St g0 g (Lr++L))
  (hi:tl tb t=some ti) (hd:ti.desc= .slice e) (hu:tl tb u=some ui) (Rt:ui.desc= .string) (hj:tl tb e=some ei) (hk:ei.size=1) (sx:ei.bytes=1) (hz:ei.zero= .int .u8 0) (hlen:xs.length+ys.length≤140737488355328):
  ∃v' uL g',(Builtin.append_ #[t,u] ty #[v,.string (bs ys)]).run P g.w= .ok v' g'.w∧lK e v' (xs++ys) uL∧St g0 g' (uL++L)∧g.le g':=by
 obtain⟨⟨dd,C5,he⟩,_⟩:=dn.at hi
 rw[hd]at he
 obtain rfl:=KD.of_slice he
 obtain⟨⟨dd,FW,he⟩,_⟩:=dn.at hu
 rw[Rt]at he
 obtain rfl:=KD.of_string he
 obtain⟨_,inf,e1,e2,e3,e4⟩:=dn.at hj
 rw[hk]at e2;rw[sx]at e3;rw[hz]at e4
 have cS:(bs ys).size=ys.length:=ec ys
 have Ja:xs.length+ys.length≤maxLen:=by unfold maxLen;omega
 have EY: ∀(JW:Nat) (cs:List Value),cs.length=xs.length+ys.length→JW<xs.length+ys.length→cs=eo (xs++ys)→
   lK e (.slice (some ⟨g.w.heap.size,0,none⟩) (xs.length+ys.length) (grownCap g.w (xs.length+ys.length) JW e)) (xs++ys)
    [.obj g.w.heap.size (.cells (cs.toArray++Builtin.zeroCells (Value.int .u8 0).cells (grownCap g.w (xs.length+ys.length) JW e-(xs.length+ys.length))) e (0,0))]:=by
  intro JW cs fY ho hc
  have JX:=grownCap_ge g.w (xs.length+ys.length) JW e
  have oJ:grownCap g.w (xs.length+ys.length) JW e≤maxLen:=grownCap_le_maxLen g.w (xs.length+ys.length) JW e Ja
  refine .inr ⟨_,_,_,by rw[List.length_append],rfl,by rw[List.length_append];exact JX,oJ,?_,?_⟩
  ·have Ru:(Value.int IntKind.u8 0).cells.size=1:=rfl
   simp only[Array.size_append,List.size_toArray,size_zeroCells,Ru,fY]
   omega
  ·rw[←hc,List.length_append,←fY]
   simp only[Array.toList_append]
   exact List.take_left
 rcases hb with⟨rfl,rfl,rfl⟩|⟨br,cap,cur,rfl,rfl,nd,oJ,mG,cB⟩
 ·by_cases hm:ys.length=0
  ·have H7:ys=[]:=List.eq_nil_of_length_eq_zero hm
   subst H7
   refine⟨.slice none 0 0,[],g,?_,.inl ⟨rfl,rfl,rfl⟩,hs,G.le.refl g⟩
   have hf:=Lib.run_firstCells_string (P:=P) g.w 1 (bs [])
   rw[cS,List.length_nil]at hf
   simp[Builtin.append_,run_underlying C5,run_underlying FW,sizeOf,typeInfo,e1,e2,Builtin.lenOf,cS,hf]
  ·have hr:=run_append_nil_string (P:=P) (ty:=ty) g.w t u e inf (.int .u8 0) C5 FW e1 e4 (bs ys) (by rw[cS];omega) (by rw[cS];omega) (by rw[e3,cS];omega)
   have e5:((bs ys).data.map fun b=>Value.int .u8 b.toNat)=(eo ys).toArray:=by
    apply Array.ext'
    simp[eo,bs]
   rw[e5,cS]at hr
   have C0:=EY 0 (eo ys) (by simp[eo]) (by simp only[List.length_nil];omega) (by simp)
   simp only[List.length_nil,Nat.zero_add]at C0
   have hg:g.w.grownBy (g.w.drew.alloc (.cells ((eo ys).toArray++Builtin.zeroCells (Value.int .u8 0).cells (grownCap g.w ys.length 0 e-ys.length)) e)) none:=⟨rfl,rfl,rfl,by simp,fun k hk _=>heap_alloc_old g.w.drew _ k hk⟩
   let g':G:=⟨_,g.im,fun b h=>Nat.lt_of_lt_of_le (g.lt b h) hg.size⟩
   have dm:=hs.add (g':=g') (e':=.obj g.w.heap.size (.cells ((eo ys).toArray++Builtin.zeroCells (Value.int .u8 0).cells (grownCap g.w ys.length 0 e-ys.length)) e)) hg (fun _ _=>Iff.rfl)
    ⟨hs.below.size,heap_alloc_new g.w.drew _,fun h=>by have:=g.lt _ h;omega⟩ (fun b hb=>by simp only[cV.rV,Option.some.injEq]at hb;omega)
   exact⟨_,_,g',hr,C0,dm.1,dm.2⟩
 ·have dZ:=hs.own 0 _ rfl
  have hh:g.w.heap[br]? =some (.cells cur e (0,0)):=dZ.2.1
  by_cases vK:xs.length+ys.length≤cap
  ·have hr:=Lib.run_append_room_string (P:=P) g.w t u ty e inf C5 FW e1 e2 br xs.length cap cur hh (bs ys) (by rw[cS];exact vK) (by rw[cS];omega)
   rw[cS,rr]at hr
   have dm:=hs.sr (i:=0) (cs':=(cur.toList.take xs.length++eo ys++cur.toList.drop (xs.length+ys.length)).toArray) rfl
   refine⟨_,_,_,hr,.inr ⟨br,cap,_,by rw[List.length_append],rfl,by rw[List.length_append];exact vK,oJ,?_,?_⟩,dm.1,dm.2⟩
   ·simp only[List.size_toArray,List.length_append,List.length_take,List.length_drop,Array.length_toList,mj]
    omega
   ·rw[cB,CB,show(xs++ys).length=(eo xs++eo ys).length from by simp[eo]]
    exact List.take_left
  ·have holds: ∀j u,(eo xs)[j]? =some u→g.w.cell? ((⟨br,0,none⟩:Addr).add j)=some u:=by
    intro j u Rv
    have hj:=(List.getElem?_eq_some_iff.1 Rv).1
    rw[mj]at hj
    rw[←cB,List.getElem?_take_of_lt hj,Array.getElem?_toList]at Rv
    rw[Addr.add_lit]
    simp[World.cell?,hh,Rv]
   have hr:=Lib.run_append_grow_string (P:=P) g.w t u ty e inf (.int .u8 0) C5 FW e1 e4 ⟨br,0,none⟩ xs.length cap (eo xs) (by rw[e2,mj];omega) holds (bs ys) (by rw[cS];omega) (by rw[cS];omega) (by rw[e3,cS];exact growslice_fits (by omega) (by omega))
   rw[cS,rr,show(eo xs).toArray++(eo ys).toArray=(eo (xs++ys)).toArray from by simp[eo]]at hr
   have C0:=EY cap (eo (xs++ys)) (by simp[eo]) (by omega) rfl
   have hg:g.w.grownBy (g.w.drew.alloc (.cells ((eo (xs++ys)).toArray++Builtin.zeroCells (Value.int .u8 0).cells (grownCap g.w (xs.length+ys.length) cap e-(xs.length+ys.length))) e)) (some br):=⟨rfl,rfl,rfl,by simp,fun k hk _=>heap_alloc_old g.w.drew _ k hk⟩
   let g':G:=⟨_,g.im,fun b h=>Nat.lt_of_lt_of_le (g.lt b h) hg.size⟩
   have dm:=hs.FV (i:=0) (e:=.obj br (.cells cur e (0,0))) (g':=g') (e':=.obj g.w.heap.size (.cells ((eo (xs++ys)).toArray++Builtin.zeroCells (Value.int .u8 0).cells (grownCap g.w (xs.length+ys.length) cap e-(xs.length+ys.length))) e)) rfl hg (fun _ _=>Iff.rfl)
    ⟨hs.below.size,heap_alloc_new g.w.drew _,fun h=>by have:=g.lt _ h;omega⟩ (fun b hb=>by simp only[cV.rV,Option.some.injEq]at hb;right;omega)
   exact⟨_,_,g',hr,C0,dm.1,dm.2⟩
theorem yK{tb:Tb}(dn:tb.ok P){t u e:Nat}{ti ei ui:TI}{s x:Operand}{v:Value}{xs ys:List UInt8}{Lr:List cV}(ho:o.op= .call {callee:=.builtin .append,args:=#[s,x],argTypes:=#[t,u]})
  (hb:lK e v xs Lr) (hs:St g0 g (Lr++L)) (hv:ev l s=some v) (hx:ev l x=some (.string (bs ys)))
  (hi:tl tb t=some ti) (hd:ti.desc= .slice e) (hu:tl tb u=some ui) (Rt:ui.desc= .string) (hj:tl tb e=some ei) (hk:ei.size=1) (sx:ei.bytes=1) (hz:ei.zero= .int .u8 0) (hlen:xs.length+ys.length≤140737488355328)
  (kk: ∀v' uL g',lK e v' (xs++ys) uL→St g0 g' (uL++L)→g.le g'→K v' g'.w):cT F P N ds o l g.w Q K:=by
 obtain⟨v',uL,g',jf,h1,h2,h3⟩:=u3 (ty:=o.type) dn hb hs hi hd hu Rt hj hk sx hz hlen
 refine fE ho (w':=g'.w) (fun a ha=>?_) (kk v' uL g' h1 h2 h3)
 simp[resolve,invoke,builtin,ha.ev hv,ha.ev hx,jf]
theorem lK.Pb{T e b:Nat}{p v:Value}{xs:List UInt8}{Lr:List cV}(hb:lK e v xs Lr)(hs:St g0 g (.obj b (.cells [p,v].toArray T (0,0))::(Lr++L))):Lib.BuilderAtF T e g0.w.heap.size b p (Lib.byteCells xs) g.w:=by
 have h0:=hs.own 0 _ rfl
 have hlen:(Lib.byteCells xs).length=xs.length:=by simp[Lib.byteCells]
 rcases hb with⟨rfl,rfl,rfl⟩|⟨br,cap,cur,rfl,rfl,nd,oJ,mG,cB⟩
 ·exact⟨h0.1,_,h0.2.1,⟨rfl,.inl ⟨rfl,rfl⟩⟩,by simp[Value.ownBlock]⟩
 ·have h1:=hs.own 1 _ rfl
  refine⟨h0.1,_,h0.2.1,⟨by rw[hlen,Nat.mul_one],.inr ⟨br,cap,cur,(0,0),by rw[hlen],h1.1,h1.2.1,Nat.zero_le _,by rw[hlen];exact nd,oJ,by rw[Nat.mul_one];exact mG,by rw[hlen,Nat.mul_one,cB];rfl⟩⟩,?_⟩
  intro h
  simp only[Value.ownBlock,Option.some.injEq]at h
  exact hs.sep 0 1 _ _ (by omega) rfl rfl b rfl (by simp[cV.rV,h])
end Go.K
