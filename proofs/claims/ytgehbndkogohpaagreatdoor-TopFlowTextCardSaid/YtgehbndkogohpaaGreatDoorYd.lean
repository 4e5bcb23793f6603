/- Parts of the proof, from: How the structures lie in memory. -/
import Derived.Test.YtgehbndkogohpaaGreatDoorYc
import Derived.Lib.Bytealg
import Derived.Maps.RangeRun
import Derived.Shelf.Strings.BuilderK
import Derived.Laws.Externs
import Derived.RecoverIn
import Derived.Sort.OwnSortedInts
namespace Go.Proofs.YtgehbndkogohpaaGreatDoor
open Go Go.K
def qD(g:G)(cs:List Value)(s:Step):Prop:=
 ∃a1 n1 c1 a2 n2 c2,cs=[.int .i64 s.cE,.slice a1 n1 c1,.int .i64 s.min,.int .i64 s.max,.slice a2 n2 c2,.int .i64 s.back,.int .i64 s.dI]∧Rs g (.slice a1 n1 c1) s.dt∧Rs g (.slice a2 n2 c2) s.next
instance:El Step where
 k:=7
 pos:=by omega
 rc:=qD
 len h:=by obtain⟨_,_,_,_,_,_,rfl,_⟩:=h;rfl
 mono hle h:=by obtain⟨a1,n1,c1,a2,n2,c2,e,h1,h2⟩:=h;exact⟨a1,n1,c1,a2,n2,c2,e,h1.mono hle,h2.mono hle⟩
 one h:=by obtain⟨_,_,_,_,_,_,rfl,_⟩:=h;simp[Value.oneCell']
instance:El bZ where
 k:=3
 pos:=by omega
 rc _ cs w:=cs=[.int .i64 w.src,.int .i64 w.dst,.int .i64 w.dI]
 len h:=by rw[h];rfl
 mono _ h:=h
 one h:=by rw[h];simp[Value.oneCell']
def ff(g:G)(v:Value)(f:bQ):Prop:=
 ∃a1 n1 c1 a2 n2 c2,v= .agg #[.int .i64 f.bB,.int .i64 f.bU,.slice a1 n1 c1,.slice a2 n2 c2]∧Rs g (.slice a1 n1 c1) f.steps∧Rs g (.slice a2 n2 c2) f.windows
theorem ff.mono{g g':G}{v:Value}{f:bQ}(hle:g.le g')(h:ff g v f):ff g' v f:=by obtain⟨a1,n1,c1,a2,n2,c2,e,h1,h2⟩:=h;exact⟨a1,n1,c1,a2,n2,c2,e,h1.mono hle,h2.mono hle⟩
instance{g g':G}{v:Value}{f:bQ}:Mn (ff g v f) g g' (ff g' v f):=⟨fun h a=>a.mono h⟩
def fV(g:G)(v:Value)(s:Step):Prop:=∃cs,v= .agg cs.toArray∧qD g cs s
theorem fV.mono{g g':G}{v:Value}{s:Step}(hle:g.le g')(h:fV g v s):fV g' v s:=by obtain⟨cs,e,h⟩:=h;exact⟨cs,e,El.mono (α:=Step) hle h⟩
def lu:Nat→Int→List (Int×Bool)
 |0,_=>[]
 |k+1,z=>(IntKind.u8.wrap (bc .u64 z 127),decide (z<128))::if z<128 then []else lu k (ck .u64 z 7)
def zz(n:Int):Int:=bd .u64 (cq .u64 (IntKind.u64.wrap n) 1) (IntKind.u64.wrap (ck .i64 n 63))
def DI(x:Int×Bool):Int:=if x.2=true then x.1 else bK .u8 x.1 128
def eT(n:Int):List UInt8:=((lu 10 (zz n)).map DI).map fun m=>UInt8.ofNat m.toNat
def qm(n:Int):Prop:=-4611686018427387903≤n∧n≤4611686018427387903
theorem wP(k:Nat): ∀z,(lu k z).length≤k:=by
 induction k with
 |zero=>intro z;simp[lu]
 |succ k ih=>
  intro z;unfold lu;rw[List.length_cons];split
  ·simp
  have:=ih (ck .u64 z 7);omega
theorem lr(n:Int):(eT n).length≤10:=by unfold eT;rw[List.length_map,List.length_map];exact wP 10 _
theorem vJ(n:Int):0≤IntKind.u64.wrap n∧IntKind.u64.wrap n<18446744073709551616:=by unfold IntKind.wrap;simp[IntKind.signed,IntKind.bits];omega
theorem F6(n:Int):0≤zz n∧zz n<128^10:=by have:zz n=IntKind.u64.wrap ((BitVec.ofInt IntKind.u64.bits (cq .u64 (IntKind.u64.wrap n) 1)^^^BitVec.ofInt IntKind.u64.bits (IntKind.u64.wrap (ck .i64 n 63))).toNat:Int):=rfl;rw[this];have h:=vJ ((BitVec.ofInt IntKind.u64.bits (cq .u64 (IntKind.u64.wrap n) 1)^^^BitVec.ofInt IntKind.u64.bits (IntKind.u64.wrap (ck .i64 n 63))).toNat:Int);generalize IntKind.u64.wrap _=m at*;omega
theorem Ts{z:Int}(_h0:0≤z):ck .u64 z 7=z/128:=by have:ck .u64 z 7=z.fdiv 128:=rfl;rw[this,Int.fdiv_eq_ediv_of_nonneg _ (by omega)]
def mA(s:List UInt8):List UInt8×Int:=if 65536<s.length then([],10)else(eT s.length++s,0)
structure bH where
 kind:Int
 idn:Int
 ver:Int
 day:Int
 gone:Bool
 time:Int
 til:Int
 waf:Int
 oth:Int
 lot:Int
 prod:Int
 tool:Int
 cham:Int
 step:Int
 rcp:Int
 rvn:Int
 val:Int
 par:Int
 text:List UInt8
 deriving DecidableEq
def iy:bH:=⟨0,0,0,0,false,0,0,0,0,0,0,0,0,0,0,0,0,0,[]⟩
def bH.num(f:bH):Nat→Int
 |0=>f.kind
 |1=>f.idn
 |2=>f.ver
 |3=>f.day
 |5=>f.time
 |6=>f.til
 |7=>f.waf
 |8=>f.oth
 |9=>f.lot
 |10=>f.prod
 |11=>f.tool
 |12=>f.cham
 |13=>f.step
 |14=>f.rcp
 |15=>f.rvn
 |16=>f.val
 |17=>f.par
 |_=>0
def bH.put(f:bH)(i:Nat)(n:Int):bH:=
 match i with
 |0=>{f with kind:=n}
 |1=>{f with idn:=n}
 |2=>{f with ver:=n}
 |3=>{f with day:=n}
 |5=>{f with time:=n}
 |6=>{f with til:=n}
 |7=>{f with waf:=n}
 |8=>{f with oth:=n}
 |9=>{f with lot:=n}
 |10=>{f with prod:=n}
 |11=>{f with tool:=n}
 |12=>{f with cham:=n}
 |13=>{f with step:=n}
 |14=>{f with rcp:=n}
 |15=>{f with rvn:=n}
 |16=>{f with val:=n}
 |17=>{f with par:=n}
 |_=>f
structure jQ where
 at_:Nat
 lo:Int
 hi:Int
structure AD where
 fields:List jQ
 key:List jQ
 rest:Nat
 ji:Bool
def eH(i:Nat):jQ:=⟨i,1,1000000⟩
def eB:jQ:=⟨5,0,1000000⟩
def gQ:List jQ:=[eB,⟨6,0,1000000⟩]
def fb:List jQ:=[⟨11,0,59⟩,⟨12,0,3⟩]
def mw:List jQ:=[eH 1]
def sW:List jQ:=[eH 14,eH 15]
def nE:List jQ:=[⟨7,0,1000000⟩,⟨9,0,1000000⟩,⟨11,0,60⟩,⟨12,0,4⟩,⟨13,0,40⟩,⟨14,0,1000000⟩,⟨15,0,1000000⟩]
def ru:jQ:=⟨17,1,255⟩
def xu:jQ:=⟨16,-1000000,1000000⟩
def my:List AD:=[
 ⟨mw++[eH 7]++fb++[⟨13,0,39⟩]++sW++gQ++[⟨16,-10000000,10000000⟩],mw,1,false⟩,
 ⟨mw++[eB,xu],mw,0,false⟩,
 ⟨mw++[eH 7,eH 8,eB],mw,2,false⟩,
 ⟨[eH 7,eH 9,eH 10,eB],[eH 7,eB],0,false⟩,
 ⟨[eH 10],[eH 10],0,true⟩,
 ⟨mw++fb++sW++gQ,mw,1,false⟩,
 ⟨mw++nE++gQ++[ru],mw,1,false⟩,
 ⟨[eH 8,ru,eB],[eH 8,ru],0,false⟩,
 ⟨mw++fb++[eB],mw,0,false⟩,
 ⟨[eH 14,eB,xu],[eH 14,eB],0,false⟩,
 ⟨mw++fb++gQ,mw,1,false⟩]
def dQ(k:Int):Option AD:=if k<1 then none else my[(k-1).toNat]?
def qj:Nat→bH→Bool
 |1,f=>decide (f.time≤f.til)
 |2,f=>f.waf !=f.oth
 |_,_=>true
def mz:List jQ→bH→Option bH
 |[],f=>some f
 |x::l,f=>if f.num x.at_<x.lo||x.hi<f.num x.at_ then none else mz l (f.put x.at_ 0)
def pE(f:bH):bH:={iy with kind:=f.kind,ver:=f.ver,day:=f.day,gone:=f.gone}
def eC(f:bH):Bool:=
 match dQ f.kind with
 |none=>false
 |some s=>
  if f.ver<1||1000000<f.ver||f.day<0||100000<f.day||8192<(f.text.length:Int)|| !qj s.rest f then false
  else match mz s.fields f with
   |none=>false
   |some g=>decide ((if s.ji then {g with text:=[]}else g)=pE f)
def tK(f:bH)(l:List jQ):List UInt8:=l.flatMap fun x=>eT (f.num x.at_)
def eP(f:bH):List UInt8:=if eC f then eT f.kind++tK f ((dQ f.kind).elim [] (·.key))else []
def nF(b:Bool):Int:=if b then 1 else 0
def lJ(f:bH):List UInt8×Int:=
 if eC f then(eT f.kind++eT f.ver++eT f.day++eT (nF f.gone)++tK f ((dQ f.kind).elim [] (·.fields))++(if(dQ f.kind).elim false (·.ji)then(mA f.text).1 else []),0)else([],150)
def o8(a b:bH):Bool:=
 if(lJ a).2≠0∨(lJ b).2≠0∨eP a≠eP b then false
 else if a.ver≠b.ver then decide (b.ver<a.ver)else decide (0<Lib.compareBytes (lJ a).1 (lJ b).1)
structure gn where
 ls:Nat→List bH
def gn.procs(b:gn):=b.ls 0
def gn.vX(b:gn):=b.ls 2
def gn.iz(b:gn):=b.ls 3
def gn.lZ(b:gn):=b.ls 4
def gn.nh(b:gn):=b.ls 5
def gn.holds(b:gn):=b.ls 6
def gn.kj(b:gn):=b.ls 7
structure jJ where
 waf:Int
 step:Int
 tool:Int
 cham:Int
 rcp:Int
 rvn:Int
 time:Int
end Go.Proofs.YtgehbndkogohpaaGreatDoor
namespace Go.K
open Go Go.RowKit Go.MapKept
class fk(κ:Type)[DecidableEq κ] where
 enc:κ→Value
 desc:TypeDesc
 kd:KD
 of: ∀{d},KD.of d=kd→d=desc
 same: ∀a b,Instr.sameNow desc (enc a) (enc b)=some (decide (a=b))
 key: ∀a,IsKey desc (enc a)
 bits: ∀a,Instr.sameBits 10000 (enc a) (enc a)=true
instance:fk Int where
 enc:=.int .i64
 desc:=.int .i64
 kd:=.int .i64
 of h:=KD.of_int h
 same a b:=by simp[Instr.sameNow];rfl
 key a:=rfl
 bits a:=by simp[Instr.sameBits]
instance:fk (List UInt8) where
 enc x:=.string (bs x)
 desc:=.string
 kd:=.string
 of h:=KD.of_string h
 same a b:=by
  simp only[Instr.sameNow,Option.some.injEq];by_cases h:a=b
  ·subst h;simp[(MapKept.bytes_beq _ _).2 rfl]
  rw[decide_eq_false h];cases hb:(bs a==bs b)with
  |false=>rfl
  |true=>exact absurd (LK ((MapKept.bytes_beq _ _).1 hb)) h
 key a:=trivial
 bits a:=by simp[Instr.sameBits,(MapKept.bytes_beq _ _).2 rfl]
variable {F:Fence} {P:Program} {N:Nat} {ds:List Deferred} {l:Env} {w:World} {Q:Exit→Act→World→Prop} {o:Oper} {g0 g:G} {L:List cS} {K:Value→World→Prop}
variable {κ:Type} [DecidableEq κ] [fk κ]
def lY:Nat→List (κ×Value)→List MapEntry
 |_,[]=>[]
 |i,(k,v)::r=>{key:=fk.enc k,val:=v,born:=i}::lY (i+1) r
def eA(cu:List (κ×Value)):Obj:=.map (lY 0 cu).toArray cu.length
def mf(a:κ):List (κ×Value)→Nat→Option (Nat×Value)
 |[],_=>none
 |(k,v)::r,j=>if a=k then some (j,v)else mf a r (j+1)
def iD(a:κ):List (κ×Value)→Option Value
 |[]=>none
 |(k,v)::r=>if a=k then some v else iD a r
def jk(a:κ)(x:Value):List (κ×Value)→List (κ×Value)
 |[]=>[(a,x)]
 |(k,v)::r=>if a=k then(k,x)::r else(k,v)::jk a x r
theorem CO: ∀(cu:List (κ×Value)) (i:Nat),(lY i cu).length=cu.length
 |[],_=>rfl
 |_::r,i=>by simp[lY,CO r]
theorem jO: ∀(cu:List (κ×Value)) (i j:Nat),(lY i cu)[j]? =(cu[j]?).map fun p=>{key:=fk.enc p.1,val:=p.2,born:=i+j}
 |[],_,_=>by simp[lY]
 |(k,v)::r,i,0=>by simp[lY]
 |(k,v)::r,i,j+1=>by simp only[lY,List.getElem?_cons_succ];rw[jO r (i+1) j,show i+1+j=i+(j+1)from by omega]
theorem ym(ys:List (κ×Value)): ∀(xs:List (κ×Value)) (i:Nat),lY i (xs++ys)=lY i xs++lY (i+xs.length) ys
 |[],i=>by simp[lY]
 |(k,v)::r,i=>by simp only[List.cons_append,lY,List.length_cons];rw[ym ys r (i+1),show i+1+r.length=i+(r.length+1)from by omega]
theorem mZ(a:κ): ∀(cu:List (κ×Value)) (i j:Nat),Instr.findNow (fk.desc κ) (fk.enc a) (lY i cu) j=some (mf a cu j)
 |[],_,_=>rfl
 |(k,v)::r,i,j=>by
  simp only[lY,Instr.findNow,fk.same,mf];by_cases h:a=k
  ·simp[h]
  simp[h,mZ a r]
omit [fk κ] in
theorem qY{a:κ}: ∀{cu:List (κ×Value)} {j:Nat},mf a cu j=none→iD a cu=none∧ ∀x,jk a x cu=cu++[(a,x)]
 |[],_,_=>⟨rfl,fun _=>rfl⟩
 |(k,v)::r,j,h=>by
  unfold mf at h;split at h
  ·cases h
  rename_i fB;obtain⟨h1,h2⟩:=qY h;exact⟨by simp[iD,fB,h1],fun x=>by simp[jk,fB,h2]⟩
omit [fk κ] in
theorem oU{a:κ}: ∀{cu:List (κ×Value)} {j i:Nat} {v:Value},mf a cu j=some (i,v)→iD a cu=some v∧ ∃n,i=j+n∧cu[n]? =some (a,v)∧ ∀x,jk a x cu=cu.set n (a,x)
 |[],_,_,_,h=>by cases h
 |(k,u)::r,j,i,v,h=>by
  unfold mf at h;split at h
  ·rename_i he;simp only[Option.some.injEq,Prod.mk.injEq]at h;obtain⟨rfl,rfl⟩:=h;subst he;exact⟨by simp[iD],0,rfl,rfl,fun x=>by simp[jk]⟩
  rename_i fB;obtain⟨h1,n,h2,h3,h4⟩:=oU h;exact⟨by simp[iD,fB,h1],n+1,by omega,by simpa using h3,fun x=>by simp[jk,fB,h4]⟩
omit [fk κ] in
theorem rD(a b:κ)(x:Value): ∀cu:List (κ×Value),iD b (jk a x cu)=if b=a then some x else iD b cu
 |[]=>by simp[jk,iD]
 |(k,v)::r=>by
  by_cases h:a=k
  ·subst h;by_cases hb:b=a<;>simp[jk,iD,hb]
  by_cases hb:b=k
  ·subst hb;simp[jk,iD,h];intro e;exact absurd e.symm h
  simp[jk,iD,h,hb,rD a b x r]
theorem KD.of_map{d:TypeDesc}{k e:TypeId}(h:KD.of d= .map k e):d= .map k e:=by cases d<;>simp only[KD.of,reduceCtorEq,KD.map.injEq]at h;rw[h.1,h.2]
structure qy(κ:Type)[DecidableEq κ][fk κ](P:Program)(T:TypeId)(zero:Value):Prop where
 kt: ∃k e,P.underlying T=some (.map k e)∧P.underlying k=some (fk.desc κ)∧ ∀w,(zeroValue e).run P w= .ok zero w
theorem zc{tb:Tb}(dq:tb.ok P){T k e:Nat}{i j m:TI}(hi:tl tb T=some i)(hd:i.desc= .map k e)(hk:tl tb k=some j)(TQ:j.desc=fk.kd κ)(he:tl tb e=some m):qy κ P T m.zero:=by obtain⟨⟨d,hu,U'⟩,_⟩:=dq.at hi;rw[hd]at U';obtain rfl:=KD.of_map U';obtain⟨⟨d2,Hp,Ql⟩,_⟩:=dq.at hk;rw[TQ]at Ql;obtain rfl:=fk.of Ql;obtain⟨_,inf,h1,_,_,h4⟩:=dq.at he;exact⟨k,e,hu,Hp,fun w=>by simp[zeroValue,typeInfo,h1,h4]⟩
theorem BF{T:TypeId}{z:Value}(ht:qy κ P T z){b:Nat}{cu:List (κ×Value)}(hb:w.heap[b]? =some (eA cu))(a:κ)(x:Value):
  (Instr.mapUpdate T (.map (some b)) (fk.enc a) x).run P w= .ok () (w.putObj b (eA (jk a x cu))):=by
 obtain⟨k,e,h1,h2,_⟩:=ht.kt;have hf:=run_findKey (P:=P) (w:=w) (l:=lY 0 cu) h2 (mZ a cu 0 0);simp only[Instr.mapUpdate,Sem.run_bind,run_underlying h1,Result.andThen_ok,MapKept.run_getObj_map hb,run_checkKey h2 (fk.key a),List.toList_toArray];rw[show(Instr.findKey k (fk.enc a) (lY 0 cu)).run P w=_ from hf];cases hm:mf a cu 0 with
 |none=>
  simp only[Result.andThen_ok];rw[run_setObj_map _ hb,(qY hm).2 x];unfold World.putObj eA;rw[ym];simp[lY]
 |some p=>
  obtain⟨i,v⟩:=p;obtain⟨_,n,h3,h4,h5⟩:=oU hm;obtain rfl:i=n:=by omega
  have h6:(lY 0 cu)[i]? =some {key:=fk.enc a,val:=v,born:=i}:=by rw[jO,h4];simp
  simp only[Result.andThen_ok,List.getElem?_toArray,h6,Option.map_some,Option.getD_some,Instr.keyThatStays,fk.bits,if_true,Sem.run_bind,Sem.run_pure];rw[run_setObj_map _ hb,h5 x];unfold World.putObj eA;congr 3;rw[List.length_set];congr 1;apply Array.ext';rw[Array.toList_modify];simp only[List.toList_toArray];apply List.ext_getElem?;intro j;rw[List.getElem?_modify,jO,jO,List.getElem?_set];by_cases hj:i=j
  ·subst hj;have bC:=(List.getElem?_eq_some_iff.1 h4).1;simp[h4,bC]
  simp[hj]
theorem BG{T:TypeId}{z:Value}(ht:qy κ P T z){b:Nat}{cu:List (κ×Value)}(hb:w.heap[b]? =some (eA cu))(a:κ)(ok:Bool):
  (Instr.lookup T (.map (some b)) (fk.enc a) ok).run P w= .ok (if ok then .tuple #[(iD a cu).getD z,.bool (iD a cu).isSome]else(iD a cu).getD z) w:=by
 obtain⟨k,e,h1,h2,h3⟩:=ht.kt;have hf:=run_findKey (P:=P) (w:=w) (l:=lY 0 cu) h2 (mZ a cu 0 0);simp only[Instr.lookup,Sem.run_bind,run_underlying h1,Result.andThen_ok,MapKept.run_getObj_map hb,run_checkKey h2 (fk.key a),List.toList_toArray,Sem.run_pure];rw[show(Instr.findKey k (fk.enc a) (lY 0 cu)).run P w=_ from hf];cases hm:mf a cu 0 with
 |none=>
  simp only[Result.andThen_ok,Sem.run_bind,h3,Sem.run_pure,(qY hm).1];cases ok<;>rfl
 |some p=>
  obtain⟨i,v⟩:=p;simp only[Result.andThen_ok,Sem.run_pure,(oU hm).1];cases ok<;>rfl
theorem jV{T:TypeId}(ho:o.op= .makeMap T none)(hs:St g0 g L)(k: ∀b g',St g0 g' (.obj b (eA ([]:List (κ×Value)))::L)→g.le g'→K (.map (some b)) g'.w):cD F P N ds o l g.w Q K:=by refine bO (w':=(g.al (.map #[] 0)).w) (fun c=>⟨by rw[ho];simp,by rw[ho];simp⟩) (fun a ha=>?_) (k _ _ (hs.al _).1 (hs.al _).2);simp[execOp,ho,Instr.makeMap,newObj];rfl
theorem dK{T:TypeId}{z:Value}(ht:qy κ P T z)(i:Nat){m kk x:Operand}{b:Nat}{cu:List (κ×Value)}{a:κ}{v:Value}(ho:o.op= .mapUpdate T m kk x∨o.op= .insert T m kk x)(hs:St g0 g L)(hi:L[i]? =some (.obj b (eA cu)))
  (hm:ev l m=some (.map (some b))) (hk:ev l kk=some (fk.enc a)) (hx:ev l x=some v) (k: ∀g',St g0 g' (L.set i (.obj b (eA (jk a v cu))))→g.le g'→K undef g'.w):cD F P N ds o l g.w Q K:=by
 have hh:=(hs.own i _ hi).2.1;have h:=hs.po hi (o':=eA (jk a v cu));have hr:=BF ht hh a v;rcases ho with ho|ho
 all_goals
  refine qO (w':=(g.po b (eA (jk a v cu))).w) (fun c=>⟨by rw[ho];simp,by rw[ho];simp⟩) (fun ac ha=>?_) (k _ h.1 h.2);simp only[execOp,ho,ha.ev hm,ha.ev hk,ha.ev hx,Sem.run_bind,hr];rfl
theorem mF{T:TypeId}{z:Value}(ht:qy κ P T z){m kk:Operand}{ok:Bool}{b:Nat}{cu:List (κ×Value)}{a:κ}(ho:o.op= .lookup T m kk ok)(hh:w.heap[b]? =some (eA cu))
  (hm:ev l m=some (.map (some b))) (hk:ev l kk=some (fk.enc a)) (k:K (if ok then .tuple #[(iD a cu).getD z,.bool (iD a cu).isSome]else(iD a cu).getD z) w):cD F P N ds o l w Q K:=by
 refine bO (fun c=>⟨by rw[ho];simp,by rw[ho];simp⟩) (fun ac ha=>?_) k;simp only[execOp,ho,ha.ev hm,ha.ev hk,Sem.run_bind,BG ht hh a ok];rfl
def vk(b n:Nat)(seen:Array Nat):Obj:=.mapIter (some b) n seen n
theorem oK{T:TypeId}{z:Value}(ht:qy κ P T z){m:Operand}{b:Nat}{cu:List (κ×Value)}(ho:o.op= .range T m)(hh:g.w.heap[b]? =some (eA cu))(hm:ev l m=some (.map (some b)))(hs:St g0 g L)
  (k: ∀r g',St g0 g' (.obj r (vk b cu.length #[])::L)→g.le g'→K (.pointer (some ⟨r,0,none⟩)) g'.w):cD F P N ds o l g.w Q K:=by
 obtain⟨kt,e,h1,_,_⟩:=ht.kt;refine bO (w':=(g.al (vk b cu.length #[])).w) (fun c=>⟨by rw[ho];simp,by rw[ho];simp⟩) (fun a ha=>?_) (k _ _ (hs.al _).1 (hs.al _).2);have:=run_range_map (P:=P) g.w T kt e b _ _ h1 hh;simp only[execOp,ho,ha.ev hm,Sem.run_bind,this];rfl
theorem qB(i:Nat){it:Operand}{r b:Nat}{cu:List (κ×Value)}{seen:Array Nat}(ho:o.op= .next it false)(hs:St g0 g L)(hi:L[i]? =some (.obj r (vk b cu.length seen)))(hh:g.w.heap[b]? =some (eA cu))
  (hit:ev l it=some (.pointer (some ⟨r,0,none⟩)))
  (k0:(∀j,j<cu.length→j∈seen)→K (.tuple #[.bool false]) g.w)
  (k1: ∀(j:Nat) p g',cu[j]? =some p→j∉seen→St g0 g' (L.set i (.obj r (vk b cu.length (seen.push j))))→g.le g'→K (.tuple #[.bool true,fk.enc p.1,p.2]) g'.w):cD F P N ds o l g.w Q K:=by
 have hr:=(hs.own i _ hi).2.1;have Q8: ∀x∈(lY 0 cu).toArray.toList,x.born<cu.length:=by intro x hx;obtain⟨j,hj⟩:=List.mem_iff_getElem?.1 (by simpa using hx:x∈lY 0 cu);rw[jO]at hj;obtain⟨p,hp,rfl⟩:=Option.map_eq_some_iff.1 hj;have:=(List.getElem?_eq_some_iff.1 hp).1;simpa using this
 rcases run_next_at (P:=P) g.w o.type r b cu.length cu.length seen (lY 0 cu).toArray cu.length hr hh Q8 (Nat.le_refl _)with⟨h1,h2⟩|⟨e,he,w1,hw,h2⟩
 ·refine bO (fun c=>⟨by rw[ho];simp,by rw[ho];simp⟩) (fun a ha=>by simp only[execOp,ho,ha.ev hit,Sem.run_bind,h2];rfl) (k0 fun j hj=>?_);apply Classical.byContradiction;intro Ir;have hx:(lY 0 cu)[j]? =some {key:=fk.enc cu[j].1,val:=cu[j].2,born:=j}:=by rw[jO,List.getElem?_eq_getElem hj];simp
  have:({key:=fk.enc cu[j].1,val:=cu[j].2,born:=j}:MapEntry)∈leftOf (lY 0 cu).toArray seen:=by unfold leftOf;rw[Array.mem_filter];exact⟨by simpa using List.mem_of_getElem? hx,by simpa using Ir⟩
  rw[Array.eq_empty_of_size_eq_zero h1]at this;simp at this
 unfold leftOf at he;have Kp:e∈(Array.filter (fun e=> !seen.contains e.born) (lY 0 cu).toArray):=by simpa using he
 rw[Array.mem_filter]at Kp;obtain⟨hm,Ir⟩:=Kp;obtain⟨j,hj⟩:=List.mem_iff_getElem?.1 (by simpa using hm:e∈lY 0 cu);rw[jO]at hj;obtain⟨p,hp,rfl⟩:=Option.map_eq_some_iff.1 hj;simp only[Nat.zero_add]at h2 Ir;have TS:j∉seen:=by simpa using Ir
 have fin: ∀g1:G,St g0 g1 L→g.le g1→g1.w=w1→cD F P N ds o l g.w Q K:=fun g1 nz hle z'=>by have h:=nz.po hi (o':=vk b cu.length (seen.push j));refine bO (w':=(g1.po r (vk b cu.length (seen.push j))).w) (fun c=>⟨by rw[ho];simp,by rw[ho];simp⟩) (fun a ha=>?_) (k1 j p _ hp TS h.1 (hle.trans h.2));simp only[execOp,ho,ha.ev hit,Sem.run_bind,h2,←z'];rfl
 rcases hw with rfl|rfl
 ·exact fin g hs (G.le.refl g) rfl
 exact fin g.dr hs.dr (G.bu g) rfl
theorem wY: ∀(cu:List (κ×Value)) (i:Nat),((lY i cu).map (·.born)).Nodup∧ ∀x∈lY i cu,i≤x.born
 |[],_=>by simp[lY]
 |(k,v)::r,i=>by
  obtain⟨h1,h2⟩:=wY r (i+1);refine⟨?_,fun x hx=>?_⟩
  ·simp only[lY,List.map_cons,List.nodup_cons];refine⟨fun hm=>?_,h1⟩;obtain⟨x,hx,he⟩:=List.mem_map.1 hm;have:=h2 x hx;omega
  simp only[lY,List.mem_cons]at hx;rcases hx with rfl|hx
  ·exact Nat.le_refl _
  have:=h2 x hx;omega
theorem oL(i:Nat){it:Operand}{r b j:Nat}{p:κ×Value}{cu:List (κ×Value)}{seen:Array Nat}(ho:o.op= .entry it)(hs:St g0 g L)(hi:L[i]? =some (.obj r (vk b cu.length (seen.push j))))(hh:g.w.heap[b]? =some (eA cu))
  (hit:ev l it=some (.pointer (some ⟨r,0,none⟩))) (hp:cu[j]? =some p) (k:K (.tuple #[fk.enc p.1,p.2]) g.w):cD F P N ds o l g.w Q K:=by
 have hr:=(hs.own i _ hi).2.1;have he:(lY 0 cu)[j]? =some {key:=fk.enc p.1,val:=p.2,born:=j}:=by rw[jO,hp];simp
 have:=run_entry_at (P:=P) g.w r b cu.length seen (lY 0 cu).toArray cu.length {key:=fk.enc p.1,val:=p.2,born:=j} hr hh (by simpa using List.mem_of_getElem? he) (by simpa using(wY cu 0).1);refine bO (fun c=>⟨by rw[ho];simp,by rw[ho];simp⟩) (fun a ha=>?_) k;simp only[execOp,ho,ha.ev hit,Sem.run_bind,this];rfl
end Go.K
namespace Go.K
open Go Go.RowKit
variable {F:Fence} {P:Program} {N:Nat} {ds:List Deferred} {l l':Env} {a:Act} {w:World} {Q:Exit→Act→World→Prop} {ops:Array Oper} {os:List Oper} {o:Oper}
variable {g0 g:G} {L L':List cS} {K:Value→World→Prop} {R:Ending→World→Prop}
def ma(e:TypeId)(v:Value)(xs:List UInt8)(Lr:List cS):Prop:=
 (v= .slice none 0 0∧xs=[]∧Lr=[])∨ ∃br cap cur,v= .slice (some ⟨br,0,none⟩) xs.length cap∧Lr=[.obj br (.cells cur e (0,0))]∧xs.length≤cap∧cap≤maxLen∧cur.size=cap∧cur.toList.take xs.length=ez xs
theorem ma.nil(e:TypeId):ma e (.slice none 0 0) [] []:=.inl ⟨rfl,rfl,rfl⟩
theorem sG(s:List UInt8):Lib.strCells (bs s)=ez s:=by simp[Lib.strCells,ez,bs]
theorem mV(s:List UInt8):(ez s).length=s.length:=by simp[ez]
theorem DT(s t:List UInt8):ez (s++t)=ez s++ez t:=by simp[ez]
theorem DU{g:G}{w':World}(hg:g.w.grownBy w' none):a_ g ⟨w',g.im,fun b h=>Nat.lt_of_lt_of_le (g.lt b h) hg.size⟩:=
 ⟨⟨hg.os,hg.tape,hg.output,hg.size,fun k hk=>hg.block k hk (by simp)⟩,fun _ _=>Iff.rfl⟩
theorem vN{tb:Tb}(dq:tb.ok P){t u e ty:Nat}{ti ei ui:TI}{v:Value}{xs ys:List UInt8}{Lr:List cS}(hb:ma e v xs Lr)(hs:St g0 g (Lr++L))
  (hi:tl tb t=some ti) (hd:ti.desc= .slice e) (hu:tl tb u=some ui) (TG:ui.desc= .string) (hj:tl tb e=some ei) (hk:ei.size=1) (tD:ei.bytes=1) (hz:ei.zero= .int .u8 0) (hlen:xs.length+ys.length≤140737488355328):
  ∃v' vt g',(Builtin.append_ #[t,u] ty #[v,.string (bs ys)]).run P g.w= .ok v' g'.w∧ma e v' (xs++ys) vt∧St g0 g' (vt++L)∧g.le g':=by
 obtain⟨⟨dd,Ho,he⟩,_⟩:=dq.at hi;rw[hd]at he;obtain rfl:=KD.of_slice he;obtain⟨⟨dd,Hp,he⟩,_⟩:=dq.at hu;rw[TG]at he;obtain rfl:=KD.of_string he;obtain⟨_,inf,e1,e2,e3,e4⟩:=dq.at hj;rw[hk]at e2;rw[tD]at e3;rw[hz]at e4;have cP:(bs ys).size=ys.length:=fC ys;have HT:xs.length+ys.length≤maxLen:=by unfold maxLen;omega
 have Gg: ∀(Bo:Nat) (cs:List Value),cs.length=xs.length+ys.length→Bo<xs.length+ys.length→cs=ez (xs++ys)→
   ma e (.slice (some ⟨g.w.heap.size,0,none⟩) (xs.length+ys.length) (grownCap g.w (xs.length+ys.length) Bo e)) (xs++ys)
    [.obj g.w.heap.size (.cells (cs.toArray++Builtin.zeroCells (Value.int .u8 0).cells (grownCap g.w (xs.length+ys.length) Bo e-(xs.length+ys.length))) e (0,0))]:=by
  intro Bo cs fr ho hc;have Hj:=grownCap_ge g.w (xs.length+ys.length) Bo e;have sB:grownCap g.w (xs.length+ys.length) Bo e≤maxLen:=grownCap_le_maxLen g.w (xs.length+ys.length) Bo e HT;refine .inr ⟨_,_,_,by rw[List.length_append],rfl,by rw[List.length_append];exact Hj,sB,?_,?_⟩
  ·have TH:(Value.int IntKind.u8 0).cells.size=1:=rfl;simp only[Array.size_append,List.size_toArray,size_zeroCells,TH,fr];omega
  rw[←hc,List.length_append,←fr];simp only[Array.toList_append];exact List.take_left
 rcases hb with⟨rfl,rfl,rfl⟩|⟨br,cap,cur,rfl,rfl,o7,sB,nY,fP⟩
 ·by_cases hm:ys.length=0
  ·have JT:ys=[]:=List.eq_nil_of_length_eq_zero hm;subst JT;refine⟨.slice none 0 0,[],g,?_,.inl ⟨rfl,rfl,rfl⟩,hs,G.le.refl g⟩;have hf:=Lib.run_firstCells_string (P:=P) g.w 1 (bs []);rw[cP,List.length_nil]at hf;simp[Builtin.append_,run_underlying Ho,run_underlying Hp,sizeOf,typeInfo,e1,e2,Builtin.lenOf,cP,hf]
  have hr:=run_append_nil_string (P:=P) (ty:=ty) g.w t u e inf (.int .u8 0) Ho Hp e1 e4 (bs ys) (by rw[cP];omega) (by rw[cP];omega) (by rw[e3,cP];omega);have e5:((bs ys).data.map fun b=>Value.int .u8 b.toNat)=(ez ys).toArray:=by apply Array.ext';simp[ez,bs]
  rw[e5,cP]at hr;have Ek:=Gg 0 (ez ys) (by simp[ez]) (by simp only[List.length_nil];omega) (by simp);simp only[List.length_nil,Nat.zero_add]at Ek;have hg:g.w.grownBy (g.w.drew.alloc (.cells ((ez ys).toArray++Builtin.zeroCells (Value.int .u8 0).cells (grownCap g.w ys.length 0 e-ys.length)) e)) none:=⟨rfl,rfl,rfl,by simp,fun k hk _=>heap_alloc_old g.w.drew _ k hk⟩
  let g':G:=⟨_,g.im,fun b h=>Nat.lt_of_lt_of_le (g.lt b h) hg.size⟩
  have dH:=hs.add (g':=g') (e':=.obj g.w.heap.size (.cells ((ez ys).toArray++Builtin.zeroCells (Value.int .u8 0).cells (grownCap g.w ys.length 0 e-ys.length)) e)) hg (fun _ _=>Iff.rfl)
   ⟨hs.below.size,heap_alloc_new g.w.drew _,fun h=>by have:=g.lt _ h;omega⟩ (fun b hb=>by simp only[cS.s5,Option.some.injEq]at hb;omega)
  exact⟨_,_,g',hr,Ek,dH.1,dH.2⟩
 have dT:=hs.own 0 _ rfl;have hh:g.w.heap[br]? =some (.cells cur e (0,0)):=dT.2.1;by_cases wX:xs.length+ys.length≤cap
 ·have hr:=Lib.run_append_room_string (P:=P) g.w t u ty e inf Ho Hp e1 e2 br xs.length cap cur hh (bs ys) (by rw[cP];exact wX) (by rw[cP];omega);rw[cP,sG]at hr;have dH:=hs.sr (i:=0) (cs':=(cur.toList.take xs.length++ez ys++cur.toList.drop (xs.length+ys.length)).toArray) rfl;refine⟨_,_,_,hr,.inr ⟨br,cap,_,by rw[List.length_append],rfl,by rw[List.length_append];exact wX,sB,?_,?_⟩,dH.1,dH.2⟩
  ·simp only[List.size_toArray,List.length_append,List.length_take,List.length_drop,Array.length_toList,mV];omega
  rw[fP,DT,show(xs++ys).length=(ez xs++ez ys).length from by simp[ez]];exact List.take_left
 have holds: ∀j u,(ez xs)[j]? =some u→g.w.cell? ((⟨br,0,none⟩:Addr).add j)=some u:=by intro j u TJ;have hj:=(List.getElem?_eq_some_iff.1 TJ).1;rw[mV]at hj;rw[←fP,List.getElem?_take_of_lt hj,Array.getElem?_toList]at TJ;rw[Addr.add_lit];simp[World.cell?,hh,TJ]
 have hr:=Lib.run_append_grow_string (P:=P) g.w t u ty e inf (.int .u8 0) Ho Hp e1 e4 ⟨br,0,none⟩ xs.length cap (ez xs) (by rw[e2,mV];omega) holds (bs ys) (by rw[cP];omega) (by rw[cP];omega) (by rw[e3,cP];exact growslice_fits (by omega) (by omega));rw[cP,sG,show(ez xs).toArray++(ez ys).toArray=(ez (xs++ys)).toArray from by simp[ez]]at hr;have Ek:=Gg cap (ez (xs++ys)) (by simp[ez]) (by omega) rfl;have hg:g.w.grownBy (g.w.drew.alloc (.cells ((ez (xs++ys)).toArray++Builtin.zeroCells (Value.int .u8 0).cells (grownCap g.w (xs.length+ys.length) cap e-(xs.length+ys.length))) e)) (some br):=⟨rfl,rfl,rfl,by simp,fun k hk _=>heap_alloc_old g.w.drew _ k hk⟩
 let g':G:=⟨_,g.im,fun b h=>Nat.lt_of_lt_of_le (g.lt b h) hg.size⟩
 have dH:=hs.Hn (i:=0) (e:=.obj br (.cells cur e (0,0))) (g':=g') (e':=.obj g.w.heap.size (.cells ((ez (xs++ys)).toArray++Builtin.zeroCells (Value.int .u8 0).cells (grownCap g.w (xs.length+ys.length) cap e-(xs.length+ys.length))) e)) rfl hg (fun _ _=>Iff.rfl)
  ⟨hs.below.size,heap_alloc_new g.w.drew _,fun h=>by have:=g.lt _ h;omega⟩ (fun b hb=>by simp only[cS.s5,Option.some.injEq]at hb;right;omega)
 exact⟨_,_,g',hr,Ek,dH.1,dH.2⟩
theorem zY{tb:Tb}(dq:tb.ok P){t u e:Nat}{ti ei ui:TI}{s x:Operand}{v:Value}{xs ys:List UInt8}{Lr:List cS}(ho:o.op= .call {callee:=.builtin .append,args:=#[s,x],argTypes:=#[t,u]})
  (hb:ma e v xs Lr) (hs:St g0 g (Lr++L)) (hv:ev l s=some v) (hx:ev l x=some (.string (bs ys)))
  (hi:tl tb t=some ti) (hd:ti.desc= .slice e) (hu:tl tb u=some ui) (TG:ui.desc= .string) (hj:tl tb e=some ei) (hk:ei.size=1) (tD:ei.bytes=1) (hz:ei.zero= .int .u8 0) (hlen:xs.length+ys.length≤140737488355328)
  (kk: ∀v' vt g',ma e v' (xs++ys) vt→St g0 g' (vt++L)→g.le g'→K v' g'.w):cD F P N ds o l g.w Q K:=by
 obtain⟨v',vt,g',iU,h1,h2,h3⟩:=vN (ty:=o.type) dq hb hs hi hd hu TG hj hk tD hz hlen;refine eZ ho (w':=g'.w) (fun a ha=>?_) (kk v' vt g' h1 h2 h3);simp[resolve,invoke,builtin,ha.ev hv,ha.ev hx,iU]
theorem St.join{g1:G}{M:List cS}(hs:St g0 g L)(hm:St g g1 M):St g0 g1 (M++L):=by
 have aT:=hs.call hm.nC;have up: ∀x:cS,x.holds g.w.heap.size g1→x.holds g0.w.heap.size g1:=by
  intro x h;cases x with
  |obj b o=>exact⟨Nat.le_trans hs.below.size h.1,h.2⟩
  |row t k v n xs=>
   refine⟨⟨h.1.1,?_⟩,h.2⟩;rcases h.1.2 with h'|⟨b,off,cap,cur,e1,hB,h'⟩
   ·exact .inl h'
   exact .inr ⟨b,off,cap,cur,e1,Nat.le_trans hs.below.size hB,h'⟩
 refine⟨aT.below,aT.im,fun j x hj=>?_,fun j k x y Ci hj hk b wS tD=>?_⟩
 ·rw[List.getElem?_append]at hj;split at hj
  ·exact up x (hm.own j x hj)
  exact aT.own _ x hj
 rw[List.getElem?_append]at hj hk;split at hj<;>split at hk
 ·exact hm.sep j k x y Ci hj hk b wS tD
 ·have h1:=((hm.own j x hj).lt b wS).1;have h2:=((hs.own _ y hk).lt b tD).2.1;omega
 ·have h1:=((hm.own k y hk).lt b tD).1;have h2:=((hs.own _ x hj).lt b wS).2.1;omega
 exact aT.sep _ _ x y (by omega) hj hk b wS tD
theorem ma.Rf{T e b:Nat}{p v:Value}{xs:List UInt8}{Lr:List cS}(hb:ma e v xs Lr)(hs:St g0 g (.obj b (.cells [p,v].toArray T (0,0))::(Lr++L))):Lib.BuilderAtF T e g0.w.heap.size b p (Lib.byteCells xs) g.w:=by
 have h0:=hs.own 0 _ rfl;have hlen:(Lib.byteCells xs).length=xs.length:=by simp[Lib.byteCells]
 rcases hb with⟨rfl,rfl,rfl⟩|⟨br,cap,cur,rfl,rfl,o7,sB,nY,fP⟩
 ·exact⟨h0.1,_,h0.2.1,⟨rfl,.inl ⟨rfl,rfl⟩⟩,by simp[Value.ownBlock]⟩
 have h1:=hs.own 1 _ rfl;refine⟨h0.1,_,h0.2.1,⟨by rw[hlen,Nat.mul_one],.inr ⟨br,cap,cur,(0,0),by rw[hlen],h1.1,h1.2.1,Nat.zero_le _,by rw[hlen];exact o7,sB,by rw[Nat.mul_one];exact nY,by rw[hlen,Nat.mul_one,fP];rfl⟩⟩,?_⟩;intro h;simp only[Value.ownBlock,Option.some.injEq]at h;exact hs.sep 0 1 _ _ (by omega) rfl rfl b rfl (by simp[cS.s5,h])
end Go.K
namespace Go.K
open Go Go.RowKit
variable {F:Fence} {P:Program} {N:Nat} {ds:List Deferred} {l l':Env} {a:Act} {w:World} {Q:Exit→Act→World→Prop} {ops:Array Oper} {os:List Oper} {o:Oper}
variable {g0 g:G} {L L':List cS} {K:Value→World→Prop} {R:Ending→World→Prop}
theorem zZ{src dst:TypeId}{x:Operand}{v v':Value}(ho:o.op= .convert src dst x)(hx:ev l x=some v)(h:(convert src dst v).run P w= .ok v' w)(k:K v' w):cD F P N ds o l w Q K:=
 bO (fun c=>⟨by rw[ho];simp,by rw[ho];simp⟩) (fun a ha=>by simp[execOp,ho,ha.ev hx,h]) k
theorem BA{f:FuncId}{fn:Func}{e:Array Value→Sem Value}(hf:P.funcs[f]? =some fn)(Qh:(fn.name== "runtime.NumGoroutine")=false)(hb:fn.body.isNone=true)(hn:Extern.findNext fn=none)(he:Extern.find fn=some e)(hF: ∀f,F.fn f)
  {x:Operand} {args:Array Operand} {ts:Array TypeId} {vs:List Value} {v:Value} (ho:o.op= .call {callee:=.value x,args,argTypes:=ts}) (hx:ev l x=some (.func (.func f) #[] #[])) (ha:sY l args.toList=some vs)
  (h:(e vs.toArray).run P w= .ok v w) (k:K v w):cD F P N ds o l w Q K:=by
 intro a Ep;unfold Oper.wpIn;refine⟨fun f _=>hF f,?_⟩;have pk:args.map a.eval=vs.toArray:=by apply Array.ext';simpa using iH Ep ha
 rw[Oper.semAt_eq _ _ _ (fun c e=>by rw[ho]at e;cases e)];have iU:(execOp a.eval o).run P w= .ok (.value v) w:=by
  simp only[execOp,ho,Sem.run_bind,resolve,Ep.ev hx,Deferred.ofValue,Sem.run_pure,Result.andThen_ok,invoke,pk];have e1:#[]++vs.toArray++#[]=vs.toArray:=by apply Array.ext';simp
  rw[e1,run_callFunc_extern hf Qh hb hn he,h];rfl
 rw[iU];exact⟨v,rfl,k⟩
theorem uP{t te t':TypeId}{j:TypeInfo}{x y:Operand}{ad:Addr}(ho:o.op= .binOp .neq t x y t')(hx:ev l x=some (.pointer (some ad)))(hy:ev l y=some (.pointer (some ad)))
  (hp:P.underlying t=some (.pointer te)) (Di:P.info? te=some j) (k:K (.bool false) w):cD F P N ds o l w Q K:=by
 have hg: ∀op,(eqGuard op t x y (.pointer (some ad)) (.pointer (some ad))).run P w= .ok () w:=fun op=>by unfold eqGuard;split<;>rfl
 have hq:=Lib.run_neq_ptr_same (w:=w) ad hp Di;exact bO (fun c=>⟨by rw[ho];simp,by rw[ho];simp⟩) (fun a ha=>by simp[execOp,ho,ha.ev hx,ha.ev hy,hg,hq]) k
theorem St.tail{M:List cS}(hs:St g0 g (M++L)):St g0 g L:=by
 induction M with
 |nil=>exact hs
 |cons e M ih=>exact ih (hs.drop 0)
theorem Row.at{B:Nat}{e:TypeId}{k:Nat}{v:Value}{n:Nat}{xs:List Value}(h:Row B e k v n xs w){q:Nat}(hq:qi v=some q): ∃cur fz,w.heap[q]? =some (.cells cur e fz):=by
 rcases h.2 with⟨_,a',rfl⟩|⟨b',off,cap,cur,rfl,_,⟨fz,hh,_⟩,_⟩
 ·rw[j6]at hq;cases hq
 obtain⟨_,_,_,e1,_,e2⟩:=jz hq;simp only[Value.slice.injEq,Option.some.injEq]at e1;obtain⟨rfl,_⟩:=e1;subst e2;exact⟨_,_,hh⟩
end Go.K
namespace Go.K
open Go Go.RowKit
variable {F:Fence} {P:Program} {N:Nat} {ds:List Deferred} {l l':Env} {a:Act} {w:World} {Q:Exit→Act→World→Prop} {ops:Array Oper} {os:List Oper} {o:Oper}
variable {g0 g:G} {L L':List cS} {K:Value→World→Prop} {R:Ending→World→Prop}
def pX(tmps:Array Value):Env→Prop
 |[]=>True
 |(t,v)::r=>tmps[t]? =some v∧pX tmps r
theorem pX.get{tmps:Array Value}: ∀{l:Env},pX tmps l→ ∀t v,lk l t=some v→tmps[t]? =some v
 |[],_,t,v,h=>by simp[lk]at h
 |(k,u)::r,⟨h1,h2⟩,t,v,h=>by
  by_cases e:k=t
  ·subst e;rw[cJ]at h;exact(Option.some.inj h)▸h1
  rw[bX _ _ e]at h;exact h2.get t v h
theorem Fr.LL{tmps:Array Value}(hs:tmps.size=N)(h:pX tmps l):Fr N ds l {tmps,defers:=ds}:=⟨rfl,hs,h.get⟩
theorem CL{c:Code}{QS:Exit→Act→List Frame→World→Prop}{cs:List Frame}{tmps:Array Value}{a:Act}(ha:a={tmps,defers:=[]})(hs:tmps.size=N)(hl:pX tmps l)(h:W Wd P N [] c (fun e a' w'=>QS e a' cs w') l w):
  c.wpSIn Wd 0 P QS a cs w:=by
 subst ha;exact wpSIn_of_wpIn rfl (h _ (Fr.LL hs hl))
theorem Qi{fn:Func}{c₀:Frame}{cs cs':List Frame}{RS:Ending→FrameMode→World→Prop}(u':FrameMode)(hr:fn.results=#[])(hc:cs'={c₀ with mode:=u'}::cs)(hR:RS (.returned (.tuple #[])) u' w)(a:Act)(ha:Fr N [] l a):bodyPostS P fn c₀ cs RS .normal a cs' w:=
 ⟨ha.defers,u',hc,_,results_none hr _ _ _,hR⟩
theorem z6{f:FuncId}{x:Operand}{first captured:Array Value}(Lb:F.round=none)(hF: ∀f,F.fn f)(hg:gd ops l o=some true)(hd:o.dst=none)(ho:o.op= .defer {callee:=.value x,args:=#[],argTypes:=#[]})(hx:ev l x=some (.func (.func f) first captured))
  (k:WL F P N (⟨.fn (.func f) captured,first⟩::ds) ops Q os l w):WL F P N ds ops Q (o::os) l w:=by
 intro a ha;simp only[wpListIn,Iv hg ha,if_true];unfold Oper.wpIn;refine⟨fun f _=>hF f,?_⟩;rw[Lb,Oper.semAt_none];have iU:(execOp a.eval o).run P w= .ok (.defer ⟨.fn (.func f) captured,first⟩) w:=by simp[execOp,ho,resolve,ha.ev hx,Deferred.ofValue]
 rw[iU];simp only[Oper.uponIn,hd,Act.put];exact k _ ⟨by simp[ha.defers],ha.size,ha.get⟩
theorem Gh{f:FuncId}{fn:Func}{c:Code}{args:Array Value}(hf:P.funcs[f]? =some fn)(hb:fn.body=some c)(hN:fn.ntmps=N)(hle:Nat.ble args.size N=true)
  (h:W Wd P N [] c (bodyPostDIn Wd 0 P fn R) (mW 0 args.toList) w):CallsIn Wd 0 P f args w R:=by
 refine callsIn_of_wp_defers hf hb trivial ?_;rw[hN];exact h _ (uQ args N hle)
theorem CM{fn:Func}{tmps:Array Value}{f:FuncId}{cap:Array Value}{u:FrameMode}(hc:ag P f)(hu:u≠ .run)
  (h:CallsDIn Wd 0 P f cap u w fun
   | .returned _,u',w'=>LeavesIn Wd 0 P fn tmps R [] (settle u') w'
   | .panicked chain,u',w'=>LeavesIn Wd 0 P fn tmps R [] (raised u' chain) w'
   | .outgrown,_,w'=>R .outgrown w'):LeavesIn Wd 0 P fn tmps R [⟨.fn (.func f) cap,#[]⟩] u w:=by
 refine leavesIn_cons (args:=cap) (f:=f) hu (fun h=>by cases h) ?_ (fun _ _=>trivial) h;have e:#[]++cap=cap:=by apply Array.ext';simp
 simp only[invoke];rw[e];exact h_ hc cap
theorem LM{fn:Func}{f:FuncId}{cap:Array Value}(hc:ag P f)
  (h: ∀tmps:Array Value,(∀t v,lk l t=some v→tmps[t]? =some v)→CallsDIn Wd 0 P f cap .returning w fun
   | .returned _,u',w'=>LeavesIn Wd 0 P fn tmps R [] (settle u') w'
   | .panicked chain,u',w'=>LeavesIn Wd 0 P fn tmps R [] (raised u' chain) w'
   | .outgrown,_,w'=>R .outgrown w') (a:Act) (ha:Fr N [⟨.fn (.func f) cap,#[]⟩] l a):bodyPostDIn Wd 0 P fn R .ret a w:=by
 show LeavesIn Wd 0 P fn a.tmps R a.defers .returning w;rw[ha.defers];exact CM hc (by simp) (h a.tmps ha.get)
theorem BB{fn:Func}{f:FuncId}{cap:Array Value}{ch:List PanicEntry}(hc:ag P f)
  (h: ∀tmps:Array Value,(∀t v,lk l t=some v→tmps[t]? =some v)→CallsDIn Wd 0 P f cap (.panicking ch) w fun
   | .returned _,u',w'=>LeavesIn Wd 0 P fn tmps R [] (settle u') w'
   | .panicked chain,u',w'=>LeavesIn Wd 0 P fn tmps R [] (raised u' chain) w'
   | .outgrown,_,w'=>R .outgrown w') (a:Act) (ha:Fr N [⟨.fn (.func f) cap,#[]⟩] l a):bodyPostDIn Wd 0 P fn R (.panic ch) a w:=by
 show LeavesIn Wd 0 P fn a.tmps R a.defers (.panicking ch) w;rw[ha.defers];exact CM hc (by simp) (h a.tmps ha.get)
end Go.K
namespace Go.K
open Go Go.RowKit Go.Sort
variable {F:Fence} {P:Program} {N:Nat} {ds:List Deferred} {l l':Env} {a:Act} {w:World} {Q:Exit→Act→World→Prop} {ops:Array Oper} {os:List Oper} {o:Oper}
variable {g0 g:G} {L L':List cS} {K:Value→World→Prop} {R:Ending→World→Prop}
def eK(zs:List Int):List Value:=zs.map (Value.int .i64)
theorem me(zs:List Int):(eK zs).length=zs.length:=by simp[eK]
theorem z7{zs:List Int}{off:Nat}{cur:Array Value}(j:Nat):(putCells (Value.int .i64) off zs.toArray cur)[j]? =(cur[j]?).map fun x=>if off≤j∧j<off+zs.length then Value.int .i64 (zs.toArray[j-off]!)else x:=by unfold putCells;rw[Array.getElem?_mapIdx];simp
theorem px{zs:List Int}{off:Nat}{cur:Array Value}:(putCells (Value.int .i64) off zs.toArray cur).size=cur.size:=by unfold putCells;simp
theorem sH(w:World)(q b off:Nat)(d:Array Int)(os:Array Obj)(k:Nat)(hk:k<w.heap.size):
  (grow (putRow (Value.int .i64) (Sort.ahead w q) b off d) os).heap[k]? =if b=k then(w.heap[k]?).map (fun o=>match o with| .cells c e f=> .cells (putCells (Value.int .i64) off d c) e f|o=>o)else w.heap[k]?:=by
 have h1:(grow (putRow (Value.int .i64) (Sort.ahead w q) b off d) os).heap=(putRow (Value.int .i64) (Sort.ahead w q) b off d).heap++os:=rfl;have h2:(putRow (Value.int .i64) (Sort.ahead w q) b off d).heap=w.heap.modify b (onCells (putCells (Value.int .i64) off d)):=rfl;rw[h1,h2,Array.getElem?_append_left (by simpa using hk),Array.getElem?_modify];split
 ·cases w.heap[k]? with
  |none=>rfl
  |some o=>cases o<;>rfl
 rfl
theorem yi(w:World)(q b off:Nat)(d:Array Int)(os:Array Obj):w.grownBy (grow (putRow (Value.int .i64) (Sort.ahead w q) b off d) os) (some b):=
 ⟨rfl,rfl,rfl,by show w.heap.size≤((putRow (Value.int .i64) (Sort.ahead w q) b off d).heap++os).size;rw[Array.size_append];show _≤(w.heap.modify b _).size+_;simp,fun k hk fB=>by rw[sH w q b off d os k hk,if_neg (fun e=>fB (by rw[e]))]⟩
theorem St.putRow{i b off n c q:Nat}{e:TypeId}{zs d:List Int}{os:Array Obj}(hs:St g0 g L)(hi:L[i]? =some (.row e 1 (.slice (some ⟨b,off,none⟩) n c) n (eK zs)))(hn:n≠0)(hd:d.length=n):
  ∃g':G,g'.w=grow (Sort.putRow (Value.int .i64) (Sort.ahead g.w q) b off d.toArray) os∧St g0 g' (L.set i (.row e 1 (.slice (some ⟨b,off,none⟩) n c) n (eK d)))∧g.le g':=by
 have dT:=hs.own i _ hi;have hr:=dT.1;obtain⟨lX,hr⟩:=hr;rcases hr with⟨h0,_⟩|⟨b',TK,cap,cur,e1,hB,⟨fz,hh,hz⟩,o7,sB,nY,fP⟩
 ·exact absurd h0 hn
 simp only[Value.slice.injEq,Option.some.injEq,Addr.mk.injEq,true_and,and_true]at e1;obtain⟨⟨rfl,rfl⟩,rfl⟩:=e1;rw[Nat.mul_one]at nY fP;have hg:=yi g.w q b off d.toArray os;have rS:qi (.slice (some ⟨b,off,none⟩) n c)=some b:=jw (by omega);have bC:b<g.w.heap.size:=(Array.getElem?_eq_some_iff.1 hh).1;let g':G:=⟨grow (Sort.putRow (Value.int .i64) (Sort.ahead g.w q) b off d.toArray) os,g.im,fun x h=>Nat.lt_of_lt_of_le (g.lt x h) hg.size⟩
 have dH:=hs.Hn (g':=g') (e':=.row e 1 (.slice (some ⟨b,off,none⟩) n c) n (eK d)) hi (by rw[show(cS.row e 1 (.slice (some ⟨b,off,none⟩) n c) n (eK zs)).s5=some b from rS];exact hg) (fun _ _=>Iff.rfl)
  ⟨⟨by rw[me,hd,Nat.mul_one],.inr ⟨b,off,c,putCells (Value.int .i64) off d.toArray cur,rfl,hB,⟨fz,by
    show(grow (Sort.putRow (Value.int .i64) (Sort.ahead g.w q) b off d.toArray) os).heap[b]? =_;rw[sH g.w q b off d.toArray os b bC,if_pos rfl,hh];rfl,by rw[px];exact hz⟩,o7,sB,by rw[px,Nat.mul_one];exact nY,by
    rw[Nat.mul_one];apply List.ext_getElem?;intro j;by_cases hj:j<n
    ·rw[List.getElem?_take_of_lt hj,List.getElem?_drop,Array.getElem?_toList,z7,Array.getElem?_eq_getElem (by omega),Option.map_some,if_pos ⟨by omega,by omega⟩,Nat.add_sub_cancel_left];unfold eK;rw[List.getElem?_map,List.getElem?_eq_getElem (by omega),Option.map_some];congr 2;rw[getElem!_pos d.toArray j (by simp;omega)];simp
    rw[List.getElem?_eq_none (by rw[List.length_take];omega),List.getElem?_eq_none (by rw[me];omega)]⟩⟩,
   fun x hx h=>dT.2 x hx h⟩ (fun x hx=> .inl hx)
 exact⟨g',rfl,dH.1,dH.2⟩
theorem Row.Ft{B b off n c:Nat}{e:TypeId}{zs:List Int}(h:Row B e 1 (.slice (some ⟨b,off,none⟩) n c) n (eK zs) w)(hn:n≠0):Holds (Value.int .i64) w b off zs.toArray∧b<w.heap.size∧n=zs.length∧n≤c∧c≤maxLen:=by
 obtain⟨lX,hr⟩:=h;rw[me,Nat.mul_one]at lX;rcases hr with⟨h0,_⟩|⟨b',TK,cap,cur,e1,hB,⟨fz,hh,hz⟩,o7,sB,nY,fP⟩
 ·exact absurd h0 hn
 simp only[Value.slice.injEq,Option.some.injEq,Addr.mk.injEq,true_and,and_true]at e1;obtain⟨⟨rfl,rfl⟩,rfl⟩:=e1;rw[Nat.mul_one]at nY fP;refine⟨fun j hj=>?_,(Array.getElem?_eq_some_iff.1 hh).1,lX.symm,o7,sB⟩;have hj:j<zs.length:=by simpa using hj
 have hc:cur[off+j]? =some (.int .i64 zs.toArray[j]!):=by
  have:(eK zs)[j]? =some (.int .i64 zs.toArray[j]!):=by unfold eK;rw[List.getElem?_map,List.getElem?_eq_getElem hj,Option.map_some,getElem!_pos zs.toArray j (by simpa using hj)];simp
  rw[←fP,List.getElem?_take_of_lt (by omega),List.getElem?_drop,Array.getElem?_toList]at this;exact this
 refine⟨by simp[World.cell?,hh,hc],?_⟩;rcases hz with rfl|hz
 ·simp[World.frozen?,hh]
 simp only[World.frozen?,hh,Bool.and_eq_false_iff,decide_eq_false_iff_not];left;omega
end Go.K
namespace Go.K
open Go Go.RowKit
variable {F:Fence} {P:Program} {N:Nat} {ds:List Deferred} {ops:Array Oper} {Q:Exit→Act→World→Prop} {φs:List Fact} {l0:Env} {gd:G}
def posOf:List Nat→Nat→Option Nat
 |[],_=>none
 |e::r,i=>bif Nat.beq e i then some 0 else(posOf r i).map (· +1)
theorem pY: ∀{es:List Nat} {i k:Nat},posOf es i=some k→es[k]? =some i
 |[],i,k,h=>by cases h
 |e::r,i,k,h=>by
  unfold posOf at h;cases hb:Nat.beq e i with
  |true=>
   rw[hb]at h;obtain rfl:=Option.some.inj h;rw[Nat.eq_of_beq_eq_true hb];rfl
  |false=>
   rw[hb]at h;cases hp:posOf r i with
   |none=>rw[hp]at h;cases h
   |some k'=>
    rw[hp]at h;obtain rfl:=Option.some.inj h;exact pY (es:=r) hp
theorem uR: ∀{es:List Nat} {i:Nat},posOf es i=none→ ∀k:Nat,es[k]? ≠some i
 |[],i,_,k=>by simp
 |e::r,i,h,k=>by
  unfold posOf at h;cases hb:Nat.beq e i with
  |true=>rw[hb]at h;cases h
  |false=>
   rw[hb]at h;cases hp:posOf r i with
   |some k'=>rw[hp]at h;cases h
   |none=>
    cases k with
    |zero=>
     intro he;obtain rfl:e=i:=by simpa using he
     rw[Nat.beq_refl]at hb;cases hb
    |succ k=>exact uR hp k
def yj(ops:Array Oper)(es:List Nat)(m:Nat):Bool:=
 (List.range es.length).all fun k=>match es[k]? with
  |some e=>(posOf es e==some k)&&Nat.blt e m&&(Nat.beq k 0||(match es[k-1]?,ops[e]? with|some p,some o=>(kH o).contains p|_,_=>false))
  |none=>false
theorem BC{es:List Nat}{m:Nat}(h:yj ops es m=true): ∀k e,es[k]? =some e→posOf es e=some k∧e<m∧(k≠0→ ∃p o,es[k-1]? =some p∧ops[e]? =some o∧p∈kH o):=by
 intro k e hk;have bC:=(List.getElem?_eq_some_iff.1 hk).1;have:=(List.all_eq_true.1 h) k (List.mem_range.2 bC);rw[hk]at this;simp only[Bool.and_eq_true,beq_iff_eq,Bool.or_eq_true]at this;obtain⟨⟨h1,h2⟩,h3⟩:=this;refine⟨h1,by simpa [Nat.blt_eq]using h2,fun fB=>?_⟩;rcases h3 with h3|h3
 ·exact absurd (Nat.eq_of_beq_eq_true h3) fB
 cases hp:es[k-1]? with
 |none=>rw[hp]at h3;simp at h3
 |some p=>
  cases ho:ops[e]? with
  |none=>rw[hp,ho]at h3;simp at h3
  |some o=>
   rw[hp,ho]at h3;exact⟨p,o,rfl,rfl,by simpa using h3⟩
def z8(es:List Nat)(J:Nat→G→Prop)(s i:Nat)(g g':G):Prop:=match posOf es i with
 |some _=>g.le g'∧J (s+1) g'
 |none=>a_ g g'
def Kc(F:Fence)(P:Program)(N:Nat)(ds:List Deferred)(ops:Array Oper)(Q:Exit→Act→World→Prop)(φs:List Fact)(l0:Env)(gd:G)(es:List Nat)(J:Nat→G→Prop)(i:Nat)(o:Oper):Prop:=
 ∀s g',gd.le g'→J s g'→(∀k,posOf es i=some k→s=k)→QA φs g' (eb ops o) l0 fun env=>
  match mx ops env o.guard with
  |some true=>cD F P N ds o env g'.w Q fun v w'=> ∃dc,dc.w=w'∧z8 es J s i g' dc∧(fQ φs i).p v dc
  |some false=>posOf es i=none∧(fQ φs i).p undef g'
  |none=>False
def yk(F:Fence)(P:Program)(N:Nat)(ds:List Deferred)(ops:Array Oper)(Q:Exit→Act→World→Prop)(φs:List Fact)(l0:Env)(gd:G)(es:List Nat)(J:Nat→G→Prop):Nat→List Oper→Prop
 |_,[]=>True
 |i,o::os=>Kc F P N ds ops Q φs l0 gd es J i o∧yk F P N ds ops Q φs l0 gd es J (i+1) os
theorem yk.at{es:List Nat}{J:Nat→G→Prop}: ∀{l:List Oper} {i0:Nat},yk F P N ds ops Q φs l0 gd es J i0 l→ ∀(j:Nat) o,l[j]? =some o→Kc F P N ds ops Q φs l0 gd es J (i0+j) o
 |[],_,_,j,o,h=>by simp at h
 |x::l,i0,hs,0,o,h=>by simp only[List.getElem?_cons_zero,Option.some.injEq]at h;subst h;exact hs.1
 |x::l,i0,hs,j+1,o,h=>by simp only[List.getElem?_cons_succ]at h;have:=yk.at (i0:=i0+1) hs.2 j o h;rw[show i0+(j+1)=i0+1+j from by omega];exact this
variable {es:List Nat} {J:Nat→G→Prop} {os:List Oper} {o:Oper} {l:Env} {g:G}
def DJ(F:Fence)(P:Program)(N:Nat)(ds:List Deferred)(ops:Array Oper)(Q:Exit→Act→World→Prop)(φ:Fact)(g':G)(J':G→Prop)(o:Oper)(env:Env):Prop:=
 mx ops env o.guard=some true∧cD F P N ds o env g'.w Q fun v w'=> ∃dc,dc.w=w'∧(g'.le dc∧J' dc)∧φ.p v dc
end Go.K
namespace Go.K
open Go Go.RowKit
variable {F:Fence} {P:Program} {N:Nat} {ds:List Deferred} {ops:Array Oper} {Q:Exit→Act→World→Prop} {φs:List Fact} {l0:Env} {gd:G}
variable (N ops l0) in
def oT(m:Nat):Bool:=
 (List.range ops.size).all (fun i=>match ops[i]? with|some o=>(kH o).all (fun j=>Nat.blt j i)|none=>true)&&
 (List.range ops.size).all (fun j=>Nat.blt j m||(List.range j).all (fun k=>(List.range (j+1)).any (fun i=>Nat.blt k i&&(match ops[i]? with|some o=>(kH o).contains k|none=>false))))&&
 (List.range m).all (fun i=>match dh ops i with
  |some d=>Nat.blt d N&&(lk l0 d).isNone&&(List.range m).all (fun j=>j==i||(match dh ops j with|some e=>e !=d|none=>true))
  |none=>true)&&Nat.ble m ops.size
def uW(F:Fence)(P:Program)(N:Nat)(ds:List Deferred)(ops:Array Oper)(Q:Exit→Act→World→Prop)(φs:List Fact)(l0:Env)(gd:G)(es:List Nat)(dM:List (List Nat))(J:Nat→G→Prop)(i:Nat)(o:Oper):Prop:=
 ∀s g',gd.le g'→J s g'→s≤es.length→(∀k,posOf es i=some k→s=k)→(∀k A,dM[k]? =some A→i∈A→s≤k)→(∀k e,es[k]? =some e→e∈kH o→k<s)→QA φs g' (eb ops o) l0 fun env=>
  match mx ops env o.guard with
  |some true=>cD F P N ds o env g'.w Q fun v w'=> ∃dc,dc.w=w'∧z8 es J s i g' dc∧(fQ φs i).p v dc
  |some false=>posOf es i=none∧(fQ φs i).p undef g'
  |none=>False
def jN(F:Fence)(P:Program)(N:Nat)(ds:List Deferred)(ops:Array Oper)(Q:Exit→Act→World→Prop)(φs:List Fact)(l0:Env)(gd:G)(es:List Nat)(dM:List (List Nat))(J:Nat→G→Prop):Nat→List Oper→Prop
 |_,[]=>True
 |i,o::os=>uW F P N ds ops Q φs l0 gd es dM J i o∧jN F P N ds ops Q φs l0 gd es dM J (i+1) os
theorem jN.at{es:List Nat}{dM:List (List Nat)}{J:Nat→G→Prop}: ∀{l:List Oper} {i0:Nat},jN F P N ds ops Q φs l0 gd es dM J i0 l→ ∀(j:Nat) o,l[j]? =some o→uW F P N ds ops Q φs l0 gd es dM J (i0+j) o
 |[],_,_,j,o,h=>by simp at h
 |x::l,i0,hs,0,o,h=>by simp only[List.getElem?_cons_zero,Option.some.injEq]at h;subst h;exact hs.1
 |x::l,i0,hs,j+1,o,h=>by simp only[List.getElem?_cons_succ]at h;have:=jN.at (i0:=i0+1) hs.2 j o h;rw[show i0+(j+1)=i0+1+j from by omega];exact this
theorem IJ{id:Nat}{g:G}(hF: ∀f,F.fn f)(hm:P.follows .mixedOrders=true)(φs:List Fact)(m:Nat)(outs:List (Nat×Nat))(es:List Nat)(dM:List (List Nat))(J:Nat→G→Prop)(hJ: ∀s g g',a_ g g'→J s g→J s g')(AX:J 0 g.dr)(lT:oT N ops l0 m=true)(TN:yj ops es m=true)(Gj:((es.zip dM).all fun p=>uK ops p.2 p.1)=true)(hsoft:jc [] 0 φs)
  (houts:outs.all (fun p=>Nat.blt p.1 m&&(dh ops p.1==some p.2))=true)
  (gV:jN F P N ds ops Q φs l0 g.dr es dM J 0 (ops.toList.take m))
  (iT: ∀g',g.dr.le g'→J es.length g'→QA φs g' outs l0 fun env=>WL F P N ds ops Q (ops.toList.drop m) env g'.w):W F P N ds (.region id ops true) Q l0 g.w:=by
 intro a ha;simp only[oT,Bool.and_eq_true,List.all_eq_true,List.mem_range]at lT;obtain⟨⟨⟨c1,c2⟩,c3⟩,c4⟩:=lT;have c4:m≤ops.size:=Nat.le_of_ble_eq_true c4;have k1: ∀i o,ops[i]? =some o→ ∀j∈kH o,j<i:=by intro i o ho j hj;have:=c1 i (Array.getElem?_eq_some_iff.1 ho).1;rw[ho]at this;have:=(List.all_eq_true.1 this) j hj;simpa [Nat.blt_eq]using this
 have k2: ∀j o,m≤j→ops[j]? =some o→ ∀k,k<j→ ∃i' o',k<i'∧i'≤j∧ops[i']? =some o'∧k∈kH o':=by
  intro j o hj ho k hk;have:=c2 j (Array.getElem?_eq_some_iff.1 ho).1;simp only[Bool.or_eq_true]at this;rcases this with h|h
  ·have:j<m:=by simpa [Nat.blt_eq]using h
   omega
  have:=(List.all_eq_true.1 h) k (List.mem_range.2 hk);obtain⟨i',h1,h2⟩:=List.any_eq_true.1 this;simp only[Bool.and_eq_true]at h2;have h3:=List.mem_range.1 h1;cases pn:ops[i']? with
  |none=>rw[pn]at h2;simp at h2
  |some o'=>
   rw[pn]at h2;exact⟨i',o',by simpa [Nat.blt_eq]using h2.1,by omega,pn,by simpa using h2.2⟩
 have k4: ∀(listed:Array Bool),(∀k o,listed.getD k false=true→ops[k]? =some o→ ∀e∈kH o,listed.getD e false=true)→ ∀j o,m≤j→ops[j]? =some o→(∀e∈kH o,listed.getD e false=true)→ ∀k,k<j→listed.getD k false=true:=by
  intro listed fr j o hj ho cR;have: ∀d k,k<j→j-k=d→listed.getD k false=true:=by
   intro d
   induction d using Nat.strongRecOn with
   |_ d Bt=>
    intro k hk hd;obtain⟨i',o',h1,h2,h3,h4⟩:=k2 j o hj ho k hk;rcases Nat.lt_or_ge i' j with h|h
    ·exact fr i' o' (Bt (j-i') (by omega) i' h rfl) h3 k h4
    obtain rfl:i'=j:=by omega
    rw[ho]at h3;obtain rfl:=Option.some.inj h3;exact cR k h4
  exact fun k hk=>this _ k hk rfl
 have k3: ∀i,i<m→ ∀d,dh ops i=some d→d<N∧lk l0 d=none∧ ∀j,j<m→j≠i→ ∀e,dh ops j=some e→e≠d:=by
  intro i hi d hd;have:=c3 i hi;simp only[hd,Bool.and_eq_true,List.all_eq_true,List.mem_range,Bool.or_eq_true]at this;refine⟨by simpa [Nat.blt_eq]using this.1.1,by simpa using this.1.2,fun j hj fB e he=>?_⟩;rcases this.2 j hj with h|h
  ·exact absurd (by simpa using h) fB
  simpa [he]using h
 have DO: ∀(listed:Array Bool),(∀k o,listed.getD k false=true→ops[k]? =some o→ ∀e∈kH o,listed.getD e false=true)→ ∀(k:Nat) e A,es[k]? =some e→dM[k]? =some A→listed.getD e false=true→ ∀i∈A,listed.getD i false=true:=by
  intro listed fr k e A he hA MG;have hz:(e,A)∈es.zip dM:=by rw[List.mem_iff_getElem?];exact⟨k,by rw[List.getElem?_zip_eq_some];exact⟨he,hA⟩⟩
  have h1:=(List.all_eq_true.1 Gj) _ hz;simp only[uK,List.all_eq_true,Bool.and_eq_true]at h1;have: ∀d i,i∈A→e-i=d→listed.getD i false=true:=by
   intro d
   induction d using Nat.strongRecOn with
   |_ d Bt=>
    intro i hi hd;obtain⟨h2,h3⟩:=h1 i hi;have vK:i<e:=by simpa [Nat.blt_eq]using h2
    obtain⟨j,hj,IK⟩:=List.any_eq_true.1 h3;cases ho:ops[j]? with
    |none=>rw[ho]at IK;simp at IK
    |some o=>
     rw[ho]at IK;have vv:i∈kH o:=by simpa using IK
     have bC:=k1 j o ho i vv;rcases List.mem_cons.1 hj with rfl|hj
     ·exact fr _ o MG ho i vv
     have LG:j<e:=by simpa [Nat.blt_eq]using(h1 j hj).1
     exact fr j o (Bt (e-j) (by omega) j hj rfl) ho i vv
  exact fun i hi=>this _ i hi rfl
 have ch:=BC TN;let MK:Array Bool→G→Prop:=fun listed g'=>g.dr.le g'∧ ∃s,s≤es.length∧(∀k e,es[k]? =some e→(listed.getD e false=true↔k<s))∧J s g'
 have A4: ∀listed g',MK listed g'→(∀j,j<m→listed.getD j false=true)→g.dr.le g'∧J es.length g':=by
  rintro listed g' ⟨h1,s,h2,h3,h4⟩ cR;refine⟨h1,?_⟩;have:s=es.length:=by
   apply Classical.byContradiction;intro fB;have bC:s<es.length:=by omega
   have he:=List.getElem?_eq_getElem bC;have:=(h3 s _ he).1 (cR _ (ch s _ he).2.1);omega
  rw[←this];exact h4
 refine wpIn_region_any hm ?_;have key: ∀(fuel:Nat) (listed:Array Bool) (a:Act) (g':G),listed.size=ops.size→MK listed g'→Fr N ds l0 a→
   (∀i,i<m→listed.getD i false=true→ ∀d,dh ops i=some d→ ∃v,a.tmps[d]? =some v∧(fQ φs i).p v g')→(∀j,m≤j→j<ops.size→listed.getD j false=false)→(∀k o,listed.getD k false=true→ops[k]? =some o→ ∀e∈kH o,listed.getD e false=true)→
   (ops.size-((List.range ops.size).filter fun i=>listed.getD i false).length≤fuel)→wpAnyIn F 0 P .any ops Q fuel listed a g'.w:=by
  intro fuel
  induction fuel with
  |zero=>
   intro listed a g' cP hf ha ec fG fr qP;have cR: ∀j,j<ops.size→listed.getD j false=true:=by
    have hlen:((List.range ops.size).filter fun i=>listed.getD i false).length=(List.range ops.size).length:=by have:=List.length_filter_le (fun i=>listed.getD i false) (List.range ops.size);simp only[List.length_range]at this⊢;omega
    have:=List.length_filter_eq_length_iff.1 hlen;intro j hj;exact this j (List.mem_range.2 hj)
   have Dj:m=ops.size:=by
    rcases Nat.lt_or_ge m ops.size with h|h
    ·have:=fG m (Nat.le_refl _) h;rw[cR m h]at this;cases this
    omega
   have tB:=A4 listed g' hf (fun j hj=>cR j (by omega));obtain⟨env,hW,gk⟩:=jM outs (iT g' tB.1 tB.2) ha (fun p hp=>by
    have:=(List.all_eq_true.1 houts) p hp;simp only[Bool.and_eq_true,beq_iff_eq]at this;have bC:p.1<m:=by simpa [Nat.blt_eq]using this.1
    exact ec p.1 bC (cR _ (by omega)) _ this.2)
   refine iG k1 0 ops.size listed a g'.w cP (Nat.le_refl _) (fun j o hj ho=>?_) (fun j hj=>⟨fun _=>hj,fun _=>cR j hj⟩) (by omega) (by rw[←Dj];exact hW a gk);have:=(Array.getElem?_eq_some_iff.1 ho).1;omega
  |succ fuel ih=>
   intro listed a g' cP hf ha ec fG fr qP;by_cases gj: ∀j,j<m→listed.getD j false=true
   ·have tB:=A4 listed g' hf gj;obtain⟨env,hW,gk⟩:=jM outs (iT g' tB.1 tB.2) ha (fun p hp=>by
     have:=(List.all_eq_true.1 houts) p hp;simp only[Bool.and_eq_true,beq_iff_eq]at this;have bC:p.1<m:=by simpa [Nat.blt_eq]using this.1
     exact ec p.1 bC (gj _ bC) _ this.2)
    refine iG k1 (fuel+1) m listed a g'.w cP c4 (fun j o hj ho=>k2 j o hj ho) (fun j hj=>⟨fun h=>?_,fun h=>gj j h⟩) ?_ (hW a gk)
    ·rcases Nat.lt_or_ge j m with h'|h'
     ·exact h'
     rw[fG j h' hj]at h;cases h
    have hle:((List.range ops.size).filter fun i=>listed.getD i false).length≤m:=by
     have mS:((List.range ops.size).filter fun i=>listed.getD i false).length≤((List.range ops.size).filter fun i=>decide (i<m)).length:=by
      refine List.Sublist.length_le ?_;rw[show((List.range ops.size).filter fun i=>listed.getD i false)=((List.range ops.size).filter fun i=>decide (i<m)).filter (fun i=>listed.getD i false)from ?_]
      ·exact List.filter_sublist
      rw[List.filter_filter];refine List.filter_congr fun i hi=>?_;have hi:=List.mem_range.1 hi;by_cases h:i<m
      ·simp[h]
      rw[fG i (by omega) hi];simp
     have:((List.range ops.size).filter fun i=>decide (i<m)).length=m:=by
      have e:ops.size=m+(ops.size-m):=by omega
      rw[e,List.range_add,List.filter_append,List.length_append,List.filter_eq_self.2 (by intro x hx;simpa using hx),List.filter_eq_nil_iff.2 (by intro x hx;obtain⟨y,_,rfl⟩:=List.mem_map.1 hx;simp)];simp
     omega
    omega
   --oP of yZ first part is not listed:yZ least Iy is ready
   have hex: ∃j,j<m∧listed.getD j false=false∧ ∀k,k<j→listed.getD k false=true:=by
    have: ∃j,j<m∧listed.getD j false=false:=by
     apply Classical.byContradiction;intro dx;apply gj;intro j hj;cases hc:listed.getD j false with
     |true=>rfl
     |false=>exact absurd ⟨j,hj,hc⟩ dx
    obtain⟨j,hj⟩:=this
    induction j using Nat.strongRecOn with
    |_ j Iz=>
     by_cases hk: ∃k,k<j∧listed.getD k false=false
     ·obtain⟨k,o_,yU⟩:=hk;exact Iz k o_ ⟨by omega,yU⟩
     refine⟨j,hj.1,hj.2,fun k o_=>?_⟩;cases hc:listed.getD k false with
     |true=>rfl
     |false=>exact absurd ⟨k,o_,hc⟩ hk
   obtain⟨j0,Rb,zN,s_⟩:=hex;have gW:j0∈Region.ready .any ops listed:=by
    rw[eL];have bC:j0<ops.size:=by omega
    refine⟨by rw[getD_lt (cP▸bC) true false];exact zN,_,Array.getElem?_eq_getElem bC,fun k hk=>s_ k (k1 j0 _ (Array.getElem?_eq_getElem bC) k hk)⟩
   refine⟨fun h0=>(by rw[h0]at gW;cases gW),fun i hi=>?_⟩;obtain⟨h0,o,ho,cR⟩:=eL.1 hi;have mq:i<ops.size:=(Array.getElem?_eq_some_iff.1 ho).1;rw[getD_lt (cP▸mq) true false]at h0;have oa:i<m:=by
    rcases Nat.lt_or_ge i m with h|h
    ·exact h
    have:=k4 listed fr i o h ho cR j0 (by omega);rw[zN]at this;cases this
   have Gk:dh ops i=o.dst:=by unfold dh;rw[ho];rfl
   have jZ:=gV.at (i0:=0) i o (by rw[List.getElem?_take_of_lt oa];simpa using ho);rw[Nat.zero_add]at jZ;have mT: ∀p∈eb ops o,∃v,a.tmps[p.2]? =some v∧(fQ φs p.1).p v g':=by
    intro p hp;unfold eb at hp;obtain⟨j,hj,uJ⟩:=List.mem_filterMap.1 hp;cases wU:dh ops j with
    |none=>simp[wU]at uJ
    |some e=>
     simp only[wU]at uJ;have IA:j<m:=by have:=k1 i o ho j hj;omega
     obtain⟨v,hv,jF⟩:=ec j IA (cR j hj) e wU;have Bu: ∀(c:Bool) (q:Nat×Nat),(bif c then some q else none)=some p→q=p:=by
      intro c q h;cases c with
      |true=>exact Option.some.inj h
      |false=>cases h
     obtain rfl:=Bu _ _ uJ;exact⟨v,hv,jF⟩
   obtain⟨MI,s,nz,aT,vn⟩:=hf;have nA: ∀k,posOf es i=some k→s=k:=by
    intro k hk;have H_:=pY hk;have h1: ¬k<s:=fun h=>by have:=(aT k i H_).2 h;rw[this]at h0;cases h0
    rcases Nat.eq_zero_or_pos k with h|h
    ·omega
    obtain⟨p,o',o9,Cz,Ie⟩:=(ch k i H_).2.2 (by omega);rw[ho]at Cz;obtain rfl:=Option.some.inj Cz;have:=(aT (k-1) p o9).1 (cR p Ie);omega
   obtain⟨env,hk,gk⟩:=jM (eb ops o) (jZ s g' MI vn nz nA (fun k A hA TO=>by
    rcases Nat.lt_or_ge k s with h|h
    ·have bC:k<es.length:=by omega
     have he:=List.getElem?_eq_getElem bC;have:=DO listed fr k _ A he hA ((aT k _ he).2 h) i TO;rw[this]at h0;cases h0
    exact h) (fun k e he TP=>(aT k e he).1 (cR e TP))) ha mT
   have jb: ∀(a':Act) (dc:G) (v:Value),a'=a.put o.dst v→z8 es J s i g' dc→(fQ φs i).p v dc→wpAnyIn F 0 P .any ops Q fuel (listed.setIfInBounds i true) a' dc.w:=by
    intro a' dc v he eu jF;have nB: ∀t,o.dst≠some t→a'.tmps[t]? =a.tmps[t]?:=fun t ht=>by
     rw[he];cases rr:o.dst with
     |none=>rfl
     |some d=>
      simp only[Act.put];rw[Array.getElem?_setIfInBounds_ne (fun e=>ht (by rw[rr,e]))]
    have pv: ∀d,o.dst=some d→a'.tmps[d]? =some v:=fun d rr=>by rw[he,rr];simp only[Act.put];rw[Array.getElem?_setIfInBounds_self,if_pos (by rw[ha.size];exact(k3 i oa d (Gk.trans rr)).1)]
    have gJ: ∀k,k≠i→(listed.setIfInBounds i true).getD k false=listed.getD k false:=fun k hk=>by simp only[Array.getD_eq_getD_getElem?];rw[Array.getElem?_setIfInBounds_ne (fun e=>hk e.symm)]
    have dn:(listed.setIfInBounds i true).getD i false=true:=by simp[cP,mq]
    have Gl:g'.le dc:=by
     unfold z8 at eu;split at eu
     ·exact eu.1
     exact eu.le
    have hinv:MK (listed.setIfInBounds i true) dc:=by
     refine⟨MI.trans Gl,?_⟩;unfold z8 at eu;cases JM:posOf es i with
     |none=>
      rw[JM]at eu;refine⟨s,nz,fun k e IB=>?_,hJ s _ _ eu vn⟩;have fB:e≠i:=fun h=>uR JM k (by rw[←h];exact IB);rw[gJ e fB];exact aT k e IB
     |some k0=>
      rw[JM]at eu;have Zq:=nA k0 JM;have H_:=pY JM;have bC:=(List.getElem?_eq_some_iff.1 H_).1;refine⟨s+1,by omega,fun k e IB=>?_,eu.2⟩;by_cases Gm:e=i
      ·subst Gm;have h1:=(ch k e IB).1;rw[JM]at h1;obtain rfl:=Option.some.inj h1;exact⟨fun _=>by omega,fun _=>dn⟩
      rw[gJ e Gm,aT k e IB];have Zr:k≠k0:=fun h=>by subst h;rw[H_]at IB;exact Gm (Option.some.inj IB).symm
      omega
    refine ih _ a' dc (by simpa using cP) hinv ⟨by rw[he];cases o.dst<;>exact ha.defers,by rw[he];cases o.dst<;>simp[Act.put,ha.size],fun t u hu=>?_⟩ (fun k hk lg d' td=>?_) (fun j hj F_=>?_) (fun k o' hk yb e he=>?_) ?_
    ·rw[nB t (fun e=>by have:=(k3 i oa t (Gk.trans e)).2.1;rw[this]at hu;cases hu)];exact ha.get t u hu
    ·by_cases jK:k=i
     ·subst jK;exact⟨v,pv d' (Gk.symm.trans td),jF⟩
     rw[gJ k jK]at lg;obtain⟨v',DN,yc⟩:=ec k hk lg d' td;refine⟨v',?_,(jc.at hsoft k).elim (fun h=>by simp at h) fun h=>h _ _ _ Gl yc⟩;rw[nB d' (fun e=>(k3 k hk d' td).2.2 i oa (fun h=>jK h.symm) d' (Gk.trans e) rfl)];exact DN
    ·rw[gJ j (by omega)];exact fG j hj F_
    ·have hle: ∀x,listed.getD x false=true→(listed.setIfInBounds i true).getD x false=true:=fun x hx=>by
      by_cases yV:x=i
      ·subst yV;exact dn
      rw[gJ x yV];exact hx
     by_cases jK:k=i
     ·subst jK;rw[ho]at yb;obtain rfl:=Option.some.inj yb;exact hle e (cR e he)
     rw[gJ k jK]at hk;exact hle e (fr k o' hk yb e he)
    have bC:((List.range ops.size).filter fun k=>listed.getD k false).length<((List.range ops.size).filter fun k=>(listed.setIfInBounds i true).getD k false).length:=by
     have mS:List.Sublist ((List.range ops.size).filter fun k=>listed.getD k false) ((List.range ops.size).filter fun k=>(listed.setIfInBounds i true).getD k false):=by
      have e:((List.range ops.size).filter fun k=>listed.getD k false)=((List.range ops.size).filter fun k=>(listed.setIfInBounds i true).getD k false).filter (fun k=>listed.getD k false):=by
       rw[List.filter_filter];refine List.filter_congr fun k _=>?_;by_cases jK:k=i
       ·subst jK;rw[dn];simp
       rw[gJ k jK];simp
      rw[e];exact List.filter_sublist
     refine Nat.lt_of_le_of_ne mS.length_le fun e=>?_;have:=mS.eq_of_length e;have AM:i∈((List.range ops.size).filter fun k=>(listed.setIfInBounds i true).getD k false):=List.mem_filter.2 ⟨List.mem_range.2 mq,dn⟩;rw[←this]at AM;have:=(List.mem_filter.1 AM).2;rw[h0]at this;cases this
    omega
   unfold wpOpIn;rw[ho];simp only;cases hg:mx ops env o.guard with
   |none=>rw[hg]at hk;exact hk.elim
   |some b=>
    have lE:Region.wanted o (yielded ops a.tmps)=b:=jy (l:=env) (o:=o) hg gk;rw[hg]at hk;cases b with
    |true=>
     rw[if_pos lE];exact Oper.wpIn_mono (fun a' w' ⟨v,he,dc,hw,eu,jF⟩=>hw▸jb a' dc v he eu jF) (hk a gk)
    |false=>
     rw[if_neg (by rw[lE];simp)];exact⟨fun f _=>hF f,jb _ g' undef rfl (by unfold z8;rw[hk.1];exact a_.refl _) hk.2⟩
 refine key ops.size _ a g.dr (by simp) ⟨G.le.refl _,0,Nat.zero_le _,fun k e _=>⟨fun h=>by simp only[Array.getD_eq_getD_getElem?,Array.getElem?_replicate]at h;split at h<;>simp at h,fun h=>by omega⟩,AX⟩ ha (fun i hi hl=>?_) (fun j _ hj=>by simp[hj]) (fun k o hl=>?_) (by omega)
 ·simp only[Array.getD_eq_getD_getElem?,Array.getElem?_replicate]at hl;split at hl<;>simp at hl
 simp only[Array.getD_eq_getD_getElem?,Array.getElem?_replicate]at hl;split at hl<;>simp at hl
end Go.K
namespace Go.K
open Go Go.RowKit
variable {F:Fence} {P:Program} {N:Nat} {ds:List Deferred} {ops:Array Oper} {Q:Exit→Act→World→Prop} {l0 l:Env} {os j9:List Oper} {o:Oper}
variable {g0 g gd g':G} {L:List cS} {φs:List Fact} {ks:List FK} {es:List Nat} {dM:List (List Nat)} {J:Nat→G→Prop}
def py:List FK→Prop
 |[]=>True
 | .e _::r=>py r
 | .f φ::r=>pH φ∧py r
theorem py.soft: ∀{ks:List FK} {i:Nat},py ks→jc [] i (ks.map FK.fact)
 |[],_,_=>trivial
 | .e _::_,_,h=>⟨.inr (qK _),py.soft h⟩
 | .f _::_,_,h=>⟨.inr h.1,py.soft h.2⟩
def yl(es:List Nat):Nat→Nat→Bool
 |_,0=>true
 |i,n+1=>(posOf es i).isNone&&yl es (i+1) n
def Qk(es:List Nat)(dM:List (List Nat))(o:Oper)(i lo hi:Nat):Bool:=
 (posOf es i).isNone&&(Nat.beq lo 0||(match es[lo-1]? with|some e=>(kH o).contains e|none=>false))&&(Nat.ble es.length hi||(match dM[hi]? with|some A=>A.contains i|none=>false))
theorem dm{i:Nat}(h:uW F P N ds ops Q φs l0 gd es dM J i o)(h2:jN F P N ds ops Q φs l0 gd es dM J (i+1) os):jN F P N ds ops Q φs l0 gd es dM J i (o::os):=⟨h,h2⟩
theorem zl{i:Nat}:jN F P N ds ops Q φs l0 gd es dM J i []:=trivial
theorem ni{i:Nat}{js:List (Nat×Nat)}(hj:eb ops o=js)(hp:posOf es i=none)
  (h: ∀s g',s≤es.length→(∀k A,dM[k]? =some A→i∈A→s≤k)→(∀k e,es[k]? =some e→e∈kH o→k<s)→gd.le g'→J s g'→QA φs g' js l0 (DK F P N ds ops Q (fQ φs i) g' o)):uW F P N ds ops Q φs l0 gd es dM J i o:=by
 subst hj;intro s g' hf hs h1 _ h2 h3;refine oR _ _ _ _ (fun env hd=>?_) (h s g' h1 h2 h3 hf hs);unfold DK at hd;unfold z8;rw[hp];cases hg:mx ops env o.guard with
 |none=>rw[hg]at hd;exact hd
 |some b=>
  rw[hg]at hd;cases b with
  |true=>exact hd
  |false=>exact⟨rfl,hd⟩
theorem lj(lo hi:Nat){i:Nat}{js:List (Nat×Nat)}(hj:eb ops o=js)(hb:Qk es dM o i lo hi=true)
  (h: ∀s g',lo≤s→s≤hi→gd.le g'→J s g'→QA φs g' js l0 (DK F P N ds ops Q (fQ φs i) g' o)):uW F P N ds ops Q φs l0 gd es dM J i o:=by
 simp only[Qk,Bool.and_eq_true,Bool.or_eq_true]at hb;obtain⟨⟨hp,hl⟩,hh⟩:=hb;refine ni hj (by simpa using hp) fun s g' h1 h2 h3 hf hs=>h s g' ?_ ?_ hf hs
 ·rcases hl with hl|hl
  ·have:=Nat.eq_of_beq_eq_true hl;omega
  cases he:es[lo-1]? with
  |none=>rw[he]at hl;simp at hl
  |some e=>
   rw[he]at hl;have:=h3 _ e he (by simpa using hl);omega
 rcases hh with hh|hh
 ·have:=Nat.le_of_ble_eq_true hh;omega
 cases hA:dM[hi]? with
 |none=>rw[hA]at hh;simp at hh
 |some A=>
  rw[hA]at hh;exact h2 _ A hA (by simpa using hh)
theorem wq{i:Nat}(k:Nat){js:List (Nat×Nat)}(hj:eb ops o=js)(hp:posOf es i=some k)(h: ∀g',gd.le g'→J k g'→QA φs g' js l0 (DJ F P N ds ops Q (fQ φs i) g' (J (k+1)) o)):uW F P N ds ops Q φs l0 gd es dM J i o:=by subst hj;intro s g' hf hs _ hk _ _;obtain rfl:=hk k hp;refine oR _ _ _ _ (fun env hd=>?_) (h g' hf hs);obtain⟨hg,hd⟩:=hd;rw[hg];unfold z8;rw[hp];exact hd
theorem rK{φ:Fact}{J':G→Prop}(hg:mx ops l o.guard=some true)(h:cD F P N ds o l g.w Q fun v w'=> ∃dc,dc.w=w'∧(g.le dc∧J' dc)∧φ.p v dc):DJ F P N ds ops Q φ g J' o l:=⟨hg,h⟩
theorem qX{tb:Tb}(dq:tb.ok P)(hA:jA F): ∀(k8:List (List Nat)) (hs:List (r_ P g)) (i:Nat) (os:List Oper) (kv:List (Nat×Value)) (us ts:List (Value×Value)) (j9:List Oper) (i':Nat),
  cn tb ops ks l0 [] k8 hs i os kv us=some (ts,j9,i')→ib ops os k8=true→yl es i k8.length=true→
  (∀p∈us,p∈ts)∧((∀p∈ts,p.1=p.2)→(∀j v,lk kv j=some v→fQ (ks.map FK.fact) j=Fact.eq v)→jN F P N ds ops Q (ks.map FK.fact) l0 g.dr es dM J i' j9→jN F P N ds ops Q (ks.map FK.fact) l0 g.dr es dM J i os)
 |[],hs,i,os,kv,us,ts,j9,i',h,_,_=>by simp only[cn,Option.some.injEq,Prod.mk.injEq]at h;obtain⟨rfl,rfl,rfl⟩:=h;exact⟨fun _ h=>h,fun _ _ k=>k⟩
 |_::_,hs,i,[],kv,us,ts,j9,i',h,_,_=>by simp[cn]at h
 |js::k8,hs,i,o::os,kv,us,ts,j9,i',h,hn,Bv=>by
  simp only[ib,Bool.and_eq_true,beq_iff_eq]at hn;obtain⟨Em,Eo⟩:=hn;simp only[List.length_cons,yl,Bool.and_eq_true]at Bv;obtain⟨yh,BE⟩:=Bv;simp only[cn]at h;split at h
  ·cases h
  rename_i env gk;split at h
  ·rename_i x hx;have tB:=tE i hx;have uV: ∀{v:Value},x=v→(∀j v,lk kv j=some v→fQ (ks.map FK.fact) j=Fact.eq v)→ ∀j u,lk ((i,v)::kv) j=some u→fQ (ks.map FK.fact) j=Fact.eq u:=by
    rintro v rfl hk j u hu;by_cases e:i=j
    ·subst e;rw[cJ]at hu;obtain rfl:=Option.some.inj hu;exact tB
    rw[bX _ _ e]at hu;exact hk j u hu
   have one: ∀{v:Value},x=v→(∀j v,lk kv j=some v→fQ (ks.map FK.fact) j=Fact.eq v)→(∀g',g.le g'→DK F P N ds ops Q (Fact.eq v) g' o env)→uW F P N ds ops Q (ks.map FK.fact) l0 g.dr es dM J i o:=by rintro v rfl hk hd;refine ni rfl (by simpa using yh) fun s g' _ _ _ hf _=>?_;rw[Em];refine qV hk _ _ _ gk ?_;rw[tB];exact hd g' ((G.bu _).trans hf)
   split at h
   ·cases h
   ·rename_i hg;obtain⟨m2,k⟩:=qX dq hA _ _ _ _ _ _ _ _ _ h Eo BE;refine⟨fun p hp=>m2 p (List.mem_cons_of_mem _ hp),fun e2 hk hr=>?_⟩;have he:x=undef:=e2 _ (m2 _ (List.mem_cons_self ..));exact⟨one he hk fun g' hf=>r4 hg rfl,k e2 (uV he hk) hr⟩
   rename_i hg;cases hh:Rg o.op with
   |true=>
    simp only[hh,cond_true]at h;split at h
    ·cases h
    rename_i s hr;split at h
    ·rename_i p q v hl;obtain⟨m2,k⟩:=qX dq hA _ _ _ _ _ _ _ _ _ h Eo BE;refine⟨fun p hp=>m2 p (List.mem_cons_of_mem _ (List.mem_cons_of_mem _ hp)),fun e2 hk hr=>?_⟩;have he:x=v:=e2 _ (m2 _ (List.mem_cons_of_mem _ (List.mem_cons_self ..)));obtain rfl:p=q:=e2 _ (m2 _ (List.mem_cons_self ..));refine⟨one he hk fun g' hf=>aB hg ?_,k e2 (uV he hk) hr⟩;exact uU dq hA (St.start g') ((pZ s hf).trans hl) fun g2 xN=>⟨g2,rfl,xN,rfl⟩
    cases h
   |false=>
    simp only[hh,cond_false]at h;split at h
    ·rename_i v hv;obtain⟨m2,k⟩:=qX dq hA _ _ _ _ _ _ _ _ _ h Eo BE;refine⟨fun p hp=>m2 p (List.mem_cons_of_mem _ hp),fun e2 hk hr=>?_⟩;have he:x=v:=e2 _ (m2 _ (List.mem_cons_self ..));exact⟨one he hk fun g' hf=>aB hg (oj dq hv ⟨g',rfl,a_.refl g',rfl⟩),k e2 (uV he hk) hr⟩
    cases h
  cases h
theorem Lm[dR P][hA:jA F]{i i':Nat}{A:List Value}(k8:List (List Nat))(ss:List (r_ P g))(hn:(ib ops os k8&&yl es i k8.length)=true)(h:mY (dR.tb P) ops ks l0 [] k8 ss i os=some (A,A,j9,i'))
  (k:jN F P N ds ops Q (ks.map FK.fact) l0 g.dr es dM J i' j9):jN F P N ds ops Q (ks.map FK.fact) l0 g.dr es dM J i os:=by
 rw[Bool.and_eq_true]at hn;unfold mY at h;split at h
 ·rename_i ts U_ i2 h2;simp only[Option.some.injEq,Prod.mk.injEq]at h;obtain⟨rfl,e2,rfl,rfl⟩:=h;exact(qX dR.ok hA k8 ss i os [] [] _ _ _ h2 hn.1 hn.2).2 (mX e2.symm) (fun j v hv=>by simp[lk]at hv) k
 cases h
theorem qz[dR P][jA F]{id:Nat}(ks:List FK)(m:Nat)(outs:List (Nat×Nat))(es:List Nat)(dM:List (List Nat))(Ls:Nat→List cS)(hs:St g0 g (Ls 0))
  (lT:(oT N ops l0 m&&yj ops es m&&((es.zip dM).all fun p=>uK ops p.2 p.1)&&outs.all (fun p=>Nat.blt p.1 m&&(dh ops p.1==some p.2)))=true) (hsoft:py ks)
  (gV:jN F P N ds ops Q (ks.map FK.fact) l0 g.dr es dM (fun s g'=>St g0 g' (Ls s)) 0 (ops.toList.take m))
  (iT: ∀g',St g0 g' (Ls es.length)→g.le g'→QA (ks.map FK.fact) g' outs l0 fun env=>WL F P N ds ops Q (ops.toList.drop m) env g'.w):W F P N ds (.region id ops true) Q l0 g.w:=by
 simp only[Bool.and_eq_true]at lT;obtain⟨⟨⟨h1,h2⟩,h3⟩,h4⟩:=lT;exact IJ jA.all dR.mixed (ks.map FK.fact) m outs es dM _ (fun s g1 g2 hf hs=>hs.call hf) hs.dr h1 h2 h3 (py.soft hsoft) h4 gV fun g' hf jo=>iT g' jo ((G.bu _).trans hf)
end Go.K
namespace Go.Proofs.YtgehbndkogohpaaGreatDoor
open Go Go.K
set_option maxRecDepth 10000
attribute [local irreducible] W WL cD bc bK bd bg bh cq ck
set_option maxHeartbeats 4000000
def cg(f:bH):List Value:=[.int .i64 f.kind,.int .i64 f.idn,.int .i64 f.ver,.int .i64 f.day,.bool f.gone,.int .i64 f.time,.int .i64 f.til,.int .i64 f.waf,.int .i64 f.oth,.int .i64 f.lot,.int .i64 f.prod,.int .i64 f.tool,.int .i64 f.cham,.int .i64 f.step,.int .i64 f.rcp,.int .i64 f.rvn,.int .i64 f.val,.int .i64 f.par,.string (bs f.text)]
instance:El bH where
 k:=19
 pos:=by omega
 rc _ cs f:=cs=cg f
 len h:=by rw[h];rfl
 mono _ h:=h
 one h:=by rw[h];simp[cg,Value.oneCell']
abbrev fv(f:bH):Value:=.agg (cg f).toArray
def Sp:Nat→Nat
 |1=>161
 |5=>246
 |6=>245
 |7=>165
 |8=>178
 |9=>166
 |10=>179
 |11=>167
 |12=>168
 |13=>169
 |14=>162
 |15=>163
 |16=>171
 |17=>170
 |_=>0
def fO(i:Nat):Value:=.func (.func (Sp i)) #[] #[]
instance:El jQ where
 k:=3
 pos:=by omega
 rc _ cs x:=cs=[fO x.at_,.int .i64 x.lo,.int .i64 x.hi]
 len h:=by rw[h];rfl
 mono _ h:=h
 one h:=by rw[h];simp[fO,Value.oneCell']
def ll(k:Nat):Prop:=k=1∨k=5∨k=6∨k=7∨k=8∨k=9∨k=10∨k=11∨k=12∨k=13∨k=14∨k=15∨k=16∨k=17
theorem JK{k:Nat}(hk:ll k)(b:Nat)(g:G):CallsIn Wd 0 Tryz.prog (Sp k) #[.pointer (some ⟨b,0,none⟩)] g.w (cF g fun _ r=>r= .pointer (some ⟨b,k,none⟩)):=by
 rcases hk with rfl|rfl|rfl|rfl|rfl|rfl|rfl|rfl|rfl|rfl|rfl|rfl|rfl|rfl
 ·have hs:=St.start g;refine enter Tryz.func161 rfl Tryz.ntmps161 rfl ?_;refine aY rfl ?_;refine aY rfl ?_;exact aI (aX rfl rfl (hs.ret rfl))
 ·have hs:=St.start g;refine enter Tryz.func246 rfl Tryz.ntmps246 rfl ?_;refine aY rfl ?_;refine aY rfl ?_;exact aI (aX rfl rfl (hs.ret rfl))
 ·have hs:=St.start g;refine enter Tryz.func245 rfl Tryz.ntmps245 rfl ?_;refine aY rfl ?_;refine aY rfl ?_;exact aI (aX rfl rfl (hs.ret rfl))
 ·have hs:=St.start g;refine enter Tryz.func165 rfl Tryz.ntmps165 rfl ?_;refine aY rfl ?_;refine aY rfl ?_;exact aI (aX rfl rfl (hs.ret rfl))
 ·have hs:=St.start g;refine enter Tryz.func178 rfl Tryz.ntmps178 rfl ?_;refine aY rfl ?_;refine aY rfl ?_;exact aI (aX rfl rfl (hs.ret rfl))
 ·have hs:=St.start g;refine enter Tryz.func166 rfl Tryz.ntmps166 rfl ?_;refine aY rfl ?_;refine aY rfl ?_;exact aI (aX rfl rfl (hs.ret rfl))
 ·have hs:=St.start g;refine enter Tryz.func179 rfl Tryz.ntmps179 rfl ?_;refine aY rfl ?_;refine aY rfl ?_;exact aI (aX rfl rfl (hs.ret rfl))
 ·have hs:=St.start g;refine enter Tryz.func167 rfl Tryz.ntmps167 rfl ?_;refine aY rfl ?_;refine aY rfl ?_;exact aI (aX rfl rfl (hs.ret rfl))
 ·have hs:=St.start g;refine enter Tryz.func168 rfl Tryz.ntmps168 rfl ?_;refine aY rfl ?_;refine aY rfl ?_;exact aI (aX rfl rfl (hs.ret rfl))
 ·have hs:=St.start g;refine enter Tryz.func169 rfl Tryz.ntmps169 rfl ?_;refine aY rfl ?_;refine aY rfl ?_;exact aI (aX rfl rfl (hs.ret rfl))
 ·have hs:=St.start g;refine enter Tryz.func162 rfl Tryz.ntmps162 rfl ?_;refine aY rfl ?_;refine aY rfl ?_;exact aI (aX rfl rfl (hs.ret rfl))
 ·have hs:=St.start g;refine enter Tryz.func163 rfl Tryz.ntmps163 rfl ?_;refine aY rfl ?_;refine aY rfl ?_;exact aI (aX rfl rfl (hs.ret rfl))
 ·have hs:=St.start g;refine enter Tryz.func171 rfl Tryz.ntmps171 rfl ?_;refine aY rfl ?_;refine aY rfl ?_;exact aI (aX rfl rfl (hs.ret rfl))
 have hs:=St.start g;refine enter Tryz.func170 rfl Tryz.ntmps170 rfl ?_;refine aY rfl ?_;refine aY rfl ?_;exact aI (aX rfl rfl (hs.ret rfl))
theorem EE{k:Nat}(hk:ll k):ag Tryz.prog (Sp k):=by
 rcases hk with rfl|rfl|rfl|rfl|rfl|rfl|rfl|rfl|rfl|rfl|rfl|rfl|rfl|rfl
 ·exact NB
 ·exact Ou
 ·exact Ot
 ·exact NG
 ·exact NO
 ·exact NH
 ·exact NP
 ·exact NI
 ·exact NJ
 ·exact NK
 ·exact NC
 ·exact ND
 ·exact NM
 exact NL
theorem EF(f:bH)(g:G):CallsIn Wd 0 Tryz.prog 175 #[fv f] g.w (cF g fun _ r=>r= .bool (qj 1 f)):=by have hs:=St.start g;refine enter Tryz.func175 rfl Tryz.ntmps175 rfl ?_;apply cM;refine ak rfl rfl (aO rfl hs rfl rfl ?_);clear hs;rintro b1 g1 hs ah;skip;refine bj rfl ?_;refine l_ [.o 0,.o 0] hs rfl ?_;exact aI (aX rfl rfl (hs.ret rfl))
theorem B9(f:bH)(g:G):CallsIn Wd 0 Tryz.prog 177 #[fv f] g.w (cF g fun _ r=>r= .bool (qj 0 f)):=by have hs:=St.start g;refine enter Tryz.func177 rfl Tryz.ntmps177 rfl ?_;apply cM;refine ak rfl rfl (aO rfl hs rfl rfl ?_);clear hs;rintro b1 g1 hs ah;skip;refine bj rfl ?_;refine aY rfl ?_;exact aI (aX rfl rfl (hs.ret rfl))
theorem Hx(f:bH)(g:G):CallsIn Wd 0 Tryz.prog 164 #[fv f] g.w (cF g fun _ r=>r= .bool (qj 2 f)):=by have hs:=St.start g;refine enter Tryz.func164 rfl Tryz.ntmps164 rfl ?_;apply cM;refine ak rfl rfl (aO rfl hs rfl rfl ?_);clear hs;rintro b1 g1 hs ah;skip;refine bj rfl ?_;refine l_ [.o 0,.o 0] hs rfl ?_;exact aI (aX rfl rfl (hs.ret rfl))
theorem KE(b:Bool)(g:G):CallsIn Wd 0 Tryz.prog 180 #[.bool b] g.w (cF g fun _ r=>r= .int .i64 (nF b)):=by
 have hs:=St.start g;refine enter Tryz.func180 rfl Tryz.ntmps180 rfl ?_;refine aY rfl ?_;apply aD;refine aY rfl ?_;cases b with
 |true=>
  refine aM rfl rfl ?_;refine aY rfl ?_;refine aI ?_;apply eD;exact aX rfl rfl (hs.ret rfl)
 |false=>
  refine aV rfl rfl ?_;apply aF;apply ar;refine aY rfl ?_;refine aI ?_;skip;exact aX rfl rfl (hs.ret rfl)
theorem ee(i:Nat)(g:G):CallsIn Wd 0 Tryz.prog 160 #[fO i] g.w (cF g fun _ r=>r= .agg #[fO i,.int .i64 1,.int .i64 1000000]):=by have hs:=St.start g;refine enter Tryz.func160 rfl Tryz.ntmps160 rfl ?_;apply cM;refine ak rfl rfl (aK T.ok rfl hs rfl rfl ?_);clear hs;rintro b1 g1 hs ah;skip;apply bW;refine cN 1 rfl ?_;refine ak rfl rfl (aQ T.ok rfl (vs:=[(0,fO i),(1,.int .i64 (1)),(2,.int .i64 (1000000))]) (cells:=[fO i,.int .i64 (1),.int .i64 (1000000)]) rfl rfl rfl rfl [(0,1),(1,1),(2,1)] rfl (by kernel_rfl) ?_);skip;refine bA rfl (az T.ok 0 rfl hs rfl rfl rfl rfl rfl rfl rfl rfl rfl ?_);replace hs:=hs;rintro g1 hs ah;skip;apply bW;exact aI (kC T.ok 0 rfl hs rfl rfl rfl (hs.ret rfl))
theorem mD(g:G):CallsIn Wd 0 Tryz.prog 176 #[] g.w (cF g fun _ r=>r= .agg #[fO 5,.int .i64 0,.int .i64 1000000]):=by have hs:=St.start g;refine enter Tryz.func176 rfl Tryz.ntmps176 rfl ?_;apply cM;refine ak rfl rfl (aK T.ok rfl hs rfl rfl ?_);clear hs;rintro b1 g1 hs ah;skip;apply bW;apply cM;refine ak rfl rfl (aQ T.ok rfl (vs:=[(0,fO 5),(1,.int .i64 (0)),(2,.int .i64 (1000000))]) (cells:=[fO 5,.int .i64 (0),.int .i64 (1000000)]) rfl rfl rfl rfl [(0,1),(1,1),(2,1)] rfl (by kernel_rfl) ?_);skip;refine bA rfl (az T.ok 0 rfl hs rfl rfl rfl rfl rfl rfl rfl rfl rfl ?_);replace hs:=hs;rintro g1 hs ah;skip;apply bW;exact aI (kC T.ok 0 rfl hs rfl rfl rfl (hs.ret rfl))
def jm(l:List jQ):List Value:=l.flatMap fun x=>[fO x.at_,.int .i64 x.lo,.int .i64 x.hi]
theorem fI(g:G): ∀l:List jQ,cG g (jm l) l
 |[]=>rfl
 |_::l=>⟨_,_,rfl,rfl,fI g l⟩
theorem cG.Us: ∀{l:List jQ} {g:G} {cs ds:List Value},cG g cs l→cG g ds l→cs=ds
 |[],_,_,_,h1,h2=>h1.trans h2.symm
 |_::l,g,_,_,⟨_,_,e1,r1,h1⟩,⟨_,_,e2,r2,h2⟩=>by rw[e1,e2,show _=_ from r1,show _=_ from r2,cG.Us h1 h2]
theorem tp(g:G):CallsIn Wd 0 Tryz.prog 173 #[] g.w (cF g (km 224 g fb)):=by have hs:=St.start g;refine enter Tryz.func173 rfl Tryz.ntmps173 rfl ?_;refine aY rfl ?_;apply cM;refine ak rfl rfl (aQ T.ok rfl (vs:=[(0,fO 11),(1,.int .i64 (0)),(2,.int .i64 (59))]) (cells:=[fO 11,.int .i64 (0),.int .i64 (59)]) rfl rfl rfl rfl [(0,1),(1,1),(2,1)] rfl (by kernel_rfl) ?_);skip;refine ak rfl rfl (aQ T.ok rfl (vs:=[(0,fO 12),(1,.int .i64 (0)),(2,.int .i64 (3))]) (cells:=[fO 12,.int .i64 (0),.int .i64 (3)]) rfl rfl rfl rfl [(0,1),(1,1),(2,1)] rfl (by kernel_rfl) ?_);skip;refine ak rfl rfl (bD T.ok rfl hs (vs:=[(0,.agg #[fO 11,.int .i64 0,.int .i64 59]),(1,.agg #[fO 12,.int .i64 0,.int .i64 3])]) (cells:=jm fb) rfl rfl rfl rfl rfl rfl (by decide) (by decide) (by kernel_rfl) rfl ?_);rintro b g1 hs hle;refine bj rfl ?_;exact aI (aX rfl rfl (hs.ret (hs.nK (i:=0) rfl (fI _ fb))))
theorem tq(g:G):CallsIn Wd 0 Tryz.prog 174 #[] g.w (cF g (km 224 g gQ)):=by have hs:=St.start g;refine enter Tryz.func174 rfl Tryz.ntmps174 rfl ?_;refine aY rfl ?_;apply cM;refine ak rfl rfl (au qq aJ rfl rfl rfl rfl rfl (mD _) ?_);rintro g1 _ aP rfl;replace hs:=hs.call aP;have ah:=aP.le;skip;skip;refine ak rfl rfl (aQ T.ok rfl (vs:=[(0,fO 6),(1,.int .i64 (0)),(2,.int .i64 (1000000))]) (cells:=[fO 6,.int .i64 (0),.int .i64 (1000000)]) rfl rfl rfl rfl [(0,1),(1,1),(2,1)] rfl (by kernel_rfl) ?_);skip;refine ak rfl rfl (bD T.ok rfl hs (vs:=[(0,.agg #[fO 5,.int .i64 0,.int .i64 1000000]),(1,.agg #[fO 6,.int .i64 0,.int .i64 1000000])]) (cells:=jm gQ) rfl rfl rfl rfl rfl rfl (by decide) (by decide) (by kernel_rfl) rfl ?_);rintro b g1 hs hle;refine bj rfl ?_;exact aI (aX rfl rfl (hs.ret (hs.nK (i:=0) rfl (fI _ gQ))))
theorem pG(v:Value)(ls:List (List jQ))(g:G)(aH:Rs g v ls)(hb:(ls.map List.length).sum≤100):CallsIn Wd 0 Tryz.prog 172 #[v] g.w (cF g (km 224 g ls.flatten)):=by
 obtain⟨a,c,rfl⟩:=aH.isSlice;have hlen:=aH.dJ;unfold maxLen at hlen;have hs:=St.start g;refine enter Tryz.func172 rfl Tryz.ntmps172 rfl ?_;refine aY rfl ?_;apply aD;refine aY rfl ?_;apply aG;replace hs:=hs.iN 224 3 none;have aq:=G.le.refl g;have nL:=aH;refine bM (fun m a' w=> ∃(k:Nat) (u:Value) (g2:G),w=g2.w∧St g g2 [.row 224 3 u (ls.take k).flatten.length (jm (ls.take k).flatten)]∧G.le g g2∧k≤ls.length∧m=ls.length-k∧
   Fr 16 [] [(2,u),(5,.slice a ls.length c),(6,.int .i64 ls.length),(7,.int .i64 k)] a') ls.length
  (fun a' ha=>⟨0,_,g,rfl,hs,aq,Nat.zero_le _,rfl,ha.keep (by(repeat (first|exact trivial|refine⟨rfl,?_⟩)))⟩) ?_
 clear hs aq aH;rintro m a' _ ⟨k,u,g2,rfl,hs,aq,hk,rfl,eF⟩;have aH:=nL.mono aq;revert a';apply cI;refine aY rfl ?_;apply aD;by_cases bC:k<ls.length
 ·refine aM (b:=decide ((k:Int)<(ls.length:Int))) (by simp;omega) rfl ?_;apply aF;apply ar;apply aD;apply aG;apply cM;refine ak rfl rfl (aW T.ok rfl aH (y:=ls[k]) (cZ rfl bC) rfl rfl rfl rfl rfl rfl ?_);rintro b p ys aL d_;obtain⟨v1,rfl,Ut⟩:=d_;obtain⟨a1,c1,rfl⟩:=Ut.isSlice;refine Wm 1 [.e aL 0] (St.start _) rfl ?_;refine bj rfl ?_;apply aA;refine Wp 2 rfl ?_;obtain⟨_,news,B_,g_⟩:=Src.lq Ut;obtain rfl:news=jm ls[k]:=cG.Us B_ (fI _ _);have Mp:(ls.take k).flatten.length+ls[k].length≤100:=by
   have h1:(ls.take (k+1)).flatten.length≤ls.flatten.length:=by
    conv=>rhs;rw[←List.take_append_drop (k+1) ls]
    rw[List.flatten_append,List.length_append];omega
   rw[List.take_succ_eq_append_getElem bC,List.flatten_append,List.length_append]at h1;rw[List.length_flatten (L:=ls)]at h1;simpa using Nat.le_trans h1 hb
  refine ak rfl rfl (cd T.ok 0 rfl hs rfl rfl rfl rfl rfl rfl rfl (by decide) rfl g_ B_.one (by show(_+_)*24≤_;omega) (by unfold maxLen;omega) ?_);rintro a' c' g3 hs hle;replace aq:=aq.trans hle;refine Wp 1 rfl ?_;apply aE;apply bR;apply ar;apply aA;refine Wp 2 rfl ?_;apply aE;refine fun a ha=>⟨ls.length-(k+1),by omega,k+1,_,_,rfl,?_,aq,by omega,rfl,ha.keep ⟨rfl,rfl,rfl,kI rfl (by rw[wr (by omega) (by omega)];omega),trivial⟩⟩
  have e1:(ls.take (k+1)).flatten=(ls.take k).flatten++ls[k]:=by rw[List.take_succ_eq_append_getElem bC,List.flatten_append];simp
  rw[e1,List.length_append];unfold jm at hs⊢;rw[List.flatMap_append];exact hs
 refine aV (b:=decide ((k:Int)<(ls.length:Int))) (by simp;omega) rfl ?_;apply bF;apply bG;apply bG;apply c_;apply ar;refine aY rfl ?_;rw[List.take_of_length_le (by omega)]at hs;refine aI ?_;skip;refine aX rfl rfl (hs.ret ?_);exact hs.nK (i:=0) rfl (fI _ _)
end Go.Proofs.YtgehbndkogohpaaGreatDoor
namespace Go.K
open Go Go.RowKit
variable {F:Fence} {P:Program} {N:Nat} {ds:List Deferred} {ops:Array Oper} {Q:Exit→Act→World→Prop} {φs:List Fact} {l0:Env} {gd:G}
def QU(φs:List Fact)(es:List Nat)(ρ:Nat→Option Value)(g:G):List (Nat×Nat)→Env→(Env→Prop)→Prop
 |[],l,k=>k l
 |(j,d)::r,l,k=> ∀v,(fQ φs j).p v g→(es.contains j=true→ρ j=some v)→QU φs es ρ g r ((d,v)::l) k
def tr(ρ:Nat→Option Value)(i:Nat)(v:Value):Nat→Option Value:=fun j=>if j=i then some v else ρ j
def BH(es:List Nat)(J:(Nat→Option Value)→G→Prop)(ρ:Nat→Option Value)(i:Nat)(v:Value)(g g':G):Prop:=if es.contains i=true then g.le g'∧J (tr ρ i v) g' else a_ g g'
def wZ(F:Fence)(P:Program)(N:Nat)(ds:List Deferred)(ops:Array Oper)(Q:Exit→Act→World→Prop)(φs:List Fact)(l0:Env)(gd:G)(es:List Nat)(dM:List (List Nat))(J:(Nat→Option Value)→G→Prop)(i:Nat)(o:Oper):Prop:=
 ∀ρ g',gd.le g'→J ρ g'→(es.contains i=true→ρ i=none)→(∀(k:Nat) A e,es[k]? =some e→dM[k]? =some A→i∈A→ρ e=none)→(∀e,es.contains e=true→e∈kH o→ρ e≠none)→QU φs es ρ g' (eb ops o) l0 fun env=>
  match mx ops env o.guard with
  |some true=>cD F P N ds o env g'.w Q fun v w'=> ∃dc,dc.w=w'∧BH es J ρ i v g' dc∧(fQ φs i).p v dc
  |some false=>BH es J ρ i undef g' g'∧(fQ φs i).p undef g'
  |none=>False
def jP(F:Fence)(P:Program)(N:Nat)(ds:List Deferred)(ops:Array Oper)(Q:Exit→Act→World→Prop)(φs:List Fact)(l0:Env)(gd:G)(es:List Nat)(dM:List (List Nat))(J:(Nat→Option Value)→G→Prop):Nat→List Oper→Prop
 |_,[]=>True
 |i,o::os=>wZ F P N ds ops Q φs l0 gd es dM J i o∧jP F P N ds ops Q φs l0 gd es dM J (i+1) os
theorem jP.at{es:List Nat}{dM:List (List Nat)}{J:(Nat→Option Value)→G→Prop}: ∀{l:List Oper} {i0:Nat},jP F P N ds ops Q φs l0 gd es dM J i0 l→ ∀(j:Nat) o,l[j]? =some o→wZ F P N ds ops Q φs l0 gd es dM J (i0+j) o
 |[],_,_,j,o,h=>by simp at h
 |x::l,i0,hs,0,o,h=>by simp only[List.getElem?_cons_zero,Option.some.injEq]at h;subst h;exact hs.1
 |x::l,i0,hs,j+1,o,h=>by simp only[List.getElem?_cons_succ]at h;have:=jP.at (i0:=i0+1) hs.2 j o h;rw[show i0+(j+1)=i0+1+j from by omega];exact this
theorem yn{g:G}{a:Act}{es:List Nat}{ρ:Nat→Option Value}: ∀(js:List (Nat×Nat)) {l:Env} {k:Env→Prop},QU φs es ρ g js l k→Fr N ds l a→(∀p∈js,∃v,a.tmps[p.2]? =some v∧(fQ φs p.1).p v g∧(es.contains p.1=true→ρ p.1=some v))→ ∃env,k env∧Fr N ds env a
 |[],l,k,h,ha,_=>⟨l,h,ha⟩
 |(j,d)::r,l,k,h,ha,hp=>by
  obtain⟨v,hv,hf,hr⟩:=hp (j,d) (by simp);refine yn r (h v hf hr) ⟨ha.defers,ha.size,fun t u hu=>?_⟩ (fun p TT=>hp p (by simp[TT]));by_cases e:d=t
  ·subst e;rw[cJ]at hu;rw[←hu];exact hv
  rw[bX _ _ e]at hu;exact ha.get t u hu
theorem yp{g':G}{es:List Nat}{ρ:Nat→Option Value}: ∀(js:List (Nat×Nat)) (l:Env) (k k':Env→Prop),(∀env,k env→k' env)→QU φs es ρ g' js l k→QU φs es ρ g' js l k'
 |[],_,_,_,hk,h=>hk _ h
 |_::r,_,k,k',hk,h=>fun v hv hr=>yp r _ k k' hk (h v hv hr)
theorem Ke{g':G}{es:List Nat}{ρ:Nat→Option Value}: ∀(js:List (Nat×Nat)) (l:Env) (k:Env→Prop),QA φs g' js l k→QU φs es ρ g' js l k
 |[],_,_,h=>h
 |_::r,_,k,h=>fun v hv _=>Ke r _ k (h v hv)
theorem IL{id:Nat}{g:G}(hF: ∀f,F.fn f)(hm:P.follows .mixedOrders=true)(φs:List Fact)(m:Nat)(outs:List (Nat×Nat))(es:List Nat)(dM:List (List Nat))(J:(Nat→Option Value)→G→Prop)(hJ: ∀ρ g g',a_ g g'→J ρ g→J ρ g')(AX:J (fun _=>none) g.dr)(lT:oT N ops l0 m=true)(TN:(es.all fun e=>Nat.blt e m)=true)(Gj:((es.zip dM).all fun p=>uK ops p.2 p.1)=true)(hsoft:jc [] 0 φs)
  (houts:outs.all (fun p=>Nat.blt p.1 m&&(dh ops p.1==some p.2))=true)
  (gV:jP F P N ds ops Q φs l0 g.dr es dM J 0 (ops.toList.take m))
  (iT: ∀ρ g',g.dr.le g'→J ρ g'→(∀e,es.contains e=true→ρ e≠none)→QU φs es ρ g' outs l0 fun env=>WL F P N ds ops Q (ops.toList.drop m) env g'.w):W F P N ds (.region id ops true) Q l0 g.w:=by
 intro a ha;simp only[oT,Bool.and_eq_true,List.all_eq_true,List.mem_range]at lT;obtain⟨⟨⟨c1,c2⟩,c3⟩,c4⟩:=lT;have c4:m≤ops.size:=Nat.le_of_ble_eq_true c4;have k1: ∀i o,ops[i]? =some o→ ∀j∈kH o,j<i:=by intro i o ho j hj;have:=c1 i (Array.getElem?_eq_some_iff.1 ho).1;rw[ho]at this;have:=(List.all_eq_true.1 this) j hj;simpa [Nat.blt_eq]using this
 have k2: ∀j o,m≤j→ops[j]? =some o→ ∀k,k<j→ ∃i' o',k<i'∧i'≤j∧ops[i']? =some o'∧k∈kH o':=by
  intro j o hj ho k hk;have:=c2 j (Array.getElem?_eq_some_iff.1 ho).1;simp only[Bool.or_eq_true]at this;rcases this with h|h
  ·have:j<m:=by simpa [Nat.blt_eq]using h
   omega
  have:=(List.all_eq_true.1 h) k (List.mem_range.2 hk);obtain⟨i',h1,h2⟩:=List.any_eq_true.1 this;simp only[Bool.and_eq_true]at h2;have h3:=List.mem_range.1 h1;cases pn:ops[i']? with
  |none=>rw[pn]at h2;simp at h2
  |some o'=>
   rw[pn]at h2;exact⟨i',o',by simpa [Nat.blt_eq]using h2.1,by omega,pn,by simpa using h2.2⟩
 have k4: ∀(listed:Array Bool),(∀k o,listed.getD k false=true→ops[k]? =some o→ ∀e∈kH o,listed.getD e false=true)→ ∀j o,m≤j→ops[j]? =some o→(∀e∈kH o,listed.getD e false=true)→ ∀k,k<j→listed.getD k false=true:=by
  intro listed fr j o hj ho cR;have: ∀d k,k<j→j-k=d→listed.getD k false=true:=by
   intro d
   induction d using Nat.strongRecOn with
   |_ d Bt=>
    intro k hk hd;obtain⟨i',o',h1,h2,h3,h4⟩:=k2 j o hj ho k hk;rcases Nat.lt_or_ge i' j with h|h
    ·exact fr i' o' (Bt (j-i') (by omega) i' h rfl) h3 k h4
    obtain rfl:i'=j:=by omega
    rw[ho]at h3;obtain rfl:=Option.some.inj h3;exact cR k h4
  exact fun k hk=>this _ k hk rfl
 have k3: ∀i,i<m→ ∀d,dh ops i=some d→d<N∧lk l0 d=none∧ ∀j,j<m→j≠i→ ∀e,dh ops j=some e→e≠d:=by
  intro i hi d hd;have:=c3 i hi;simp only[hd,Bool.and_eq_true,List.all_eq_true,List.mem_range,Bool.or_eq_true]at this;refine⟨by simpa [Nat.blt_eq]using this.1.1,by simpa using this.1.2,fun j hj fB e he=>?_⟩;rcases this.2 j hj with h|h
  ·exact absurd (by simpa using h) fB
  simpa [he]using h
 have DO: ∀(listed:Array Bool),(∀k o,listed.getD k false=true→ops[k]? =some o→ ∀e∈kH o,listed.getD e false=true)→ ∀(k:Nat) e A,es[k]? =some e→dM[k]? =some A→listed.getD e false=true→ ∀i∈A,listed.getD i false=true:=by
  intro listed fr k e A he hA MG;have hz:(e,A)∈es.zip dM:=by rw[List.mem_iff_getElem?];exact⟨k,by rw[List.getElem?_zip_eq_some];exact⟨he,hA⟩⟩
  have h1:=(List.all_eq_true.1 Gj) _ hz;simp only[uK,List.all_eq_true,Bool.and_eq_true]at h1;have: ∀d i,i∈A→e-i=d→listed.getD i false=true:=by
   intro d
   induction d using Nat.strongRecOn with
   |_ d Bt=>
    intro i hi hd;obtain⟨h2,h3⟩:=h1 i hi;have vK:i<e:=by simpa [Nat.blt_eq]using h2
    obtain⟨j,hj,IK⟩:=List.any_eq_true.1 h3;cases ho:ops[j]? with
    |none=>rw[ho]at IK;simp at IK
    |some o=>
     rw[ho]at IK;have vv:i∈kH o:=by simpa using IK
     have bC:=k1 j o ho i vv;rcases List.mem_cons.1 hj with rfl|hj
     ·exact fr _ o MG ho i vv
     have LG:j<e:=by simpa [Nat.blt_eq]using(h1 j hj).1
     exact fr j o (Bt (e-j) (by omega) j hj rfl) ho i vv
  exact fun i hi=>this _ i hi rfl
 let MK:Array Bool→Act→G→Prop:=fun listed a g'=>g.dr.le g'∧ ∃ρ,(∀e,ρ e≠none↔(es.contains e=true∧listed.getD e false=true))∧(∀e v d,ρ e=some v→dh ops e=some d→a.tmps[d]? =some v)∧J ρ g'
 have LP: ∀e,es.contains e=true→e<m:=fun e he=>by have:=(List.all_eq_true.1 TN) e (by simpa using he);simpa [Nat.blt_eq]using this
 have Gn: ∀{listed:Array Bool} {a:Act} {ρ:Nat→Option Value} (_: ∀e,ρ e≠none↔(es.contains e=true∧listed.getD e false=true)) (_: ∀e v d,ρ e=some v→dh ops e=some d→a.tmps[d]? =some v) {j d:Nat} {v:Value},
   listed.getD j false=true→dh ops j=some d→a.tmps[d]? =some v→es.contains j=true→ρ j=some v:=by
  intro listed a ρ h1 h2 j d v hl hd hv he;cases hr:ρ j with
  |none=>exact absurd hr ((h1 j).2 ⟨he,hl⟩)
  |some u=>
   have:=h2 j u d hr hd;rw[hv]at this;exact this.symm
 refine wpIn_region_any hm ?_;have key: ∀(fuel:Nat) (listed:Array Bool) (a:Act) (g':G),listed.size=ops.size→MK listed a g'→Fr N ds l0 a→
   (∀i,i<m→listed.getD i false=true→ ∀d,dh ops i=some d→ ∃v,a.tmps[d]? =some v∧(fQ φs i).p v g')→(∀j,m≤j→j<ops.size→listed.getD j false=false)→(∀k o,listed.getD k false=true→ops[k]? =some o→ ∀e∈kH o,listed.getD e false=true)→
   (ops.size-((List.range ops.size).filter fun i=>listed.getD i false).length≤fuel)→wpAnyIn F 0 P .any ops Q fuel listed a g'.w:=by
  intro fuel
  induction fuel with
  |zero=>
   intro listed a g' cP hf ha ec fG fr qP;have cR: ∀j,j<ops.size→listed.getD j false=true:=by
    have hlen:((List.range ops.size).filter fun i=>listed.getD i false).length=(List.range ops.size).length:=by have:=List.length_filter_le (fun i=>listed.getD i false) (List.range ops.size);simp only[List.length_range]at this⊢;omega
    have:=List.length_filter_eq_length_iff.1 hlen;intro j hj;exact this j (List.mem_range.2 hj)
   have Dj:m=ops.size:=by
    rcases Nat.lt_or_ge m ops.size with h|h
    ·have:=fG m (Nat.le_refl _) h;rw[cR m h]at this;cases this
    omega
   obtain⟨yS,ρ,sF,zK,J4⟩:=hf;obtain⟨env,hW,gk⟩:=yn outs (iT ρ g' yS J4 (fun e he=>(sF e).2 ⟨he,cR e (by have:=LP e he;omega)⟩)) ha (fun p hp=>by
    have:=(List.all_eq_true.1 houts) p hp;simp only[Bool.and_eq_true,beq_iff_eq]at this;have bC:p.1<m:=by simpa [Nat.blt_eq]using this.1
    obtain⟨v,hv,jF⟩:=ec p.1 bC (cR _ (by omega)) _ this.2;exact⟨v,hv,jF,Gn sF zK (cR _ (by omega)) this.2 hv⟩)
   refine iG k1 0 ops.size listed a g'.w cP (Nat.le_refl _) (fun j o hj ho=>?_) (fun j hj=>⟨fun _=>hj,fun _=>cR j hj⟩) (by omega) (by rw[←Dj];exact hW a gk);have:=(Array.getElem?_eq_some_iff.1 ho).1;omega
  |succ fuel ih=>
   intro listed a g' cP hf ha ec fG fr qP;by_cases gj: ∀j,j<m→listed.getD j false=true
   ·obtain⟨yS,ρ,sF,zK,J4⟩:=hf;obtain⟨env,hW,gk⟩:=yn outs (iT ρ g' yS J4 (fun e he=>(sF e).2 ⟨he,gj e (LP e he)⟩)) ha (fun p hp=>by
     have:=(List.all_eq_true.1 houts) p hp;simp only[Bool.and_eq_true,beq_iff_eq]at this;have bC:p.1<m:=by simpa [Nat.blt_eq]using this.1
     obtain⟨v,hv,jF⟩:=ec p.1 bC (gj _ bC) _ this.2;exact⟨v,hv,jF,Gn sF zK (gj _ bC) this.2 hv⟩)
    refine iG k1 (fuel+1) m listed a g'.w cP c4 (fun j o hj ho=>k2 j o hj ho) (fun j hj=>⟨fun h=>?_,fun h=>gj j h⟩) ?_ (hW a gk)
    ·rcases Nat.lt_or_ge j m with h'|h'
     ·exact h'
     rw[fG j h' hj]at h;cases h
    have hle:((List.range ops.size).filter fun i=>listed.getD i false).length≤m:=by
     have mS:((List.range ops.size).filter fun i=>listed.getD i false).length≤((List.range ops.size).filter fun i=>decide (i<m)).length:=by
      refine List.Sublist.length_le ?_;rw[show((List.range ops.size).filter fun i=>listed.getD i false)=((List.range ops.size).filter fun i=>decide (i<m)).filter (fun i=>listed.getD i false)from ?_]
      ·exact List.filter_sublist
      rw[List.filter_filter];refine List.filter_congr fun i hi=>?_;have hi:=List.mem_range.1 hi;by_cases h:i<m
      ·simp[h]
      rw[fG i (by omega) hi];simp
     have:((List.range ops.size).filter fun i=>decide (i<m)).length=m:=by
      have e:ops.size=m+(ops.size-m):=by omega
      rw[e,List.range_add,List.filter_append,List.length_append,List.filter_eq_self.2 (by intro x hx;simpa using hx),List.filter_eq_nil_iff.2 (by intro x hx;obtain⟨y,_,rfl⟩:=List.mem_map.1 hx;simp)];simp
     omega
    omega
   --oP of yZ first part is not listed:yZ least Iy is ready
   have hex: ∃j,j<m∧listed.getD j false=false∧ ∀k,k<j→listed.getD k false=true:=by
    have: ∃j,j<m∧listed.getD j false=false:=by
     apply Classical.byContradiction;intro dx;apply gj;intro j hj;cases hc:listed.getD j false with
     |true=>rfl
     |false=>exact absurd ⟨j,hj,hc⟩ dx
    obtain⟨j,hj⟩:=this
    induction j using Nat.strongRecOn with
    |_ j Iz=>
     by_cases hk: ∃k,k<j∧listed.getD k false=false
     ·obtain⟨k,o_,yU⟩:=hk;exact Iz k o_ ⟨by omega,yU⟩
     refine⟨j,hj.1,hj.2,fun k o_=>?_⟩;cases hc:listed.getD k false with
     |true=>rfl
     |false=>exact absurd ⟨k,o_,hc⟩ hk
   obtain⟨j0,Rb,zN,s_⟩:=hex;have gW:j0∈Region.ready .any ops listed:=by
    rw[eL];have bC:j0<ops.size:=by omega
    refine⟨by rw[getD_lt (cP▸bC) true false];exact zN,_,Array.getElem?_eq_getElem bC,fun k hk=>s_ k (k1 j0 _ (Array.getElem?_eq_getElem bC) k hk)⟩
   refine⟨fun h0=>(by rw[h0]at gW;cases gW),fun i hi=>?_⟩;obtain⟨h0,o,ho,cR⟩:=eL.1 hi;have mq:i<ops.size:=(Array.getElem?_eq_some_iff.1 ho).1;rw[getD_lt (cP▸mq) true false]at h0;have oa:i<m:=by
    rcases Nat.lt_or_ge i m with h|h
    ·exact h
    have:=k4 listed fr i o h ho cR j0 (by omega);rw[zN]at this;cases this
   have Gk:dh ops i=o.dst:=by unfold dh;rw[ho];rfl
   have jZ:=gV.at (i0:=0) i o (by rw[List.getElem?_take_of_lt oa];simpa using ho);rw[Nat.zero_add]at jZ;obtain⟨MI,ρ,sF,zK,J4⟩:=hf;have mT: ∀p∈eb ops o,∃v,a.tmps[p.2]? =some v∧(fQ φs p.1).p v g'∧(es.contains p.1=true→ρ p.1=some v):=by
    intro p hp;unfold eb at hp;obtain⟨j,hj,uJ⟩:=List.mem_filterMap.1 hp;cases wU:dh ops j with
    |none=>simp[wU]at uJ
    |some e=>
     simp only[wU]at uJ;have IA:j<m:=by have:=k1 i o ho j hj;omega
     obtain⟨v,hv,jF⟩:=ec j IA (cR j hj) e wU;have Bu: ∀(c:Bool) (q:Nat×Nat),(bif c then some q else none)=some p→q=p:=by
      intro c q h;cases c with
      |true=>exact Option.some.inj h
      |false=>cases h
     obtain rfl:=Bu _ _ uJ;exact⟨v,hv,jF,Gn sF zK (cR j hj) wU hv⟩
   obtain⟨env,hk,gk⟩:=yn (eb ops o) (jZ ρ g' MI J4 (fun he=>by
    cases hr:ρ i with
    |none=>rfl
    |some u=>have:=((sF i).1 (by rw[hr];simp)).2;rw[this]at h0;cases h0) (fun k A e he hA TO=>by
    cases hr:ρ e with
    |none=>rfl
    |some u=>
     have MG:=((sF e).1 (by rw[hr];simp)).2;have:=DO listed fr k e A he hA MG i TO;rw[this]at h0;cases h0) (fun e he TP=>(sF e).2 ⟨he,cR e TP⟩)) ha mT
   have jb: ∀(a':Act) (dc:G) (v:Value),a'=a.put o.dst v→BH es J ρ i v g' dc→(fQ φs i).p v dc→wpAnyIn F 0 P .any ops Q fuel (listed.setIfInBounds i true) a' dc.w:=by
    intro a' dc v he eu jF;have nB: ∀t,o.dst≠some t→a'.tmps[t]? =a.tmps[t]?:=fun t ht=>by
     rw[he];cases rr:o.dst with
     |none=>rfl
     |some d=>
      simp only[Act.put];rw[Array.getElem?_setIfInBounds_ne (fun e=>ht (by rw[rr,e]))]
    have pv: ∀d,o.dst=some d→a'.tmps[d]? =some v:=fun d rr=>by rw[he,rr];simp only[Act.put];rw[Array.getElem?_setIfInBounds_self,if_pos (by rw[ha.size];exact(k3 i oa d (Gk.trans rr)).1)]
    have gJ: ∀k,k≠i→(listed.setIfInBounds i true).getD k false=listed.getD k false:=fun k hk=>by simp only[Array.getD_eq_getD_getElem?];rw[Array.getElem?_setIfInBounds_ne (fun e=>hk e.symm)]
    have dn:(listed.setIfInBounds i true).getD i false=true:=by simp[cP,mq]
    have Gl:g'.le dc:=by
     unfold BH at eu;split at eu
     ·exact eu.1
     exact eu.le
    have hold: ∀e u d,e≠i→ρ e=some u→dh ops e=some d→a'.tmps[d]? =some u:=fun e u d fB hr hd=>by have Xv:=LP e ((sF e).1 (by rw[hr];simp)).1;rw[nB d (fun h=>(k3 e Xv d hd).2.2 i oa (fun h'=>fB h'.symm) d (Gk.trans h) rfl)];exact zK e u d hr hd
    have hinv:MK (listed.setIfInBounds i true) a' dc:=by
     refine⟨MI.trans Gl,?_⟩;unfold BH at eu;split at eu
     ·rename_i vK;refine⟨tr ρ i v,fun e=>?_,fun e u d hr hd=>?_,eu.2⟩
      ·unfold tr;by_cases Gm:e=i
       ·subst Gm;simp only[if_true];exact⟨fun _=>⟨vK,dn⟩,fun _=>by simp⟩
       rw[if_neg Gm,gJ e Gm];exact sF e
      unfold tr at hr;by_cases Gm:e=i
      ·subst Gm;rw[if_pos rfl]at hr;obtain rfl:=Option.some.inj hr;exact pv d (Gk.symm.trans hd)
      rw[if_neg Gm]at hr;exact hold e u d Gm hr hd
     rename_i vK;have fB: ∀e,es.contains e=true→e≠i:=fun e he h=>by subst h;exact vK he
     refine⟨ρ,fun e=>?_,fun e u d hr hd=>?_,hJ ρ _ _ eu J4⟩
     ·constructor
      ·intro h;have:=(sF e).1 h;exact⟨this.1,by rw[gJ e (fB e this.1)];exact this.2⟩
      rintro⟨h1,h2⟩;rw[gJ e (fB e h1)]at h2;exact(sF e).2 ⟨h1,h2⟩
     exact hold e u d (fB e ((sF e).1 (by rw[hr];simp)).1) hr hd
    refine ih _ a' dc (by simpa using cP) hinv ⟨by rw[he];cases o.dst<;>exact ha.defers,by rw[he];cases o.dst<;>simp[Act.put,ha.size],fun t u hu=>?_⟩ (fun k hk lg d' td=>?_) (fun j hj F_=>?_) (fun k o' hk yb e he=>?_) ?_
    ·rw[nB t (fun e=>by have:=(k3 i oa t (Gk.trans e)).2.1;rw[this]at hu;cases hu)];exact ha.get t u hu
    ·by_cases jK:k=i
     ·subst jK;exact⟨v,pv d' (Gk.symm.trans td),jF⟩
     rw[gJ k jK]at lg;obtain⟨v',DN,yc⟩:=ec k hk lg d' td;refine⟨v',?_,(jc.at hsoft k).elim (fun h=>by simp at h) fun h=>h _ _ _ Gl yc⟩;rw[nB d' (fun e=>(k3 k hk d' td).2.2 i oa (fun h=>jK h.symm) d' (Gk.trans e) rfl)];exact DN
    ·rw[gJ j (by omega)];exact fG j hj F_
    ·have hle: ∀x,listed.getD x false=true→(listed.setIfInBounds i true).getD x false=true:=fun x hx=>by
      by_cases yV:x=i
      ·subst yV;exact dn
      rw[gJ x yV];exact hx
     by_cases jK:k=i
     ·subst jK;rw[ho]at yb;obtain rfl:=Option.some.inj yb;exact hle e (cR e he)
     rw[gJ k jK]at hk;exact hle e (fr k o' hk yb e he)
    have bC:((List.range ops.size).filter fun k=>listed.getD k false).length<((List.range ops.size).filter fun k=>(listed.setIfInBounds i true).getD k false).length:=by
     have mS:List.Sublist ((List.range ops.size).filter fun k=>listed.getD k false) ((List.range ops.size).filter fun k=>(listed.setIfInBounds i true).getD k false):=by
      have e:((List.range ops.size).filter fun k=>listed.getD k false)=((List.range ops.size).filter fun k=>(listed.setIfInBounds i true).getD k false).filter (fun k=>listed.getD k false):=by
       rw[List.filter_filter];refine List.filter_congr fun k _=>?_;by_cases jK:k=i
       ·subst jK;rw[dn];simp
       rw[gJ k jK];simp
      rw[e];exact List.filter_sublist
     refine Nat.lt_of_le_of_ne mS.length_le fun e=>?_;have:=mS.eq_of_length e;have AM:i∈((List.range ops.size).filter fun k=>(listed.setIfInBounds i true).getD k false):=List.mem_filter.2 ⟨List.mem_range.2 mq,dn⟩;rw[←this]at AM;have:=(List.mem_filter.1 AM).2;rw[h0]at this;cases this
    omega
   unfold wpOpIn;rw[ho];simp only;cases hg:mx ops env o.guard with
   |none=>rw[hg]at hk;exact hk.elim
   |some b=>
    have lE:Region.wanted o (yielded ops a.tmps)=b:=jy (l:=env) (o:=o) hg gk;rw[hg]at hk;cases b with
    |true=>
     rw[if_pos lE];exact Oper.wpIn_mono (fun a' w' ⟨v,he,dc,hw,eu,jF⟩=>hw▸jb a' dc v he eu jF) (hk a gk)
    |false=>
     rw[if_neg (by rw[lE];simp)];exact⟨fun f _=>hF f,jb _ g' undef rfl hk.1 hk.2⟩
 refine key ops.size _ a g.dr (by simp) ⟨G.le.refl _,fun _=>none,fun e=>⟨fun h=>absurd rfl h,fun h=>by have h2:=h.2;simp only[Array.getD_eq_getD_getElem?,Array.getElem?_replicate]at h2;split at h2<;>simp at h2⟩,fun e v d hr=>(by cases hr),AX⟩ ha (fun i hi hl=>?_) (fun j _ hj=>by simp[hj]) (fun k o hl=>?_) (by omega)
 ·simp only[Array.getD_eq_getD_getElem?,Array.getElem?_replicate]at hl;split at hl<;>simp at hl
 simp only[Array.getD_eq_getD_getElem?,Array.getElem?_replicate]at hl;split at hl<;>simp at hl
end Go.K
