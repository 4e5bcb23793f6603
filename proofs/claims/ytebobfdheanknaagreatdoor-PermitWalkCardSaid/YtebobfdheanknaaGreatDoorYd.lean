/- Parts of the proof, from: Single operations by their own runs: conversions, functions of the model's own, comparisons of pointers. -/
import Derived.Test.YtebobfdheanknaaGreatDoorYc
import Derived.Laws.Externs
import Derived.RecoverIn
import Derived.Sort.OwnSortedInts
namespace Go.K
open Go Go.RowKit
variable {F:Fence} {P:Program} {N:Nat} {ds:List Deferred} {l l':Env} {a:Act} {w:World} {Q:Exit→Act→World→Prop} {ops:Array Oper} {os:List Oper} {o:Oper}
variable {g0 g:G} {L L':List cV} {K:Value→World→Prop} {R:Ending→World→Prop}
theorem yL{src dst:TypeId}{x:Operand}{v v':Value}(ho:o.op= .convert src dst x)(hx:ev l x=some v)(h:(convert src dst v).run P w= .ok v' w)(k:K v' w):cT F P N ds o l w Q K:=
 bG (fun c=>⟨by rw[ho];simp,by rw[ho];simp⟩) (fun a ha=>by simp[execOp,ho,ha.ev hx,h]) k
theorem Ak{f:FuncId}{fn:Func}{e:Array Value→Sem Value}(hf:P.funcs[f]? =some fn)(Oi:(fn.name== "runtime.NumGoroutine")=false)(hb:fn.body.isNone=true)(hn:Extern.findNext fn=none)(he:Extern.find fn=some e)(hF: ∀f,F.fn f)
  {x:Operand} {args:Array Operand} {ts:Array TypeId} {vs:List Value} {v:Value} (ho:o.op= .call {callee:=.value x,args,argTypes:=ts}) (hx:ev l x=some (.func (.func f) #[] #[])) (ha:rP l args.toList=some vs)
  (h:(e vs.toArray).run P w= .ok v w) (k:K v w):cT F P N ds o l w Q K:=by
 intro a C4
 unfold Oper.wpIn
 refine⟨fun f _=>hF f,?_⟩
 have pT:args.map a.eval=vs.toArray:=by apply Array.ext';simpa using iA C4 ha
 rw[Oper.semAt_eq _ _ _ (fun c e=>by rw[ho]at e;cases e)]
 have jf:(execOp a.eval o).run P w= .ok (.value v) w:=by
  simp only[execOp,ho,Sem.run_bind,resolve,C4.ev hx,Deferred.ofValue,Sem.run_pure,Result.andThen_ok,invoke,pT]
  have e1:#[]++vs.toArray++#[]=vs.toArray:=by apply Array.ext';simp
  rw[e1,run_callFunc_extern hf Oi hb hn he,h]
  rfl
 rw[jf]
 exact⟨v,rfl,k⟩
theorem tU{t te t':TypeId}{j:TypeInfo}{x y:Operand}{ad:Addr}(ho:o.op= .binOp .neq t x y t')(hx:ev l x=some (.pointer (some ad)))(hy:ev l y=some (.pointer (some ad)))
  (hp:P.underlying t=some (.pointer te)) (BW:P.info? te=some j) (k:K (.bool false) w):cT F P N ds o l w Q K:=by
 have hg: ∀op,(eqGuard op t x y (.pointer (some ad)) (.pointer (some ad))).run P w= .ok () w:=fun op=>by unfold eqGuard;split<;>rfl
 have hq:=Lib.run_neq_ptr_same (w:=w) ad hp BW
 exact bG (fun c=>⟨by rw[ho];simp,by rw[ho];simp⟩) (fun a ha=>by simp[execOp,ho,ha.ev hx,ha.ev hy,hg,hq]) k
theorem St.tail{M:List cV}(hs:St g0 g (M++L)):St g0 g L:=by
 induction M with
 |nil=>exact hs
 |cons e M ih=>exact ih (hs.drop 0)
theorem Row.at{B:Nat}{e:TypeId}{k:Nat}{v:Value}{n:Nat}{xs:List Value}(h:Row B e k v n xs w){q:Nat}(hq:o6 v=some q): ∃cur fz,w.heap[q]? =some (.cells cur e fz):=by
 rcases h.2 with⟨_,a',rfl⟩|⟨b',off,cap,cur,rfl,_,⟨fz,hh,_⟩,_⟩
 ·rw[jL]at hq;cases hq
 ·obtain⟨_,_,_,e1,_,e2⟩:=kF hq
  simp only[Value.slice.injEq,Option.some.injEq]at e1
  obtain⟨rfl,_⟩:=e1
  subst e2
  exact⟨_,_,hh⟩
end Go.K
namespace Go.K
open Go Go.RowKit
variable {F:Fence} {P:Program} {N:Nat} {ds:List Deferred} {l l':Env} {a:Act} {w:World} {Q:Exit→Act→World→Prop} {ops:Array Oper} {os:List Oper} {o:Oper}
variable {g0 g:G} {L L':List cV} {K:Value→World→Prop} {R:Ending→World→Prop}
def oW(tmps:Array Value):Env→Prop
 |[]=>True
 |(t,v)::r=>tmps[t]? =some v∧oW tmps r
theorem oW.get{tmps:Array Value}: ∀{l:Env},oW tmps l→ ∀t v,lk l t=some v→tmps[t]? =some v
 |[],_,t,v,h=>by simp[lk]at h
 |(k,u)::r,⟨h1,h2⟩,t,v,h=>by
  by_cases e:k=t
  ·subst e
   rw[cK]at h
   exact(Option.some.inj h)▸h1
  ·rw[bZ _ _ e]at h
   exact h2.get t v h
theorem Fr.JY{tmps:Array Value}(hs:tmps.size=N)(h:oW tmps l):Fr N ds l {tmps,defers:=ds}:=⟨rfl,hs,h.get⟩
theorem Bs{c:Code}{QS:Exit→Act→List Frame→World→Prop}{cs:List Frame}{tmps:Array Value}{a:Act}(ha:a={tmps,defers:=[]})(hs:tmps.size=N)(hl:oW tmps l)(h:W Wd P N [] c (fun e a' w'=>QS e a' cs w') l w):
  c.wpSIn Wd 0 P QS a cs w:=by
 subst ha
 exact wpSIn_of_wpIn rfl (h _ (Fr.JY hs hl))
theorem Oj{fn:Func}{c₀:Frame}{cs cs':List Frame}{RS:Ending→FrameMode→World→Prop}(u':FrameMode)(hr:fn.results=#[])(hc:cs'={c₀ with mode:=u'}::cs)(hR:RS (.returned (.tuple #[])) u' w)(a:Act)(ha:Fr N [] l a):bodyPostS P fn c₀ cs RS .normal a cs' w:=
 ⟨ha.defers,u',hc,_,results_none hr _ _ _,hR⟩
theorem yM{f:FuncId}{x:Operand}{first captured:Array Value}(N7:F.round=none)(hF: ∀f,F.fn f)(hg:gd ops l o=some true)(hd:o.dst=none)(ho:o.op= .defer {callee:=.value x,args:=#[],argTypes:=#[]})(hx:ev l x=some (.func (.func f) first captured))
  (k:WL F P N (⟨.fn (.func f) captured,first⟩::ds) ops Q os l w):WL F P N ds ops Q (o::os) l w:=by
 intro a ha
 simp only[wpListIn,G1 hg ha,if_true]
 unfold Oper.wpIn
 refine⟨fun f _=>hF f,?_⟩
 rw[N7,Oper.semAt_none]
 have jf:(execOp a.eval o).run P w= .ok (.defer ⟨.fn (.func f) captured,first⟩) w:=by
  simp[execOp,ho,resolve,ha.ev hx,Deferred.ofValue]
 rw[jf]
 simp only[Oper.uponIn,hd,Act.put]
 exact k _ ⟨by simp[ha.defers],ha.size,ha.get⟩
theorem EZ{f:FuncId}{fn:Func}{c:Code}{args:Array Value}(hf:P.funcs[f]? =some fn)(hb:fn.body=some c)(hN:fn.ntmps=N)(hle:Nat.ble args.size N=true)
  (h:W Wd P N [] c (bodyPostDIn Wd 0 P fn R) (ml 0 args.toList) w):CallsIn Wd 0 P f args w R:=by
 refine callsIn_of_wp_defers hf hb trivial ?_
 rw[hN]
 exact h _ (tV args N hle)
theorem Bt{fn:Func}{tmps:Array Value}{f:FuncId}{cap:Array Value}{u:FrameMode}(hc:ag P f)(hu:u≠ .run)
  (h:CallsDIn Wd 0 P f cap u w fun
   | .returned _,u',w'=>LeavesIn Wd 0 P fn tmps R [] (settle u') w'
   | .panicked chain,u',w'=>LeavesIn Wd 0 P fn tmps R [] (raised u' chain) w'
   | .outgrown,_,w'=>R .outgrown w'):LeavesIn Wd 0 P fn tmps R [⟨.fn (.func f) cap,#[]⟩] u w:=by
 refine leavesIn_cons (args:=cap) (f:=f) hu (fun h=>by cases h) ?_ (fun _ _=>trivial) h
 have e:#[]++cap=cap:=by apply Array.ext';simp
 simp only[invoke]
 rw[e]
 exact gV hc cap
theorem JZ{fn:Func}{f:FuncId}{cap:Array Value}(hc:ag P f)
  (h: ∀tmps:Array Value,(∀t v,lk l t=some v→tmps[t]? =some v)→CallsDIn Wd 0 P f cap .returning w fun
   | .returned _,u',w'=>LeavesIn Wd 0 P fn tmps R [] (settle u') w'
   | .panicked chain,u',w'=>LeavesIn Wd 0 P fn tmps R [] (raised u' chain) w'
   | .outgrown,_,w'=>R .outgrown w') (a:Act) (ha:Fr N [⟨.fn (.func f) cap,#[]⟩] l a):bodyPostDIn Wd 0 P fn R .ret a w:=by
 show LeavesIn Wd 0 P fn a.tmps R a.defers .returning w
 rw[ha.defers]
 exact Bt hc (by simp) (h a.tmps ha.get)
theorem Al{fn:Func}{f:FuncId}{cap:Array Value}{ch:List PanicEntry}(hc:ag P f)
  (h: ∀tmps:Array Value,(∀t v,lk l t=some v→tmps[t]? =some v)→CallsDIn Wd 0 P f cap (.panicking ch) w fun
   | .returned _,u',w'=>LeavesIn Wd 0 P fn tmps R [] (settle u') w'
   | .panicked chain,u',w'=>LeavesIn Wd 0 P fn tmps R [] (raised u' chain) w'
   | .outgrown,_,w'=>R .outgrown w') (a:Act) (ha:Fr N [⟨.fn (.func f) cap,#[]⟩] l a):bodyPostDIn Wd 0 P fn R (.panic ch) a w:=by
 show LeavesIn Wd 0 P fn a.tmps R a.defers (.panicking ch) w
 rw[ha.defers]
 exact Bt hc (by simp) (h a.tmps ha.get)
end Go.K
namespace Go.K
open Go Go.RowKit Go.Sort
variable {F:Fence} {P:Program} {N:Nat} {ds:List Deferred} {l l':Env} {a:Act} {w:World} {Q:Exit→Act→World→Prop} {ops:Array Oper} {os:List Oper} {o:Oper}
variable {g0 g:G} {L L':List cV} {K:Value→World→Prop} {R:Ending→World→Prop}
def eB(zs:List Int):List Value:=zs.map (Value.int .i64)
theorem lO(zs:List Int):(eB zs).length=zs.length:=by simp[eB]
theorem yN{zs:List Int}{off:Nat}{cur:Array Value}(j:Nat):(putCells (Value.int .i64) off zs.toArray cur)[j]? =(cur[j]?).map fun x=>if off≤j∧j<off+zs.length then Value.int .i64 (zs.toArray[j-off]!)else x:=by
 unfold putCells
 rw[Array.getElem?_mapIdx]
 simp
theorem oq{zs:List Int}{off:Nat}{cur:Array Value}:(putCells (Value.int .i64) off zs.toArray cur).size=cur.size:=by unfold putCells;simp
theorem ru(w:World)(q b off:Nat)(d:Array Int)(os:Array Obj)(k:Nat)(hk:k<w.heap.size):
  (grow (putRow (Value.int .i64) (Sort.ahead w q) b off d) os).heap[k]? =if b=k then(w.heap[k]?).map (fun o=>match o with| .cells c e f=> .cells (putCells (Value.int .i64) off d c) e f|o=>o)else w.heap[k]?:=by
 have h1:(grow (putRow (Value.int .i64) (Sort.ahead w q) b off d) os).heap=(putRow (Value.int .i64) (Sort.ahead w q) b off d).heap++os:=rfl
 have h2:(putRow (Value.int .i64) (Sort.ahead w q) b off d).heap=w.heap.modify b (onCells (putCells (Value.int .i64) off d)):=rfl
 rw[h1,h2,Array.getElem?_append_left (by simpa using hk),Array.getElem?_modify]
 split
 ·cases w.heap[k]? with
  |none=>rfl
  |some o=>cases o<;>rfl
 ·rfl
theorem xg(w:World)(q b off:Nat)(d:Array Int)(os:Array Obj):w.grownBy (grow (putRow (Value.int .i64) (Sort.ahead w q) b off d) os) (some b):=
 ⟨rfl,rfl,rfl,by show w.heap.size≤((putRow (Value.int .i64) (Sort.ahead w q) b off d).heap++os).size;rw[Array.size_append];show _≤(w.heap.modify b _).size+_;simp,fun k hk fu=>by
  rw[ru w q b off d os k hk,if_neg (fun e=>fu (by rw[e]))]⟩
theorem St.putRow{i b off n c q:Nat}{e:TypeId}{zs d:List Int}{os:Array Obj}(hs:St g0 g L)(hi:L[i]? =some (.row e 1 (.slice (some ⟨b,off,none⟩) n c) n (eB zs)))(hn:n≠0)(hd:d.length=n):
  ∃g':G,g'.w=grow (Sort.putRow (Value.int .i64) (Sort.ahead g.w q) b off d.toArray) os∧St g0 g' (L.set i (.row e 1 (.slice (some ⟨b,off,none⟩) n c) n (eB d)))∧g.le g':=by
 have dZ:=hs.own i _ hi
 have hr:=dZ.1
 obtain⟨lG,hr⟩:=hr
 rcases hr with⟨h0,_⟩|⟨b',Rw,cap,cur,e1,hB,⟨fz,hh,hz⟩,nd,oJ,mG,cB⟩
 ·exact absurd h0 hn
 simp only[Value.slice.injEq,Option.some.injEq,Addr.mk.injEq,true_and,and_true]at e1
 obtain⟨⟨rfl,rfl⟩,rfl⟩:=e1
 rw[Nat.mul_one]at mG cB
 have hg:=xg g.w q b off d.toArray os
 have uS:o6 (.slice (some ⟨b,off,none⟩) n c)=some b:=jc (by omega)
 have bh:b<g.w.heap.size:=(Array.getElem?_eq_some_iff.1 hh).1
 let g':G:=⟨grow (Sort.putRow (Value.int .i64) (Sort.ahead g.w q) b off d.toArray) os,g.im,fun x h=>Nat.lt_of_lt_of_le (g.lt x h) hg.size⟩
 have dm:=hs.FV (g':=g') (e':=.row e 1 (.slice (some ⟨b,off,none⟩) n c) n (eB d)) hi (by rw[show(cV.row e 1 (.slice (some ⟨b,off,none⟩) n c) n (eB zs)).rV=some b from uS];exact hg) (fun _ _=>Iff.rfl)
  ⟨⟨by rw[lO,hd,Nat.mul_one],.inr ⟨b,off,c,putCells (Value.int .i64) off d.toArray cur,rfl,hB,⟨fz,by
    show(grow (Sort.putRow (Value.int .i64) (Sort.ahead g.w q) b off d.toArray) os).heap[b]? =_
    rw[ru g.w q b off d.toArray os b bh,if_pos rfl,hh];rfl,by rw[oq];exact hz⟩,nd,oJ,by rw[oq,Nat.mul_one];exact mG,by
    rw[Nat.mul_one]
    apply List.ext_getElem?
    intro j
    by_cases hj:j<n
    ·rw[List.getElem?_take_of_lt hj,List.getElem?_drop,Array.getElem?_toList,yN,Array.getElem?_eq_getElem (by omega),Option.map_some,if_pos ⟨by omega,by omega⟩,Nat.add_sub_cancel_left]
     unfold eB
     rw[List.getElem?_map,List.getElem?_eq_getElem (by omega),Option.map_some]
     congr 2
     rw[getElem!_pos d.toArray j (by simp;omega)]
     simp
    ·rw[List.getElem?_eq_none (by rw[List.length_take];omega),List.getElem?_eq_none (by rw[lO];omega)]⟩⟩,
   fun x hx h=>dZ.2 x hx h⟩ (fun x hx=> .inl hx)
 exact⟨g',rfl,dm.1,dm.2⟩
theorem Row.D8{B b off n c:Nat}{e:TypeId}{zs:List Int}(h:Row B e 1 (.slice (some ⟨b,off,none⟩) n c) n (eB zs) w)(hn:n≠0):Holds (Value.int .i64) w b off zs.toArray∧b<w.heap.size∧n=zs.length∧n≤c∧c≤maxLen:=by
 obtain⟨lG,hr⟩:=h
 rw[lO,Nat.mul_one]at lG
 rcases hr with⟨h0,_⟩|⟨b',Rw,cap,cur,e1,hB,⟨fz,hh,hz⟩,nd,oJ,mG,cB⟩
 ·exact absurd h0 hn
 simp only[Value.slice.injEq,Option.some.injEq,Addr.mk.injEq,true_and,and_true]at e1
 obtain⟨⟨rfl,rfl⟩,rfl⟩:=e1
 rw[Nat.mul_one]at mG cB
 refine⟨fun j hj=>?_,(Array.getElem?_eq_some_iff.1 hh).1,lG.symm,nd,oJ⟩
 have hj:j<zs.length:=by simpa using hj
 have hc:cur[off+j]? =some (.int .i64 zs.toArray[j]!):=by
  have:(eB zs)[j]? =some (.int .i64 zs.toArray[j]!):=by
   unfold eB
   rw[List.getElem?_map,List.getElem?_eq_getElem hj,Option.map_some,getElem!_pos zs.toArray j (by simpa using hj)]
   simp
  rw[←cB,List.getElem?_take_of_lt (by omega),List.getElem?_drop,Array.getElem?_toList]at this
  exact this
 refine⟨by simp[World.cell?,hh,hc],?_⟩
 rcases hz with rfl|hz
 ·simp[World.frozen?,hh]
 ·simp only[World.frozen?,hh,Bool.and_eq_false_iff,decide_eq_false_iff_not]
  left;omega
end Go.K
namespace Go.K
open Go Go.RowKit
variable {F:Fence} {P:Program} {N:Nat} {ds:List Deferred} {ops:Array Oper} {Q:Exit→Act→World→Prop} {φs:List Fact} {l0:Env} {gd:G}
def posOf:List Nat→Nat→Option Nat
 |[],_=>none
 |e::r,i=>bif Nat.beq e i then some 0 else(posOf r i).map (· +1)
theorem oX: ∀{es:List Nat} {i k:Nat},posOf es i=some k→es[k]? =some i
 |[],i,k,h=>by cases h
 |e::r,i,k,h=>by
  unfold posOf at h
  cases hb:Nat.beq e i with
  |true=>
   rw[hb]at h
   obtain rfl:=Option.some.inj h
   rw[Nat.eq_of_beq_eq_true hb];rfl
  |false=>
   rw[hb]at h
   cases hp:posOf r i with
   |none=>rw[hp]at h;cases h
   |some k'=>
    rw[hp]at h
    obtain rfl:=Option.some.inj h
    exact oX (es:=r) hp
theorem tW: ∀{es:List Nat} {i:Nat},posOf es i=none→ ∀k:Nat,es[k]? ≠some i
 |[],i,_,k=>by simp
 |e::r,i,h,k=>by
  unfold posOf at h
  cases hb:Nat.beq e i with
  |true=>rw[hb]at h;cases h
  |false=>
   rw[hb]at h
   cases hp:posOf r i with
   |some k'=>rw[hp]at h;cases h
   |none=>
    cases k with
    |zero=>
     intro he
     obtain rfl:e=i:=by simpa using he
     rw[Nat.beq_refl]at hb;cases hb
    |succ k=>exact tW hp k
def xh(ops:Array Oper)(es:List Nat)(m:Nat):Bool:=
 (List.range es.length).all fun k=>match es[k]? with
  |some e=>(posOf es e==some k)&&Nat.blt e m&&(Nat.beq k 0||(match es[k-1]?,ops[e]? with|some p,some o=>(lb o).contains p|_,_=>false))
  |none=>false
theorem Am{es:List Nat}{m:Nat}(h:xh ops es m=true): ∀k e,es[k]? =some e→posOf es e=some k∧e<m∧(k≠0→ ∃p o,es[k-1]? =some p∧ops[e]? =some o∧p∈lb o):=by
 intro k e hk
 have bh:=(List.getElem?_eq_some_iff.1 hk).1
 have:=(List.all_eq_true.1 h) k (List.mem_range.2 bh)
 rw[hk]at this
 simp only[Bool.and_eq_true,beq_iff_eq,Bool.or_eq_true]at this
 obtain⟨⟨h1,h2⟩,h3⟩:=this
 refine⟨h1,by simpa [Nat.blt_eq]using h2,fun fu=>?_⟩
 rcases h3 with h3|h3
 ·exact absurd (Nat.eq_of_beq_eq_true h3) fu
 ·cases hp:es[k-1]? with
  |none=>rw[hp]at h3;simp at h3
  |some p=>
   cases ho:ops[e]? with
   |none=>rw[hp,ho]at h3;simp at h3
   |some o=>
    rw[hp,ho]at h3
    exact⟨p,o,rfl,rfl,by simpa using h3⟩
def yO(es:List Nat)(J:Nat→G→Prop)(s i:Nat)(g g':G):Prop:=match posOf es i with
 |some _=>g.le g'∧J (s+1) g'
 |none=>aZ g g'
def Iz(F:Fence)(P:Program)(N:Nat)(ds:List Deferred)(ops:Array Oper)(Q:Exit→Act→World→Prop)(φs:List Fact)(l0:Env)(gd:G)(es:List Nat)(J:Nat→G→Prop)(i:Nat)(o:Oper):Prop:=
 ∀s g',gd.le g'→J s g'→(∀k,posOf es i=some k→s=k)→QA φs g' (eQ ops o) l0 fun env=>
  match mJ ops env o.guard with
  |some true=>cT F P N ds o env g'.w Q fun v w'=> ∃dP,dP.w=w'∧yO es J s i g' dP∧(gP φs i).p v dP
  |some false=>posOf es i=none∧(gP φs i).p undef g'
  |none=>False
def xi(F:Fence)(P:Program)(N:Nat)(ds:List Deferred)(ops:Array Oper)(Q:Exit→Act→World→Prop)(φs:List Fact)(l0:Env)(gd:G)(es:List Nat)(J:Nat→G→Prop):Nat→List Oper→Prop
 |_,[]=>True
 |i,o::os=>Iz F P N ds ops Q φs l0 gd es J i o∧xi F P N ds ops Q φs l0 gd es J (i+1) os
theorem xi.at{es:List Nat}{J:Nat→G→Prop}: ∀{l:List Oper} {i0:Nat},xi F P N ds ops Q φs l0 gd es J i0 l→ ∀(j:Nat) o,l[j]? =some o→Iz F P N ds ops Q φs l0 gd es J (i0+j) o
 |[],_,_,j,o,h=>by simp at h
 |x::l,i0,hs,0,o,h=>by
  simp only[List.getElem?_cons_zero,Option.some.injEq]at h
  subst h
  exact hs.1
 |x::l,i0,hs,j+1,o,h=>by
  simp only[List.getElem?_cons_succ]at h
  have:=xi.at (i0:=i0+1) hs.2 j o h
  rw[show i0+(j+1)=i0+1+j from by omega]
  exact this
variable {es:List Nat} {J:Nat→G→Prop} {os:List Oper} {o:Oper} {l:Env} {g:G}
def DJ(F:Fence)(P:Program)(N:Nat)(ds:List Deferred)(ops:Array Oper)(Q:Exit→Act→World→Prop)(φ:Fact)(g':G)(J':G→Prop)(o:Oper)(env:Env):Prop:=
 mJ ops env o.guard=some true∧cT F P N ds o env g'.w Q fun v w'=> ∃dP,dP.w=w'∧(g'.le dP∧J' dP)∧φ.p v dP
end Go.K
namespace Go.K
open Go Go.RowKit
variable {F:Fence} {P:Program} {N:Nat} {ds:List Deferred} {ops:Array Oper} {Q:Exit→Act→World→Prop} {φs:List Fact} {l0:Env} {gd:G}
variable (N ops l0) in
def nU(m:Nat):Bool:=
 (List.range ops.size).all (fun i=>match ops[i]? with|some o=>(lb o).all (fun j=>Nat.blt j i)|none=>true)&&
 (List.range ops.size).all (fun j=>Nat.blt j m||(List.range j).all (fun k=>(List.range (j+1)).any (fun i=>Nat.blt k i&&(match ops[i]? with|some o=>(lb o).contains k|none=>false))))&&
 (List.range m).all (fun i=>match dH ops i with
  |some d=>Nat.blt d N&&(lk l0 d).isNone&&(List.range m).all (fun j=>j==i||(match dH ops j with|some e=>e !=d|none=>true))
  |none=>true)&&Nat.ble m ops.size
def ue(F:Fence)(P:Program)(N:Nat)(ds:List Deferred)(ops:Array Oper)(Q:Exit→Act→World→Prop)(φs:List Fact)(l0:Env)(gd:G)(es:List Nat)(dJ:List (List Nat))(J:Nat→G→Prop)(i:Nat)(o:Oper):Prop:=
 ∀s g',gd.le g'→J s g'→s≤es.length→(∀k,posOf es i=some k→s=k)→(∀k A,dJ[k]? =some A→i∈A→s≤k)→(∀k e,es[k]? =some e→e∈lb o→k<s)→QA φs g' (eQ ops o) l0 fun env=>
  match mJ ops env o.guard with
  |some true=>cT F P N ds o env g'.w Q fun v w'=> ∃dP,dP.w=w'∧yO es J s i g' dP∧(gP φs i).p v dP
  |some false=>posOf es i=none∧(gP φs i).p undef g'
  |none=>False
def jA(F:Fence)(P:Program)(N:Nat)(ds:List Deferred)(ops:Array Oper)(Q:Exit→Act→World→Prop)(φs:List Fact)(l0:Env)(gd:G)(es:List Nat)(dJ:List (List Nat))(J:Nat→G→Prop):Nat→List Oper→Prop
 |_,[]=>True
 |i,o::os=>ue F P N ds ops Q φs l0 gd es dJ J i o∧jA F P N ds ops Q φs l0 gd es dJ J (i+1) os
theorem jA.at{es:List Nat}{dJ:List (List Nat)}{J:Nat→G→Prop}: ∀{l:List Oper} {i0:Nat},jA F P N ds ops Q φs l0 gd es dJ J i0 l→ ∀(j:Nat) o,l[j]? =some o→ue F P N ds ops Q φs l0 gd es dJ J (i0+j) o
 |[],_,_,j,o,h=>by simp at h
 |x::l,i0,hs,0,o,h=>by
  simp only[List.getElem?_cons_zero,Option.some.injEq]at h
  subst h
  exact hs.1
 |x::l,i0,hs,j+1,o,h=>by
  simp only[List.getElem?_cons_succ]at h
  have:=jA.at (i0:=i0+1) hs.2 j o h
  rw[show i0+(j+1)=i0+1+j from by omega]
  exact this
theorem Ha{id:Nat}{g:G}(hF: ∀f,F.fn f)(hm:P.follows .mixedOrders=true)(φs:List Fact)(m:Nat)(outs:List (Nat×Nat))(es:List Nat)(dJ:List (List Nat))(J:Nat→G→Prop)(hJ: ∀s g g',aZ g g'→J s g→J s g')(zC:J 0 g.dr)(lH:nU N ops l0 m=true)(Rz:xh ops es m=true)(E1:((es.zip dJ).all fun p=>tM ops p.2 p.1)=true)(hsoft:jt [] 0 φs)
  (houts:outs.all (fun p=>Nat.blt p.1 m&&(dH ops p.1==some p.2))=true)
  (iJ:jA F P N ds ops Q φs l0 g.dr es dJ J 0 (ops.toList.take m))
  (jT: ∀g',g.dr.le g'→J es.length g'→QA φs g' outs l0 fun env=>WL F P N ds ops Q (ops.toList.drop m) env g'.w):W F P N ds (.region id ops true) Q l0 g.w:=by
 intro a ha
 simp only[nU,Bool.and_eq_true,List.all_eq_true,List.mem_range]at lH
 obtain⟨⟨⟨c1,c2⟩,c3⟩,c4⟩:=lH
 have c4:m≤ops.size:=Nat.le_of_ble_eq_true c4
 have k1: ∀i o,ops[i]? =some o→ ∀j∈lb o,j<i:=by
  intro i o ho j hj
  have:=c1 i (Array.getElem?_eq_some_iff.1 ho).1
  rw[ho]at this
  have:=(List.all_eq_true.1 this) j hj
  simpa [Nat.blt_eq]using this
 have k2: ∀j o,m≤j→ops[j]? =some o→ ∀k,k<j→ ∃i' o',k<i'∧i'≤j∧ops[i']? =some o'∧k∈lb o':=by
  intro j o hj ho k hk
  have:=c2 j (Array.getElem?_eq_some_iff.1 ho).1
  simp only[Bool.or_eq_true]at this
  rcases this with h|h
  ·have:j<m:=by simpa [Nat.blt_eq]using h
   omega
  ·have:=(List.all_eq_true.1 h) k (List.mem_range.2 hk)
   obtain⟨i',h1,h2⟩:=List.any_eq_true.1 this
   simp only[Bool.and_eq_true]at h2
   have h3:=List.mem_range.1 h1
   cases qp:ops[i']? with
   |none=>rw[qp]at h2;simp at h2
   |some o'=>
    rw[qp]at h2
    exact⟨i',o',by simpa [Nat.blt_eq]using h2.1,by omega,qp,by simpa using h2.2⟩
 have k4: ∀(listed:Array Bool),(∀k o,listed.getD k false=true→ops[k]? =some o→ ∀e∈lb o,listed.getD e false=true)→ ∀j o,m≤j→ops[j]? =some o→(∀e∈lb o,listed.getD e false=true)→ ∀k,k<j→listed.getD k false=true:=by
  intro listed fY j o hj ho dh
  have: ∀d k,k<j→j-k=d→listed.getD k false=true:=by
   intro d
   induction d using Nat.strongRecOn with
   |_ d Cu=>
    intro k hk hd
    obtain⟨i',o',h1,h2,h3,h4⟩:=k2 j o hj ho k hk
    rcases Nat.lt_or_ge i' j with h|h
    ·exact fY i' o' (Cu (j-i') (by omega) i' h rfl) h3 k h4
    ·obtain rfl:i'=j:=by omega
     rw[ho]at h3
     obtain rfl:=Option.some.inj h3
     exact dh k h4
  exact fun k hk=>this _ k hk rfl
 have k3: ∀i,i<m→ ∀d,dH ops i=some d→d<N∧lk l0 d=none∧ ∀j,j<m→j≠i→ ∀e,dH ops j=some e→e≠d:=by
  intro i hi d hd
  have:=c3 i hi
  simp only[hd,Bool.and_eq_true,List.all_eq_true,List.mem_range,Bool.or_eq_true]at this
  refine⟨by simpa [Nat.blt_eq]using this.1.1,by simpa using this.1.2,fun j hj fu e he=>?_⟩
  rcases this.2 j hj with h|h
  ·exact absurd (by simpa using h) fu
  ·simpa [he]using h
 have Ct: ∀(listed:Array Bool),(∀k o,listed.getD k false=true→ops[k]? =some o→ ∀e∈lb o,listed.getD e false=true)→ ∀(k:Nat) e A,es[k]? =some e→dJ[k]? =some A→listed.getD e false=true→ ∀i∈A,listed.getD i false=true:=by
  intro listed fY k e A he hA KB
  have hz:(e,A)∈es.zip dJ:=by
   rw[List.mem_iff_getElem?]
   exact⟨k,by rw[List.getElem?_zip_eq_some];exact⟨he,hA⟩⟩
  have h1:=(List.all_eq_true.1 E1) _ hz
  simp only[tM,List.all_eq_true,Bool.and_eq_true]at h1
  have: ∀d i,i∈A→e-i=d→listed.getD i false=true:=by
   intro d
   induction d using Nat.strongRecOn with
   |_ d Cu=>
    intro i hi hd
    obtain⟨h2,h3⟩:=h1 i hi
    have w5:i<e:=by simpa [Nat.blt_eq]using h2
    obtain⟨j,hj,Hb⟩:=List.any_eq_true.1 h3
    cases ho:ops[j]? with
    |none=>rw[ho]at Hb;simp at Hb
    |some o=>
     rw[ho]at Hb
     have zK:i∈lb o:=by simpa using Hb
     have bh:=k1 j o ho i zK
     rcases List.mem_cons.1 hj with rfl|hj
     ·exact fY _ o KB ho i zK
     ·have JN:j<e:=by simpa [Nat.blt_eq]using(h1 j hj).1
      exact fY j o (Cu (e-j) (by omega) j hj rfl) ho i zK
  exact fun i hi=>this _ i hi rfl
 have ch:=Am Rz
 let KL:Array Bool→G→Prop:=fun listed g'=>g.dr.le g'∧ ∃s,s≤es.length∧(∀k e,es[k]? =some e→(listed.getD e false=true↔k<s))∧J s g'
 have zH: ∀listed g',KL listed g'→(∀j,j<m→listed.getD j false=true)→g.dr.le g'∧J es.length g':=by
  rintro listed g' ⟨h1,s,h2,h3,h4⟩ dh
  refine⟨h1,?_⟩
  have:s=es.length:=by
   apply Classical.byContradiction
   intro fu
   have bh:s<es.length:=by omega
   have he:=List.getElem?_eq_getElem bh
   have:=(h3 s _ he).1 (dh _ (ch s _ he).2.1)
   omega
  rw[←this];exact h4
 refine wpIn_region_any hm ?_
 have key: ∀(fuel:Nat) (listed:Array Bool) (a:Act) (g':G),listed.size=ops.size→KL listed g'→Fr N ds l0 a→
   (∀i,i<m→listed.getD i false=true→ ∀d,dH ops i=some d→ ∃v,a.tmps[d]? =some v∧(gP φs i).p v g')→(∀j,m≤j→j<ops.size→listed.getD j false=false)→(∀k o,listed.getD k false=true→ops[k]? =some o→ ∀e∈lb o,listed.getD e false=true)→
   (ops.size-((List.range ops.size).filter fun i=>listed.getD i false).length≤fuel)→wpAnyIn F 0 P .any ops Q fuel listed a g'.w:=by
  intro fuel
  induction fuel with
  |zero=>
   intro listed a g' cS hf ha eV gN fY tO
   have dh: ∀j,j<ops.size→listed.getD j false=true:=by
    have hlen:((List.range ops.size).filter fun i=>listed.getD i false).length=(List.range ops.size).length:=by
     have:=List.length_filter_le (fun i=>listed.getD i false) (List.range ops.size)
     simp only[List.length_range]at this⊢
     omega
    have:=List.length_filter_eq_length_iff.1 hlen
    intro j hj
    exact this j (List.mem_range.2 hj)
   have DH:m=ops.size:=by
    rcases Nat.lt_or_ge m ops.size with h|h
    ·have:=gN m (Nat.le_refl _) h;rw[dh m h]at this;cases this
    ·omega
   have su:=zH listed g' hf (fun j hj=>dh j (by omega))
   obtain⟨env,hW,hZ⟩:=lA outs (jT g' su.1 su.2) ha (fun p hp=>by
    have:=(List.all_eq_true.1 houts) p hp
    simp only[Bool.and_eq_true,beq_iff_eq]at this
    have bh:p.1<m:=by simpa [Nat.blt_eq]using this.1
    exact eV p.1 bh (dh _ (by omega)) _ this.2)
   refine jM k1 0 ops.size listed a g'.w cS (Nat.le_refl _) (fun j o hj ho=>?_) (fun j hj=>⟨fun _=>hj,fun _=>dh j hj⟩) (by omega) (by rw[←DH];exact hW a hZ)
   have:=(Array.getElem?_eq_some_iff.1 ho).1
   omega
  |succ fuel ih=>
   intro listed a g' cS hf ha eV gN fY tO
   by_cases gD: ∀j,j<m→listed.getD j false=true
   ·have su:=zH listed g' hf gD
    obtain⟨env,hW,hZ⟩:=lA outs (jT g' su.1 su.2) ha (fun p hp=>by
     have:=(List.all_eq_true.1 houts) p hp
     simp only[Bool.and_eq_true,beq_iff_eq]at this
     have bh:p.1<m:=by simpa [Nat.blt_eq]using this.1
     exact eV p.1 bh (gD _ bh) _ this.2)
    refine jM k1 (fuel+1) m listed a g'.w cS c4 (fun j o hj ho=>k2 j o hj ho) (fun j hj=>⟨fun h=>?_,fun h=>gD j h⟩) ?_ (hW a hZ)
    ·rcases Nat.lt_or_ge j m with h'|h'
     ·exact h'
     ·rw[gN j h' hj]at h;cases h
    ·have hle:((List.range ops.size).filter fun i=>listed.getD i false).length≤m:=by
      have oR:((List.range ops.size).filter fun i=>listed.getD i false).length≤((List.range ops.size).filter fun i=>decide (i<m)).length:=by
       refine List.Sublist.length_le ?_
       rw[show((List.range ops.size).filter fun i=>listed.getD i false)=((List.range ops.size).filter fun i=>decide (i<m)).filter (fun i=>listed.getD i false)from ?_]
       ·exact List.filter_sublist
       ·rw[List.filter_filter]
        refine List.filter_congr fun i hi=>?_
        have hi:=List.mem_range.1 hi
        by_cases h:i<m
        ·simp[h]
        ·rw[gN i (by omega) hi];simp
      have:((List.range ops.size).filter fun i=>decide (i<m)).length=m:=by
       have e:ops.size=m+(ops.size-m):=by omega
       rw[e,List.range_add,List.filter_append,List.length_append,List.filter_eq_self.2 (by intro x hx;simpa using hx),List.filter_eq_nil_iff.2 (by
        intro x hx
        obtain⟨y,_,rfl⟩:=List.mem_map.1 hx
        simp)]
       simp
      omega
     omega
   ·--qZ of zp first part is not listed:zp least JO is ready
    have hex: ∃j,j<m∧listed.getD j false=false∧ ∀k,k<j→listed.getD k false=true:=by
     have: ∃j,j<m∧listed.getD j false=false:=by
      apply Classical.byContradiction
      intro dy
      apply gD
      intro j hj
      cases hc:listed.getD j false with
      |true=>rfl
      |false=>exact absurd ⟨j,hj,hc⟩ dy
     obtain⟨j,hj⟩:=this
     induction j using Nat.strongRecOn with
     |_ j JP=>
      by_cases hk: ∃k,k<j∧listed.getD k false=false
      ·obtain⟨k,rS,CX⟩:=hk
       exact JP k rS ⟨by omega,CX⟩
      ·refine⟨j,hj.1,hj.2,fun k rS=>?_⟩
       cases hc:listed.getD k false with
       |true=>rfl
       |false=>exact absurd ⟨k,rS,hc⟩ hk
    obtain⟨j0,Re,Bo,tN⟩:=hex
    have je:j0∈Region.ready .any ops listed:=by
     rw[ft]
     have bh:j0<ops.size:=by omega
     refine⟨by rw[getD_lt (cS▸bh) true false];exact Bo,_,Array.getElem?_eq_getElem bh,fun k hk=>tN k (k1 j0 _ (Array.getElem?_eq_getElem bh) k hk)⟩
    refine⟨fun h0=>(by rw[h0]at je;cases je),fun i hi=>?_⟩
    obtain⟨h0,o,ho,dh⟩:=ft.1 hi
    have n_:i<ops.size:=(Array.getElem?_eq_some_iff.1 ho).1
    rw[getD_lt (cS▸n_) true false]at h0
    have oS:i<m:=by
     rcases Nat.lt_or_ge i m with h|h
     ·exact h
     ·have:=k4 listed fY i o h ho dh j0 (by omega);rw[Bo]at this;cases this
    have E2:dH ops i=o.dst:=by unfold dH;rw[ho];rfl
    have k_:=iJ.at (i0:=0) i o (by rw[List.getElem?_take_of_lt oS];simpa using ho)
    rw[Nat.zero_add]at k_
    have oT: ∀p∈eQ ops o,∃v,a.tmps[p.2]? =some v∧(gP φs p.1).p v g':=by
     intro p hp
     unfold eQ at hp
     obtain⟨j,hj,w6⟩:=List.mem_filterMap.1 hp
     cases zq:dH ops j with
     |none=>simp[zq]at w6
     |some e=>
      simp only[zq]at w6
      have JR:j<m:=by have:=k1 i o ho j hj;omega
      obtain⟨v,hv,lB⟩:=eV j JR (dh j hj) e zq
      have EO: ∀(c:Bool) (q:Nat×Nat),(bif c then some q else none)=some p→q=p:=by
       intro c q h
       cases c with
       |true=>exact Option.some.inj h
       |false=>cases h
      obtain rfl:=EO _ _ w6
      exact⟨v,hv,lB⟩
    obtain⟨KG,s,mK,aU,Bh⟩:=hf
    have nk: ∀k,posOf es i=some k→s=k:=by
     intro k hk
     have Ol:=oX hk
     have h1: ¬k<s:=fun h=>by have:=(aU k i Ol).2 h;rw[this]at h0;cases h0
     rcases Nat.eq_zero_or_pos k with h|h
     ·omega
     ·obtain⟨p,o',wk,KK,Vg⟩:=(ch k i Ol).2.2 (by omega)
      rw[ho]at KK
      obtain rfl:=Option.some.inj KK
      have:=(aU (k-1) p wk).1 (dh p Vg)
      omega
    obtain⟨env,hk,hZ⟩:=lA (eQ ops o) (k_ s g' KG Bh mK nk (fun k A hA RA=>by
     rcases Nat.lt_or_ge k s with h|h
     ·have bh:k<es.length:=by omega
      have he:=List.getElem?_eq_getElem bh
      have:=Ct listed fY k _ A he hA ((aU k _ he).2 h) i RA
      rw[this]at h0;cases h0
     ·exact h) (fun k e he RB=>(aU k e he).1 (dh e RB))) ha oT
    have jK: ∀(a':Act) (dP:G) (v:Value),a'=a.put o.dst v→yO es J s i g' dP→(gP φs i).p v dP→wpAnyIn F 0 P .any ops Q fuel (listed.setIfInBounds i true) a' dP.w:=by
     intro a' dP v he eO lB
     have oU: ∀t,o.dst≠some t→a'.tmps[t]? =a.tmps[t]?:=fun t ht=>by
      rw[he]
      cases tP:o.dst with
      |none=>rfl
      |some d=>
       simp only[Act.put]
       rw[Array.getElem?_setIfInBounds_ne (fun e=>ht (by rw[tP,e]))]
     have rq: ∀d,o.dst=some d→a'.tmps[d]? =some v:=fun d tP=>by
      rw[he,tP]
      simp only[Act.put]
      rw[Array.getElem?_setIfInBounds_self,if_pos (by rw[ha.size];exact(k3 i oS d (E2.trans tP)).1)]
     have iU: ∀k,k≠i→(listed.setIfInBounds i true).getD k false=listed.getD k false:=fun k hk=>by
      simp only[Array.getD_eq_getD_getElem?]
      rw[Array.getElem?_setIfInBounds_ne (fun e=>hk e.symm)]
     have d_:(listed.setIfInBounds i true).getD i false=true:=by simp[cS,n_]
     have E3:g'.le dP:=by
      unfold yO at eO
      split at eO
      ·exact eO.1
      ·exact eO.le
     have hinv:KL (listed.setIfInBounds i true) dP:=by
      refine⟨KG.trans E3,?_⟩
      unfold yO at eO
      cases HV:posOf es i with
      |none=>
       rw[HV]at eO
       refine⟨s,mK,fun k e G4=>?_,hJ s _ _ eO Bh⟩
       have fu:e≠i:=fun h=>tW HV k (by rw[←h];exact G4)
       rw[iU e fu];exact aU k e G4
      |some k0=>
       rw[HV]at eO
       have WT:=nk k0 HV
       have Ol:=oX HV
       have bh:=(List.getElem?_eq_some_iff.1 Ol).1
       refine⟨s+1,by omega,fun k e G4=>?_,eO.2⟩
       by_cases E4:e=i
       ·subst E4
        have h1:=(ch k e G4).1
        rw[HV]at h1
        obtain rfl:=Option.some.inj h1
        exact⟨fun _=>by omega,fun _=>d_⟩
       ·rw[iU e E4,aU k e G4]
        have WU:k≠k0:=fun h=>by subst h;rw[Ol]at G4;exact E4 (Option.some.inj G4).symm
        omega
     refine ih _ a' dP (by simpa using cS) hinv ⟨by rw[he];cases o.dst<;>exact ha.defers,by rw[he];cases o.dst<;>simp[Act.put,ha.size],fun t u hu=>?_⟩ (fun k hk j9 d' w7=>?_) (fun j hj G3=>?_) (fun k o' hk Ae e he=>?_) ?_
     ·rw[oU t (fun e=>by have:=(k3 i oS t (E2.trans e)).2.1;rw[this]at hu;cases hu)];exact ha.get t u hu
     ·by_cases kK:k=i
      ·subst kK
       exact⟨v,rq d' (E2.symm.trans w7),lB⟩
      ·rw[iU k kK]at j9
       obtain⟨v',ER,Af⟩:=eV k hk j9 d' w7
       refine⟨v',?_,(jt.at hsoft k).elim (fun h=>by simp at h) fun h=>h _ _ _ E3 Af⟩
       rw[oU d' (fun e=>(k3 k hk d' w7).2.2 i oS (fun h=>kK h.symm) d' (E2.trans e) rfl)]
       exact ER
     ·rw[iU j (by omega)]
      exact gN j hj G3
     ·have hle: ∀x,listed.getD x false=true→(listed.setIfInBounds i true).getD x false=true:=fun x hx=>by
       by_cases zJ:x=i
       ·subst zJ;exact d_
       ·rw[iU x zJ];exact hx
      by_cases kK:k=i
      ·subst kK
       rw[ho]at Ae
       obtain rfl:=Option.some.inj Ae
       exact hle e (dh e he)
      ·rw[iU k kK]at hk
       exact hle e (fY k o' hk Ae e he)
     ·have bh:((List.range ops.size).filter fun k=>listed.getD k false).length<((List.range ops.size).filter fun k=>(listed.setIfInBounds i true).getD k false).length:=by
       have oR:List.Sublist ((List.range ops.size).filter fun k=>listed.getD k false) ((List.range ops.size).filter fun k=>(listed.setIfInBounds i true).getD k false):=by
        have e:((List.range ops.size).filter fun k=>listed.getD k false)=((List.range ops.size).filter fun k=>(listed.setIfInBounds i true).getD k false).filter (fun k=>listed.getD k false):=by
         rw[List.filter_filter]
         refine List.filter_congr fun k _=>?_
         by_cases kK:k=i
         ·subst kK;rw[d_];simp
         ·rw[iU k kK];simp
        rw[e]
        exact List.filter_sublist
       refine Nat.lt_of_le_of_ne oR.length_le fun e=>?_
       have:=oR.eq_of_length e
       have Cw:i∈((List.range ops.size).filter fun k=>(listed.setIfInBounds i true).getD k false):=List.mem_filter.2 ⟨List.mem_range.2 n_,d_⟩
       rw[←this]at Cw
       have:=(List.mem_filter.1 Cw).2
       rw[h0]at this
       cases this
      omega
    unfold wpOpIn
    rw[ho]
    simp only
    cases hg:mJ ops env o.guard with
    |none=>rw[hg]at hk;exact hk.elim
    |some b=>
     have nq:Region.wanted o (yielded ops a.tmps)=b:=jN (l:=env) (o:=o) hg hZ
     rw[hg]at hk
     cases b with
     |true=>
      rw[if_pos nq]
      exact Oper.wpIn_mono (fun a' w' ⟨v,he,dP,hw,eO,lB⟩=>hw▸jK a' dP v he eO lB) (hk a hZ)
     |false=>
      rw[if_neg (by rw[nq];simp)]
      exact⟨fun f _=>hF f,jK _ g' undef rfl (by unfold yO;rw[hk.1];exact aZ.refl _) hk.2⟩
 refine key ops.size _ a g.dr (by simp) ⟨G.le.refl _,0,Nat.zero_le _,fun k e _=>⟨fun h=>by
  simp only[Array.getD_eq_getD_getElem?,Array.getElem?_replicate]at h
  split at h<;>simp at h,fun h=>by omega⟩,zC⟩ ha (fun i hi hl=>?_) (fun j _ hj=>by simp[hj]) (fun k o hl=>?_) (by omega)
 ·simp only[Array.getD_eq_getD_getElem?,Array.getElem?_replicate]at hl
  split at hl<;>simp at hl
 ·simp only[Array.getD_eq_getD_getElem?,Array.getElem?_replicate]at hl
  split at hl<;>simp at hl
end Go.K
namespace Go.K
open Go Go.RowKit
variable {F:Fence} {P:Program} {N:Nat} {ds:List Deferred} {ops:Array Oper} {Q:Exit→Act→World→Prop} {l0 l:Env} {os jQ:List Oper} {o:Oper}
variable {g0 g gd g':G} {L:List cV} {φs:List Fact} {ks:List FK} {es:List Nat} {dJ:List (List Nat)} {J:Nat→G→Prop}
def ot:List FK→Prop
 |[]=>True
 | .e _::r=>ot r
 | .f φ::r=>uK φ∧ot r
theorem ot.soft: ∀{ks:List FK} {i:Nat},ot ks→jt [] i (ks.map FK.fact)
 |[],_,_=>trivial
 | .e _::_,_,h=>⟨.inr (sy _),ot.soft h⟩
 | .f _::_,_,h=>⟨.inr h.1,ot.soft h.2⟩
def xj(es:List Nat):Nat→Nat→Bool
 |_,0=>true
 |i,n+1=>(posOf es i).isNone&&xj es (i+1) n
def Om(es:List Nat)(dJ:List (List Nat))(o:Oper)(i lo hi:Nat):Bool:=
 (posOf es i).isNone&&(Nat.beq lo 0||(match es[lo-1]? with|some e=>(lb o).contains e|none=>false))&&(Nat.ble es.length hi||(match dJ[hi]? with|some A=>A.contains i|none=>false))
theorem dk{i:Nat}(h:ue F P N ds ops Q φs l0 gd es dJ J i o)(h2:jA F P N ds ops Q φs l0 gd es dJ J (i+1) os):jA F P N ds ops Q φs l0 gd es dJ J i (o::os):=⟨h,h2⟩
theorem xT{i:Nat}:jA F P N ds ops Q φs l0 gd es dJ J i []:=trivial
theorem my{i:Nat}{js:List (Nat×Nat)}(hj:eQ ops o=js)(hp:posOf es i=none)
  (h: ∀s g',s≤es.length→(∀k A,dJ[k]? =some A→i∈A→s≤k)→(∀k e,es[k]? =some e→e∈lb o→k<s)→gd.le g'→J s g'→QA φs g' js l0 (DK F P N ds ops Q (gP φs i) g' o)):ue F P N ds ops Q φs l0 gd es dJ J i o:=by
 subst hj
 intro s g' hf hs h1 _ h2 h3
 refine nS _ _ _ _ (fun env hd=>?_) (h s g' h1 h2 h3 hf hs)
 unfold DK at hd
 unfold yO
 rw[hp]
 cases hg:mJ ops env o.guard with
 |none=>rw[hg]at hd;exact hd
 |some b=>
  rw[hg]at hd
  cases b with
  |true=>exact hd
  |false=>exact⟨rfl,hd⟩
theorem kM(lo hi:Nat){i:Nat}{js:List (Nat×Nat)}(hj:eQ ops o=js)(hb:Om es dJ o i lo hi=true)
  (h: ∀s g',lo≤s→s≤hi→gd.le g'→J s g'→QA φs g' js l0 (DK F P N ds ops Q (gP φs i) g' o)):ue F P N ds ops Q φs l0 gd es dJ J i o:=by
 simp only[Om,Bool.and_eq_true,Bool.or_eq_true]at hb
 obtain⟨⟨hp,hl⟩,hh⟩:=hb
 refine my hj (by simpa using hp) fun s g' h1 h2 h3 hf hs=>h s g' ?_ ?_ hf hs
 ·rcases hl with hl|hl
  ·have:=Nat.eq_of_beq_eq_true hl;omega
  ·cases he:es[lo-1]? with
   |none=>rw[he]at hl;simp at hl
   |some e=>
    rw[he]at hl
    have:=h3 _ e he (by simpa using hl)
    omega
 ·rcases hh with hh|hh
  ·have:=Nat.le_of_ble_eq_true hh;omega
  ·cases hA:dJ[hi]? with
   |none=>rw[hA]at hh;simp at hh
   |some A=>
    rw[hA]at hh
    exact h2 _ A hA (by simpa using hh)
theorem vk{i:Nat}(k:Nat){js:List (Nat×Nat)}(hj:eQ ops o=js)(hp:posOf es i=some k)(h: ∀g',gd.le g'→J k g'→QA φs g' js l0 (DJ F P N ds ops Q (gP φs i) g' (J (k+1)) o)):ue F P N ds ops Q φs l0 gd es dJ J i o:=by
 subst hj
 intro s g' hf hs _ hk _ _
 obtain rfl:=hk k hp
 refine nS _ _ _ _ (fun env hd=>?_) (h g' hf hs)
 obtain⟨hg,hd⟩:=hd
 rw[hg]
 unfold yO
 rw[hp]
 exact hd
theorem qL{φ:Fact}{J':G→Prop}(hg:mJ ops l o.guard=some true)(h:cT F P N ds o l g.w Q fun v w'=> ∃dP,dP.w=w'∧(g.le dP∧J' dP)∧φ.p v dP):DJ F P N ds ops Q φ g J' o l:=⟨hg,h⟩
theorem p_{tb:Tb}(dn:tb.ok P)(hA:jg F): ∀(kG:List (List Nat)) (hs:List (q_ P g)) (i:Nat) (os:List Oper) (kv:List (Nat×Value)) (us ts:List (Value×Value)) (jQ:List Oper) (i':Nat),
  dG tb ops ks l0 [] kG hs i os kv us=some (ts,jQ,i')→gW ops os kG=true→xj es i kG.length=true→
  (∀p∈us,p∈ts)∧((∀p∈ts,p.1=p.2)→(∀j v,lk kv j=some v→gP (ks.map FK.fact) j=Fact.eq v)→jA F P N ds ops Q (ks.map FK.fact) l0 g.dr es dJ J i' jQ→jA F P N ds ops Q (ks.map FK.fact) l0 g.dr es dJ J i os)
 |[],hs,i,os,kv,us,ts,jQ,i',h,_,_=>by
  simp only[dG,Option.some.injEq,Prod.mk.injEq]at h
  obtain⟨rfl,rfl,rfl⟩:=h
  exact⟨fun _ h=>h,fun _ _ k=>k⟩
 |_::_,hs,i,[],kv,us,ts,jQ,i',h,_,_=>by simp[dG]at h
 |js::kG,hs,i,o::os,kv,us,ts,jQ,i',h,hn,Cv=>by
  simp only[gW,Bool.and_eq_true,beq_iff_eq]at hn
  obtain⟨C1,C3⟩:=hn
  simp only[List.length_cons,xj,Bool.and_eq_true]at Cv
  obtain⟨xf,Ao⟩:=Cv
  simp only[dG]at h
  split at h
  ·cases h
  ·rename_i env hZ
   split at h
   ·rename_i x hx
    have su:=sA i hx
    have ud: ∀{v:Value},x=v→(∀j v,lk kv j=some v→gP (ks.map FK.fact) j=Fact.eq v)→ ∀j u,lk ((i,v)::kv) j=some u→gP (ks.map FK.fact) j=Fact.eq u:=by
     rintro v rfl hk j u hu
     by_cases e:i=j
     ·subst e;rw[cK]at hu;obtain rfl:=Option.some.inj hu;exact su
     ·rw[bZ _ _ e]at hu;exact hk j u hu
    have one: ∀{v:Value},x=v→(∀j v,lk kv j=some v→gP (ks.map FK.fact) j=Fact.eq v)→(∀g',g.le g'→DK F P N ds ops Q (Fact.eq v) g' o env)→ue F P N ds ops Q (ks.map FK.fact) l0 g.dr es dJ J i o:=by
     rintro v rfl hk hd
     refine my rfl (by simpa using xf) fun s g' _ _ _ hf _=>?_
     rw[C1]
     refine pZ hk _ _ _ hZ ?_
     rw[su]
     exact hd g' ((G.bJ _).trans hf)
    split at h
    ·cases h
    ·rename_i hg
     obtain⟨m2,k⟩:=p_ dn hA _ _ _ _ _ _ _ _ _ h C3 Ao
     refine⟨fun p hp=>m2 p (List.mem_cons_of_mem _ hp),fun e2 hk hr=>?_⟩
     have he:x=undef:=e2 _ (m2 _ (List.mem_cons_self ..))
     exact⟨one he hk fun g' hf=>qX hg rfl,k e2 (ud he hk) hr⟩
    ·rename_i hg
     cases hh:Pc o.op with
     |true=>
      simp only[hh,cond_true]at h
      split at h
      ·cases h
      ·rename_i s hr
       split at h
       ·rename_i p q v hl
        obtain⟨m2,k⟩:=p_ dn hA _ _ _ _ _ _ _ _ _ h C3 Ao
        refine⟨fun p hp=>m2 p (List.mem_cons_of_mem _ (List.mem_cons_of_mem _ hp)),fun e2 hk hr=>?_⟩
        have he:x=v:=e2 _ (m2 _ (List.mem_cons_of_mem _ (List.mem_cons_self ..)))
        obtain rfl:p=q:=e2 _ (m2 _ (List.mem_cons_self ..))
        refine⟨one he hk fun g' hf=>az hg ?_,k e2 (ud he hk) hr⟩
        exact ub dn hA (St.start g') ((oY s hf).trans hl) fun g2 wF=>⟨g2,rfl,wF,rfl⟩
       ·cases h
     |false=>
      simp only[hh,cond_false]at h
      split at h
      ·rename_i v hv
       obtain⟨m2,k⟩:=p_ dn hA _ _ _ _ _ _ _ _ _ h C3 Ao
       refine⟨fun p hp=>m2 p (List.mem_cons_of_mem _ hp),fun e2 hk hr=>?_⟩
       have he:x=v:=e2 _ (m2 _ (List.mem_cons_self ..))
       exact⟨one he hk fun g' hf=>az hg (nw dn hv ⟨g',rfl,aZ.refl g',rfl⟩),k e2 (ud he hk) hr⟩
      ·cases h
   ·cases h
theorem Lm[dN P][hA:jg F]{i i':Nat}{A:List Value}(kG:List (List Nat))(ss:List (q_ P g))(hn:(gW ops os kG&&xj es i kG.length)=true)(h:mr (dN.tb P) ops ks l0 [] kG ss i os=some (A,A,jQ,i'))
  (k:jA F P N ds ops Q (ks.map FK.fact) l0 g.dr es dJ J i' jQ):jA F P N ds ops Q (ks.map FK.fact) l0 g.dr es dJ J i os:=by
 rw[Bool.and_eq_true]at hn
 unfold mr at h
 split at h
 ·rename_i ts S7 i2 h2
  simp only[Option.some.injEq,Prod.mk.injEq]at h
  obtain⟨rfl,e2,rfl,rfl⟩:=h
  exact(p_ dN.ok hA kG ss i os [] [] _ _ _ h2 hn.1 hn.2).2 (mq e2.symm) (fun j v hv=>by simp[lk]at hv) k
 ·cases h
theorem pw[dN P][jg F]{id:Nat}(ks:List FK)(m:Nat)(outs:List (Nat×Nat))(es:List Nat)(dJ:List (List Nat))(Ls:Nat→List cV)(hs:St g0 g (Ls 0))
  (lH:(nU N ops l0 m&&xh ops es m&&((es.zip dJ).all fun p=>tM ops p.2 p.1)&&outs.all (fun p=>Nat.blt p.1 m&&(dH ops p.1==some p.2)))=true) (hsoft:ot ks)
  (iJ:jA F P N ds ops Q (ks.map FK.fact) l0 g.dr es dJ (fun s g'=>St g0 g' (Ls s)) 0 (ops.toList.take m))
  (jT: ∀g',St g0 g' (Ls es.length)→g.le g'→QA (ks.map FK.fact) g' outs l0 fun env=>WL F P N ds ops Q (ops.toList.drop m) env g'.w):W F P N ds (.region id ops true) Q l0 g.w:=by
 simp only[Bool.and_eq_true]at lH
 obtain⟨⟨⟨h1,h2⟩,h3⟩,h4⟩:=lH
 exact Ha jg.all dN.mixed (ks.map FK.fact) m outs es dJ _ (fun s g1 g2 hf hs=>hs.call hf) hs.dr h1 h2 h3 (ot.soft hsoft) h4 iJ fun g' hf iS=>jT g' iS ((G.bJ _).trans hf)
end Go.K
namespace Go.Proofs.YtebobfdheanknaaGreatDoor
open Go Go.K
set_option maxRecDepth 10000
attribute [local irreducible] W WL cT cn bX bA bB bD cW cG
set_option maxHeartbeats 4000000
def bW(f:bc):List Value:=[.int .i64 f.kind,.int .i64 f.idn,.int .i64 f.ver,.int .i64 f.day,.bool f.gone,.int .i64 f.time,.int .i64 f.til,.int .i64 f.waf,.int .i64 f.oth,.int .i64 f.lot,.int .i64 f.prod,.int .i64 f.tool,.int .i64 f.cham,.int .i64 f.step,.int .i64 f.rcp,.int .i64 f.rvn,.int .i64 f.val,.int .i64 f.par,.string (bs f.text)]
instance:El bc where
 k:=19
 pos:=by omega
 rc _ cs f:=cs=bW f
 len h:=by rw[h];rfl
 mono _ h:=h
 one h:=by rw[h];simp[bW,Value.oneCell']
abbrev fv(f:bc):Value:=.agg (bW f).toArray
def P7:Nat→Nat
 |1=>171
 |5=>260
 |6=>259
 |7=>175
 |8=>188
 |9=>176
 |10=>189
 |11=>177
 |12=>178
 |13=>179
 |14=>172
 |15=>173
 |16=>181
 |17=>180
 |_=>0
def fK(i:Nat):Value:=.func (.func (P7 i)) #[] #[]
instance:El jD where
 k:=3
 pos:=by omega
 rc _ cs x:=cs=[fK x.at_,.int .i64 x.lo,.int .i64 x.hi]
 len h:=by rw[h];rfl
 mono _ h:=h
 one h:=by rw[h];simp[fK,Value.oneCell']
def kP(k:Nat):Prop:=k=1∨k=5∨k=6∨k=7∨k=8∨k=9∨k=10∨k=11∨k=12∨k=13∨k=14∨k=15∨k=16∨k=17
theorem HT{k:Nat}(hk:kP k)(b:Nat)(g:G):CallsIn Wd 0 Tryz.prog (P7 k) #[.pointer (some ⟨b,0,none⟩)] g.w (cR g fun _ r=>r= .pointer (some ⟨b,k,none⟩)):=by
 rcases hk with rfl|rfl|rfl|rfl|rfl|rfl|rfl|rfl|rfl|rfl|rfl|rfl|rfl|rfl
 ·have hs:=St.start g
  refine enter Tryz.func171 rfl Tryz.ntmps171 rfl ?_
  refine aX rfl ?_;refine aX rfl ?_
  exact aF (aV rfl rfl (hs.ret rfl))
 ·have hs:=St.start g
  refine enter Tryz.func260 rfl Tryz.ntmps260 rfl ?_
  refine aX rfl ?_;refine aX rfl ?_
  exact aF (aV rfl rfl (hs.ret rfl))
 ·have hs:=St.start g
  refine enter Tryz.func259 rfl Tryz.ntmps259 rfl ?_
  refine aX rfl ?_;refine aX rfl ?_
  exact aF (aV rfl rfl (hs.ret rfl))
 ·have hs:=St.start g
  refine enter Tryz.func175 rfl Tryz.ntmps175 rfl ?_
  refine aX rfl ?_;refine aX rfl ?_
  exact aF (aV rfl rfl (hs.ret rfl))
 ·have hs:=St.start g
  refine enter Tryz.func188 rfl Tryz.ntmps188 rfl ?_
  refine aX rfl ?_;refine aX rfl ?_
  exact aF (aV rfl rfl (hs.ret rfl))
 ·have hs:=St.start g
  refine enter Tryz.func176 rfl Tryz.ntmps176 rfl ?_
  refine aX rfl ?_;refine aX rfl ?_
  exact aF (aV rfl rfl (hs.ret rfl))
 ·have hs:=St.start g
  refine enter Tryz.func189 rfl Tryz.ntmps189 rfl ?_
  refine aX rfl ?_;refine aX rfl ?_
  exact aF (aV rfl rfl (hs.ret rfl))
 ·have hs:=St.start g
  refine enter Tryz.func177 rfl Tryz.ntmps177 rfl ?_
  refine aX rfl ?_;refine aX rfl ?_
  exact aF (aV rfl rfl (hs.ret rfl))
 ·have hs:=St.start g
  refine enter Tryz.func178 rfl Tryz.ntmps178 rfl ?_
  refine aX rfl ?_;refine aX rfl ?_
  exact aF (aV rfl rfl (hs.ret rfl))
 ·have hs:=St.start g
  refine enter Tryz.func179 rfl Tryz.ntmps179 rfl ?_
  refine aX rfl ?_;refine aX rfl ?_
  exact aF (aV rfl rfl (hs.ret rfl))
 ·have hs:=St.start g
  refine enter Tryz.func172 rfl Tryz.ntmps172 rfl ?_
  refine aX rfl ?_;refine aX rfl ?_
  exact aF (aV rfl rfl (hs.ret rfl))
 ·have hs:=St.start g
  refine enter Tryz.func173 rfl Tryz.ntmps173 rfl ?_
  refine aX rfl ?_;refine aX rfl ?_
  exact aF (aV rfl rfl (hs.ret rfl))
 ·have hs:=St.start g
  refine enter Tryz.func181 rfl Tryz.ntmps181 rfl ?_
  refine aX rfl ?_;refine aX rfl ?_
  exact aF (aV rfl rfl (hs.ret rfl))
 ·have hs:=St.start g
  refine enter Tryz.func180 rfl Tryz.ntmps180 rfl ?_
  refine aX rfl ?_;refine aX rfl ?_
  exact aF (aV rfl rfl (hs.ret rfl))
theorem Dh{k:Nat}(hk:kP k):ag Tryz.prog (P7 k):=by
 rcases hk with rfl|rfl|rfl|rfl|rfl|rfl|rfl|rfl|rfl|rfl|rfl|rfl|rfl|rfl
 ·exact LP
 ·exact MB
 ·exact MA
 ·exact LU
 ·exact L3
 ·exact LV
 ·exact L4
 ·exact LW
 ·exact LX
 ·exact LY
 ·exact LQ
 ·exact LR
 ·exact L0
 ·exact LZ
theorem Di(f:bc)(g:G):CallsIn Wd 0 Tryz.prog 185 #[fv f] g.w (cR g fun _ r=>r= .bool (o7 1 f)):=by
 have hs:=St.start g
 refine enter Tryz.func185 rfl Tryz.ntmps185 rfl ?_
 apply c_
 refine an rfl rfl (aR rfl hs rfl rfl ?_);clear hs;rintro b1 g1 hs ah;skip
 refine ba rfl ?_;refine nK [.o 0,.o 0] hs rfl ?_
 exact aF (aV rfl rfl (hs.ret rfl))
theorem AU(f:bc)(g:G):CallsIn Wd 0 Tryz.prog 187 #[fv f] g.w (cR g fun _ r=>r= .bool (o7 0 f)):=by
 have hs:=St.start g
 refine enter Tryz.func187 rfl Tryz.ntmps187 rfl ?_
 apply c_
 refine an rfl rfl (aR rfl hs rfl rfl ?_);clear hs;rintro b1 g1 hs ah;skip
 refine ba rfl ?_;refine aX rfl ?_
 exact aF (aV rfl rfl (hs.ret rfl))
theorem F4(f:bc)(g:G):CallsIn Wd 0 Tryz.prog 174 #[fv f] g.w (cR g fun _ r=>r= .bool (o7 2 f)):=by
 have hs:=St.start g
 refine enter Tryz.func174 rfl Tryz.ntmps174 rfl ?_
 apply c_
 refine an rfl rfl (aR rfl hs rfl rfl ?_);clear hs;rintro b1 g1 hs ah;skip
 refine ba rfl ?_;refine nK [.o 0,.o 0] hs rfl ?_
 exact aF (aV rfl rfl (hs.ret rfl))
theorem I1(b:Bool)(g:G):CallsIn Wd 0 Tryz.prog 190 #[.bool b] g.w (cR g fun _ r=>r= .int .i64 (mM b)):=by
 have hs:=St.start g
 refine enter Tryz.func190 rfl Tryz.ntmps190 rfl ?_
 refine aX rfl ?_;apply aB;refine aX rfl ?_
 cases b with
 |true=>
  refine aJ rfl rfl ?_
  refine aX rfl ?_
  refine aF ?_;apply eF
  exact aV rfl rfl (hs.ret rfl)
 |false=>
  refine aS rfl rfl ?_
  apply aE;apply au;refine aX rfl ?_
  refine aF ?_;skip
  exact aV rfl rfl (hs.ret rfl)
theorem eb(i:Nat)(g:G):CallsIn Wd 0 Tryz.prog 170 #[fK i] g.w (cR g fun _ r=>r= .agg #[fK i,.int .i64 1,.int .i64 1000000]):=by
 have hs:=St.start g
 refine enter Tryz.func170 rfl Tryz.ntmps170 rfl ?_
 apply c_
 refine an rfl rfl (aK T.ok rfl hs rfl rfl ?_);clear hs;rintro b1 g1 hs ah;skip
 apply cf;refine cP 1 rfl ?_
 refine an rfl rfl (aQ T.ok rfl (vs:=[(0,fK i),(1,.int .i64 (1)),(2,.int .i64 (1000000))]) (cells:=[fK i,.int .i64 (1),.int .i64 (1000000)]) rfl rfl rfl rfl [(0,1),(1,1),(2,1)] rfl (by kernel_rfl) ?_)
 skip
 refine bg rfl (aA T.ok 0 rfl hs rfl rfl rfl rfl rfl rfl rfl rfl rfl ?_);replace hs:=hs;rintro g1 hs ah;skip
 apply cf
 exact aF (kJ T.ok 0 rfl hs rfl rfl rfl (hs.ret rfl))
theorem lY(g:G):CallsIn Wd 0 Tryz.prog 186 #[] g.w (cR g fun _ r=>r= .agg #[fK 5,.int .i64 0,.int .i64 1000000]):=by
 have hs:=St.start g
 refine enter Tryz.func186 rfl Tryz.ntmps186 rfl ?_
 apply c_
 refine an rfl rfl (aK T.ok rfl hs rfl rfl ?_);clear hs;rintro b1 g1 hs ah;skip
 apply cf;apply c_
 refine an rfl rfl (aQ T.ok rfl (vs:=[(0,fK 5),(1,.int .i64 (0)),(2,.int .i64 (1000000))]) (cells:=[fK 5,.int .i64 (0),.int .i64 (1000000)]) rfl rfl rfl rfl [(0,1),(1,1),(2,1)] rfl (by kernel_rfl) ?_)
 skip
 refine bg rfl (aA T.ok 0 rfl hs rfl rfl rfl rfl rfl rfl rfl rfl rfl ?_);replace hs:=hs;rintro g1 hs ah;skip
 apply cf
 exact aF (kJ T.ok 0 rfl hs rfl rfl rfl (hs.ret rfl))
def iY(l:List jD):List Value:=l.flatMap fun x=>[fK x.at_,.int .i64 x.lo,.int .i64 x.hi]
theorem fG(g:G): ∀l:List jD,cO g (iY l) l
 |[]=>rfl
 |_::l=>⟨_,_,rfl,rfl,fG g l⟩
theorem cO.Sg: ∀{l:List jD} {g:G} {cs ds:List Value},cO g cs l→cO g ds l→cs=ds
 |[],_,_,_,h1,h2=>h1.trans h2.symm
 |_::l,g,_,_,⟨_,_,e1,r1,h1⟩,⟨_,_,e2,r2,h2⟩=>by rw[e1,e2,show _=_ from r1,show _=_ from r2,cO.Sg h1 h2]
theorem sg(g:G):CallsIn Wd 0 Tryz.prog 183 #[] g.w (cR g (jZ 205 g eU)):=by
 have hs:=St.start g
 refine enter Tryz.func183 rfl Tryz.ntmps183 rfl ?_
 refine aX rfl ?_;apply c_
 refine an rfl rfl (aQ T.ok rfl (vs:=[(0,fK 11),(1,.int .i64 (0)),(2,.int .i64 (59))]) (cells:=[fK 11,.int .i64 (0),.int .i64 (59)]) rfl rfl rfl rfl [(0,1),(1,1),(2,1)] rfl (by kernel_rfl) ?_)
 skip
 refine an rfl rfl (aQ T.ok rfl (vs:=[(0,fK 12),(1,.int .i64 (0)),(2,.int .i64 (3))]) (cells:=[fK 12,.int .i64 (0),.int .i64 (3)]) rfl rfl rfl rfl [(0,1),(1,1),(2,1)] rfl (by kernel_rfl) ?_)
 skip
 refine an rfl rfl (bj T.ok rfl hs (vs:=[(0,.agg #[fK 11,.int .i64 0,.int .i64 59]),(1,.agg #[fK 12,.int .i64 0,.int .i64 3])]) (cells:=iY eU) rfl rfl rfl rfl rfl rfl (by decide) (by decide) (by kernel_rfl) rfl ?_)
 rintro b g1 hs hle
 refine ba rfl ?_
 exact aF (aV rfl rfl (hs.ret (hs.mR (i:=0) rfl (fG _ eU))))
theorem sh(g:G):CallsIn Wd 0 Tryz.prog 184 #[] g.w (cR g (jZ 205 g gG)):=by
 have hs:=St.start g
 refine enter Tryz.func184 rfl Tryz.ntmps184 rfl ?_
 refine aX rfl ?_;apply c_
 refine an rfl rfl (ay pf aI rfl rfl rfl rfl rfl (lY _) ?_);rintro g1 _ aN rfl;replace hs:=hs.call aN;have ah:=aN.le;skip
 skip
 refine an rfl rfl (aQ T.ok rfl (vs:=[(0,fK 6),(1,.int .i64 (0)),(2,.int .i64 (1000000))]) (cells:=[fK 6,.int .i64 (0),.int .i64 (1000000)]) rfl rfl rfl rfl [(0,1),(1,1),(2,1)] rfl (by kernel_rfl) ?_)
 skip
 refine an rfl rfl (bj T.ok rfl hs (vs:=[(0,.agg #[fK 5,.int .i64 0,.int .i64 1000000]),(1,.agg #[fK 6,.int .i64 0,.int .i64 1000000])]) (cells:=iY gG) rfl rfl rfl rfl rfl rfl (by decide) (by decide) (by kernel_rfl) rfl ?_)
 rintro b g1 hs hle
 refine ba rfl ?_
 exact aF (aV rfl rfl (hs.ret (hs.mR (i:=0) rfl (fG _ gG))))
theorem oz(v:Value)(ls:List (List jD))(g:G)(aH:Rs g v ls)(hb:(ls.map List.length).sum≤100):CallsIn Wd 0 Tryz.prog 182 #[v] g.w (cR g (jZ 205 g ls.flatten)):=by
 obtain⟨a,c,rfl⟩:=aH.isSlice
 have hlen:=aH.dU
 unfold maxLen at hlen
 have hs:=St.start g
 refine enter Tryz.func182 rfl Tryz.ntmps182 rfl ?_
 refine aX rfl ?_;apply aB;refine aX rfl ?_;apply aG
 replace hs:=hs.gI 205 3 none
 have aq:=G.le.refl g
 have qz:=aH
 refine bS (fun m a' w=> ∃(k:Nat) (u:Value) (g2:G),w=g2.w∧St g g2 [.row 205 3 u (ls.take k).flatten.length (iY (ls.take k).flatten)]∧G.le g g2∧k≤ls.length∧m=ls.length-k∧
   Fr 16 [] [(2,u),(5,.slice a ls.length c),(6,.int .i64 ls.length),(7,.int .i64 k)] a') ls.length
  (fun a' ha=>⟨0,_,g,rfl,hs,aq,Nat.zero_le _,rfl,ha.keep (by(repeat (first|exact trivial|refine⟨rfl,?_⟩)))⟩) ?_
 clear hs aq aH
 rintro m a' _ ⟨k,u,g2,rfl,hs,aq,hk,rfl,eI⟩
 have aH:=qz.mono aq
 revert a'
 apply cQ;refine aX rfl ?_;apply aB
 by_cases bh:k<ls.length
 ·refine aJ (b:=decide ((k:Int)<(ls.length:Int))) (by simp;omega) rfl ?_
  apply aE;apply au;apply aB;apply aG;apply c_
  refine an rfl rfl (aW T.ok rfl aH (y:=ls[k]) (cU rfl bh) rfl rfl rfl rfl rfl rfl ?_)
  rintro b p ys aL eK
  obtain⟨v1,rfl,Sh⟩:=eK
  obtain⟨a1,c1,rfl⟩:=Sh.isSlice
  refine Wm 1 [.e aL 0] (St.start _) rfl ?_
  refine ba rfl ?_;apply ar;refine Wp 2 rfl ?_
  obtain⟨_,news,CW,gn⟩:=Src.jq Sh
  obtain rfl:news=iY ls[k]:=cO.Sg CW (fG _ _)
  have MR:(ls.take k).flatten.length+ls[k].length≤100:=by
   have h1:(ls.take (k+1)).flatten.length≤ls.flatten.length:=by
    conv=>rhs;rw[←List.take_append_drop (k+1) ls]
    rw[List.flatten_append,List.length_append];omega
   rw[List.take_succ_eq_append_getElem bh,List.flatten_append,List.length_append]at h1
   rw[List.length_flatten (L:=ls)]at h1
   simpa using Nat.le_trans h1 hb
  refine an rfl rfl (b_ T.ok 0 rfl hs rfl rfl rfl rfl rfl rfl rfl (by decide) rfl gn CW.one (by show(_+_)*24≤_;omega) (by unfold maxLen;omega) ?_)
  rintro a' c' g3 hs hle
  replace aq:=aq.trans hle
  refine Wp 1 rfl ?_;apply aD;apply bU;apply au;apply ar;refine Wp 2 rfl ?_;apply aD
  refine fun a ha=>⟨ls.length-(k+1),by omega,k+1,_,_,rfl,?_,aq,by omega,rfl,ha.keep ⟨rfl,rfl,rfl,kI rfl (by rw[wr (by omega) (by omega)];omega),trivial⟩⟩
  have e1:(ls.take (k+1)).flatten=(ls.take k).flatten++ls[k]:=by rw[List.take_succ_eq_append_getElem bh,List.flatten_append];simp
  rw[e1,List.length_append]
  unfold iY at hs⊢
  rw[List.flatMap_append]
  exact hs
 ·refine aS (b:=decide ((k:Int)<(ls.length:Int))) (by simp;omega) rfl ?_
  apply bE;apply bK;apply bK;apply dc;apply au;refine aX rfl ?_
  rw[List.take_of_length_le (by omega)]at hs
  refine aF ?_;skip
  refine aV rfl rfl (hs.ret ?_)
  exact hs.mR (i:=0) rfl (fG _ _)
end Go.Proofs.YtebobfdheanknaaGreatDoor
namespace Go.K
open Go Go.RowKit
variable {F:Fence} {P:Program} {N:Nat} {ds:List Deferred} {ops:Array Oper} {Q:Exit→Act→World→Prop} {φs:List Fact} {l0:Env} {gd:G}
def QU(φs:List Fact)(es:List Nat)(ρ:Nat→Option Value)(g:G):List (Nat×Nat)→Env→(Env→Prop)→Prop
 |[],l,k=>k l
 |(j,d)::r,l,k=> ∀v,(gP φs j).p v g→(es.contains j=true→ρ j=some v)→QU φs es ρ g r ((d,v)::l) k
def o5(ρ:Nat→Option Value)(i:Nat)(v:Value):Nat→Option Value:=fun j=>if j=i then some v else ρ j
def Ar(es:List Nat)(J:(Nat→Option Value)→G→Prop)(ρ:Nat→Option Value)(i:Nat)(v:Value)(g g':G):Prop:=if es.contains i=true then g.le g'∧J (o5 ρ i v) g' else aZ g g'
def vM(F:Fence)(P:Program)(N:Nat)(ds:List Deferred)(ops:Array Oper)(Q:Exit→Act→World→Prop)(φs:List Fact)(l0:Env)(gd:G)(es:List Nat)(dJ:List (List Nat))(J:(Nat→Option Value)→G→Prop)(i:Nat)(o:Oper):Prop:=
 ∀ρ g',gd.le g'→J ρ g'→(es.contains i=true→ρ i=none)→(∀(k:Nat) A e,es[k]? =some e→dJ[k]? =some A→i∈A→ρ e=none)→(∀e,es.contains e=true→e∈lb o→ρ e≠none)→QU φs es ρ g' (eQ ops o) l0 fun env=>
  match mJ ops env o.guard with
  |some true=>cT F P N ds o env g'.w Q fun v w'=> ∃dP,dP.w=w'∧Ar es J ρ i v g' dP∧(gP φs i).p v dP
  |some false=>Ar es J ρ i undef g' g'∧(gP φs i).p undef g'
  |none=>False
def jC(F:Fence)(P:Program)(N:Nat)(ds:List Deferred)(ops:Array Oper)(Q:Exit→Act→World→Prop)(φs:List Fact)(l0:Env)(gd:G)(es:List Nat)(dJ:List (List Nat))(J:(Nat→Option Value)→G→Prop):Nat→List Oper→Prop
 |_,[]=>True
 |i,o::os=>vM F P N ds ops Q φs l0 gd es dJ J i o∧jC F P N ds ops Q φs l0 gd es dJ J (i+1) os
theorem jC.at{es:List Nat}{dJ:List (List Nat)}{J:(Nat→Option Value)→G→Prop}: ∀{l:List Oper} {i0:Nat},jC F P N ds ops Q φs l0 gd es dJ J i0 l→ ∀(j:Nat) o,l[j]? =some o→vM F P N ds ops Q φs l0 gd es dJ J (i0+j) o
 |[],_,_,j,o,h=>by simp at h
 |x::l,i0,hs,0,o,h=>by
  simp only[List.getElem?_cons_zero,Option.some.injEq]at h
  subst h
  exact hs.1
 |x::l,i0,hs,j+1,o,h=>by
  simp only[List.getElem?_cons_succ]at h
  have:=jC.at (i0:=i0+1) hs.2 j o h
  rw[show i0+(j+1)=i0+1+j from by omega]
  exact this
theorem xm{g:G}{a:Act}{es:List Nat}{ρ:Nat→Option Value}: ∀(js:List (Nat×Nat)) {l:Env} {k:Env→Prop},QU φs es ρ g js l k→Fr N ds l a→(∀p∈js,∃v,a.tmps[p.2]? =some v∧(gP φs p.1).p v g∧(es.contains p.1=true→ρ p.1=some v))→ ∃env,k env∧Fr N ds env a
 |[],l,k,h,ha,_=>⟨l,h,ha⟩
 |(j,d)::r,l,k,h,ha,hp=>by
  obtain⟨v,hv,hf,hr⟩:=hp (j,d) (by simp)
  refine xm r (h v hf hr) ⟨ha.defers,ha.size,fun t u hu=>?_⟩ (fun p RE=>hp p (by simp[RE]))
  by_cases e:d=t
  ·subst e
   rw[cK]at hu
   rw[←hu];exact hv
  ·rw[bZ _ _ e]at hu
   exact ha.get t u hu
theorem xp{g':G}{es:List Nat}{ρ:Nat→Option Value}: ∀(js:List (Nat×Nat)) (l:Env) (k k':Env→Prop),(∀env,k env→k' env)→QU φs es ρ g' js l k→QU φs es ρ g' js l k'
 |[],_,_,_,hk,h=>hk _ h
 |_::r,_,k,k',hk,h=>fun v hv hr=>xp r _ k k' hk (h v hv hr)
theorem IB{g':G}{es:List Nat}{ρ:Nat→Option Value}: ∀(js:List (Nat×Nat)) (l:Env) (k:Env→Prop),QA φs g' js l k→QU φs es ρ g' js l k
 |[],_,_,h=>h
 |_::r,_,k,h=>fun v hv _=>IB r _ k (h v hv)
theorem Hc{id:Nat}{g:G}(hF: ∀f,F.fn f)(hm:P.follows .mixedOrders=true)(φs:List Fact)(m:Nat)(outs:List (Nat×Nat))(es:List Nat)(dJ:List (List Nat))(J:(Nat→Option Value)→G→Prop)(hJ: ∀ρ g g',aZ g g'→J ρ g→J ρ g')(zC:J (fun _=>none) g.dr)(lH:nU N ops l0 m=true)(Rz:(es.all fun e=>Nat.blt e m)=true)(E1:((es.zip dJ).all fun p=>tM ops p.2 p.1)=true)(hsoft:jt [] 0 φs)
  (houts:outs.all (fun p=>Nat.blt p.1 m&&(dH ops p.1==some p.2))=true)
  (iJ:jC F P N ds ops Q φs l0 g.dr es dJ J 0 (ops.toList.take m))
  (jT: ∀ρ g',g.dr.le g'→J ρ g'→(∀e,es.contains e=true→ρ e≠none)→QU φs es ρ g' outs l0 fun env=>WL F P N ds ops Q (ops.toList.drop m) env g'.w):W F P N ds (.region id ops true) Q l0 g.w:=by
 intro a ha
 simp only[nU,Bool.and_eq_true,List.all_eq_true,List.mem_range]at lH
 obtain⟨⟨⟨c1,c2⟩,c3⟩,c4⟩:=lH
 have c4:m≤ops.size:=Nat.le_of_ble_eq_true c4
 have k1: ∀i o,ops[i]? =some o→ ∀j∈lb o,j<i:=by
  intro i o ho j hj
  have:=c1 i (Array.getElem?_eq_some_iff.1 ho).1
  rw[ho]at this
  have:=(List.all_eq_true.1 this) j hj
  simpa [Nat.blt_eq]using this
 have k2: ∀j o,m≤j→ops[j]? =some o→ ∀k,k<j→ ∃i' o',k<i'∧i'≤j∧ops[i']? =some o'∧k∈lb o':=by
  intro j o hj ho k hk
  have:=c2 j (Array.getElem?_eq_some_iff.1 ho).1
  simp only[Bool.or_eq_true]at this
  rcases this with h|h
  ·have:j<m:=by simpa [Nat.blt_eq]using h
   omega
  ·have:=(List.all_eq_true.1 h) k (List.mem_range.2 hk)
   obtain⟨i',h1,h2⟩:=List.any_eq_true.1 this
   simp only[Bool.and_eq_true]at h2
   have h3:=List.mem_range.1 h1
   cases qp:ops[i']? with
   |none=>rw[qp]at h2;simp at h2
   |some o'=>
    rw[qp]at h2
    exact⟨i',o',by simpa [Nat.blt_eq]using h2.1,by omega,qp,by simpa using h2.2⟩
 have k4: ∀(listed:Array Bool),(∀k o,listed.getD k false=true→ops[k]? =some o→ ∀e∈lb o,listed.getD e false=true)→ ∀j o,m≤j→ops[j]? =some o→(∀e∈lb o,listed.getD e false=true)→ ∀k,k<j→listed.getD k false=true:=by
  intro listed fY j o hj ho dh
  have: ∀d k,k<j→j-k=d→listed.getD k false=true:=by
   intro d
   induction d using Nat.strongRecOn with
   |_ d Cu=>
    intro k hk hd
    obtain⟨i',o',h1,h2,h3,h4⟩:=k2 j o hj ho k hk
    rcases Nat.lt_or_ge i' j with h|h
    ·exact fY i' o' (Cu (j-i') (by omega) i' h rfl) h3 k h4
    ·obtain rfl:i'=j:=by omega
     rw[ho]at h3
     obtain rfl:=Option.some.inj h3
     exact dh k h4
  exact fun k hk=>this _ k hk rfl
 have k3: ∀i,i<m→ ∀d,dH ops i=some d→d<N∧lk l0 d=none∧ ∀j,j<m→j≠i→ ∀e,dH ops j=some e→e≠d:=by
  intro i hi d hd
  have:=c3 i hi
  simp only[hd,Bool.and_eq_true,List.all_eq_true,List.mem_range,Bool.or_eq_true]at this
  refine⟨by simpa [Nat.blt_eq]using this.1.1,by simpa using this.1.2,fun j hj fu e he=>?_⟩
  rcases this.2 j hj with h|h
  ·exact absurd (by simpa using h) fu
  ·simpa [he]using h
 have Ct: ∀(listed:Array Bool),(∀k o,listed.getD k false=true→ops[k]? =some o→ ∀e∈lb o,listed.getD e false=true)→ ∀(k:Nat) e A,es[k]? =some e→dJ[k]? =some A→listed.getD e false=true→ ∀i∈A,listed.getD i false=true:=by
  intro listed fY k e A he hA KB
  have hz:(e,A)∈es.zip dJ:=by
   rw[List.mem_iff_getElem?]
   exact⟨k,by rw[List.getElem?_zip_eq_some];exact⟨he,hA⟩⟩
  have h1:=(List.all_eq_true.1 E1) _ hz
  simp only[tM,List.all_eq_true,Bool.and_eq_true]at h1
  have: ∀d i,i∈A→e-i=d→listed.getD i false=true:=by
   intro d
   induction d using Nat.strongRecOn with
   |_ d Cu=>
    intro i hi hd
    obtain⟨h2,h3⟩:=h1 i hi
    have w5:i<e:=by simpa [Nat.blt_eq]using h2
    obtain⟨j,hj,Hb⟩:=List.any_eq_true.1 h3
    cases ho:ops[j]? with
    |none=>rw[ho]at Hb;simp at Hb
    |some o=>
     rw[ho]at Hb
     have zK:i∈lb o:=by simpa using Hb
     have bh:=k1 j o ho i zK
     rcases List.mem_cons.1 hj with rfl|hj
     ·exact fY _ o KB ho i zK
     ·have JN:j<e:=by simpa [Nat.blt_eq]using(h1 j hj).1
      exact fY j o (Cu (e-j) (by omega) j hj rfl) ho i zK
  exact fun i hi=>this _ i hi rfl
 let KL:Array Bool→Act→G→Prop:=fun listed a g'=>g.dr.le g'∧ ∃ρ,(∀e,ρ e≠none↔(es.contains e=true∧listed.getD e false=true))∧(∀e v d,ρ e=some v→dH ops e=some d→a.tmps[d]? =some v)∧J ρ g'
 have J4: ∀e,es.contains e=true→e<m:=fun e he=>by
  have:=(List.all_eq_true.1 Rz) e (by simpa using he)
  simpa [Nat.blt_eq]using this
 have E5: ∀{listed:Array Bool} {a:Act} {ρ:Nat→Option Value} (_: ∀e,ρ e≠none↔(es.contains e=true∧listed.getD e false=true)) (_: ∀e v d,ρ e=some v→dH ops e=some d→a.tmps[d]? =some v) {j d:Nat} {v:Value},
   listed.getD j false=true→dH ops j=some d→a.tmps[d]? =some v→es.contains j=true→ρ j=some v:=by
  intro listed a ρ h1 h2 j d v hl hd hv he
  cases hr:ρ j with
  |none=>exact absurd hr ((h1 j).2 ⟨he,hl⟩)
  |some u=>
   have:=h2 j u d hr hd
   rw[hv]at this;exact this.symm
 refine wpIn_region_any hm ?_
 have key: ∀(fuel:Nat) (listed:Array Bool) (a:Act) (g':G),listed.size=ops.size→KL listed a g'→Fr N ds l0 a→
   (∀i,i<m→listed.getD i false=true→ ∀d,dH ops i=some d→ ∃v,a.tmps[d]? =some v∧(gP φs i).p v g')→(∀j,m≤j→j<ops.size→listed.getD j false=false)→(∀k o,listed.getD k false=true→ops[k]? =some o→ ∀e∈lb o,listed.getD e false=true)→
   (ops.size-((List.range ops.size).filter fun i=>listed.getD i false).length≤fuel)→wpAnyIn F 0 P .any ops Q fuel listed a g'.w:=by
  intro fuel
  induction fuel with
  |zero=>
   intro listed a g' cS hf ha eV gN fY tO
   have dh: ∀j,j<ops.size→listed.getD j false=true:=by
    have hlen:((List.range ops.size).filter fun i=>listed.getD i false).length=(List.range ops.size).length:=by
     have:=List.length_filter_le (fun i=>listed.getD i false) (List.range ops.size)
     simp only[List.length_range]at this⊢
     omega
    have:=List.length_filter_eq_length_iff.1 hlen
    intro j hj
    exact this j (List.mem_range.2 hj)
   have DH:m=ops.size:=by
    rcases Nat.lt_or_ge m ops.size with h|h
    ·have:=gN m (Nat.le_refl _) h;rw[dh m h]at this;cases this
    ·omega
   obtain⟨xR,ρ,se,xF,KM⟩:=hf
   obtain⟨env,hW,hZ⟩:=xm outs (jT ρ g' xR KM (fun e he=>(se e).2 ⟨he,dh e (by have:=J4 e he;omega)⟩)) ha (fun p hp=>by
    have:=(List.all_eq_true.1 houts) p hp
    simp only[Bool.and_eq_true,beq_iff_eq]at this
    have bh:p.1<m:=by simpa [Nat.blt_eq]using this.1
    obtain⟨v,hv,lB⟩:=eV p.1 bh (dh _ (by omega)) _ this.2
    exact⟨v,hv,lB,E5 se xF (dh _ (by omega)) this.2 hv⟩)
   refine jM k1 0 ops.size listed a g'.w cS (Nat.le_refl _) (fun j o hj ho=>?_) (fun j hj=>⟨fun _=>hj,fun _=>dh j hj⟩) (by omega) (by rw[←DH];exact hW a hZ)
   have:=(Array.getElem?_eq_some_iff.1 ho).1
   omega
  |succ fuel ih=>
   intro listed a g' cS hf ha eV gN fY tO
   by_cases gD: ∀j,j<m→listed.getD j false=true
   ·obtain⟨xR,ρ,se,xF,KM⟩:=hf
    obtain⟨env,hW,hZ⟩:=xm outs (jT ρ g' xR KM (fun e he=>(se e).2 ⟨he,gD e (J4 e he)⟩)) ha (fun p hp=>by
     have:=(List.all_eq_true.1 houts) p hp
     simp only[Bool.and_eq_true,beq_iff_eq]at this
     have bh:p.1<m:=by simpa [Nat.blt_eq]using this.1
     obtain⟨v,hv,lB⟩:=eV p.1 bh (gD _ bh) _ this.2
     exact⟨v,hv,lB,E5 se xF (gD _ bh) this.2 hv⟩)
    refine jM k1 (fuel+1) m listed a g'.w cS c4 (fun j o hj ho=>k2 j o hj ho) (fun j hj=>⟨fun h=>?_,fun h=>gD j h⟩) ?_ (hW a hZ)
    ·rcases Nat.lt_or_ge j m with h'|h'
     ·exact h'
     ·rw[gN j h' hj]at h;cases h
    ·have hle:((List.range ops.size).filter fun i=>listed.getD i false).length≤m:=by
      have oR:((List.range ops.size).filter fun i=>listed.getD i false).length≤((List.range ops.size).filter fun i=>decide (i<m)).length:=by
       refine List.Sublist.length_le ?_
       rw[show((List.range ops.size).filter fun i=>listed.getD i false)=((List.range ops.size).filter fun i=>decide (i<m)).filter (fun i=>listed.getD i false)from ?_]
       ·exact List.filter_sublist
       ·rw[List.filter_filter]
        refine List.filter_congr fun i hi=>?_
        have hi:=List.mem_range.1 hi
        by_cases h:i<m
        ·simp[h]
        ·rw[gN i (by omega) hi];simp
      have:((List.range ops.size).filter fun i=>decide (i<m)).length=m:=by
       have e:ops.size=m+(ops.size-m):=by omega
       rw[e,List.range_add,List.filter_append,List.length_append,List.filter_eq_self.2 (by intro x hx;simpa using hx),List.filter_eq_nil_iff.2 (by
        intro x hx
        obtain⟨y,_,rfl⟩:=List.mem_map.1 hx
        simp)]
       simp
      omega
     omega
   ·--qZ of zp first part is not listed:zp least JO is ready
    have hex: ∃j,j<m∧listed.getD j false=false∧ ∀k,k<j→listed.getD k false=true:=by
     have: ∃j,j<m∧listed.getD j false=false:=by
      apply Classical.byContradiction
      intro dy
      apply gD
      intro j hj
      cases hc:listed.getD j false with
      |true=>rfl
      |false=>exact absurd ⟨j,hj,hc⟩ dy
     obtain⟨j,hj⟩:=this
     induction j using Nat.strongRecOn with
     |_ j JP=>
      by_cases hk: ∃k,k<j∧listed.getD k false=false
      ·obtain⟨k,rS,CX⟩:=hk
       exact JP k rS ⟨by omega,CX⟩
      ·refine⟨j,hj.1,hj.2,fun k rS=>?_⟩
       cases hc:listed.getD k false with
       |true=>rfl
       |false=>exact absurd ⟨k,rS,hc⟩ hk
    obtain⟨j0,Re,Bo,tN⟩:=hex
    have je:j0∈Region.ready .any ops listed:=by
     rw[ft]
     have bh:j0<ops.size:=by omega
     refine⟨by rw[getD_lt (cS▸bh) true false];exact Bo,_,Array.getElem?_eq_getElem bh,fun k hk=>tN k (k1 j0 _ (Array.getElem?_eq_getElem bh) k hk)⟩
    refine⟨fun h0=>(by rw[h0]at je;cases je),fun i hi=>?_⟩
    obtain⟨h0,o,ho,dh⟩:=ft.1 hi
    have n_:i<ops.size:=(Array.getElem?_eq_some_iff.1 ho).1
    rw[getD_lt (cS▸n_) true false]at h0
    have oS:i<m:=by
     rcases Nat.lt_or_ge i m with h|h
     ·exact h
     ·have:=k4 listed fY i o h ho dh j0 (by omega);rw[Bo]at this;cases this
    have E2:dH ops i=o.dst:=by unfold dH;rw[ho];rfl
    have k_:=iJ.at (i0:=0) i o (by rw[List.getElem?_take_of_lt oS];simpa using ho)
    rw[Nat.zero_add]at k_
    obtain⟨KG,ρ,se,xF,KM⟩:=hf
    have oT: ∀p∈eQ ops o,∃v,a.tmps[p.2]? =some v∧(gP φs p.1).p v g'∧(es.contains p.1=true→ρ p.1=some v):=by
     intro p hp
     unfold eQ at hp
     obtain⟨j,hj,w6⟩:=List.mem_filterMap.1 hp
     cases zq:dH ops j with
     |none=>simp[zq]at w6
     |some e=>
      simp only[zq]at w6
      have JR:j<m:=by have:=k1 i o ho j hj;omega
      obtain⟨v,hv,lB⟩:=eV j JR (dh j hj) e zq
      have EO: ∀(c:Bool) (q:Nat×Nat),(bif c then some q else none)=some p→q=p:=by
       intro c q h
       cases c with
       |true=>exact Option.some.inj h
       |false=>cases h
      obtain rfl:=EO _ _ w6
      exact⟨v,hv,lB,E5 se xF (dh j hj) zq hv⟩
    obtain⟨env,hk,hZ⟩:=xm (eQ ops o) (k_ ρ g' KG KM (fun he=>by
     cases hr:ρ i with
     |none=>rfl
     |some u=>have:=((se i).1 (by rw[hr];simp)).2;rw[this]at h0;cases h0) (fun k A e he hA RA=>by
     cases hr:ρ e with
     |none=>rfl
     |some u=>
      have KB:=((se e).1 (by rw[hr];simp)).2
      have:=Ct listed fY k e A he hA KB i RA
      rw[this]at h0;cases h0) (fun e he RB=>(se e).2 ⟨he,dh e RB⟩)) ha oT
    have jK: ∀(a':Act) (dP:G) (v:Value),a'=a.put o.dst v→Ar es J ρ i v g' dP→(gP φs i).p v dP→wpAnyIn F 0 P .any ops Q fuel (listed.setIfInBounds i true) a' dP.w:=by
     intro a' dP v he eO lB
     have oU: ∀t,o.dst≠some t→a'.tmps[t]? =a.tmps[t]?:=fun t ht=>by
      rw[he]
      cases tP:o.dst with
      |none=>rfl
      |some d=>
       simp only[Act.put]
       rw[Array.getElem?_setIfInBounds_ne (fun e=>ht (by rw[tP,e]))]
     have rq: ∀d,o.dst=some d→a'.tmps[d]? =some v:=fun d tP=>by
      rw[he,tP]
      simp only[Act.put]
      rw[Array.getElem?_setIfInBounds_self,if_pos (by rw[ha.size];exact(k3 i oS d (E2.trans tP)).1)]
     have iU: ∀k,k≠i→(listed.setIfInBounds i true).getD k false=listed.getD k false:=fun k hk=>by
      simp only[Array.getD_eq_getD_getElem?]
      rw[Array.getElem?_setIfInBounds_ne (fun e=>hk e.symm)]
     have d_:(listed.setIfInBounds i true).getD i false=true:=by simp[cS,n_]
     have E3:g'.le dP:=by
      unfold Ar at eO
      split at eO
      ·exact eO.1
      ·exact eO.le
     have hold: ∀e u d,e≠i→ρ e=some u→dH ops e=some d→a'.tmps[d]? =some u:=fun e u d fu hr hd=>by
      have Vh:=J4 e ((se e).1 (by rw[hr];simp)).1
      rw[oU d (fun h=>(k3 e Vh d hd).2.2 i oS (fun h'=>fu h'.symm) d (E2.trans h) rfl)]
      exact xF e u d hr hd
     have hinv:KL (listed.setIfInBounds i true) a' dP:=by
      refine⟨KG.trans E3,?_⟩
      unfold Ar at eO
      split at eO
      ·rename_i w5
       refine⟨o5 ρ i v,fun e=>?_,fun e u d hr hd=>?_,eO.2⟩
       ·unfold o5
        by_cases E4:e=i
        ·subst E4;simp only[if_true];exact⟨fun _=>⟨w5,d_⟩,fun _=>by simp⟩
        ·rw[if_neg E4,iU e E4];exact se e
       ·unfold o5 at hr
        by_cases E4:e=i
        ·subst E4;rw[if_pos rfl]at hr;obtain rfl:=Option.some.inj hr;exact rq d (E2.symm.trans hd)
        ·rw[if_neg E4]at hr;exact hold e u d E4 hr hd
      ·rename_i w5
       have fu: ∀e,es.contains e=true→e≠i:=fun e he h=>by subst h;exact w5 he
       refine⟨ρ,fun e=>?_,fun e u d hr hd=>?_,hJ ρ _ _ eO KM⟩
       ·constructor
        ·intro h
         have:=(se e).1 h
         exact⟨this.1,by rw[iU e (fu e this.1)];exact this.2⟩
        ·rintro⟨h1,h2⟩
         rw[iU e (fu e h1)]at h2
         exact(se e).2 ⟨h1,h2⟩
       ·exact hold e u d (fu e ((se e).1 (by rw[hr];simp)).1) hr hd
     refine ih _ a' dP (by simpa using cS) hinv ⟨by rw[he];cases o.dst<;>exact ha.defers,by rw[he];cases o.dst<;>simp[Act.put,ha.size],fun t u hu=>?_⟩ (fun k hk j9 d' w7=>?_) (fun j hj G3=>?_) (fun k o' hk Ae e he=>?_) ?_
     ·rw[oU t (fun e=>by have:=(k3 i oS t (E2.trans e)).2.1;rw[this]at hu;cases hu)];exact ha.get t u hu
     ·by_cases kK:k=i
      ·subst kK
       exact⟨v,rq d' (E2.symm.trans w7),lB⟩
      ·rw[iU k kK]at j9
       obtain⟨v',ER,Af⟩:=eV k hk j9 d' w7
       refine⟨v',?_,(jt.at hsoft k).elim (fun h=>by simp at h) fun h=>h _ _ _ E3 Af⟩
       rw[oU d' (fun e=>(k3 k hk d' w7).2.2 i oS (fun h=>kK h.symm) d' (E2.trans e) rfl)]
       exact ER
     ·rw[iU j (by omega)]
      exact gN j hj G3
     ·have hle: ∀x,listed.getD x false=true→(listed.setIfInBounds i true).getD x false=true:=fun x hx=>by
       by_cases zJ:x=i
       ·subst zJ;exact d_
       ·rw[iU x zJ];exact hx
      by_cases kK:k=i
      ·subst kK
       rw[ho]at Ae
       obtain rfl:=Option.some.inj Ae
       exact hle e (dh e he)
      ·rw[iU k kK]at hk
       exact hle e (fY k o' hk Ae e he)
     ·have bh:((List.range ops.size).filter fun k=>listed.getD k false).length<((List.range ops.size).filter fun k=>(listed.setIfInBounds i true).getD k false).length:=by
       have oR:List.Sublist ((List.range ops.size).filter fun k=>listed.getD k false) ((List.range ops.size).filter fun k=>(listed.setIfInBounds i true).getD k false):=by
        have e:((List.range ops.size).filter fun k=>listed.getD k false)=((List.range ops.size).filter fun k=>(listed.setIfInBounds i true).getD k false).filter (fun k=>listed.getD k false):=by
         rw[List.filter_filter]
         refine List.filter_congr fun k _=>?_
         by_cases kK:k=i
         ·subst kK;rw[d_];simp
         ·rw[iU k kK];simp
        rw[e]
        exact List.filter_sublist
       refine Nat.lt_of_le_of_ne oR.length_le fun e=>?_
       have:=oR.eq_of_length e
       have Cw:i∈((List.range ops.size).filter fun k=>(listed.setIfInBounds i true).getD k false):=List.mem_filter.2 ⟨List.mem_range.2 n_,d_⟩
       rw[←this]at Cw
       have:=(List.mem_filter.1 Cw).2
       rw[h0]at this
       cases this
      omega
    unfold wpOpIn
    rw[ho]
    simp only
    cases hg:mJ ops env o.guard with
    |none=>rw[hg]at hk;exact hk.elim
    |some b=>
     have nq:Region.wanted o (yielded ops a.tmps)=b:=jN (l:=env) (o:=o) hg hZ
     rw[hg]at hk
     cases b with
     |true=>
      rw[if_pos nq]
      exact Oper.wpIn_mono (fun a' w' ⟨v,he,dP,hw,eO,lB⟩=>hw▸jK a' dP v he eO lB) (hk a hZ)
     |false=>
      rw[if_neg (by rw[nq];simp)]
      exact⟨fun f _=>hF f,jK _ g' undef rfl hk.1 hk.2⟩
 refine key ops.size _ a g.dr (by simp) ⟨G.le.refl _,fun _=>none,fun e=>⟨fun h=>absurd rfl h,fun h=>by
  have h2:=h.2
  simp only[Array.getD_eq_getD_getElem?,Array.getElem?_replicate]at h2
  split at h2<;>simp at h2⟩,fun e v d hr=>(by cases hr),zC⟩ ha (fun i hi hl=>?_) (fun j _ hj=>by simp[hj]) (fun k o hl=>?_) (by omega)
 ·simp only[Array.getD_eq_getD_getElem?,Array.getElem?_replicate]at hl
  split at hl<;>simp at hl
 ·simp only[Array.getD_eq_getD_getElem?,Array.getElem?_replicate]at hl
  split at hl<;>simp at hl
end Go.K
namespace Go.K
open Go Go.RowKit
variable {F:Fence} {P:Program} {N:Nat} {ds:List Deferred} {ops:Array Oper} {Q:Exit→Act→World→Prop} {l0 l:Env} {os jQ:List Oper} {o:Oper}
variable {g0 g gd g':G} {φs:List Fact} {ks:List FK} {es:List Nat} {dJ:List (List Nat)} {J:(Nat→Option Value)→G→Prop} {ρ:Nat→Option Value}
def Bw(es:List Nat):Nat→Nat→Bool
 |_,0=>true
 |i,n+1=> !es.contains i&&Bw es (i+1) n
theorem bC{i:Nat}(h:vM F P N ds ops Q φs l0 gd es dJ J i o)(h2:jC F P N ds ops Q φs l0 gd es dJ J (i+1) os):jC F P N ds ops Q φs l0 gd es dJ J i (o::os):=⟨h,h2⟩
theorem vc{i:Nat}:jC F P N ds ops Q φs l0 gd es dJ J i []:=trivial
theorem bd{k:Env→Prop}(h:k l):QU φs es ρ g [] l k:=h
theorem cI{k:Env→Prop}{j d:Nat}{x:Value}{r:List (Nat×Nat)}(he:gP φs j=Fact.eq x)(h:QU φs es ρ g r ((d,x)::l) k):QU φs es ρ g ((j,d)::r) l k:=by
 intro v hv _
 rw[he]at hv
 obtain rfl:v=x:=hv
 exact h
theorem cJ{k:Env→Prop}{j d:Nat}{r:List (Nat×Nat)}(h: ∀v,(gP φs j).p v g→QU φs es ρ g r ((d,v)::l) k):QU φs es ρ g ((j,d)::r) l k:=fun v hv _=>h v hv
theorem fH{k:Env→Prop}{j d:Nat}{r:List (Nat×Nat)}(hj:es.contains j=true)(h: ∀v,(gP φs j).p v g→ρ j=some v→QU φs es ρ g r ((d,v)::l) k):QU φs es ρ g ((j,d)::r) l k:=fun v hv hr=>h v hv (hr hj)
theorem cH{i:Nat}{js:List (Nat×Nat)}(hj:eQ ops o=js)(hp:es.contains i=false)
  (h: ∀ρ g',(∀(k:Nat) A e,es[k]? =some e→dJ[k]? =some A→i∈A→ρ e=none)→(∀e,es.contains e=true→e∈lb o→ρ e≠none)→gd.le g'→J ρ g'→QU φs es ρ g' js l0 (DK F P N ds ops Q (gP φs i) g' o)):vM F P N ds ops Q φs l0 gd es dJ J i o:=by
 subst hj
 intro ρ g' hf hs _ h2 h3
 refine xp _ _ _ _ (fun env hd=>?_) (h ρ g' h2 h3 hf hs)
 unfold DK at hd
 unfold Ar
 rw[if_neg (by rw[hp];simp)]
 cases hg:mJ ops env o.guard with
 |none=>rw[hg]at hd;exact hd
 |some b=>
  rw[hg]at hd
  cases b with
  |true=>
   refine fun a ha=>Oper.wpIn_mono (fun a' w' ⟨v,he,dP,hw,eO,lB⟩=>⟨v,he,dP,hw,?_,lB⟩) (hd a ha)
   rw[if_neg (by rw[hp];simp)];exact eO
  |false=>exact⟨aZ.refl _,hd⟩
theorem il{i:Nat}{js:List (Nat×Nat)}(hj:eQ ops o=js)(hp:es.contains i=true)
  (h: ∀ρ g',(∀(k:Nat) A e,es[k]? =some e→dJ[k]? =some A→i∈A→ρ e=none)→(∀e,es.contains e=true→e∈lb o→ρ e≠none)→ρ i=none→gd.le g'→J ρ g'→QU φs es ρ g' js l0 fun env=>
   mJ ops env o.guard=some true∧cT F P N ds o env g'.w Q fun v w'=> ∃dP,dP.w=w'∧(g'.le dP∧J (o5 ρ i v) dP)∧(gP φs i).p v dP):vM F P N ds ops Q φs l0 gd es dJ J i o:=by
 subst hj
 intro ρ g' hf hs h1 h2 h3
 refine xp _ _ _ _ (fun env hd=>?_) (h ρ g' h2 h3 (h1 hp) hf hs)
 obtain⟨hg,hd⟩:=hd
 rw[hg]
 refine fun a ha=>Oper.wpIn_mono (fun a' w' ⟨v,he,dP,hw,eO,lB⟩=>⟨v,he,dP,hw,?_,lB⟩) (hd a ha)
 unfold Ar
 rw[if_pos hp];exact eO
theorem qd{tb:Tb}(dn:tb.ok P)(hA:jg F): ∀(kG:List (List Nat)) (hs:List (q_ P g)) (i:Nat) (os:List Oper) (kv:List (Nat×Value)) (us ts:List (Value×Value)) (jQ:List Oper) (i':Nat),
  dG tb ops ks l0 [] kG hs i os kv us=some (ts,jQ,i')→gW ops os kG=true→Bw es i kG.length=true→
  (∀p∈us,p∈ts)∧((∀p∈ts,p.1=p.2)→(∀j v,lk kv j=some v→gP (ks.map FK.fact) j=Fact.eq v)→jC F P N ds ops Q (ks.map FK.fact) l0 g.dr es dJ J i' jQ→jC F P N ds ops Q (ks.map FK.fact) l0 g.dr es dJ J i os)
 |[],hs,i,os,kv,us,ts,jQ,i',h,_,_=>by
  simp only[dG,Option.some.injEq,Prod.mk.injEq]at h
  obtain⟨rfl,rfl,rfl⟩:=h
  exact⟨fun _ h=>h,fun _ _ k=>k⟩
 |_::_,hs,i,[],kv,us,ts,jQ,i',h,_,_=>by simp[dG]at h
 |js::kG,hs,i,o::os,kv,us,ts,jQ,i',h,hn,Cv=>by
  simp only[gW,Bool.and_eq_true,beq_iff_eq]at hn
  obtain⟨C1,C3⟩:=hn
  simp only[List.length_cons,Bw,Bool.and_eq_true]at Cv
  obtain⟨xf,Ao⟩:=Cv
  simp only[dG]at h
  split at h
  ·cases h
  ·rename_i env hZ
   split at h
   ·rename_i x hx
    have su:=sA i hx
    have ud: ∀{v:Value},x=v→(∀j v,lk kv j=some v→gP (ks.map FK.fact) j=Fact.eq v)→ ∀j u,lk ((i,v)::kv) j=some u→gP (ks.map FK.fact) j=Fact.eq u:=by
     rintro v rfl hk j u hu
     by_cases e:i=j
     ·subst e;rw[cK]at hu;obtain rfl:=Option.some.inj hu;exact su
     ·rw[bZ _ _ e]at hu;exact hk j u hu
    have one: ∀{v:Value},x=v→(∀j v,lk kv j=some v→gP (ks.map FK.fact) j=Fact.eq v)→(∀g',g.le g'→DK F P N ds ops Q (Fact.eq v) g' o env)→vM F P N ds ops Q (ks.map FK.fact) l0 g.dr es dJ J i o:=by
     rintro v rfl hk hd
     refine cH rfl (by simpa using xf) fun ρ g' _ _ hf _=>IB _ _ _ ?_
     rw[C1]
     refine pZ hk _ _ _ hZ ?_
     rw[su]
     exact hd g' ((G.bJ _).trans hf)
    split at h
    ·cases h
    ·rename_i hg
     obtain⟨m2,k⟩:=qd dn hA _ _ _ _ _ _ _ _ _ h C3 Ao
     refine⟨fun p hp=>m2 p (List.mem_cons_of_mem _ hp),fun e2 hk hr=>?_⟩
     have he:x=undef:=e2 _ (m2 _ (List.mem_cons_self ..))
     exact⟨one he hk fun g' hf=>qX hg rfl,k e2 (ud he hk) hr⟩
    ·rename_i hg
     cases hh:Pc o.op with
     |true=>
      simp only[hh,cond_true]at h
      split at h
      ·cases h
      ·rename_i s hr
       split at h
       ·rename_i p q v hl
        obtain⟨m2,k⟩:=qd dn hA _ _ _ _ _ _ _ _ _ h C3 Ao
        refine⟨fun p hp=>m2 p (List.mem_cons_of_mem _ (List.mem_cons_of_mem _ hp)),fun e2 hk hr=>?_⟩
        have he:x=v:=e2 _ (m2 _ (List.mem_cons_of_mem _ (List.mem_cons_self ..)))
        obtain rfl:p=q:=e2 _ (m2 _ (List.mem_cons_self ..))
        refine⟨one he hk fun g' hf=>az hg ?_,k e2 (ud he hk) hr⟩
        exact ub dn hA (St.start g') ((oY s hf).trans hl) fun g2 wF=>⟨g2,rfl,wF,rfl⟩
       ·cases h
     |false=>
      simp only[hh,cond_false]at h
      split at h
      ·rename_i v hv
       obtain⟨m2,k⟩:=qd dn hA _ _ _ _ _ _ _ _ _ h C3 Ao
       refine⟨fun p hp=>m2 p (List.mem_cons_of_mem _ hp),fun e2 hk hr=>?_⟩
       have he:x=v:=e2 _ (m2 _ (List.mem_cons_self ..))
       exact⟨one he hk fun g' hf=>az hg (nw dn hv ⟨g',rfl,aZ.refl g',rfl⟩),k e2 (ud he hk) hr⟩
      ·cases h
   ·cases h
theorem Um[dN P][hA:jg F]{i i':Nat}{A:List Value}(kG:List (List Nat))(ss:List (q_ P g))(hn:(gW ops os kG&&Bw es i kG.length)=true)(h:mr (dN.tb P) ops ks l0 [] kG ss i os=some (A,A,jQ,i'))
  (k:jC F P N ds ops Q (ks.map FK.fact) l0 g.dr es dJ J i' jQ):jC F P N ds ops Q (ks.map FK.fact) l0 g.dr es dJ J i os:=by
 rw[Bool.and_eq_true]at hn
 unfold mr at h
 split at h
 ·rename_i ts S7 i2 h2
  simp only[Option.some.injEq,Prod.mk.injEq]at h
  obtain⟨rfl,e2,rfl,rfl⟩:=h
  exact(qd dN.ok hA kG ss i os [] [] _ _ _ h2 hn.1 hn.2).2 (mq e2.symm) (fun j v hv=>by simp[lk]at hv) k
 ·cases h
theorem lJ[dN P][jg F]{id:Nat}(ks:List FK)(m:Nat)(outs:List (Nat×Nat))(es:List Nat)(dJ:List (List Nat))(J:(Nat→Option Value)→G→Prop)(hJ: ∀ρ g g',aZ g g'→J ρ g→J ρ g')(zC:J (fun _=>none) g.dr)
  (lH:(nU N ops l0 m&&(es.all fun e=>Nat.blt e m)&&((es.zip dJ).all fun p=>tM ops p.2 p.1)&&outs.all (fun p=>Nat.blt p.1 m&&(dH ops p.1==some p.2)))=true) (hsoft:ot ks)
  (iJ:jC F P N ds ops Q (ks.map FK.fact) l0 g.dr es dJ J 0 (ops.toList.take m))
  (jT: ∀ρ g',g.dr.le g'→J ρ g'→(∀e,es.contains e=true→ρ e≠none)→QU (ks.map FK.fact) es ρ g' outs l0 fun env=>WL F P N ds ops Q (ops.toList.drop m) env g'.w):W F P N ds (.region id ops true) Q l0 g.w:=by
 simp only[Bool.and_eq_true]at lH
 obtain⟨⟨⟨h1,h2⟩,h3⟩,h4⟩:=lH
 exact Hc jg.all dN.mixed (ks.map FK.fact) m outs es dJ J hJ zC h1 h2 h3 (ot.soft hsoft) h4 iJ jT
end Go.K
