/- Parts of the proof, from: Assignments to two places of a map at once: the entry is made first, its value stored later. -/
import Derived.Test.YtebobfdheanknaaGreatDoorYc
import Derived.Test.YtebobfdheanknaaGreatDoorYi
import Derived.Test.YtebobfdheanknaaGreatDoorYd
namespace Go.K
open Go Go.RowKit Go.MapKept
variable {F:Fence} {P:Program} {N:Nat} {ds:List Deferred} {l:Env} {w:World} {Q:Exit→Act→World→Prop} {o:Oper} {g0 g:G} {L:List cV} {K:Value→World→Prop}
variable {κ:Type} [DecidableEq κ] [fg κ]
omit [fg κ] in
def tr(a:κ)(z:Value)(cq:List (κ×Value)):List (κ×Value):=match mf a cq 0 with|some _=>cq|none=>cq++[(a,z)]
omit [fg κ] in
def wK(a:κ)(cq:List (κ×Value)):Nat:=match mf a cq 0 with|some p=>p.1|none=>cq.length
omit [fg κ] in
theorem Gv(a:κ)(z:Value)(cq:List (κ×Value)): ∃v,(tr a z cq)[wK a cq]? =some (a,v):=by
 unfold tr wK
 cases hm:mf a cq 0 with
 |none=>exact⟨z,by simp⟩
 |some p=>
  obtain⟨_,n,h3,h4,_⟩:=nV (i:=p.1) (v:=p.2) hm
  exact⟨p.2,by show cq[p.1]? =_;rw[h3,Nat.zero_add];exact h4⟩
omit [fg κ] in
theorem Ef(a:κ)(z x:Value)(cq:List (κ×Value)):(tr a z cq).set (wK a cq) (a,x)=iX a x cq:=by
 unfold tr wK
 cases hm:mf a cq 0 with
 |none=>rw[(qb hm).2 x];simp
 |some p=>
  obtain⟨_,n,h3,_,h5⟩:=nV (i:=p.1) (v:=p.2) hm
  rw[h5 x];simp only[h3,Nat.zero_add]
theorem xq{T:TypeId}{z:Value}(ht:qJ κ P T z){b:Nat}{cq:List (κ×Value)}(hb:w.heap[b]? =some (et cq))(a:κ):
  (Instr.mapEntry T (.map (some b)) (fg.enc a)).run P w= .ok (.tuple #[(ij a cq).getD z,.int .i64 (wK a cq:Nat)]) (w.putObj b (et (tr a z cq))):=by
 obtain⟨k,e,h1,h2,h3⟩:=ht.kt
 have hf:=run_findKey (P:=P) (w:=w) (l:=lI 0 cq) h2 (mu a cq 0 0)
 simp only[Instr.mapEntry,Sem.run_bind,run_underlying h1,Result.andThen_ok,MapKept.run_getObj_map hb,run_checkKey h2 (fg.key a),List.toList_toArray]
 rw[show(Instr.findKey k (fg.enc a) (lI 0 cq)).run P w=_ from hf]
 cases hm:mf a cq 0 with
 |none=>
  simp only[Result.andThen_ok,Sem.run_bind,h3]
  rw[run_setObj_map _ hb]
  simp only[Result.andThen_ok,Sem.run_pure]
  unfold tr wK
  rw[hm,(qb hm).1]
  unfold World.putObj et
  rw[xk]
  simp[lI,goInt]
 |some p=>
  obtain⟨i,v⟩:=p
  obtain⟨hg,n,h4,h5,h6⟩:=nV hm
  obtain rfl:i=n:=by omega
  have h7:(lI 0 cq)[i]? =some {key:=fg.enc a,val:=v,born:=i}:=by rw[jB,h5];simp
  simp only[Result.andThen_ok,List.getElem?_toArray,h7,Option.map_some,Option.getD_some,Instr.keyThatStays,fg.bits,if_true,Sem.run_bind,Sem.run_pure]
  rw[run_setObj_map _ hb]
  simp only[Result.andThen_ok]
  unfold tr wK
  rw[hm,hg]
  unfold World.putObj et
  have e:(lI 0 cq).toArray.modify i (fun e=>{e with key:=fg.enc a})=(lI 0 cq).toArray:=by
   apply Array.ext'
   rw[Array.toList_modify]
   simp only[List.toList_toArray]
   apply List.ext_getElem?
   intro j
   rw[List.getElem?_modify]
   by_cases hj:i=j
   ·subst hj
    rw[h7];simp
   ·simp[hj]
  rw[e]
  rfl
theorem ug{T:TypeId}{b:Nat}{cq:List (κ×Value)}(hb:w.heap[b]? =some (et cq)){n:Nat}{a:κ}{v:Value}(hn:cq[n]? =some (a,v))(x:Value):
  (Instr.entryStore T (.map (some b)) (.int .i64 (n:Nat)) x).run P w= .ok () (w.putObj b (et (cq.set n (a,x)))):=by
 have ha:(asInt (.int .i64 (n:Nat))).run P w= .ok (n:Int) w:=by simp[asInt,asIntOf]
 simp only[Instr.entryStore,Sem.run_bind,Result.andThen_ok,MapKept.run_getObj_map hb,ha]
 have hi:(lI 0 cq).toArray.findIdx? (fun e=>(e.born:Int)==(n:Int))=some n:=by
  have bh:=(List.getElem?_eq_some_iff.1 hn).1
  rw[List.findIdx?_toArray,List.findIdx?_eq_some_iff_getElem]
  refine⟨by rw[Bv];exact bh,?_,?_⟩
  ·have:=jB cq 0 n
   rw[hn]at this
   rw[(List.getElem?_eq_some_iff.1 this).2];simp
  ·intro j hj
   have:=jB cq 0 j
   rw[List.getElem?_eq_getElem (by omega:j<cq.length)]at this
   rw[(List.getElem?_eq_some_iff.1 this).2];simp;omega
 rw[hi]
 simp only[Result.andThen_ok]
 rw[run_setObj_map _ hb]
 unfold World.putObj et
 congr 3
 rw[List.length_set]
 congr 1
 apply Array.ext'
 rw[Array.toList_modify]
 simp only[List.toList_toArray]
 apply List.ext_getElem?
 intro j
 rw[List.getElem?_modify,jB,jB,List.getElem?_set]
 by_cases hj:n=j
 ·subst hj
  obtain⟨bh,hv⟩:=List.getElem?_eq_some_iff.1 hn
  simp[bh,hv]
 ·simp[hj]
theorem wL{T:TypeId}{z:Value}(ht:qJ κ P T z)(i:Nat){m kk:Operand}{b:Nat}{cq:List (κ×Value)}{a:κ}(ho:o.op= .mapEntry T m kk)(hs:St g0 g L)(hi:L[i]? =some (.obj b (et cq)))
  (hm:ev l m=some (.map (some b))) (hk:ev l kk=some (fg.enc a)) (k: ∀g',St g0 g' (L.set i (.obj b (et (tr a z cq))))→g.le g'→K (.tuple #[(ij a cq).getD z,.int .i64 (wK a cq:Nat)]) g'.w):cT F P N ds o l g.w Q K:=by
 have hh:=(hs.own i _ hi).2.1
 have h:=hs.po hi (o':=et (tr a z cq))
 have hr:=xq ht hh a
 refine bG (w':=(g.po b (et (tr a z cq))).w) (fun c=>⟨by rw[ho];simp,by rw[ho];simp⟩) (fun ac ha=> ?_) (k _ h.1 h.2)
 simp only[execOp,ho,ha.ev hm,ha.ev hk,Sem.run_bind,hr];rfl
theorem tu{T:TypeId}(i:Nat){m s x:Operand}{b n:Nat}{cq:List (κ×Value)}{a:κ}{v u:Value}(ho:o.op= .entryStore T m s x)(hs:St g0 g L)(hi:L[i]? =some (.obj b (et cq)))(hn:cq[n]? =some (a,u))
  (hm:ev l m=some (.map (some b))) (hk:ev l s=some (.int .i64 (n:Nat))) (hx:ev l x=some v) (k: ∀g',St g0 g' (L.set i (.obj b (et (cq.set n (a,v)))))→g.le g'→K undef g'.w):cT F P N ds o l g.w Q K:=by
 have hh:=(hs.own i _ hi).2.1
 have h:=hs.po hi (o':=et (cq.set n (a,v)))
 have hr:=ug (P:=P) (T:=T) hh hn v
 refine pS (w':=(g.po b (et (cq.set n (a,v)))).w) (fun c=>⟨by rw[ho];simp,by rw[ho];simp⟩) (fun ac ha=> ?_) (k _ h.1 h.2)
 simp only[execOp,ho,ha.ev hm,ha.ev hk,ha.ev hx,Sem.run_bind,hr];rfl
end Go.K
namespace Go.Proofs.YtebobfdheanknaaGreatDoor
open Go Go.K
set_option maxRecDepth 10000
attribute [local irreducible] W WL cT bu bX bA bB bD cW cG
set_option maxHeartbeats 1000000
def mB(n:Int):Bool:=decide (1≤n)&&decide (n≤1000000)
theorem tp(n:Int)(g:G):CallsIn Wd 0 Tryz.prog 60 #[.int .i64 n] g.w (cR g fun _ r=>r= .bool (mB n)):=by
 have hs:=St.start g
 refine enter Tryz.func60 rfl Tryz.ntmps60 rfl ?_
 refine aX rfl ?_;refine cP 3 rfl ?_
 unfold mB
 cases decide (1≤n)with
 |true=>
  refine ba rfl ?_
  exact aF (aV rfl rfl (hs.ret rfl))
 |false=>
  refine ba rfl ?_
  exact aF (aV rfl rfl (hs.ret rfl))
abbrev MP:=List (Int×Int)
def iv(m:MP):List (Int×Value):=m.map fun p=>(p.1,.int .i64 p.2)
def ig(a:Int):MP→Option Int
 |[]=>none
 |(k,v)::r=>if a=k then some v else ig a r
def ip(a x:Int):MP→MP
 |[]=>[(a,x)]
 |(k,v)::r=>if a=k then(k,x)::r else(k,v)::ip a x r
theorem Ed(a:Int): ∀m:MP,ij a (iv m)=(ig a m).map (Value.int .i64)
 |[]=>rfl
 |(k,v)::r=>by
  show(if a=k then some (Value.int .i64 v)else ij a (iv r))=(if a=k then some v else ig a r).map _
  split
  ·rfl
  ·exact Ed a r
theorem zX(a x:Int): ∀m:MP,iX a (.int .i64 x) (iv m)=iv (ip a x m)
 |[]=>rfl
 |(k,v)::r=>by
  show(if a=k then(k,.int .i64 x)::iv r else(k,.int .i64 v)::iX a (.int .i64 x) (iv r))=iv (if a=k then(k,x)::r else(k,v)::ip a x r)
  split
  ·rfl
  ·rw[zX a x r];rfl
def FP(m:MP)(k:Int):Int:=(ig k m).getD k
theorem Ee:qJ Int Tryz.prog 170 (.int .i64 0):=by
 have h:=zw (P:=Tryz.prog) (κ:=Int) T.ok (T:=170) rfl rfl rfl rfl rfl
 exact h
theorem qT(b:Nat)(m:MP)(k:Int)(g:G)(hm:g.w.heap[b]? =some (et (iv m))):CallsIn Wd 0 Tryz.prog 115 #[.map (some b),.int .i64 k] g.w (cR g fun _ r=>r= .int .i64 (FP m k)):=by
 have hs:=St.start g
 refine enter Tryz.func115 rfl Tryz.ntmps115 rfl ?_
 refine aX rfl ?_;apply aB;refine cP 2 rfl ?_
 refine an rfl rfl (l_ Ee rfl hm rfl (a:=k) rfl ?_)
 have hg:=Ed k m
 unfold FP
 cases Nb:ig k m with
 |none=>
  rw[Nb]at hg
  refine cE (.tuple #[.int .i64 0,.bool false]) (t:=10) rfl (by rw[hg];rfl) ?_
  refine ba rfl ?_;refine aX rfl ?_
  refine aS rfl rfl ?_
  apply aE;apply au;refine aX rfl ?_
  exact aF (aV rfl rfl (hs.ret rfl))
 |some z=>
  rw[Nb]at hg
  refine cE (.tuple #[.int .i64 z,.bool true]) (t:=10) rfl (by rw[hg];rfl) ?_
  refine ba rfl ?_;refine aX rfl ?_
  refine aJ rfl rfl ?_
  refine aX rfl ?_
  exact aF (aV rfl rfl (hs.ret rfl))
def tq(f:bc)(m:MP):MP:=ip f.oth (FP m f.waf) (ip f.waf (FP m f.oth) m)
theorem Jk(x:bc)(b1 bm:Nat)(m:MP){g0 g:G}{L:List cV}(aC:EP g b1 0 [.map (some bm)])(hs:St g0 g (.obj bm (et (iv m))::L)):
  CallsIn Wd 0 Tryz.prog 195 #[fv x,.pointer (some ⟨b1,0,none⟩)] g.w (eu g fun g' r=>r= .tuple #[]∧St g0 g' (.obj bm (et (iv (tq x m)))::L)):=by
 have aq:=G.le.refl g
 refine enter Tryz.func195 rfl Tryz.ntmps195 rfl ?_
 apply c_
 refine an rfl rfl (aR rfl hs rfl rfl ?_);clear hs;rintro b2 g1 hs ah;obtain⟨aq,aC⟩:=cC ah aq aC
 obtain⟨g2,bR,aU,ah,aL⟩:=hs.a_ (i:=0) rfl;replace hs:=aU;clear aU;rw[←bR];obtain⟨aq,aC⟩:=cC ah aq aC
 have aP:=aL;clear aL
 replace hs:St g0 _ (.obj bm (et (iv m))::L):=hs
 apply cf
 obtain⟨u,hu⟩:=Gv x.waf (.int .i64 0) (iv m)
 apply pw (fj (.e (.int .i64 x.oth):: .e (.int .i64 (FP m x.oth))::eJ (.e (.int .i64 x.waf):: .e (.int .i64 (FP m x.waf)):: .e (.tuple #[((ij x.waf (iv m)).getD (.int .i64 0)),.int .i64 (wK x.waf (iv m):Nat)])::fe (.f Fact.any::[])))) 17 [(3,6),(5,8),(13,16)] [14,16] [[0,1,2,6,7,8,9,10,11,12,13],[0,1,2,6,7,8,9,10,11,12,13,14,15]]
  (fun s=>match s with|0=> .obj bm (et (iv m))::L|1=> .obj bm (et (tr x.waf (.int .i64 0) (iv m)))::L|_+2=> .obj bm (et (iX x.waf (.int .i64 (FP m x.oth)) (iv m)))::L) hs (by kernel_rfl) ⟨cY,trivial⟩
 ·refine Lm [[],[],[1],[],[],[4],[],[],[7]] [.z aC,.z aP,.z aC,.z aP,.z aC,.z aP] (by kernel_rfl) rfl ?_
  refine dk (kM 0 0 (js:=[(6,9),(8,11)]) (by kernel_rfl) (by kernel_rfl) ?_) ?_
  ·intro s g' _ h1 hf hJ
   obtain rfl:s=0:=by omega
   exact ai rfl (ai rfl (aj (az rfl (ay Dd aI rfl rfl rfl rfl rfl (qT bm m (x.oth) g' (hJ.own 0 _ rfl).2.1) fun g3 v h1 h2=>⟨g3,rfl,h1,h2⟩))))
  refine Lm [[],[],[11]] [.z aC,.z aP] (by kernel_rfl) rfl ?_
  refine dk (kM 0 0 (js:=[(10,13),(12,15)]) (by kernel_rfl) (by kernel_rfl) ?_) ?_
  ·intro s g' _ h1 hf hJ
   obtain rfl:s=0:=by omega
   exact ai rfl (ai rfl (aj (az rfl (ay Dd aI rfl rfl rfl rfl rfl (qT bm m (x.waf) g' (hJ.own 0 _ rfl).2.1) fun g3 v h1 h2=>⟨g3,rfl,h1,h2⟩))))
  refine dk (vk 0 (js:=[(0,3),(2,5)]) (by kernel_rfl) rfl fun g' hf hJ=>ai rfl (ai rfl (aj (qL rfl (wL Ee 0 rfl hJ rfl rfl (a:=x.waf) rfl fun g3 hs hle=>⟨g3,rfl,⟨hle,hs⟩,rfl⟩))))) ?_
  refine Lm [[14]] [] (by kernel_rfl) rfl ?_
  refine dk (vk 1 (js:=[(0,3),(15,18),(9,12),(0,3),(9,12)]) (by kernel_rfl) rfl fun g' hf hJ=>ai rfl (ai rfl (ai rfl (ai rfl (ai rfl (aj (qL rfl (tu 0 rfl hJ rfl hu rfl rfl rfl fun g3 hs hle=>⟨g3,rfl,⟨hle,?_⟩,trivial⟩)))))))) ?_
  ·rw[Ef]at hs;exact hs
  exact xT
 clear hs;intro g6 hs ah;replace aq:=G.le.trans aq ah
 refine ai rfl (ai rfl (ai rfl (aj ?_)))
 refine bg rfl (dC Ee 0 (.inl rfl) hs rfl rfl (a:=x.oth) rfl rfl ?_)
 clear hs;intro g7 hs ah;replace aq:=G.le.trans aq ah
 replace hs:St g0 g7 (.obj bm (et (iX x.oth (.int .i64 (FP m x.waf)) (iX x.waf (.int .i64 (FP m x.oth)) (iv m))))::L):=hs
 rw[zX,zX]at hs
 apply aD
 exact k5 rfl (eu.intro aq ⟨rfl,hs⟩)
def NB(time:Int)(f:bc):Bool:=(mB f.waf&&mB f.oth)&&decide (f.time≤time)
theorem NC(x:bc)(time:Int)(b1:Nat)(g:G)(aC:EP g b1 0 [.int .i64 time]):CallsIn Wd 0 Tryz.prog 196 #[fv x,.pointer (some ⟨b1,0,none⟩)] g.w (cR g fun _ r=>r= .bool (NB time x)):=by
 have hs:=St.start g
 have aq:=G.le.refl g
 refine enter Tryz.func196 rfl Tryz.ntmps196 rfl ?_
 apply c_
 refine an rfl rfl (aR rfl hs rfl rfl ?_);clear hs;rintro b2 g1 hs ah;replace aC:=aC.mono ah
 obtain⟨g2,bR,aU,ah,aL⟩:=hs.a_ (i:=0) rfl;replace hs:=aU;clear aU;rw[←bR];replace aC:=aC.mono ah
 have aP:=aL;clear aL
 refine ba rfl ?_;refine dx 2 [.z aP] (St.start _) rfl ?_
 refine an rfl rfl (ay wj aI rfl rfl rfl rfl rfl (tp x.waf _) ?_);rintro g1 _ aN rfl;replace hs:=hs.call aN;have ah:=aN.le;obtain⟨aC,aP⟩:=cC ah aC aP
 unfold NB
 cases mB x.waf with
 |false=>
  refine ba rfl ?_
  exact aF (aV rfl rfl (hs.ret rfl))
 |true=>
  refine Wm 3 [.z aP] (St.start _) rfl ?_
  clear aN
  refine an rfl rfl (ay wj aI rfl rfl rfl rfl rfl (tp x.oth _) ?_);rintro g1 _ aN rfl;replace hs:=hs.call aN;have ah:=aN.le;obtain⟨aC,aP⟩:=cC ah aC aP
  cases mB x.oth with
  |false=>
   refine ba rfl ?_
   exact aF (aV rfl rfl (hs.ret rfl))
  |true=>
   refine A3 [.z aP,.z aC] (St.start _) rfl ?_
   exact aF (aV rfl rfl (hs.ret rfl))
def DX(b:fX):Prop:=∀i,(b.ls i).length≤1000000
def wM(b:fX)(time:Int):MP:=(dK wJ (b.C7.filter (NB time))).foldl (fun m f=>tq f m) []
theorem QG(v:Value)(b:fX)(time:Int)(g:G)(bI:iI g v b)(hb:DX b):CallsIn Wd 0 Tryz.prog 114 #[v,.int .i64 time] g.w (cR g fun g' r=> ∃bm,r= .map (some bm)∧sR g' bm (iv (wM b time))):=by
 have hs:=St.start g
 have aq:=G.le.refl g
 obtain⟨sl,rfl,jr⟩:=bI
 have aH:=jr 2 (by decide)
 refine enter Tryz.func114 rfl Tryz.ntmps114 rfl ?_
 apply c_
 refine an rfl rfl (aR rfl hs rfl rfl ?_);clear hs;rintro b2 g1 hs ah;obtain⟨aq,aH⟩:=cC ah aq aH
 obtain⟨g2,bR,aU,ah,aL⟩:=hs.a_ (i:=0) rfl;replace hs:=aU;clear aU;rw[←bR];obtain⟨aq,aH⟩:=cC ah aq aH
 have aC:=aL;clear aL
 skip
 refine an rfl rfl (aR rfl hs rfl rfl ?_);clear hs;rintro b3 g1 hs ah;obtain⟨aq,aC,aH⟩:=ef ah aq aC aH
 obtain⟨g2,bR,aU,ah,aL⟩:=hs.a_ (i:=0) rfl;replace hs:=aU;clear aU;rw[←bR];obtain⟨aq,aC,aH⟩:=ef ah aq aC aH
 have aP:=aL;clear aL
 refine ba rfl ?_;apply c_
 refine an rfl rfl (jH (κ:=Int) rfl hs ?_)
 clear hs;intro bm g1 hs ah;obtain⟨aq,aC,aP,aH⟩:=dE ah aq aC aP aH
 refine an rfl rfl (aK T.ok rfl hs rfl rfl ?_);clear hs;rintro b5 g1 hs ah;obtain⟨aq,aC,aP,aH⟩:=dE ah aq aC aP aH
 refine bg rfl (aA T.ok 0 rfl hs rfl rfl rfl rfl rfl rfl rfl rfl rfl ?_);replace hs:=hs;rintro g1 hs ah;obtain⟨aq,aC,aP,aH⟩:=dE ah aq aC aP aH
 obtain⟨g2,bR,aU,ah,aL⟩:=hs.a_ (i:=0) rfl;replace hs:=aU;clear aU;rw[←bR];obtain⟨aq,aC,aP,aH⟩:=dE ah aq aC aP aH
 have dO:=aL;clear aL
 replace hs:St g _ [.obj bm (et (iv []))]:=hs
 apply cf;refine aX rfl ?_;apply aB;refine dx 3 [.z aC] (St.start _) rfl ?_
 refine an rfl rfl (ay HC aI rfl rfl rfl rfl rfl (vt _ _ b.C7 (NB time) _ aH (hb 2) (fun g' x _ h=>de (first:=#[]) (args:=[fv x]) (captured:=#[.pointer (some ⟨b3,0,none⟩)]) L_ rfl (NC x time b3 g' (aP.mono h)))) ?_);rintro g1 _ aN aT;replace hs:=hs.call aN;have ah:=aN.le;obtain⟨aq,aC,aP,dO⟩:=dE ah aq aC aP dO
 unfold wM
 generalize dK wJ (b.C7.filter (NB time))=l at*
 obtain⟨a,c,rfl⟩:=aT.isSlice
 have hlen:=aT.dU
 unfold maxLen at hlen
 clear aH aC aP aN
 refine ba rfl ?_;apply aG
 refine bS (fun m a' w=> ∃(i:Nat) (g':G),w=g'.w∧St g g' [.obj bm (et (iv ((l.take i).foldl (fun m f=>tq f m) [])))]∧G.le g g'∧Rs g' (.slice a l.length c) l∧EP g' b5 0 [.map (some bm)]∧i≤l.length∧m=l.length-i∧
   Fr 25 [] [(5,.pointer (some ⟨b5,0,none⟩)),(6,.func (.func 195) #[] #[.pointer (some ⟨b5,0,none⟩)]),(14,.slice a l.length c),(15,.int .i64 (l.length:Nat)),(16,.int .i64 (i:Nat))] a') l.length
  (fun a' ha=>⟨0,_,rfl,hs,aq,aT,dO,Nat.zero_le _,rfl,ha.keep (by(repeat (first|exact trivial|refine⟨rfl,?_⟩)))⟩) ?_
 clear hs aT aq dO
 rintro m a' _ ⟨i,g',rfl,hs,aq,aT,dO,hi,rfl,eI⟩
 revert a'
 apply cQ;refine aX rfl ?_;apply aB
 by_cases bh:i<l.length
 ·refine aJ (b:=decide ((i:Int)<(l.length:Int))) (decide_eq_true (by omega)) rfl ?_
  have ic:dA l (i:Int)=some l[i]:=cU rfl bh
  have fw:(l.take (i+1)).foldl (fun m f=>tq f m) []=tq l[i] ((l.take i).foldl (fun m f=>tq f m) []):=by
   rw[List.take_add_one,List.getElem?_eq_getElem bh,List.foldl_append];rfl
  generalize(l.take i).foldl (fun m f=>tq f m) []=M at*
  generalize l[i]=x at*
  apply aE;apply au;apply aB;apply aG;apply c_
  refine an rfl rfl (aW T.ok rfl aT (y:=x) ic rfl rfl rfl rfl rfl rfl ?_)
  rintro b q ys aL rfl
  have aC:=aL;clear aL
  refine Wm 1 [.e aC 0] (St.start _) rfl ?_
  refine an rfl rfl (aK T.ok rfl hs rfl rfl ?_);clear hs;rintro b8 g1 hs ah;obtain⟨aq,dO,aT⟩:=ef ah aq dO aT
  refine bg rfl (aA T.ok 0 rfl hs rfl rfl rfl rfl rfl rfl rfl rfl rfl ?_);replace hs:=hs;rintro g1 hs ah;obtain⟨aq,dO,aT⟩:=ef ah aq dO aT
  obtain⟨g2,bR,aU,ah,aL⟩:=hs.a_ (i:=0) rfl;replace hs:=aU;clear aU;rw[←bR];obtain⟨aq,dO,aT⟩:=ef ah aq dO aT
  have aP:=aL;clear aL
  replace hs:St g _ [.obj bm (et (iv M))]:=hs
  apply cf;apply ar;refine Wm 2 [.z aP] (St.start _) rfl ?_
  refine an rfl rfl (dv L9 aI rfl rfl rfl rfl rfl (Jk x b5 bm M dO hs) ?_)
  clear hs
  rintro g6 _ ah ⟨rfl,hs⟩;obtain⟨aq,dO,aT⟩:=ef ah aq dO aT
  apply aD;apply bU;apply au;apply ar;refine Wp 2 rfl ?_;apply aD
  exact fun a ha=>⟨l.length-(i+1),by omega,i+1,g6,rfl,by rw[fw];exact hs,aq,aT,dO,by omega,rfl,ha.keep ⟨rfl,rfl,rfl,rfl,kI rfl (by rw[wr (by omega) (by omega)];omega),trivial⟩⟩
 ·refine aS (b:=decide ((i:Int)<(l.length:Int))) (decide_eq_false (by omega)) rfl ?_
  rw[List.take_of_length_le (by omega)]at hs
  apply bE;apply bK;apply bK;apply dc;apply au;refine nK [.z dO] (St.start _) rfl ?_
  obtain⟨g7,BZ,B0,ah,hm⟩:=DP hs (i:=0) rfl
  rw[←BZ]
  exact aF (aV rfl rfl (B0.ret ⟨bm,rfl,hm⟩))
def zV(b:fX)(mark time:Int):Int:=if mB mark then FP (wM b time) mark else 0
theorem Ib(v:Value)(b:fX)(mark time:Int)(g:G)(bI:iI g v b)(hb:DX b):CallsIn Wd 0 Tryz.prog 44 #[v,.int .i64 mark,.int .i64 time] g.w (cR g fun _ r=>r= .int .i64 (zV b mark time)):=by
 have hs:=St.start g
 have aq:=G.le.refl g
 obtain⟨sl,rfl,jr⟩:=bI
 have bI:iI g (.agg ((List.range 11).map sl).toArray) b:=⟨sl,rfl,jr⟩
 refine enter Tryz.func44 rfl Tryz.ntmps44 rfl ?_
 apply c_
 refine an rfl rfl (aR rfl hs rfl rfl ?_);clear hs;rintro b2 g1 hs ah;replace bI:=bI.mono ah
 obtain⟨g2,bR,aU,ah,aL⟩:=hs.a_ (i:=0) rfl;replace hs:=aU;clear aU;rw[←bR];replace bI:=bI.mono ah
 have aC:=aL;clear aL
 refine ba rfl ?_;apply aB;refine cP 1 rfl ?_
 refine an rfl rfl (ay wj aI rfl rfl rfl rfl rfl (tp mark _) ?_);rintro g1 _ aN rfl;replace hs:=hs.call aN;have ah:=aN.le;obtain⟨aC,bI⟩:=cC ah aC bI
 unfold zV
 cases mB mark with
 |false=>
  refine ba rfl ?_
  refine aJ rfl rfl ?_
  refine aX rfl ?_
  exact aF (aV rfl rfl (hs.ret rfl))
 |true=>
  refine ba rfl ?_
  refine aS rfl rfl ?_
  apply aE;apply au;refine dx 2 [.z aC] (St.start _) rfl ?_
  clear aN
  refine an rfl rfl (ay Lj aI rfl rfl rfl rfl rfl (QG _ b time _ bI hb) ?_);rintro g1 _ aN ⟨bm,rfl,hm⟩;replace hs:=hs.call aN;have ah:=aN.le
  refine Wp 1 rfl ?_
  clear aN
  refine an rfl rfl (ay Dd aI rfl rfl rfl rfl rfl (qT bm (wM b time) mark _ hm.2) ?_);rintro g2 _ aN rfl;replace hs:=hs.call aN
  refine ba rfl ?_
  exact aF (aV rfl rfl (hs.ret rfl))
end Go.Proofs.YtebobfdheanknaaGreatDoor
namespace Go.Proofs.YtebobfdheanknaaGreatDoor
open Go Go.K
set_option maxRecDepth 10000
attribute [local irreducible] W WL cT bu bX bA bB bD cW cG
set_option maxHeartbeats 1000000
def pF(b:fX)(w:Int):List bc:=if mB w then dK wJ (b.procs.filter fun f=>zV b f.waf f.time==w)else []
theorem Gw(x:bc)(_v:Value)(b:fX)(w:Int)(b1 b2:Nat)(sl:Nat→Value)(g:G)(aC:EP g b1 0 ((List.range 11).map sl))(aP:EP g b2 0 [.int .i64 w])(bI:iI g (.agg ((List.range 11).map sl).toArray) b)(hb:DX b):
  CallsIn Wd 0 Tryz.prog 117 #[fv x,.pointer (some ⟨b1,0,none⟩),.pointer (some ⟨b2,0,none⟩)] g.w (cR g fun _ r=>r= .bool (zV b x.waf x.time==w)):=by
 have hs:=St.start g
 have aq:=G.le.refl g
 refine enter Tryz.func117 rfl Tryz.ntmps117 rfl ?_
 apply c_
 refine an rfl rfl (aR rfl hs rfl rfl ?_);clear hs;rintro b3 g1 hs ah;obtain⟨aC,aP,bI⟩:=ef ah aC aP bI
 obtain⟨g2,bR,aU,ah,aL⟩:=hs.a_ (i:=0) rfl;replace hs:=aU;clear aU;rw[←bR];obtain⟨aC,aP,bI⟩:=ef ah aC aP bI
 have dO:=aL;clear aL
 refine ba rfl ?_;apply aB
 apply bO hs (fj []) 8 [(7,12)] (by kernel_rfl) rfl
 ·exact Dz [[],[],[1],[],[3],[0,2,4],[],[5,6]] [.z aC,.z dO,.z dO,.c KX fun g' h=>Ib (.agg ((List.range 11).map sl).toArray) b x.waf x.time g' (bI.mono h) hb,.z aP] hs (by kernel_rfl) rfl
 clear hs;intro g6 hs ah
 refine ba rfl ?_
 exact aF (aV rfl rfl (hs.ret rfl))
theorem D3(v:Value)(b:fX)(w:Int)(g:G)(bI:iI g v b)(hb:DX b):CallsIn Wd 0 Tryz.prog 45 #[v,.int .i64 w] g.w (cR g fun g' r=>Rs g' r (pF b w)):=by
 have hs:=St.start g
 have aq:=G.le.refl g
 obtain⟨sl,rfl,jr⟩:=bI
 have bI:iI g (.agg ((List.range 11).map sl).toArray) b:=⟨sl,rfl,jr⟩
 have aH:=jr 0 (by decide)
 refine enter Tryz.func45 rfl Tryz.ntmps45 rfl ?_
 apply c_
 refine an rfl rfl (aR rfl hs rfl rfl ?_);clear hs;rintro b2 g1 hs ah;obtain⟨aH,bI⟩:=cC ah aH bI
 obtain⟨g2,bR,aU,ah,aL⟩:=hs.a_ (i:=0) rfl;replace hs:=aU;clear aU;rw[←bR];obtain⟨aH,bI⟩:=cC ah aH bI
 have aC:=aL;clear aL
 skip
 refine an rfl rfl (aR rfl hs rfl rfl ?_);clear hs;rintro b3 g1 hs ah;obtain⟨aC,aH,bI⟩:=ef ah aC aH bI
 obtain⟨g2,bR,aU,ah,aL⟩:=hs.a_ (i:=0) rfl;replace hs:=aU;clear aU;rw[←bR];obtain⟨aC,aH,bI⟩:=ef ah aC aH bI
 have aP:=aL;clear aL
 refine ba rfl ?_;apply aB;refine dx 1 [.z aP] (St.start _) rfl ?_
 refine an rfl rfl (ay wj aI rfl rfl rfl rfl rfl (tp w _) ?_);rintro g1 _ aN rfl;replace hs:=hs.call aN;have ah:=aN.le;obtain⟨aC,aP,aH,bI⟩:=dE ah aC aP aH bI
 unfold pF
 cases mB w with
 |false=>
  refine ba rfl ?_
  refine aJ rfl rfl ?_
  refine aX rfl ?_
  exact aF (aV rfl rfl (hs.ret (Rs.nil _)))
 |true=>
  refine ba rfl ?_
  refine aS rfl rfl ?_
  apply aE;apply au;refine dx 3 [.z aC] (St.start _) rfl ?_
  clear aN
  refine an rfl rfl (ay HC aI rfl rfl rfl rfl rfl (vt _ _ b.procs (fun f=>zV b f.waf f.time==w) _ aH (hb 0) (fun g' x _ h=>de (first:=#[]) (args:=[fv x]) (captured:=#[.pointer (some ⟨b2,0,none⟩),.pointer (some ⟨b3,0,none⟩)]) Lk rfl (Gw x (.agg ((List.range 11).map sl).toArray) b w b2 b3 sl g' (aC.mono h) (aP.mono h) (bI.mono h) hb))) ?_);rintro g1 _ aN aT;replace hs:=hs.call aN;have ah:=aN.le
  refine ba rfl ?_
  exact aF (aV rfl rfl (hs.ret aT))
def zY(w time:Int)(f:bc):Bool:=((mB w&&f.waf==w)&&decide (f.time≤time))
def n5(w time:Int)(o:Option bc)(f:bc):Option bc:=if zY w time f&&(match o with|none=>true|some h=>decide (h.time<f.time))then some f else o
def pG(b:fX)(w time:Int):Option bc:=b.jw.foldl (n5 w time) none
def yd(g:G)(v:Value):Option bc→Prop
 |none=>v= .pointer none
 |some f=> ∃b p,v= .pointer (some ⟨b,p,none⟩)∧EP g b p (bW f)
theorem yd.mono{g g':G}{v:Value}: ∀{o:Option bc},yd g v o→g.le g'→yd g' v o
 |none,h,_=>h
 |some _,⟨b,p,e,h⟩,hle=>⟨b,p,e,h.mono hle⟩
theorem D4(v:Value)(b:fX)(w time:Int)(g:G)(bI:iI g v b):CallsIn Wd 0 Tryz.prog 26 #[v,.int .i64 w,.int .i64 time] g.w (cR g fun _ r=>r= .tuple #[.int .i64 ((pG b w time).getD gF).lot,.int .i64 ((pG b w time).getD gF).prod]):=by
 have hs:=St.start g
 have aq:=G.le.refl g
 obtain⟨sl,rfl,jr⟩:=bI
 have aH:Rs g (sl 3) b.jw:=jr 3 (by decide)
 obtain⟨a,c,uT⟩:=aH.isSlice
 have hlen:=aH.dU
 unfold maxLen at hlen
 refine enter Tryz.func26 rfl Tryz.ntmps26 rfl ?_
 apply c_
 refine an rfl rfl (aR rfl hs rfl rfl ?_);clear hs;rintro b2 g1 hs ah;obtain⟨aq,aH⟩:=cC ah aq aH
 obtain⟨g2,bR,aU,ah,aL⟩:=hs.a_ (i:=0) rfl;replace hs:=aU;clear aU;rw[←bR];obtain⟨aq,aH⟩:=cC ah aq aH
 have aC:=aL;clear aL
 refine ba rfl ?_;refine aX rfl ?_;apply aB;refine dx 2 [.z aC] (St.start _) rfl ?_
 refine cE (.slice a b.jw.length c) (t:=12) rfl uT ?_
 rw[uT]at aH
 refine ba rfl ?_;apply aG
 replace hs:St g _ []:=hs
 refine bS (fun m a' w'=> ∃(i:Nat) (v8:Value) (o:Option bc) (g':G),w'=g'.w∧St g g' []∧G.le g g'∧Rs g' (.slice a b.jw.length c) b.jw∧EP g' b2 0 ((List.range 11).map sl)∧yd g' v8 o∧i≤b.jw.length∧(b.jw.take i).foldl (n5 w time) none=o∧m=b.jw.length-i∧
   Fr 61 [] [(1,.int .i64 w),(2,.int .i64 time),(3,.pointer (some ⟨b2,0,none⟩)),(8,v8),(12,.slice a b.jw.length c),(13,.int .i64 (b.jw.length:Nat)),(14,.int .i64 (i:Nat))] a') b.jw.length
  (fun a' ha=>⟨0,.pointer none,none,_,rfl,hs,aq,aH,aC,rfl,Nat.zero_le _,rfl,rfl,ha.keep (by(repeat (first|exact trivial|refine⟨rfl,?_⟩)))⟩) ?_
 clear hs aH aq aC
 rintro m a' _ ⟨i,v8,o,g',rfl,hs,aq,aH,aC,rY,hi,ly,rfl,eI⟩
 revert a'
 apply cQ;refine aX rfl ?_;apply aB
 by_cases bh:i<b.jw.length
 ·refine aJ (b:=decide ((i:Int)<(b.jw.length:Int))) (decide_eq_true (by omega)) rfl ?_
  have ic:dA b.jw (i:Int)=some b.jw[i]:=cU rfl bh
  have fw:(b.jw.take (i+1)).foldl (n5 w time) none=n5 w time o b.jw[i]:=by
   rw[List.take_add_one,List.getElem?_eq_getElem bh,List.foldl_append,ly];rfl
  generalize b.jw[i]=x at*
  clear ly
  apply aE;apply au;apply aB;apply aG;refine cP 1 rfl ?_
  refine an rfl rfl (aW T.ok rfl aH (y:=x) ic rfl rfl rfl rfl rfl rfl ?_)
  rintro b9 q9 ys aL rfl
  have aP:=aL;clear aL
  refine Wm 1 [.e aP 0] (St.start _) rfl ?_
  refine an rfl rfl (aK T.ok rfl hs rfl rfl ?_);clear hs;rintro IL g1 hs ah;obtain⟨aq,aC,aP,aH⟩:=dE ah aq aC aP aH
  replace rY:=rY.mono ah
  refine Wp 1 rfl ?_
  refine bg rfl (aA T.ok 0 rfl hs rfl rfl rfl rfl rfl rfl rfl rfl rfl ?_);replace hs:=hs;rintro g1 hs ah;obtain⟨aq,aC,aP,aH⟩:=dE ah aq aC aP aH
  replace rY:=rY.mono ah
  obtain⟨g2,bR,aU,ah,aL⟩:=hs.a_ (i:=0) rfl;replace hs:=aU;clear aU;rw[←bR];obtain⟨aq,aC,aP,aH⟩:=dE ah aq aC aP aH
  replace rY:=rY.mono ah
  clear aP
  have aP:=aL;clear aL
  replace hs:St g _ []:=hs
  apply cf;apply aB
  have hid:=fun g'=>tp w g'
  cases h1:mB w with
  |false=>
   simp only[h1]at hid
   apply bO hs (fj (fj (fj (eJ (fe []))))) 27 [(26,45)] (by kernel_rfl) rfl
   ·exact Dz [[],[0],[1,1],[2],[3,2],[2],[4,5,2],[2,6],[7],[8],[9,8],[8],[10,11,8],[8,12],[13],[14],[15,14],[16,14,14],[17],[18,17],[17],[20,17],[21,17],[22,17],[19,23,17],[17,24,14],[14,25]] [.c wj fun g' _=>hid g'] hs (by kernel_rfl) rfl
   clear hs;intro g6 hs ah;obtain⟨aq,aC,aP,aH⟩:=dE ah aq aC aP aH
   replace rY:=rY.mono ah
   apply cf
   refine aS rfl rfl ?_
   apply aE;apply bU;apply au;apply ar;refine Wp 2 rfl ?_;apply aD
   have e:n5 w time o x=o:=by unfold n5 zY;simp[h1]
   rw[e]at fw
   exact fun a ha=>⟨b.jw.length-(i+1),by omega,i+1,v8,o,_,rfl,hs,aq,aH,aC,rY,by omega,fw,rfl,ha.keep ⟨rfl,rfl,rfl,rfl,rfl,rfl,kI rfl (by rw[wr (by omega) (by omega)];omega),trivial⟩⟩
  |true=>
   simp only[h1]at hid
   cases h2:x.waf==w with
   |false=>
    apply bO hs (gE (eJ (.e (.bool false)::fj (fj (gE []))))) 27 [(26,45)] (by kernel_rfl) rfl
    ·refine Dm [[],[0],[1,1],[2],[3,2],[2]] [.c wj fun g' _=>hid g',.z aP] hs (by kernel_rfl) rfl ?_
     refine aw (ak (js:=[(4,23),(5,24),(2,21)]) (by kernel_rfl) fun gd hf=>ai rfl (ai rfl (ai rfl (aj (az rfl (aM _ T.ok rfl ⟨gd,rfl,aZ.refl _,congrArg Value.bool h2⟩)))))) ?_
     exact Dz [[2,6],[7],[8],[9,8],[8],[10,11,8],[8,12],[13],[14],[15,14],[16,14,14],[17],[18,17],[17],[20,17],[21,17],[22,17],[19,23,17],[17,24,14],[14,25]] [] hs (by kernel_rfl) rfl
    clear hs;intro g6 hs ah;obtain⟨aq,aC,aP,aH⟩:=dE ah aq aC aP aH
    replace rY:=rY.mono ah
    apply cf
    refine aS rfl rfl ?_
    apply aE;apply bU;apply au;apply ar;refine Wp 2 rfl ?_;apply aD
    have e:n5 w time o x=o:=by unfold n5 zY;simp[h1,h2]
    rw[e]at fw
    exact fun a ha=>⟨b.jw.length-(i+1),by omega,i+1,v8,o,_,rfl,hs,aq,aH,aC,rY,by omega,fw,rfl,ha.keep ⟨rfl,rfl,rfl,rfl,rfl,rfl,kI rfl (by rw[wr (by omega) (by omega)];omega),trivial⟩⟩
   |true=>
    cases h3:decide (x.time≤time)with
    |false=>
     apply bO hs (gE (eJ (.e (.bool true)::gE (fe (.e (.bool false)::fj (gE (eJ []))))))) 27 [(26,45)] (by kernel_rfl) rfl
     ·refine Dm [[],[0],[1,1],[2],[3,2],[2]] [.c wj fun g' _=>hid g',.z aP] hs (by kernel_rfl) rfl ?_
      refine aw (ak (js:=[(4,23),(5,24),(2,21)]) (by kernel_rfl) fun gd hf=>ai rfl (ai rfl (ai rfl (aj (az rfl (aM _ T.ok rfl ⟨gd,rfl,aZ.refl _,congrArg Value.bool h2⟩)))))) ?_
      refine Dm [[2,6],[7],[8],[9,8],[8]] [.z aP] hs (by kernel_rfl) rfl ?_
      refine aw (ak (js:=[(10,29),(11,30),(8,27)]) (by kernel_rfl) fun gd hf=>ai rfl (ai rfl (ai rfl (aj (az rfl (aM _ T.ok rfl ⟨gd,rfl,aZ.refl _,congrArg Value.bool h3⟩)))))) ?_
      exact Dz [[8,12],[13],[14],[15,14],[16,14,14],[17],[18,17],[17],[20,17],[21,17],[22,17],[19,23,17],[17,24,14],[14,25]] [] hs (by kernel_rfl) rfl
     clear hs;intro g6 hs ah;obtain⟨aq,aC,aP,aH⟩:=dE ah aq aC aP aH
     replace rY:=rY.mono ah
     apply cf
     refine aS rfl rfl ?_
     apply aE;apply bU;apply au;apply ar;refine Wp 2 rfl ?_;apply aD
     have e:n5 w time o x=o:=by unfold n5 zY;simp[h1,h2,of_decide_eq_false h3]
     rw[e]at fw
     exact fun a ha=>⟨b.jw.length-(i+1),by omega,i+1,v8,o,_,rfl,hs,aq,aH,aC,rY,by omega,fw,rfl,ha.keep ⟨rfl,rfl,rfl,rfl,rfl,rfl,kI rfl (by rw[wr (by omega) (by omega)];omega),trivial⟩⟩
    |true=>
     cases o with
     |none=>
      obtain rfl:v8= .pointer none:=rY
      have he:n5 w time none x=some x:=by unfold n5 zY;rw[h1,h2,h3];rfl
      apply bO hs (gE (eJ (.e (.bool true)::gE (fe (.e (.bool true)::fj (gE (eJ []))))))) 27 [(26,45)] (by kernel_rfl) rfl
      ·refine Dm [[],[0],[1,1],[2],[3,2],[2]] [.c wj fun g' _=>hid g',.z aP] hs (by kernel_rfl) rfl ?_
       refine aw (ak (js:=[(4,23),(5,24),(2,21)]) (by kernel_rfl) fun gd hf=>ai rfl (ai rfl (ai rfl (aj (az rfl (aM _ T.ok rfl ⟨gd,rfl,aZ.refl _,congrArg Value.bool h2⟩)))))) ?_
       refine Dm [[2,6],[7],[8],[9,8],[8]] [.z aP] hs (by kernel_rfl) rfl ?_
       refine aw (ak (js:=[(10,29),(11,30),(8,27)]) (by kernel_rfl) fun gd hf=>ai rfl (ai rfl (ai rfl (aj (az rfl (aM _ T.ok rfl ⟨gd,rfl,aZ.refl _,congrArg Value.bool h3⟩)))))) ?_
       refine Dm [[8,12],[13],[14]] [] hs (by kernel_rfl) rfl ?_
       refine aw (ak (js:=[(15,34),(14,33)]) (by kernel_rfl) fun gd hf=>ai rfl (ai rfl (aj (az rfl (gS T.ok (neg:=false) rfl rfl rfl rfl rfl ⟨gd,rfl,aZ.refl _,rfl⟩))))) ?_
       exact Dz [[16,14,14],[17],[18,17],[17],[20,17],[21,17],[22,17],[19,23,17],[17,24,14],[14,25]] [] hs (by kernel_rfl) rfl
      clear hs;intro g6 hs ah;obtain⟨aq,aC,aP,aH⟩:=dE ah aq aC aP aH
      apply cf
      refine aJ rfl rfl ?_
      apply ar;refine Wm 3 [.z aC] (St.start _) rfl ?_
      refine cE (.slice a b.jw.length c) (t:=47) rfl uT ?_
      refine an rfl rfl (aW T.ok rfl aH (y:=x) ic rfl rfl rfl rfl rfl rfl ?_)
      rintro b6 q6 ys aL rfl
      refine Wp 1 rfl ?_;apply aD;apply bU;apply au;apply ar;refine Wp 2 rfl ?_;apply aD
      rw[he]at fw
      exact fun a ha=>⟨b.jw.length-(i+1),by omega,i+1,.pointer (some ⟨b6,q6,none⟩),some x,_,rfl,hs,aq,aH,aC,⟨b6,q6,rfl,aL⟩,by omega,fw,rfl,ha.keep ⟨rfl,rfl,rfl,rfl,rfl,rfl,kI rfl (by rw[wr (by omega) (by omega)];omega),trivial⟩⟩
     |some h=>
      obtain⟨b8,p8,rfl,Eg⟩:=rY
      apply bO hs (gE (eJ (.e (.bool true)::gE (fe (.e (.bool true)::fj (gE (eJ []))))))) 27 [(26,45)] (by kernel_rfl) rfl
      ·refine Dm [[],[0],[1,1],[2],[3,2],[2]] [.c wj fun g' _=>hid g',.z aP] hs (by kernel_rfl) rfl ?_
       refine aw (ak (js:=[(4,23),(5,24),(2,21)]) (by kernel_rfl) fun gd hf=>ai rfl (ai rfl (ai rfl (aj (az rfl (aM _ T.ok rfl ⟨gd,rfl,aZ.refl _,congrArg Value.bool h2⟩)))))) ?_
       refine Dm [[2,6],[7],[8],[9,8],[8]] [.z aP] hs (by kernel_rfl) rfl ?_
       refine aw (ak (js:=[(10,29),(11,30),(8,27)]) (by kernel_rfl) fun gd hf=>ai rfl (ai rfl (ai rfl (aj (az rfl (aM _ T.ok rfl ⟨gd,rfl,aZ.refl _,congrArg Value.bool h3⟩)))))) ?_
       refine Dm [[8,12],[13],[14]] [] hs (by kernel_rfl) rfl ?_
       refine aw (ak (js:=[(15,34),(14,33)]) (by kernel_rfl) fun gd hf=>ai rfl (ai rfl (aj (az rfl (gS T.ok (neg:=false) rfl rfl rfl rfl rfl ⟨gd,rfl,aZ.refl _,rfl⟩))))) ?_
       exact Dz [[16,14,14],[17],[18,17],[17],[20,17],[21,17],[22,17],[19,23,17],[17,24,14],[14,25]] [.z aP,.e Eg 5] hs (by kernel_rfl) rfl
      cases h4:decide (h.time<x.time)with
      |false=>
       have rY:yd _ (.pointer (some ⟨b8,p8,none⟩)) (some h):=⟨b8,p8,rfl,Eg⟩
       obtain⟨v8,Ul⟩: ∃v,v=Value.pointer (some ⟨b8,p8,none⟩):=⟨_,rfl⟩
       rw[←Ul]at rY⊢
       obtain⟨o,ho⟩: ∃o,o=some h:=⟨_,rfl⟩
       rw[←ho]at rY fw
       clear hs;intro g6 hs ah;obtain⟨aq,aC,aH⟩:=ef ah aq aC aH
       replace rY:=rY.mono ah
       apply cf
       refine aS rfl rfl ?_
       apply aE;apply bU;apply au;apply ar;refine Wp 2 rfl ?_;apply aD
       have e:n5 w time o x=o:=by unfold n5 zY;simp[h1,h2,h3,h4,ho]
       rw[e]at fw
       exact fun a ha=>⟨b.jw.length-(i+1),by omega,i+1,v8,o,_,rfl,hs,aq,aH,aC,rY,by omega,fw,rfl,ha.keep ⟨rfl,rfl,rfl,rfl,rfl,rfl,kI rfl (by rw[wr (by omega) (by omega)];omega),trivial⟩⟩
      |true=>
       have he:n5 w time (some h) x=some x:=by unfold n5 zY;rw[h1,h2,h3];exact if_pos h4
       clear hs;intro g6 hs ah;obtain⟨aq,aC,aH⟩:=ef ah aq aC aH
       apply cf
       refine aJ rfl rfl ?_
       apply ar;refine Wm 3 [.z aC] (St.start _) rfl ?_
       refine cE (.slice a b.jw.length c) (t:=47) rfl uT ?_
       refine an rfl rfl (aW T.ok rfl aH (y:=x) ic rfl rfl rfl rfl rfl rfl ?_)
       rintro b6 q6 ys aL rfl
       refine Wp 1 rfl ?_;apply aD;apply bU;apply au;apply ar;refine Wp 2 rfl ?_;apply aD
       rw[he]at fw
       exact fun a ha=>⟨b.jw.length-(i+1),by omega,i+1,.pointer (some ⟨b6,q6,none⟩),some x,_,rfl,hs,aq,aH,aC,⟨b6,q6,rfl,aL⟩,by omega,fw,rfl,ha.keep ⟨rfl,rfl,rfl,rfl,rfl,rfl,kI rfl (by rw[wr (by omega) (by omega)];omega),trivial⟩⟩
 ·refine aS (b:=decide ((i:Int)<(b.jw.length:Int))) (decide_eq_false (by omega)) rfl ?_
  rw[List.take_of_length_le (by omega)]at ly
  unfold pG
  rw[ly]
  clear ly
  apply bE;apply bK;apply bK;apply dc;apply au;apply aB;refine cP 1 rfl ?_
  cases o with
  |none=>
   obtain rfl:v8= .pointer none:=rY
   refine an rfl rfl (gS T.ok (neg:=false) rfl rfl rfl rfl rfl ?_)
   apply cf
   refine aJ rfl rfl ?_
   refine aX rfl ?_
   exact aF (rT rfl rfl rfl (hs.ret rfl))
  |some h=>
   obtain⟨b8,p8,rfl,Eg⟩:=rY
   refine an rfl rfl (gS T.ok (neg:=false) rfl rfl rfl rfl rfl ?_)
   apply cf
   refine aS rfl rfl ?_
   apply aE;apply au;apply aB
   refine oG (l':=[(8,.pointer (some ⟨b8,p8,none⟩))]) (by(repeat (first|exact trivial|refine⟨rfl,?_⟩))) ?_
   apply bO hs (fj (fe [])) 9 [(8,6),(7,60)] (by kernel_rfl) rfl
   ·exact Dz [[],[0],[1],[2],[],[4],[5],[6],[3,3]] [.e Eg 9,.e Eg 10] hs (by kernel_rfl) rfl
   clear hs;intro g6 hs ah
   refine ba rfl ?_
   exact aF (rT rfl rfl rfl (hs.ret rfl))
end Go.Proofs.YtebobfdheanknaaGreatDoor
namespace Go.K
open Go Go.RowKit
variable {F:Fence} {P:Program} {N:Nat} {ds:List Deferred} {l l':Env} {a:Act} {w:World} {Q:Exit→Act→World→Prop} {ops:Array Oper} {os:List Oper} {o:Oper}
variable {g0 g:G} {L:List cV} {K:Value→World→Prop} {R:Ending→World→Prop}
def wQ{α:Type}(P:Program)(jR:FuncId)(eG:Array Value)(fU:α→List Value)(A Z:List α→Prop)(g:G):Prop:=
 ∀(g1:G),g.le g1→ ∀(yv:Value) (g0:G) (I Ix:List α→List cV→G→Prop),(∀pre L g g',g.le g'→I pre L g→I pre L g')→(∀pre L g g',g.le g'→Ix pre L g→Ix pre L g')→
  (∀M pre x L g2,A (pre++[x])→g1.le g2→St g0 g2 (M++L)→I pre L g2→ir P yv (fU x) g2.w fun e w'=> ∃g3 b L',g3.w=w'∧e= .returned (.bool b)∧g2.le g3∧St g0 g3 (M++L')∧(b=true→I (pre++[x]) L' g3)∧(b=false→Ix (pre++[x]) L' g3))→
  ∀L,St g0 g1 L→I [] L g1→CallsIn Wd 0 P jR (yv::eG.toList).toArray g1.w fun e w'=> ∃g2 v L',g2.w=w'∧e= .returned v∧g1.le g2∧St g0 g2 L'∧((∃xs,Z xs∧I xs L' g2)∨ ∃pre,A pre∧Ix pre L' g2)
theorem wQ.mono{α:Type}{jR:FuncId}{eG:Array Value}{fU:α→List Value}{A Z:List α→Prop}{g g':G}(h:wQ P jR eG fU A Z g)(hle:g.le g'):wQ P jR eG fU A Z g':=fun g1 h1=>h g1 (hle.trans h1)
theorem sM.SB{α:Type}{jR:FuncId}{eG:Array Value}{fU:α→List Value}{xs:List α}(h:sM P jR eG fU xs g):wQ P jR eG fU (fun pre=>pre<+:xs) (fun ys=>ys=xs) g:=by
 intro g1 h1 yv g0 I Ix hI zo hb L hs h0
 refine CallsIn.mono (h g1 h1 yv (fun pre g=> ∃L,St g0 g L∧I pre L g) (fun pre g=> ∃L,St g0 g L∧Ix pre L g) (fun pre g g' hf ⟨L,a,b⟩=>⟨L,a.call hf,hI _ _ _ _ hf.le b⟩) (fun pre g g' hf ⟨L,a,b⟩=>⟨L,a.call hf,zo _ _ _ _ hf.le b⟩)
  (fun pre x rest g2 jm hle ⟨L,a,b⟩=>(hb [] pre x L g2 ⟨rest,by rw[jm];simp⟩ hle a b).mono ?_) ⟨L,hs,h0⟩) ?_
 ·rintro e w' ⟨g3,bv,L',a1,a2,a3,a4,a5,a6⟩
  exact⟨g3,bv,a1,a2,a3,fun h=>⟨L',a4,a5 h⟩,fun h=>⟨L',a4,a6 h⟩⟩
 ·rintro e w' ⟨g2,v,a1,a2,a3,⟨L',a4,a5⟩|⟨pre,hp,L',a4,a5⟩⟩
  ·exact⟨g2,v,L',a1,a2,a3,a4,.inl ⟨xs,rfl,a5⟩⟩
  ·exact⟨g2,v,L',a1,a2,a3,a4,.inr ⟨pre,hp,a5⟩⟩
theorem Bx{α:Type}(M:List α)(X:α){y:α}(L:List α):(M++(X::y::L)).Perm (X::y::(L++M)):=
 List.perm_middle.trans ((List.perm_middle.trans (List.perm_append_comm.cons y)).cons X)
theorem s_{α:Type}{jR:FuncId}{eG:Array Value}{fU:α→List Value}{A Z:List α→Prop}{f:Operand}{ps:Array Tmp}{assign body:Code}
  (hs:St g0 g L) (hf:ev l f=some (.func (.func jR) #[] eG)) (nh:ag P jR) (qG:wQ P jR eG fU A Z g) (sO:(ps.toList.all fun t=>Nat.blt t N)=true) (Od: ∀x,(fU x).length=ps.size)
  (I:List α→List cV→G→Prop) (Ix:Code→List α→List cV→G→Prop) (hI: ∀pre L g g',g.le g'→I pre L g→I pre L g') (zo: ∀c pre L g g',g.le g'→Ix c pre L g→Ix c pre L g')
  (h0:I [] L g) (B:List α→α→List cV→Env→G→Prop) (hB: ∀pre x L la g g',g.le g'→B pre x L la g→B pre x L la g')
  (pU: ∀lp D (ro:LoopState→Obj) pre x gr Lr M,A (pre++[x])→g.le gr→St g0 gr (.obj lp (ro .ready):: .obj D fM::(Lr++M))→I pre Lr gr→
   W {Wd with round:=some lp} P N [] assign (Exit.then (fun a w'=> ∃g2 L2 la,w'=g2.w∧gr.le g2∧St g0 g2 (.obj lp (ro .ready):: .obj D fM::(L2++M))∧B pre x L2 la g2∧Fr N [] la a) (fun _ _ _=>False)) (nr ps.toList (fU x) l) gr.w)
  (pV: ∀lp D (ro:LoopState→Obj) pre x gr Lr la M,A (pre++[x])→g.le gr→St g0 gr (.obj lp (ro .busy):: .obj D fM::(Lr++M))→B pre x Lr la gr→
   W {Wd with round:=some lp} P N [] body (Aj (fun L' g'=> ∃uL,L'=uL++M∧I (pre++[x]) uL g') (fun c L' g'=> ∃uL,L'=uL++M∧Ix c (pre++[x]) uL g') g0 gr lp D ro) la gr.w)
  (jT: ∀lp D o xs Lr ge,Z xs→g.le ge→St g0 ge (.obj lp o:: .obj D fM::Lr)→I xs Lr ge→ ∀a,Fr N (⟨.collected D,#[]⟩::ds) l a→Q .normal a ge.w)
  (yG: ∀c lp D o pre Lr ge,A pre→g.le ge→St g0 ge (.obj lp o:: .obj D fM::Lr)→Ix c pre Lr ge→W Wd P N (⟨.collected D,#[]⟩::ds) c Q l ge.w):
  W Wd P N ds (.rangeFunc f ps assign body) Q l g.w:=by
 intro a ha
 refine wpIn_rangeFunc fun fn _=> ?_
 let ro:LoopState→Obj:=fun st=>iV fn a.tmps ps assign body g.w.heap.size st none
 have mK:=hs.al fM
 have aU:=mK.1.al (ro .ready)
 have cS:(g.al fM).w.heap.size=g.w.heap.size+1:=by simp[G.al]
 let g2:=(g.al fM).al (ro .ready)
 have sb:g.le g2:=mK.2.trans aU.2
 refine⟨g.w.heap.size+1,[⟨.collected g.w.heap.size,#[]⟩],g2.w,⟨.fn (.func jR) eG,#[.func (.yield (g.w.heap.size+1)) #[] #[]]⟩,g2.w,jR,(.func (.yield (g.w.heap.size+1)) #[] #[]::eG.toList).toArray,g2.w,?_,?_,fun _ _=>trivial,?_,fun h=>(by cases h),?_⟩
 ·exact run_enterLoop_outer fn a.tmps ps assign body
 ·simp only[resolve,ha.ev hf,Deferred.ofValue]
  simp[Act.eval,g2]
 ·have e:#[Value.func (.yield (g.w.heap.size+1)) #[] #[]]++eG=(.func (.yield (g.w.heap.size+1)) #[] #[]::eG.toList).toArray:=by apply Array.ext';simp
  rw[←e]
  exact gV nh _
 ·--zp tT pR,with Oe holds Bq zp rounds
  have xd:St g0 g2 (.obj (g.w.heap.size+1) (ro .ready):: .obj g.w.heap.size fM::L):=by
   have:=aU.1
   rw[cS]at this
   exact this
  refine CallsIn.mono (qG g2 sb (.func (.yield (g.w.heap.size+1)) #[] #[]) g0
   (fun pre L g'=>g.le g'∧ ∃Lr,L= .obj (g.w.heap.size+1) (ro .ready):: .obj g.w.heap.size fM::Lr∧I pre Lr g')
   (fun pre L g'=>g.le g'∧ ∃c Lr,L= .obj (g.w.heap.size+1) (iV fn a.tmps ps assign body g.w.heap.size .done (some c)):: .obj g.w.heap.size fM::Lr∧Ix c pre Lr g')
   (fun pre L ga gb hf ⟨h1,Lr,h2,h3⟩=>⟨h1.trans hf,Lr,h2,hI _ _ _ _ hf h3⟩)
   (fun pre L ga gb hf ⟨h1,c,Lr,h2,h3⟩=>⟨h1.trans hf,c,Lr,h2,zo _ _ _ _ _ hf h3⟩) ?_ _ xd ⟨sb,L,rfl,hI _ _ _ _ sb h0⟩) ?_
  ·--one round
   rintro M pre x _ gp jm Of RH ⟨oV,Lr,rfl,hi⟩
   have dm:St g0 gp (.obj (g.w.heap.size+1) (ro .ready):: .obj g.w.heap.size fM::(Lr++M)):=RH.perm (Bx M _ Lr)
   have mi:gp.w.heap[g.w.heap.size+1]? =some (ro .ready):=(dm.own 0 _ rfl).2.1
   refine⟨fn,_,assign,body,run_yield mi (by simpa [iV]using Od x),?_⟩
   refine roundIn_of_wpIn trivial ?_
   have Cv:Fr N [] (nr ps.toList (fU x) l) {tmps:=(ps.zip (#[]++(fU x).toArray)).foldl (fun tmps (x:Nat×Value)=>tmps.setIfInBounds x.1 x.2) a.tmps,defers:=[]}:=by
    have h:=xe (N:=N) ps.toList (fU x) l a.tmps sO ⟨rfl,ha.size,ha.get⟩
    have e:(ps.zip (#[]++(fU x).toArray)).foldl (fun tmps (x:Nat×Value)=>tmps.setIfInBounds x.1 x.2) a.tmps=(ps.toList.zip (fU x)).foldl (fun tmps (x:Nat×Value)=>tmps.setIfInBounds x.1 x.2) a.tmps:=by
     rw[←Array.foldl_toList];simp
    rw[e]
    exact h
   refine Go.wpIn_mono (pU _ _ ro pre x _ Lr M jm oV dm hi _ Cv) fun e a1 w1 he=> ?_
   cases e with
   |normal=>
    obtain⟨gq,Lq,la,rfl,RI,Oq,Vo,xf⟩:=he
    have Ot:gq.w.heap[g.w.heap.size+1]? =some (ro .ready):=(Oq.own 0 _ rfl).2.1
    have hb:=Oq.po (i:=0) (o':=ro .busy) rfl
    have Ik:=RI.trans hb.2
    refine⟨(gq.po (g.w.heap.size+1) (ro .busy)).w,run_beginRound Ot rfl,?_⟩
    have EX:St g0 (gq.po (g.w.heap.size+1) (ro .busy)) (.obj (g.w.heap.size+1) (ro .busy):: .obj g.w.heap.size fM::(Lq++M)):=hb.1
    refine Go.wpIn_mono (pV _ _ ro pre x _ Lq la M jm (oV.trans Ik) EX (hB _ _ _ _ _ _ hb.2 Vo) a1 xf) fun e a2 w2 he=> ?_
    cases e with
    |normal=>
     obtain⟨_,g',rfl,jO,fL,L',rfl,hi'⟩:=he
     have jP:g'.w.heap[g.w.heap.size+1]? =some (ro .busy):=(jO.own 0 _ rfl).2.1
     have hp:=jO.po (i:=0) (o':=ro .ready) rfl
     refine⟨_,_,run_endRound none jP,g'.po (g.w.heap.size+1) (ro .ready),true,_,rfl,rfl,(Ik.trans fL).trans hp.2,hp.1.perm (Bx M _ L').symm,fun _=>⟨((oV.trans Ik).trans fL).trans hp.2,L',rfl,hI _ _ _ _ hp.2 hi'⟩,fun h=>(by cases h)⟩
    |ret=>
     obtain⟨_,g',rfl,jO,fL,L',rfl,hi'⟩:=he
     have jP:g'.w.heap[g.w.heap.size+1]? =some (ro .busy):=(jO.own 0 _ rfl).2.1
     have hp:=jO.po (i:=0) (o':=iV fn a.tmps ps assign body g.w.heap.size .done (some .ret)) rfl
     refine⟨_,_,run_endRound (some .ret) jP,g'.po (g.w.heap.size+1) (iV fn a.tmps ps assign body g.w.heap.size .done (some .ret)),false,_,rfl,rfl,(Ik.trans fL).trans hp.2,hp.1.perm (Bx M _ L').symm,fun h=>(by cases h),
      fun _=>⟨((oV.trans Ik).trans fL).trans hp.2,.ret,L',rfl,zo _ _ _ _ _ hp.2 hi'⟩⟩
    |exit id=>
     obtain⟨_,g',rfl,jO,fL,L',rfl,hi'⟩:=he
     have jP:g'.w.heap[g.w.heap.size+1]? =some (ro .busy):=(jO.own 0 _ rfl).2.1
     have hp:=jO.po (i:=0) (o':=iV fn a.tmps ps assign body g.w.heap.size .done (some (.exit id))) rfl
     refine⟨_,_,run_endRound (some (.exit id)) jP,g'.po (g.w.heap.size+1) (iV fn a.tmps ps assign body g.w.heap.size .done (some (.exit id))),false,_,rfl,rfl,(Ik.trans fL).trans hp.2,hp.1.perm (Bx M _ L').symm,fun h=>(by cases h),
      fun _=>⟨((oV.trans Ik).trans fL).trans hp.2,.exit id,L',rfl,zo _ _ _ _ _ hp.2 hi'⟩⟩
    |goto t=>exact he.elim
    |panic c=>exact he.elim
    |outgrown=>exact he.elim
   |exit id=>exact he.elim
   |goto t=>exact he.elim
   |ret=>exact he.elim
   |panic c=>exact he.elim
   |outgrown=>exact he.elim
  ·--zp iterator has ended
   rintro e w' ⟨ge,v,_,rfl,rfl,fL,dm,h⟩
   have yH:Fr N (⟨.collected g.w.heap.size,#[]⟩::ds) l {a with defers:=[⟨.collected g.w.heap.size,#[]⟩]++a.defers}:=⟨by simp[ha.defers],ha.size,ha.get⟩
   rcases h with⟨xs,hz,hle,Lr,rfl,hi⟩|⟨pre,gD,hle,c,Lr,rfl,hi⟩
   ·have mi:ge.w.heap[g.w.heap.size+1]? =some (ro .ready):=(dm.own 0 _ rfl).2.1
    have hp:=dm.po (i:=0) (o':=iV fn a.tmps ps assign body g.w.heap.size .exhausted none) rfl
    exact⟨none,_,run_endLoop mi (by simp),jT _ _ _ xs Lr (ge.po _ _) hz (hle.trans hp.2) hp.1 (hI _ _ _ _ hp.2 hi) _ yH⟩
   ·have mi:ge.w.heap[g.w.heap.size+1]? =some (iV fn a.tmps ps assign body g.w.heap.size .done (some c)):=(dm.own 0 _ rfl).2.1
    have hp:=dm.po (i:=0) (o':=iV fn a.tmps ps assign body g.w.heap.size .exhausted (some c)) rfl
    exact⟨some c,_,run_endLoop mi (by simp),yG c _ _ _ pre Lr (ge.po _ _) gD (hle.trans hp.2) hp.1 (zo _ _ _ _ _ hp.2 hi) _ yH⟩
end Go.K
namespace Go.Proofs.YtebobfdheanknaaGreatDoor
open Go Go.K
set_option maxRecDepth 10000
attribute [local irreducible] W WL cT bu bX bA bB bD cW cG
set_option maxHeartbeats 1000000
structure oi where
 want:Int
 shift:Int
 is:Int
def oi.cells(c:oi):List Value:=[.int .i64 c.want,.int .i64 c.shift,.int .i64 c.is]
instance:El oi where
 k:=3
 pos:=by omega
 rc _ cs c:=cs=c.cells
 len h:=by rw[h];rfl
 mono _ h:=h
 one h:=by rw[h];simp[oi.cells,Value.oneCell']
abbrev oi.v(c:oi):Value:=.agg c.cells.toArray
def rZ(c:oi):Bool:=c.want==0||(decide (c.is≤c.want)&&(IntKind.i64.wrap (c.want-c.shift)==c.is))
theorem Gx(c:oi)(g:G):CallsIn Wd 0 Tryz.prog 254 #[c.v] g.w (cR g fun _ r=>r= .bool (rZ c)):=by
 have hs:=St.start g
 refine enter Tryz.func254 rfl Tryz.ntmps254 rfl ?_
 apply c_
 refine an rfl rfl (aR rfl hs rfl rfl ?_);clear hs;rintro b1 g1 hs ah;skip
 obtain⟨g2,bR,aU,ah,aL⟩:=hs.a_ (i:=0) rfl;replace hs:=aU;clear aU;rw[←bR];skip
 have aC:=aL;clear aL
 refine ba rfl ?_;refine dx 4 [.z aC] (St.start _) rfl ?_
 unfold rZ
 cases c.want==0 with
 |true=>
  refine ba rfl ?_
  exact aF (aV rfl rfl (hs.ret rfl))
 |false=>
  refine Wm 6 [.z aC,.z aC] (St.start _) rfl ?_
  cases decide (c.is≤c.want)with
  |true=>
   refine A3 [.z aC,.z aC,.z aC] (St.start _) rfl ?_
   exact aF (aV rfl rfl (hs.ret rfl))
  |false=>
   refine ba rfl ?_
   exact aF (aV rfl rfl (hs.ret rfl))
theorem Eh(c:oi)(g:G):CallsIn Wd 0 Tryz.prog 253 #[c.v] g.w (cR g fun _ r=>r= .bool (!rZ c)):=by
 have hs:=St.start g
 refine enter Tryz.func253 rfl Tryz.ntmps253 rfl ?_
 apply c_
 refine an rfl rfl (aR rfl hs rfl rfl ?_);clear hs;rintro b1 g1 hs ah;skip
 obtain⟨g2,bR,aU,ah,aL⟩:=hs.a_ (i:=0) rfl;replace hs:=aU;clear aU;rw[←bR];skip
 have aC:=aL;clear aL
 refine ba rfl ?_;refine dx 1 [.z aC] (St.start _) rfl ?_
 refine an rfl rfl (ay Mw aI rfl rfl rfl rfl rfl (Gx c _) ?_);rintro g1 _ aN rfl;replace hs:=hs.call aN;have ah:=aN.le
 refine ba rfl ?_
 exact aF (aV rfl rfl (hs.ret rfl))
theorem Ei(v:Value)(l:List oi)(g:G)(hl:Rs g v l):
  CallsIn Wd 0 Tryz.prog 288 #[v,.func (.func 253) #[] #[]] g.w (cR g fun _ r=>r= .int .i64 (lu (fun c=> !rZ c) l)):=by
 obtain⟨a,c,rfl⟩:=hl.isSlice
 have hlen:=hl.dU
 unfold maxLen at hlen
 have hs:=St.start g
 refine enter Tryz.func288 rfl Tryz.ntmps288 rfl ?_
 refine aX rfl ?_;apply aB;refine aX rfl ?_;apply aG
 refine bS (fun m a' w=> ∃(k:Nat) (g':G),w=g'.w∧St g g' []∧G.le g g'∧k≤l.length∧m=l.length-k∧(∀j (h:j<l.length),j<k→(!rZ l[j])=false)∧
  Fr 19 [] [(0,.slice a l.length c),(1,.func (.func 253) #[] #[]),(7,.int .i64 l.length),(8,.int .i64 k)] a') l.length (fun a' ha=>⟨0,g,rfl,hs,G.le.refl g,Nat.zero_le _,rfl,by simp,ha.keep (by(repeat (first|exact trivial|refine⟨rfl,?_⟩)))⟩) ?_
 clear hs
 rintro m a' _ ⟨k,g',rfl,hs,aq,hk,rfl,dy,eI⟩
 revert a'
 apply cQ;refine aX rfl ?_;apply aB
 by_cases bh:k<l.length
 ·refine aJ (b:=decide ((k:Int)<(l.length:Int))) (by simp;omega) rfl ?_
  apply aE;apply au;apply aB;apply aG;refine aX rfl ?_;refine cP 3 rfl ?_
  refine an rfl rfl (aW T.ok rfl (hl.mono aq) (y:=l[k]) (by simp[dA,bh]) rfl rfl rfl rfl rfl rfl ?_)
  rintro b q ys aL rfl
  refine Wm 1 [.e aL 0] (St.start _) rfl ?_
  skip
  refine an rfl rfl (ay Mv aI rfl rfl rfl rfl rfl (Eh l[k] _) ?_);rintro g1 _ aN rfl;replace hs:=hs.call aN;have ah:=aN.le;replace aq:=G.le.trans aq ah
  apply cf
  cases wE:rZ l[k]with
  |false=>
   refine aJ rfl rfl ?_
   refine aX rfl ?_
   exact aF (aV rfl rfl (hs.ret (by rw[oj (p:=fun c=> !rZ c) bh (by simp only[wE];rfl) dy])))
  |true=>
   refine aS rfl rfl ?_
   apply aE;apply bU;apply au;apply ar;refine Wp 2 rfl ?_;apply aD
   refine fun a ha=>⟨l.length-(k+1),by omega,k+1,_,rfl,hs,aq,by omega,rfl,?_,ha.keep ⟨rfl,rfl,rfl,kI rfl (by rw[wr (by omega) (by omega)];omega),trivial⟩⟩
   intro j hj zO
   by_cases e:j=k
   ·subst e;rw[wE];rfl
   ·exact dy j hj (by omega)
 ·refine aS (b:=decide ((k:Int)<(l.length:Int))) (by simp;omega) rfl ?_
  apply bE;apply bK;apply bK;apply dc;apply au;refine aX rfl ?_
  obtain rfl:k=l.length:=by omega
  exact aF (aV rfl rfl (hs.ret (by rw[so (p:=fun c=> !rZ c) fun j h=>dy j h h])))
theorem ye(v:Value)(l:List oi)(g:G)(hl:Rs g v l):CallsIn Wd 0 Tryz.prog 158 #[v] g.w (cR g fun _ r=>r= .bool (l.all rZ)):=by
 have h1:CallsIn Wd 0 Tryz.prog 252 #[v,.func (.func 253) #[] #[]] g.w (cR g fun _ r=>r= .bool (l.any fun c=> !rZ c)):=by
  have hs:=St.start g
  refine enter Tryz.func252 rfl Tryz.ntmps252 rfl ?_
  refine aX rfl ?_;refine cP 2 rfl ?_
  refine an rfl rfl (ay MI aI rfl rfl rfl rfl rfl (Ei _ l g hl) ?_);rintro g1 _ aN rfl;replace hs:=hs.call aN;have ah:=aN.le;skip
  refine ba rfl ?_
  exact aF (aV rfl rfl (hs.ret (by rw[←nf])))
 have hs:=St.start g
 refine enter Tryz.func158 rfl Tryz.ntmps158 rfl ?_
 refine aX rfl ?_;refine cP 1 rfl ?_
 refine an rfl rfl (ay Mu aI rfl rfl rfl rfl rfl (h1) ?_);rintro g1 _ aN rfl;replace hs:=hs.call aN;have ah:=aN.le;skip
 refine ba rfl ?_
 exact aF (aV rfl rfl (hs.ret (congrArg Value.bool (by rw[List.all_eq_not_any_not]))))
abbrev fY(f:bc)(bb:Nat):List Value:=bW f++[.pointer (some ⟨bb,0,none⟩)]
abbrev ND(f:bc)(bb:Nat):Value:=.agg (fY f bb).toArray
def wN(f:bc)(time:Int):Bool:=(f.kind==7&&decide (f.time≤time))&&decide (time≤f.til)
theorem Gy(f:bc)(bb:Nat)(time:Int)(g:G):CallsIn Wd 0 Tryz.prog 251 #[ND f bb,.int .i64 time] g.w (cR g fun _ r=>r= .bool (wN f time)):=by
 have hs:=St.start g
 refine enter Tryz.func251 rfl Tryz.ntmps251 rfl ?_
 apply c_
 refine an rfl rfl (aR rfl hs rfl rfl ?_);clear hs;rintro b1 g1 hs ah;skip
 obtain⟨g2,bR,aU,ah,aL⟩:=hs.a_ (i:=0) rfl;replace hs:=aU;clear aU;rw[←bR];skip
 have aC:=aL;clear aL
 refine ba rfl ?_;refine dx 5 [.z aC] (St.start _) rfl ?_
 unfold wN
 cases f.kind==7 with
 |false=>
  refine ba rfl ?_
  exact aF (aV rfl rfl (hs.ret rfl))
 |true=>
  refine Wm 7 [.z aC] (St.start _) rfl ?_
  cases decide (f.time≤time)with
  |false=>
   refine ba rfl ?_
   exact aF (aV rfl rfl (hs.ret rfl))
  |true=>
   refine A3 [.z aC] (St.start _) rfl ?_
   exact aF (aV rfl rfl (hs.ret rfl))
end Go.Proofs.YtebobfdheanknaaGreatDoor
namespace Go.Proofs.YtebobfdheanknaaGreatDoor
open Go Go.K
set_option maxRecDepth 10000
attribute [local irreducible] W WL cT bu bX bA bB bD cW cG
set_option maxHeartbeats 1000000
def zZ(b:fX)(f:bc)(w time:Int):List oi:=[⟨f.waf,0,w⟩,⟨f.lot,0,((pG b w time).getD gF).lot⟩]
def wO(b:fX)(f:bc)(w time:Int):Bool:=wN f time&&(zZ b f w time).all rZ
theorem Gz(f:bc)(bb:Nat)(b:fX)(sl:Nat→Value)(w time:Int)(g:G)(aC:EP g bb 0 ((List.range 11).map sl))(bI:iI g (.agg ((List.range 11).map sl).toArray) b):
  CallsIn Wd 0 Tryz.prog 157 #[ND f bb,.int .i64 w,.int .i64 time] g.w (cR g fun _ r=>r= .bool (wO b f w time)):=by
 have hs:=St.start g
 have aq:=G.le.refl g
 refine enter Tryz.func157 rfl Tryz.ntmps157 rfl ?_
 apply c_
 refine an rfl rfl (aR rfl hs rfl rfl ?_);clear hs;rintro b1 g1 hs ah;obtain⟨aC,bI⟩:=cC ah aC bI
 obtain⟨g2,bR,aU,ah,aL⟩:=hs.a_ (i:=0) rfl;replace hs:=aU;clear aU;rw[←bR];obtain⟨aC,bI⟩:=cC ah aC bI
 have aP:=aL;clear aL
 refine ba rfl ?_;refine dx 6 [.z aP,.z aC] (St.start _) rfl ?_
 refine an rfl rfl (ay IP aI rfl rfl rfl rfl rfl (D4 _ b w time _ bI) ?_);rintro g1 _ aN rfl;replace hs:=hs.call aN;have ah:=aN.le;replace aP:=aP.mono ah
 refine ba rfl ?_;refine dx 2 [.z aP] (St.start _) rfl ?_
 clear aN
 refine an rfl rfl (ay Mt aI rfl rfl rfl rfl rfl (Gy f bb time _) ?_);rintro g1 _ aN rfl;replace hs:=hs.call aN;have ah:=aN.le;replace aP:=aP.mono ah
 unfold wO
 cases wN f time with
 |false=>
  refine ba rfl ?_
  exact aF (aV rfl rfl (hs.ret rfl))
 |true=>
  refine Wm 5 [.z aP] (St.start _) rfl ?_
  refine an rfl rfl (aQ T.ok rfl (vs:=[(0,.int .i64 (f.waf)),(1,.int .i64 0),(2,.int .i64 (w))]) (cells:=(oi.mk (f.waf) 0 (w)).cells) rfl rfl rfl rfl [(0,1),(1,1),(2,1)] rfl (by kernel_rfl) ?_)
  refine Wm 4 [.z aP] (St.start _) rfl ?_
  refine an rfl rfl (aQ T.ok rfl (vs:=[(0,.int .i64 (f.lot)),(1,.int .i64 0),(2,.int .i64 (((pG b w time).getD gF).lot))]) (cells:=(oi.mk (f.lot) 0 (((pG b w time).getD gF).lot)).cells) rfl rfl rfl rfl [(0,1),(1,1),(2,1)] rfl (by kernel_rfl) ?_)
  skip
  refine an rfl rfl (bj T.ok rfl hs (vs:=[(0,(oi.mk f.waf 0 w).v),(1,(oi.mk f.lot 0 ((pG b w time).getD gF).lot).v)]) (cells:=(oi.mk f.waf 0 w).cells++(oi.mk f.lot 0 ((pG b w time).getD gF).lot).cells) rfl rfl rfl rfl rfl rfl (by decide) (by decide) (by kernel_rfl) rfl ?_);rintro bl gl hs ah
  obtain⟨gz,ik,cS,iT,B8⟩:=hs.cL (α:=oi) (xs:=zZ b f w time) (i:=0) rfl ⟨_,_,rfl,rfl,_,_,(List.append_nil _).symm,rfl,rfl⟩
  clear ah;have ah:=iT;rw[←ik];replace hs:=cS;clear cS
  skip
  clear aN
  refine an rfl rfl (ay HH aI rfl rfl rfl rfl rfl (ye _ (zZ b f w time) _ B8) ?_);rintro g1 _ aN rfl;replace hs:=hs.call aN;have ah:=aN.le
  refine ba rfl ?_
  exact aF (aV rfl rfl (hs.ret rfl))
def pE(a:fD):List Value:=[.int .i64 a.waf,.int .i64 a.step,.int .i64 a.tool,.int .i64 a.cham,.int .i64 a.rcp,.int .i64 a.rvn,.int .i64 a.time]
abbrev Gl(a:fD):Value:=.agg (pE a).toArray
def wP(f:bc)(a:fD):List oi:=[⟨f.tool,1,a.tool⟩,⟨f.cham,1,a.cham⟩,⟨f.step,1,a.step⟩,⟨f.rcp,0,a.rcp⟩,⟨f.rvn,0,a.rvn⟩]
def s8(b:fX)(f:bc)(a:fD):Bool:=wO b f a.waf a.time&&(wP f a).all rZ
theorem Gm(f:bc)(bb:Nat)(b:fX)(sl:Nat→Value)(a:fD)(g:G)(aC:EP g bb 0 ((List.range 11).map sl))(bI:iI g (.agg ((List.range 11).map sl).toArray) b):
  CallsIn Wd 0 Tryz.prog 73 #[ND f bb,Gl a] g.w (cR g fun _ r=>r= .bool (s8 b f a)):=by
 have hs:=St.start g
 have aq:=G.le.refl g
 refine enter Tryz.func73 rfl Tryz.ntmps73 rfl ?_
 apply c_
 refine an rfl rfl (aR rfl hs rfl rfl ?_);clear hs;rintro b1 g1 hs ah;obtain⟨aC,bI⟩:=cC ah aC bI
 obtain⟨g2,bR,aU,ah,aL⟩:=hs.a_ (i:=0) rfl;replace hs:=aU;clear aU;rw[←bR];obtain⟨aC,bI⟩:=cC ah aC bI
 have aP:=aL;clear aL
 skip
 refine an rfl rfl (aR rfl hs rfl rfl ?_);clear hs;rintro b2 g1 hs ah;obtain⟨aC,aP,bI⟩:=ef ah aC aP bI
 obtain⟨g2,bR,aU,ah,aL⟩:=hs.a_ (i:=0) rfl;replace hs:=aU;clear aU;rw[←bR];obtain⟨aC,aP,bI⟩:=ef ah aC aP bI
 have dO:=aL;clear aL
 refine ba rfl ?_;refine dx 5 [.z aP,.z dO,.z dO] (St.start _) rfl ?_
 refine an rfl rfl (ay LI aI rfl rfl rfl rfl rfl (Gz f bb b sl a.waf a.time _ aC bI) ?_);rintro g1 _ aN rfl;replace hs:=hs.call aN;have ah:=aN.le;obtain⟨aP,dO⟩:=cC ah aP dO
 unfold s8
 cases wO b f a.waf a.time with
 |false=>
  refine ba rfl ?_
  exact aF (aV rfl rfl (hs.ret rfl))
 |true=>
  refine Wm 6 [.z aP,.z dO] (St.start _) rfl ?_
  refine an rfl rfl (aQ T.ok rfl (vs:=[(0,.int .i64 (f.tool)),(1,.int .i64 1),(2,.int .i64 (a.tool))]) (cells:=(oi.mk (f.tool) 1 (a.tool)).cells) rfl rfl rfl rfl [(0,1),(1,1),(2,1)] rfl (by kernel_rfl) ?_)
  refine Wm 5 [.z aP,.z dO] (St.start _) rfl ?_
  refine an rfl rfl (aQ T.ok rfl (vs:=[(0,.int .i64 (f.cham)),(1,.int .i64 1),(2,.int .i64 (a.cham))]) (cells:=(oi.mk (f.cham) 1 (a.cham)).cells) rfl rfl rfl rfl [(0,1),(1,1),(2,1)] rfl (by kernel_rfl) ?_)
  refine Wm 5 [.z aP,.z dO] (St.start _) rfl ?_
  refine an rfl rfl (aQ T.ok rfl (vs:=[(0,.int .i64 (f.step)),(1,.int .i64 1),(2,.int .i64 (a.step))]) (cells:=(oi.mk (f.step) 1 (a.step)).cells) rfl rfl rfl rfl [(0,1),(1,1),(2,1)] rfl (by kernel_rfl) ?_)
  refine Wm 5 [.z aP,.z dO] (St.start _) rfl ?_
  refine an rfl rfl (aQ T.ok rfl (vs:=[(0,.int .i64 (f.rcp)),(1,.int .i64 0),(2,.int .i64 (a.rcp))]) (cells:=(oi.mk (f.rcp) 0 (a.rcp)).cells) rfl rfl rfl rfl [(0,1),(1,1),(2,1)] rfl (by kernel_rfl) ?_)
  refine Wm 5 [.z aP,.z dO] (St.start _) rfl ?_
  refine an rfl rfl (aQ T.ok rfl (vs:=[(0,.int .i64 (f.rvn)),(1,.int .i64 0),(2,.int .i64 (a.rvn))]) (cells:=(oi.mk (f.rvn) 0 (a.rvn)).cells) rfl rfl rfl rfl [(0,1),(1,1),(2,1)] rfl (by kernel_rfl) ?_)
  skip
  refine an rfl rfl (bj T.ok rfl hs (vs:=[(0,(oi.mk f.tool 1 a.tool).v),(1,(oi.mk f.cham 1 a.cham).v),(2,(oi.mk f.step 1 a.step).v),(3,(oi.mk f.rcp 0 a.rcp).v),(4,(oi.mk f.rvn 0 a.rvn).v)]) (cells:=(wP f a).flatMap oi.cells) rfl rfl rfl rfl rfl rfl (by decide) (by decide) (by kernel_rfl) rfl ?_);rintro bl gl hs ah
  obtain⟨gz,ik,cS,iT,B8⟩:=hs.cL (α:=oi) (xs:=wP f a) (i:=0) rfl ⟨_,_,rfl,rfl,_,_,rfl,rfl,_,_,rfl,rfl,_,_,rfl,rfl,_,_,(List.append_nil _).symm,rfl,rfl⟩
  clear ah;have ah:=iT;rw[←ik];replace hs:=cS;clear cS
  skip
  clear aN
  refine an rfl rfl (ay HH aI rfl rfl rfl rfl rfl (ye _ (wP f a) _ B8) ?_);rintro g1 _ aN rfl;replace hs:=hs.call aN;have ah:=aN.le
  refine ba rfl ?_
  exact aF (aV rfl rfl (hs.ret rfl))
end Go.Proofs.YtebobfdheanknaaGreatDoor
namespace Go.Proofs.YtebobfdheanknaaGreatDoor
open Go Go.K
set_option maxRecDepth 10000
attribute [local irreducible] W WL cT bu bX bA bB bD cW cG
set_option maxHeartbeats 1000000
def yf(id time:Int)(n:Int)(r:bc):Int:=if r.oth==id&&decide (r.time≤time)then bX .i64 n r.par else n
def tv(b:fX)(id time:Int):Int:=b.jS.foldl (yf id time) 0
theorem Ca(bb:Nat)(b:fX)(sl:Nat→Value)(id time:Int)(g:G)(aC:EP g bb 0 ((List.range 11).map sl))(aH:Rs g (sl 7) b.jS):
  CallsIn Wd 0 Tryz.prog 159 #[.pointer (some ⟨bb,0,none⟩),.int .i64 id,.int .i64 time] g.w (cR g fun _ r=>r= .int .i64 (tv b id time)):=by
 have hs:=St.start g
 have aq:=G.le.refl g
 obtain⟨a,c,uT⟩:=aH.isSlice
 have hlen:=aH.dU
 unfold maxLen at hlen
 refine enter Tryz.func159 rfl Tryz.ntmps159 rfl ?_
 refine aX rfl ?_;apply aB;refine dx 4 [.z aC] (St.start _) rfl ?_
 refine cE (.slice a b.jS.length c) (t:=12) rfl uT ?_
 rw[uT]at aH
 refine ba rfl ?_;apply aG
 refine bS (fun m a' w'=> ∃(i:Nat) (n:Int) (g':G),w'=g'.w∧St g g' []∧G.le g g'∧Rs g' (.slice a b.jS.length c) b.jS∧i≤b.jS.length∧(b.jS.take i).foldl (yf id time) 0=n∧m=b.jS.length-i∧
   Fr 34 [] [(1,.int .i64 id),(2,.int .i64 time),(6,.int .i64 n),(12,.slice a b.jS.length c),(13,.int .i64 (b.jS.length:Nat)),(14,.int .i64 (i:Nat))] a') b.jS.length
  (fun a' ha=>⟨0,0,_,rfl,hs,aq,aH,Nat.zero_le _,rfl,rfl,ha.keep (by(repeat (first|exact trivial|refine⟨rfl,?_⟩)))⟩) ?_
 clear hs aH aq aC
 rintro m a' _ ⟨i,n,g',rfl,hs,aq,aH,hi,ly,rfl,eI⟩
 revert a'
 apply cQ;refine aX rfl ?_;apply aB
 by_cases bh:i<b.jS.length
 ·refine aJ (b:=decide ((i:Int)<(b.jS.length:Int))) (decide_eq_true (by omega)) rfl ?_
  have ic:dA b.jS (i:Int)=some b.jS[i]:=cU rfl bh
  have fw:(b.jS.take (i+1)).foldl (yf id time) 0=yf id time n b.jS[i]:=by
   rw[List.take_add_one,List.getElem?_eq_getElem bh,List.foldl_append,ly];rfl
  generalize b.jS[i]=x at*
  clear ly
  apply aE;apply au;apply aB;apply aG;apply c_
  refine an rfl rfl (aW T.ok rfl aH (y:=x) ic rfl rfl rfl rfl rfl rfl ?_)
  rintro b9 q9 ys aL rfl
  have aC:=aL;clear aL
  refine Wm 1 [.e aC 0] (St.start _) rfl ?_
  refine an rfl rfl (aK T.ok rfl hs rfl rfl ?_);clear hs;rintro b8 g1 hs ah;obtain⟨aq,aH⟩:=cC ah aq aH
  refine bg rfl (aA T.ok 0 rfl hs rfl rfl rfl rfl rfl rfl rfl rfl rfl ?_);replace hs:=hs;rintro g1 hs ah;obtain⟨aq,aH⟩:=cC ah aq aH
  obtain⟨g2,bR,aU,ah,aL⟩:=hs.a_ (i:=0) rfl;replace hs:=aU;clear aU;rw[←bR];obtain⟨aq,aH⟩:=cC ah aq aH
  have aP:=aL;clear aL
  clear aC
  replace hs:St g _ []:=hs
  apply cf;refine dx 5 [.z aP] (St.start _) rfl ?_
  unfold yf at fw
  cases h1:x.oth==id with
  |false=>
   rw[h1]at fw
   refine ba rfl ?_
   refine aS rfl rfl ?_
   apply aE;apply bU;apply au;apply ar;refine Wp 2 rfl ?_;apply aD
   exact fun a ha=>⟨b.jS.length-(i+1),by omega,i+1,n,_,rfl,hs,aq,aH,by omega,fw,rfl,ha.keep ⟨rfl,rfl,rfl,rfl,rfl,kI rfl (by rw[wr (by omega) (by omega)];omega),trivial⟩⟩
  |true=>
   rw[h1]at fw
   refine A3 [.z aP] (St.start _) rfl ?_
   cases h2:decide (x.time≤time)with
   |false=>
    rw[h2]at fw
    refine aS rfl rfl ?_
    apply aE;apply bU;apply au;apply ar;refine Wp 2 rfl ?_;apply aD
    exact fun a ha=>⟨b.jS.length-(i+1),by omega,i+1,n,_,rfl,hs,aq,aH,by omega,fw,rfl,ha.keep ⟨rfl,rfl,rfl,rfl,rfl,kI rfl (by rw[wr (by omega) (by omega)];omega),trivial⟩⟩
   |true=>
    rw[h2]at fw
    refine aJ rfl rfl ?_
    apply ar;refine Wm 5 [.z aP] (St.start _) rfl ?_;apply aD;apply bU;apply au;apply ar;refine Wp 2 rfl ?_;apply aD
    exact fun a ha=>⟨b.jS.length-(i+1),by omega,i+1,_,_,rfl,hs,aq,aH,by omega,fw,rfl,ha.keep ⟨rfl,rfl,rfl,rfl,rfl,kI rfl (by rw[wr (by omega) (by omega)];omega),trivial⟩⟩
 ·refine aS (b:=decide ((i:Int)<(b.jS.length:Int))) (decide_eq_false (by omega)) rfl ?_
  rw[List.take_of_length_le (by omega)]at ly
  unfold tv
  rw[ly]
  apply bE;apply bK;apply bK;apply dc;apply au;refine aX rfl ?_
  exact aF (aV rfl rfl (hs.ret rfl))
def A6(b:fX)(f:bc)(time:Int):Bool:=bB .i64 f.par (tv b f.idn time)==0
theorem I'(f:bc)(bb:Nat)(b:fX)(sl:Nat→Value)(time:Int)(g:G)(aC:EP g bb 0 ((List.range 11).map sl))(aH:Rs g (sl 7) b.jS):
  CallsIn Wd 0 Tryz.prog 74 #[ND f bb,.int .i64 time] g.w (cR g fun _ r=>r= .bool (A6 b f time)):=by
 have hs:=St.start g
 have aq:=G.le.refl g
 refine enter Tryz.func74 rfl Tryz.ntmps74 rfl ?_
 apply c_
 refine an rfl rfl (aR rfl hs rfl rfl ?_);clear hs;rintro b1 g1 hs ah;obtain⟨aC,aH⟩:=cC ah aC aH
 obtain⟨g2,bR,aU,ah,aL⟩:=hs.a_ (i:=0) rfl;replace hs:=aU;clear aU;rw[←bR];obtain⟨aC,aH⟩:=cC ah aC aH
 have aP:=aL;clear aL
 refine ba rfl ?_;apply aB
 apply bO hs (fj (gE [])) 12 [(11,16)] (by kernel_rfl) rfl
 ·exact Dz [[],[0],[1],[],[3],[],[5],[6],[],[4,7,8],[2,9],[10]] [.z aP,.z aP,.z aP,.c LJ fun g' h=>Ca bb b sl f.idn time g' (aC.mono h) (aH.mono h)] hs (by kernel_rfl) rfl
 clear hs;intro g6 hs ah
 refine ba rfl ?_
 exact aF (aV rfl rfl (hs.ret rfl))
def s9(b:fX):List bc:=b.holds.filter fun f=>f.kind==7
theorem DY(bp bb:Nat)(b:fX)(sl:Nat→Value)(g:G)(Nt:EP g bp 0 [.pointer (some ⟨bb,0,none⟩)])(Un:EP g bb 0 ((List.range 11).map sl))(Jf:Rs g (sl 6) b.holds):
  sM Tryz.prog 156 #[.pointer (some ⟨bp,0,none⟩)] (fun f=>[ND f bb]) (s9 b) g:=by
 obtain⟨a,c,uT⟩:=Jf.isSlice
 intro g1 hle yv J Jx hJ Qf hy zC
 have hlen:=Jf.dU
 unfold maxLen at hlen
 have aq:=G.le.refl g1
 have aC:=Nt.mono hle;have HY:=Jf.mono hle;have aP:=Un.mono hle
 have qE:=aC
 refine enter Tryz.func156 rfl Tryz.ntmps156 rfl ?_
 refine dx 4 [.z aC,.z aP] (St.start _) rfl ?_
 refine cE (.slice a b.holds.length c) (t:=8) rfl uT ?_
 rw[uT]at HY
 refine ba rfl ?_;apply aG
 refine bS (fun m a' w=> ∃(k:Nat) (g':G),w=g'.w∧G.le g1 g'∧k≤b.holds.length∧m=b.holds.length-k∧J ((b.holds.take k).filter fun f=>f.kind==7) g'∧
   Fr 26 [] [(0,yv),(1,.pointer (some ⟨bp,0,none⟩)),(8,.slice a b.holds.length c),(9,.int .i64 (b.holds.length:Nat)),(10,.int .i64 (k:Nat))] a') b.holds.length
  (fun a' ha=>⟨0,g1,rfl,aq,Nat.zero_le _,rfl,zC,ha.keep (by(repeat (first|exact trivial|refine⟨rfl,?_⟩)))⟩) ?_
 clear aC aq aP
 rintro m a' _ ⟨k,g',rfl,aq,hk,rfl,pj,eI⟩
 have aC:=qE.mono aq;have eg:=HY.mono aq
 have hs:=St.start g'
 revert a'
 apply cQ;refine aX rfl ?_;apply aB
 by_cases bh:k<b.holds.length
 ·refine aJ (b:=decide ((k:Int)<(b.holds.length:Int))) (by simp;omega) rfl ?_
  have ic:=cU (n:=((k:Nat):Int)) rfl bh
  have qF:b.holds.filter (fun f=>f.kind==7)=(b.holds.take k).filter (fun f=>f.kind==7)++([b.holds[k]].filter (fun f=>f.kind==7)++(b.holds.drop (k+1)).filter (fun f=>f.kind==7)):=by
   conv=>lhs;rw[←List.take_append_drop k b.holds,List.drop_eq_getElem_cons bh]
   rw[List.filter_append,←List.singleton_append,List.filter_append]
  have fw:(b.holds.take (k+1)).filter (fun f=>f.kind==7)=(b.holds.take k).filter (fun f=>f.kind==7)++[b.holds[k]].filter (fun f=>f.kind==7):=by
   rw[List.take_succ_eq_append_getElem bh,List.filter_append]
  generalize b.holds[k]=x at*
  apply aE;apply au;apply aB;apply aG;apply c_
  refine an rfl rfl (aW T.ok rfl eg (y:=x) ic rfl rfl rfl rfl rfl rfl ?_)
  rintro bq pq ys aL rfl
  have aP:=aL;clear aL
  refine Wm 1 [.e aP 0] (St.start _) rfl ?_
  refine an rfl rfl (aK T.ok rfl hs rfl rfl ?_);clear hs;rintro bx g1 hs ah;obtain⟨aq,aC,aP⟩:=ef ah aq aC aP
  skip
  refine bg rfl (aA T.ok 0 rfl hs rfl rfl rfl rfl rfl rfl rfl rfl rfl ?_);replace hs:=hs;rintro g1 hs ah;obtain⟨aq,aC,aP⟩:=ef ah aq aC aP
  obtain⟨g2,bR,aU,ah,aL⟩:=hs.a_ (i:=0) rfl;replace hs:=aU;clear aU;rw[←bR];obtain⟨aq,aC,aP⟩:=ef ah aq aC aP
  clear aP
  have aP:=aL;clear aL
  replace hs:St g' _ []:=hs
  apply cf;refine dx 4 [.z aP] (St.start _) rfl ?_
  cases h7:x.kind==7 with
  |false=>
   rw[List.filter_cons,h7]at fw
   refine ba rfl ?_
   refine aS rfl rfl ?_
   apply aE;apply bU;apply au;apply ar;refine Wp 2 rfl ?_;apply aD
   refine fun a ha=>⟨b.holds.length-(k+1),by omega,k+1,_,rfl,aq,by omega,rfl,?_,ha.keep ⟨rfl,rfl,rfl,rfl,kI rfl (by rw[wr (by omega) (by omega)];omega),trivial⟩⟩
   rw[fw]
   simpa using hJ _ _ _ hs.mS pj
  |true=>
   rw[List.filter_cons,h7]at fw qF
   refine Wm 3 [.z aP,.z aC] (St.start _) rfl ?_
   refine an rfl rfl (aQ T.ok rfl (vs:=[(0,fv x),(1,.pointer (some ⟨bb,0,none⟩))]) (cells:=fY x bb) rfl rfl rfl rfl [(0,19),(19,1)] rfl (by kernel_rfl) ?_)
   have FI:=hJ _ _ _ hs.mS pj
   refine an rfl rfl (eT rfl rfl rfl rfl rfl rfl ((hy _ x _ _ qF aq FI).mono ?_))
   rintro _ _ ⟨g5,bv,rfl,rfl,ah,ht,hf⟩
   refine⟨_,rfl,?_⟩
   clear hs FI
   replace aq:=G.le.trans aq ah
   cases bv with
   |false=>
    refine ba rfl ?_
    refine aJ rfl rfl ?_
    skip
    refine aF ?_;apply iq;apply eF;apply eF;apply iq;refine rR rfl ?_
    exact⟨g5,_,rfl,rfl,aq,.inr ⟨_,⟨(b.holds.drop (k+1)).filter (fun f=>f.kind==7),by rw[List.append_assoc];exact qF.symm⟩,hf rfl⟩⟩
   |true=>
    refine ba rfl ?_
    refine aS rfl rfl ?_
    apply aE;apply bU;apply au;apply ar;refine Wp 2 rfl ?_;apply aD
    exact fun a ha=>⟨b.holds.length-(k+1),by omega,k+1,_,rfl,aq,by omega,rfl,by rw[fw];exact ht rfl,ha.keep ⟨rfl,rfl,rfl,rfl,kI rfl (by rw[wr (by omega) (by omega)];omega),trivial⟩⟩
 ·refine aS (b:=decide ((k:Int)<(b.holds.length:Int))) (by simp;omega) rfl ?_
  apply bE;apply bK;apply bK;apply dc
  refine k5 rfl ⟨g',_,rfl,rfl,aq,.inl ?_⟩
  rw[List.take_of_length_le (by omega)]at pj
  exact pj
end Go.Proofs.YtebobfdheanknaaGreatDoor
namespace Go.Proofs.YtebobfdheanknaaGreatDoor
open Go Go.K
set_option maxRecDepth 10000
attribute [local irreducible] W WL cT bu bX bA bB bD cW cG
set_option maxHeartbeats 1000000
def mF(m:List Int):List (Int×Value):=m.map fun k=>(k,.agg #[])
theorem Ej(m:List Int):(mF m).length=m.length:=List.length_map ..
theorem GA{m:List Int}{j:Nat}{q:Int×Value}(h:(mF m)[j]? =some q): ∃k,m[j]? =some k∧q=(k,.agg #[]):=by
 unfold mF at h
 rw[List.getElem?_map]at h
 cases hm:m[j]? with
 |none=>rw[hm]at h;cases h
 |some p=>rw[hm]at h;exact⟨p,rfl,(Option.some.inj h).symm⟩
def x7(a:Int)(m:List Int):List Int:=if a∈m then m else m++[a]
theorem x8(a:Int): ∀m:List Int,iX a (.agg #[]) (mF m)=mF (x7 a m)
 |[]=>rfl
 |k::r=>by
  show(if a=k then(k,.agg #[])::mF r else(k,.agg #[])::iX a (.agg #[]) (mF r))=mF (x7 a (k::r))
  unfold x7
  by_cases h:a=k
  ·subst h;rw[if_pos rfl,if_pos (List.mem_cons_self ..)];rfl
  ·rw[if_neg h,x8 a r]
   unfold x7
   by_cases h2:a∈r
   ·rw[if_pos h2,if_pos (List.mem_cons_of_mem _ h2)];rfl
   ·rw[if_neg h2,if_neg (by simp[h,h2])];rfl
theorem Nc:qJ Int Tryz.prog 122 (.agg #[]):=by
 have h:=zw (P:=Tryz.prog) (κ:=Int) T.ok (T:=122) rfl rfl rfl rfl rfl
 exact h
theorem Gn(bp bm:Nat)(m:List Int)(g:G)(Nt:EP g bp 0 [.map (some bm)])(mk:sR g bm (mF m)):
  wQ Tryz.prog 161 #[.pointer (some ⟨bp,0,none⟩)] (fun k:Int=>[.int .i64 k]) (fun pre=>pre.length≤m.length) (fun xs=>xs.Perm m) g:=by
 intro g1 hle yv g0 I Ix hI zo hy L hs OZ
 have aq:=G.le.refl g1
 have aC:=Nt.mono hle;have kz:=mk.mono hle
 refine enter Tryz.func161 rfl Tryz.ntmps161 rfl ?_
 refine dx 1 [.z aC] (St.start _) rfl ?_
 refine an rfl rfl (qM Nc rfl kz.2 rfl hs ?_)
 clear hs;intro r1 g2 hs ah
 replace OZ:=hI _ _ _ _ ah OZ
 replace aq:=G.le.trans aq ah;replace kz:=kz.mono ah
 apply cf;apply aG
 refine bS (fun n a' w=> ∃(seen:Array Nat) (L':List cV) (g':G),w=g'.w∧St g0 g' ([.obj r1 (wB bm (mF m).length seen)]++L')∧G.le g1 g'∧sR g' bm (mF m)∧seen.toList.Nodup∧(∀j∈seen.toList,j<m.length)∧n=m.length-seen.toList.length∧I (qw m seen.toList) L' g'∧
   Fr 14 [] [(0,yv),(5,.pointer (some ⟨r1,0,none⟩))] a') m.length
  (fun a' ha=>⟨#[],L,g2,rfl,hs,aq,kz,by simp,by simp,rfl,OZ,ha.keep (by(repeat (first|exact trivial|refine⟨rfl,?_⟩)))⟩) ?_
 clear hs aq kz aC OZ
 rintro n a' _ ⟨seen,L',g',rfl,hs,aq,kz,AN,bh,rfl,pj,eI⟩
 have H5:=ky _ _ AN bh
 revert a'
 apply cQ;apply c_
 refine an rfl rfl (sT 0 rfl hs rfl kz.2 rfl (fun dh=> ?_) (fun j q g6 hq hj H6 ah=> ?_))
 ·have rX:(qw m seen.toList).Perm m:=AO AN bh fun j hj=>by simpa using dh j (by rw[Ej];exact hj)
  refine ba rfl ?_;apply aB
  refine aS rfl rfl ?_
  apply bE;apply bK;apply bK;apply dc
  exact k5 rfl ⟨g',_,L',rfl,rfl,aq,hs.drop 0,.inl ⟨_,rX,pj⟩⟩
 ·obtain⟨k,hk,rfl⟩:=GA hq
  have OU:j<m.length:=(List.getElem?_eq_some_iff.1 hk).1
  have wC:(seen.toList++[j]).Nodup:=List.nodup_append.2 ⟨AN,by simp,by intro a ha b hb;rw[List.mem_singleton.1 hb];rintro rfl;exact hj (by simpa using ha)⟩
  have rW: ∀k∈seen.toList++[j],k<m.length:=by intro k hk;rcases List.mem_append.1 hk with hk|hk;exact bh k hk;rw[List.mem_singleton.1 hk];exact OU
  have BY:=ky _ _ wC rW
  have QH:=Nat.le_trans (wh m (seen.toList++[j])) BY
  rw[sH hk]at QH
  rw[List.length_append,List.length_singleton]at BY
  clear hs
  replace hs:St g0 g6 ([.obj r1 (wB bm (mF m).length (seen.push j))]++L'):=H6
  replace pj:=hI _ _ _ _ ah pj
  clear H6;replace aq:=G.le.trans aq ah;replace kz:=kz.mono ah
  refine ba rfl ?_;apply aB
  refine aJ rfl rfl ?_
  apply aE;apply au;apply aG;apply c_
  refine an rfl rfl (qN 0 rfl hs rfl kz.2 rfl hq ?_)
  refine ba rfl ?_;refine cP 2 rfl ?_
  refine an rfl rfl (eT rfl rfl rfl rfl rfl rfl ((hy _ _ k _ _ QH aq hs pj).mono ?_))
  rintro _ _ ⟨g7,bv,L7,rfl,rfl,ah,B0,ht,hf⟩
  refine⟨_,rfl,?_⟩
  clear hs;replace hs:=B0;clear B0
  replace aq:=G.le.trans aq ah;replace kz:=kz.mono ah
  cases bv with
  |false=>
   refine ba rfl ?_
   refine aJ rfl rfl ?_
   skip
   refine aF ?_;apply iq;apply eF;apply iq;refine rR rfl ?_
   exact⟨g7,_,L7,rfl,rfl,aq,hs.drop 0,.inr ⟨_,QH,hf rfl⟩⟩
  |true=>
   refine ba rfl ?_
   refine aS rfl rfl ?_
   apply aE;apply bU
   exact fun a ha=>⟨m.length-(seen.push j).toList.length,by rw[Array.toList_push,List.length_append,List.length_singleton];omega,seen.push j,L7,_,rfl,hs,aq,kz,by rw[Array.toList_push];exact wC,by rw[Array.toList_push];exact rW,rfl,by rw[Array.toList_push,sH hk];exact ht rfl,ha.keep (by(repeat (first|exact trivial|refine⟨rfl,?_⟩)))⟩
theorem Jb(bm:Nat)(_m:List Int)(g:G):CallsIn Wd 0 Tryz.prog 76 #[.map (some bm)] g.w (cR g fun g' r=> ∃bp,r= .func (.func 161) #[] #[.pointer (some ⟨bp,0,none⟩)]∧EP g' bp 0 [.map (some bm)]):=by
 have hs:=St.start g
 refine enter Tryz.func76 rfl Tryz.ntmps76 rfl ?_
 apply c_
 refine an rfl rfl (aR rfl hs rfl rfl ?_);clear hs;rintro b1 g1 hs ah;skip
 obtain⟨g2,bR,aU,ah,aL⟩:=hs.a_ (i:=0) rfl;replace hs:=aU;clear aU;rw[←bR];skip
 have aC:=aL;clear aL
 refine ba rfl ?_;refine aX rfl ?_
 exact aF (aV rfl rfl (hs.ret ⟨b1,rfl,aC⟩))
theorem wR{jR:FuncId}{eG:Array Value}(fY:ag Tryz.prog jR){A Z:List Int→Prop}(hA: ∀pre,A pre→pre.length≤1000000)(g:G)(qG:wQ Tryz.prog jR eG (fun x:Int=>[.int .i64 x]) A Z g):
  CallsIn Wd 0 Tryz.prog 255 #[.slice none 0 0,.func (.func jR) #[] eG] g.w (cR g fun g' r=> ∃xs,Z xs∧jZ 3 g xs g' r):=by
 have hs:=St.start g
 have aq:=G.le.refl g
 refine qH Tryz.func255 rfl Tryz.ntmps255 rfl ?_
 apply c_
 refine an rfl rfl (aR rfl hs rfl rfl ?_);clear hs;rintro bo g1 hs ah;replace aq:=G.le.trans aq ah
 replace hs:=hs.gI 3 1 none
 refine ba rfl ?_;apply aB;refine aX rfl ?_;apply aG
 refine s_ (N:=13) hs rfl fY (qG.mono aq) rfl (fun _=>rfl)
  (fun pre L _=> ∃v,L=[.row 3 1 v pre.length (eB pre),.obj bo (.cells #[v] 23 (0,0))]) (fun _ _ _ _=>False)
  (fun _ _ _ _ _ h=>h) (fun _ _ _ _ _ _ h=>h) ⟨_,rfl⟩ (fun pre x L la _=>la=[(5,.int .i64 x),(2,.pointer (some ⟨bo,0,none⟩))]∧ ∃v,L=[.row 3 1 v pre.length (eB pre),.obj bo (.cells #[v] 23 (0,0))]) (fun _ _ _ _ _ _ _ h=>h) ?_ ?_ ?_ ?_
 ·rintro lp D ro pre x gr Lr M jm hle hs hI
  apply ar;refine Wp 1 rfl ?_;apply aD
  exact fun a ha=>⟨gr,Lr,_,rfl,G.le.refl _,hs,⟨rfl,hI⟩,ha.keep (by(repeat (first|exact trivial|refine⟨rfl,?_⟩)))⟩
 ·rintro lp D ro pre x gr Lr la M jm hle hs ⟨rfl,v,rfl⟩
  have cN:=G.le.refl gr
  have AX:=hA _ jm
  rw[List.length_append,List.length_singleton]at AX
  obtain⟨av,cv,rfl⟩:=(hs.own 2 _ rfl).1.form
  apply aG;apply ar;refine Wm 2 [.o 3] hs rfl ?_
  refine an rfl rfl (bj T.ok rfl hs (vs:=[(0,.int .i64 x)]) (cells:=[.int .i64 x]) rfl rfl rfl rfl rfl rfl (by decide) (by decide) (by kernel_rfl) rfl ?_);rintro b2 g2 hs ah;replace cN:=G.le.trans cN ah
  skip
  refine an rfl rfl (b_ T.ok 3 rfl hs rfl rfl rfl rfl rfl rfl rfl (by decide) rfl (Src.gK (hs.own 0 _ rfl).1).2 (by simp[Value.oneCell']) (by show(pre.length+1)*8≤_;omega) (by unfold maxLen;omega) ?_);rintro a9 c9 g3 hs ah;replace cN:=G.le.trans cN ah
  skip
  refine bg rfl (aA T.ok 4 rfl hs rfl rfl rfl rfl rfl rfl rfl rfl rfl ?_);replace hs:=hs;rintro g1 hs ah;replace cN:=G.le.trans cN ah
  apply aD;apply bU
  exact fun a ha=>⟨_,_,rfl,hs.drop 0,cN,[.row 3 1 (.slice a9 (pre.length+1) c9) (pre.length+1) (eB pre++[.int .i64 x]),.obj bo (.cells #[.slice a9 (pre.length+1) c9] 23 (0,0))],rfl,.slice a9 (pre.length+1) c9,by simp[eB]⟩
 ·rintro lp D o xs Lr ge hz hle hs ⟨v,rfl⟩
  obtain⟨av,cv,rfl⟩:=(hs.own 2 _ rfl).1.form
  apply bU;apply au;refine nK [.o 3] hs rfl ?_
  refine aF ?_;skip
  refine DZ 1 rfl hs rfl rfl (fun g' iS fL=> ?_)
  exact iS.ret ⟨xs,hz,eB xs,iS.own 1 _ rfl,cO.ints _ _⟩
 ·rintro c lp D o pre Lr ge _ _ _ h
  exact h.elim
theorem z7{jR:FuncId}{eG:Array Value}(fY:ag Tryz.prog jR){A Z:List Int→Prop}(hA: ∀pre,A pre→pre.length≤1000000)(g:G)(qG:wQ Tryz.prog jR eG (fun x:Int=>[.int .i64 x]) A Z g):
  CallsIn Wd 0 Tryz.prog 160 #[.func (.func jR) #[] eG] g.w (cR g fun g' r=> ∃xs,Z xs∧jZ 3 g xs g' r):=by
 refine enter Tryz.func160 rfl Tryz.ntmps160 rfl ?_
 refine aX rfl ?_;refine cP 1 rfl ?_
 refine an rfl rfl (ay Mx aI rfl rfl rfl rfl rfl (wR fY hA g qG) ?_)
 rintro g1 r aN ⟨xs,hz,dZ⟩
 refine ba rfl ?_
 exact aF (aV rfl rfl ⟨g1,r,rfl,aN,rfl,xs,hz,dZ⟩)
end Go.Proofs.YtebobfdheanknaaGreatDoor
namespace Go.Proofs.YtebobfdheanknaaGreatDoor
open Go Go.K
set_option maxRecDepth 10000
attribute [local irreducible] W WL cT bu bX bA bB bD cW cG
set_option maxHeartbeats 1000000
theorem cO.pH{g:G}: ∀{xs:List Int} {cells:List Value},cO g cells xs→cells=iz xs
 |[],_,h=>h
 |x::xs,_,⟨c1,c2,e,h1,h2⟩=>by rw[e,cO.pH h2,show c1=[Value.int .i64 x]from h1];rfl
theorem Bb(v:Value)(xs:List Int)(g:G)(aH:Rs g v xs)(hlen:xs.length≤1000000):
  CallsIn Wd 0 Tryz.prog 131 #[v] g.w (cR g (jZ 3 g xs)):=by
 obtain⟨ad,n,c,rfl,hn,hc,hr⟩:=id aH
 have hs:=St.start g
 have aq:=G.le.refl g
 refine enter Tryz.func131 rfl Tryz.ntmps131 rfl ?_
 refine aX rfl ?_;apply aB;refine cP 1 rfl ?_
 refine an rfl rfl (fS T.ok (neg:=false) rfl rfl rfl rfl rfl ?_)
 apply cf
 cases ad with
 |none=>
  refine aJ rfl rfl ?_
  refine aX rfl ?_
  refine aF (aV rfl rfl (hs.ret ?_))
  have:xs=[]:=by
   rcases hr with h|⟨b,o,cells,h,_⟩
   ·exact List.eq_nil_of_length_eq_zero (by omega)
   ·cases h
  subst this
  exact jZ.nil _ _ _ _
 |some ad=>
  refine aS rfl rfl ?_
  apply aE;apply au;apply c_
  refine an rfl rfl (bj T.ok rfl hs (vs:=[]) (cells:=[]) rfl rfl rfl rfl rfl rfl (by decide) (by decide) (by kernel_rfl) rfl ?_);rintro b2 g2 hs ah;replace aH:=aH.mono ah
  refine Wp 1 rfl ?_
  obtain⟨hm,news,eK,gn⟩:=Src.jq aH
  subst hm
  obtain rfl:=cO.pH eK
  refine an rfl rfl (b_ T.ok 0 rfl hs rfl rfl rfl rfl rfl rfl rfl (by decide) rfl gn (by simp[iz,Value.oneCell']) (by show(0+xs.length)*8≤_;omega) (by unfold maxLen;omega) ?_);rintro a' c' g3 hs ah
  refine ba rfl ?_
  exact aF (aV rfl rfl (hs.ret (hs.mR (i:=0) rfl (cO.ints _ _))))
end Go.Proofs.YtebobfdheanknaaGreatDoor
namespace Go.Proofs.YtebobfdheanknaaGreatDoor
open Go Go.K
set_option maxRecDepth 10000
attribute [local irreducible] W WL cT bu bX bA bB bD cW cG
set_option maxHeartbeats 1000000
def jJ(xs:List Int):List Int:=xs.mergeSort fun x y=>decide (x≤y)
theorem vu(xs:List Int):(jJ xs).length=xs.length:=by unfold jJ;exact List.length_mergeSort _
theorem vv(xs:List Int):zj (fun x=>(x,0)) (jJ xs):=by
 have h:=List.pairwise_mergeSort (le:=fun x y:Int=>decide (x≤y)) (by intro a b c h1 h2;simp at*;omega) (by intro a b;simp;omega) xs
 refine List.Pairwise.imp (fun {a b} h=> ?_) h
 simp only[decide_eq_true_eq]at h
 rw[iC];simp only;omega
theorem z8{xs ys:List Int}(h:xs.Perm ys):jJ xs=jJ ys:=
 ox (((List.mergeSort_perm xs _).trans h).trans (List.mergeSort_perm ys _).symm) (vv xs) (vv ys) fun _ _ _ _ e=>congrArg Prod.fst e
theorem zR{ad:Option Addr}{n c:Nat}{zs:List Int}{g0 g:G}{L:List cV}(hl:zs.length≤1000000)(hs:St g0 g (.row 3 1 (.slice ad n c) n (eB zs)::L)):
  CallsIn Wd 0 Tryz.prog 49 #[.slice ad n c] g.w (eu g fun g' r=>r= .tuple #[]∧St g0 g' (.row 3 1 (.slice ad n c) n (eB (jJ zs))::L)):=by
 have hr:=hs.own 0 _ rfl
 by_cases h0:n=0
 ·subst h0
  have hz:zs=[]:=by
   have:=hr.1.1
   rw[lO,Nat.zero_mul]at this
   exact List.eq_nil_of_length_eq_zero this
  subst hz
  refine callsIn_wide.2 ((Tryz.slices_Sort_int_none ad c g.w).mono ?_)
  rintro e w' ⟨rfl,rfl⟩
  refine⟨g,_,rfl,rfl,G.le.refl g,rfl,?_⟩
  have e0:jJ []=[]:=by unfold jJ;simp
  rw[e0];exact hs
 ·obtain⟨bk,off,rfl⟩:=hr.1.pos h0
  obtain⟨hH,zQ,rfl,nd,oJ⟩:=hr.1.D8 h0
  refine callsIn_wide.2 ((Tryz.slices_Sort_int bk off c zs g.w hH zQ (by omega)).mono ?_)
  rintro e w' ⟨rfl,q,os,rfl⟩
  obtain⟨g2,bR,aU,ah⟩:=hs.putRow (i:=0) (q:=q) (os:=os) (d:=jJ zs) rfl h0 (vu zs)
  exact⟨g2,_,bR,rfl,ah,rfl,aU⟩
theorem B3{jR:FuncId}{eG:Array Value}(fY:ag Tryz.prog jR){A:List Int→Prop}{m:List Int}(hA: ∀pre,A pre→pre.length≤1000000)(hm:m.length≤1000000)(g:G)(qG:wQ Tryz.prog jR eG (fun x:Int=>[.int .i64 x]) A (fun xs=>xs.Perm m) g):
  CallsIn Wd 0 Tryz.prog 75 #[.func (.func jR) #[] eG] g.w (cR g fun g' r=>jZ 3 g (jJ m) g' r):=by
 have hs:=St.start g
 refine enter Tryz.func75 rfl Tryz.ntmps75 rfl ?_
 refine aX rfl ?_;refine cP 1 rfl ?_
 refine an rfl rfl (ay LK aI rfl rfl rfl rfl rfl (z7 fY hA g qG) ?_)
 rintro g1 r aN ⟨xs,hp,cells,dZ,eK⟩
 obtain rfl:cells=eB xs:=cO.pH eK
 obtain⟨ad,c,rfl⟩:=dZ.1.form
 replace hs:=hs.gJ aN dZ
 clear eK dZ
 have lG:=hp.length_eq
 refine ba rfl ?_;refine cP 1 rfl ?_
 refine an rfl rfl (dv IU aI rfl rfl rfl rfl rfl (zR (zs:=xs) (by omega) hs) ?_)
 clear hs
 rintro g6 _ ah ⟨rfl,hs⟩
 rw[z8 hp]at hs
 apply cf;refine aX rfl ?_
 refine aF (aV rfl rfl (hs.ret ⟨eB (jJ m),?_,cO.ints _ _⟩))
 rw[vu,←lG]
 exact hs.own 0 _ rfl
end Go.Proofs.YtebobfdheanknaaGreatDoor
namespace Go.Proofs.YtebobfdheanknaaGreatDoor
open Go Go.K
set_option maxRecDepth 10000
attribute [local irreducible] W WL cT bu bX bA bB bD cW cG
set_option maxHeartbeats 1000000
theorem Gk(bb:Nat)(g:G):CallsIn Wd 0 Tryz.prog 72 #[.pointer (some ⟨bb,0,none⟩)] g.w (cR g fun g' r=> ∃bp,r= .func (.func 156) #[] #[.pointer (some ⟨bp,0,none⟩)]∧EP g' bp 0 [.pointer (some ⟨bb,0,none⟩)]):=by
 have hs:=St.start g
 refine enter Tryz.func72 rfl Tryz.ntmps72 rfl ?_
 apply c_
 refine an rfl rfl (aR rfl hs rfl rfl ?_);clear hs;rintro b1 g1 hs ah;skip
 obtain⟨g2,bR,aU,ah,aL⟩:=hs.a_ (i:=0) rfl;replace hs:=aU;clear aU;rw[←bR];skip
 have aC:=aL;clear aL
 refine ba rfl ?_;refine aX rfl ?_
 exact aF (aV rfl rfl (hs.ret ⟨b1,rfl,aC⟩))
def mX(b:fX)(a:fD)(m:List Int)(f:bc):List Int:=if s8 b f a&& !A6 b f a.time then x7 f.idn m else m
def H8(b:fX)(a:fD):List Int:=(s9 b).foldl (mX b a) []
def oI(b:fX)(a:fD):List Int:=jJ (H8 b a)
theorem vq(b:fX)(a:fD): ∀(l:List bc) (m:List Int),(l.foldl (mX b a) m).length≤m.length+l.length
 |[],m=>Nat.le_refl _
 |f::l,m=>by
  rw[List.foldl_cons]
  have ih:=vq b a l (mX b a m f)
  have h1:(mX b a m f).length≤m.length+1:=by
   unfold mX x7
   split
   ·split
    ·omega
    ·simp
   ·omega
  rw[List.length_cons];omega
def rm(b:fX)(a:fD)(sl:Nat→Value)(bm b2 b3 b5:Nat)(g:G)(pre:List bc)(L:List cV)(g':G):Prop:=
 L=[.obj bm (et (mF (pre.foldl (mX b a) [])))]∧EP g' b5 0 [.map (some bm)]∧EP g' b2 0 ((List.range 11).map sl)∧EP g' b3 0 (pE a)∧iI g' (.agg ((List.range 11).map sl).toArray) b∧Rs g' (sl 7) b.jS∧G.le g g'
theorem rm.mono{b:fX}{a:fD}{sl:Nat→Value}{bm b2 b3 b5:Nat}{g:G}(pre:List bc)(L:List cV)(g1 g2:G)(hle:g1.le g2)(h:rm b a sl bm b2 b3 b5 g pre L g1):rm b a sl bm b2 b3 b5 g pre L g2:=by
 obtain⟨e,h1,h2,h3,h4,h5,h6⟩:=h
 exact⟨e,h1.mono hle,h2.mono hle,h3.mono hle,h4.mono hle,h5.mono hle,h6.trans hle⟩
theorem A7(v:Value)(b:fX)(a:fD)(g:G)(bI:iI g v b)(hb:DX b):CallsIn Wd 0 Tryz.prog 32 #[v,Gl a] g.w (cR g fun g' r=>Rs g' r (oI b a)):=by
 have hs:=St.start g
 have aq:=G.le.refl g
 obtain⟨sl,rfl,jr⟩:=bI
 have bI:iI g (.agg ((List.range 11).map sl).toArray) b:=⟨sl,rfl,jr⟩
 have aH:Rs g (sl 6) b.holds:=jr 6 (by decide)
 have aT:Rs g (sl 7) b.jS:=jr 7 (by decide)
 refine qH Tryz.func32 rfl Tryz.ntmps32 rfl ?_
 apply c_
 refine an rfl rfl (aR rfl hs rfl rfl ?_);clear hs;rintro b2 g1 hs ah;obtain⟨aq,aH,aT,bI⟩:=dE ah aq aH aT bI
 obtain⟨g2,bR,aU,ah,aL⟩:=hs.a_ (i:=0) rfl;replace hs:=aU;clear aU;rw[←bR];obtain⟨aq,aH,aT,bI⟩:=dE ah aq aH aT bI
 have aC:=aL;clear aL
 skip
 refine an rfl rfl (aR rfl hs rfl rfl ?_);clear hs;rintro b3 g1 hs ah;obtain⟨aq,aC,aH,aT,bI⟩:=kN ah aq aC aH aT bI
 obtain⟨g2,bR,aU,ah,aL⟩:=hs.a_ (i:=0) rfl;replace hs:=aU;clear aU;rw[←bR];obtain⟨aq,aC,aH,aT,bI⟩:=kN ah aq aC aH aT bI
 have aP:=aL;clear aL
 refine ba rfl ?_;apply c_
 refine an rfl rfl (jH (κ:=Int) rfl hs ?_)
 clear hs;intro bm g1 hs ah;obtain⟨aq,aC,aP,aH,aT,bI⟩:=iu ah aq aC aP aH aT bI
 refine an rfl rfl (aK T.ok rfl hs rfl rfl ?_);clear hs;rintro b5 g1 hs ah;obtain⟨aq,aC,aP,aH,aT,bI⟩:=iu ah aq aC aP aH aT bI
 refine bg rfl (aA T.ok 0 rfl hs rfl rfl rfl rfl rfl rfl rfl rfl rfl ?_);replace hs:=hs;rintro g1 hs ah;obtain⟨aq,aC,aP,aH,aT,bI⟩:=iu ah aq aC aP aH aT bI
 obtain⟨g2,bR,aU,ah,aL⟩:=hs.a_ (i:=0) rfl;replace hs:=aU;clear aU;rw[←bR];obtain⟨aq,aC,aP,aH,aT,bI⟩:=iu ah aq aC aP aH aT bI
 have dO:=aL;clear aL
 replace hs:St g _ [.obj bm (et (mF []))]:=hs
 apply cf;apply aB;apply c_
 refine an rfl rfl (ay PR (fun _=>trivial) rfl rfl rfl rfl rfl (Gk b2 _) ?_)
 rintro g6 _ mY ⟨bp,rfl,Qu⟩
 replace hs:=hs.call mY;have ah:=mY.le;obtain⟨aq,aC,aP,dO,aH,aT⟩:=iu ah aq aC aP dO aH aT;replace bI:=bI.mono ah
 apply cf;apply aG
 refine s_ (N:=28) hs rfl LH (DY bp b2 b sl g6 Qu aC aH).SB rfl (fun _=>rfl)
  (rm b a sl bm b2 b3 b5 g) (fun _ _ _ _=>False) rm.mono (fun _ _ _ _ _ _ h=>h) ⟨rfl,dO,aC,aP,bI,aT,aq⟩
  (fun pre x L la g'=>(∃b6,la=[(5,.pointer (some ⟨b5,0,none⟩)),(3,.pointer (some ⟨b3,0,none⟩)),(6,.pointer (some ⟨b6,0,none⟩))]∧EP g' b6 0 (fY x b2))∧rm b a sl bm b2 b3 b5 g pre L g')
  (fun _ _ _ _ _ _ hle ⟨⟨b6,e,h1⟩,h2⟩=>⟨⟨b6,e,h1.mono hle⟩,rm.mono _ _ _ _ hle h2⟩) ?_ ?_ ?_ ?_
 ·rintro lp D ro pre x gr Lr M jm hle hs hI
  have cN:=G.le.refl gr
  apply ar
  refine an rfl rfl (aK T.ok rfl hs rfl rfl ?_);clear hs;rintro b6 g1 hs ah;replace cN:=G.le.trans cN ah
  refine bg rfl (aA T.ok 0 rfl hs rfl rfl rfl rfl rfl rfl rfl rfl rfl ?_);replace hs:=hs;rintro g1 hs ah;replace cN:=G.le.trans cN ah
  obtain⟨g2,bR,aU,ah,aL⟩:=hs.a_ (i:=0) rfl;replace hs:=aU;clear aU;rw[←bR];replace cN:=G.le.trans cN ah
  apply aD
  exact fun a ha=>⟨_,Lr,_,rfl,cN,hs,⟨⟨b6,rfl,aL⟩,rm.mono _ _ _ _ cN hI⟩,ha.keep (by(repeat (first|exact trivial|refine⟨rfl,?_⟩)))⟩
 ·rintro lp D ro pre x gr Lr la M jm hle hs ⟨⟨b6,rfl,aC⟩,rfl,aP,dL,dO,bI,aT,aq⟩
  have cN:=G.le.refl gr
  have B2:(pre++[x]).foldl (mX b a) []=if s8 b x a&& !A6 b x a.time then x7 x.idn (pre.foldl (mX b a) [])else pre.foldl (mX b a) []:=by rw[List.foldl_append];rfl
  generalize pre.foldl (mX b a) []=M0 at*
  apply aG;refine dx 2 [.z aC,.z dO] (St.start _) rfl ?_
  refine an rfl rfl (ay PS (fun _=>trivial) rfl rfl rfl rfl rfl (CallsIn.kr rfl rfl rfl (Gm x b2 b sl a _ dL bI)) ?_)
  rintro g7 _ uM rfl;replace hs:=hs.call uM;have ah:=uM.le;obtain⟨aq,cN,aC,aP,dO,aT⟩:=iu ah aq cN aC aP dO aT;obtain⟨dL,bI⟩:=cC ah dL bI
  cases h1:s8 b x a with
  |false=>
   rw[h1]at B2
   refine ba rfl ?_
   refine aS rfl rfl ?_
   apply aE;apply bU
   exact fun a' ha=>⟨_,_,rfl,hs,cN,[.obj bm (et (mF (M0)))],rfl,by rw[B2];rfl,aP,dL,dO,bI,aT,aq⟩
  |true=>
   rw[h1]at B2
   refine Wm 4 [.z aC,.z dO] (St.start _) rfl ?_
   clear uM
   refine an rfl rfl (ay PT (fun _=>trivial) rfl rfl rfl rfl rfl (CallsIn.kr rfl rfl rfl (I' x b2 b sl a.time _ dL aT)) ?_)
   rintro g8 _ uM rfl;replace hs:=hs.call uM;have ah:=uM.le;obtain⟨aq,cN,aC,aP,dO,aT⟩:=iu ah aq cN aC aP dO aT;obtain⟨dL,bI⟩:=cC ah dL bI
   cases h2:A6 b x a.time with
   |true=>
    rw[h2]at B2
    refine ba rfl ?_
    refine aS rfl rfl ?_
    apply aE;apply bU
    exact fun a' ha=>⟨_,_,rfl,hs,cN,[.obj bm (et (mF (M0)))],rfl,by rw[B2];rfl,aP,dL,dO,bI,aT,aq⟩
   |false=>
    rw[h2]at B2
    refine ba rfl ?_
    refine aJ rfl rfl ?_
    apply ar;refine Wm 4 [.z aP,.z aC] (St.start _) rfl ?_
    refine an rfl rfl (aQ T.ok rfl (vs:=[]) (cells:=[]) rfl rfl rfl rfl [] rfl (by kernel_rfl) ?_)
    refine bg rfl (dC Nc 2 (.inl rfl) hs rfl rfl (a:=x.idn) rfl rfl ?_)
    clear hs;intro g9 hs ah;obtain⟨aq,cN,aC,aP,dO,aT⟩:=iu ah aq cN aC aP dO aT;obtain⟨dL,bI⟩:=cC ah dL bI
    replace hs:St g g9 (.obj lp (ro .busy):: .obj D fM::([.obj bm (et (iX x.idn (.agg #[]) (mF M0)))]++M)):=hs
    rw[x8]at hs
    apply aD;apply bU
    exact fun a' ha=>⟨_,_,rfl,hs,cN,[.obj bm (et (mF (x7 x.idn M0)))],rfl,by rw[B2];rfl,aP,dL,dO,bI,aT,aq⟩
 ·rintro lp D o xs Lr ge rfl hle hs ⟨rfl,aC,_,_,_,_,aq⟩
  have hM:=vq b a (s9 b) []
  have hh:(s9 b).length≤1000000:=Nat.le_trans (List.length_filter_le ..) (hb 6)
  unfold oI H8
  generalize(s9 b).foldl (mX b a) []=m at*
  have Ja:m.length≤1000000:=by simp only[List.length_nil]at hM;omega
  obtain⟨g8,xD,qO,ah,kz⟩:=DP hs (i:=2) rfl
  rw[←xD];clear hs;replace hs:=qO;clear qO;replace aC:=aC.mono ah;clear xD
  apply bU;apply au;refine dx 1 [.z aC] (St.start _) rfl ?_
  refine an rfl rfl (ay PV (fun _=>trivial) rfl rfl rfl rfl rfl (Jb bm m _) ?_)
  rintro g9 _ H9 ⟨bq,rfl,Ud⟩;replace hs:=hs.call H9;have ah:=H9.le;replace kz:=kz.mono ah
  skip
  refine an rfl rfl (ay PU (fun _=>trivial) rfl rfl rfl rfl rfl (B3 LL (fun pre h=>Nat.le_trans h Ja) Ja _ (Gn bq bm m _ Ud kz)) ?_)
  rintro g10 v10 Nd uH
  obtain⟨g11,Nf,Ng,ah,py⟩:=hs.mZ Nd uH
  have ah:=Nd.le.trans ah
  rw[←Nf];clear hs;replace hs:=Ng;clear Ng;clear Nf
  refine ba rfl ?_
  refine aF ?_;skip
  exact DZ 1 rfl hs rfl rfl (fun g' iS fL=>iS.ret (py.mono fL))
 ·rintro c lp D o pre Lr ge _ _ _ h
  exact h.elim
end Go.Proofs.YtebobfdheanknaaGreatDoor
namespace Go.Proofs.YtebobfdheanknaaGreatDoor
open Go Go.K
set_option maxRecDepth 10000
attribute [local irreducible] W WL cT bu bX bA bB bD cW cG
set_option maxHeartbeats 1000000
theorem zP(g:G)(xs:List bc): ∀u∈fl xs,u.oneCell'=true:=cO.one (cO.fl g xs)
theorem D0(v:Value)(xs:List bc)(g:G)(aH:Rs g v xs)(hlen:xs.length≤1000000):
  CallsIn Wd 0 Tryz.prog 128 #[v] g.w (cR g (jZ 54 g xs)):=by
 obtain⟨ad,n,c,rfl,hn,hc,hr⟩:=id aH
 have hs:=St.start g
 have aq:=G.le.refl g
 refine enter Tryz.func128 rfl Tryz.ntmps128 rfl ?_
 refine aX rfl ?_;apply aB;refine cP 1 rfl ?_
 refine an rfl rfl (fS T.ok (neg:=false) rfl rfl rfl rfl rfl ?_)
 apply cf
 cases ad with
 |none=>
  refine aJ rfl rfl ?_
  refine aX rfl ?_
  refine aF (aV rfl rfl (hs.ret ?_))
  have:xs=[]:=by
   rcases hr with h|⟨b,o,cells,h,_⟩
   ·exact List.eq_nil_of_length_eq_zero (by omega)
   ·cases h
  subst this
  exact jZ.nil _ _ _ _
 |some ad=>
  refine aS rfl rfl ?_
  apply aE;apply au;apply c_
  refine an rfl rfl (bj T.ok rfl hs (vs:=[]) (cells:=[]) rfl rfl rfl rfl rfl rfl (by decide) (by decide) (by kernel_rfl) rfl ?_);rintro b2 g2 hs ah;replace aH:=aH.mono ah
  refine Wp 1 rfl ?_
  obtain⟨hm,news,eK,gn⟩:=Src.jq aH
  subst hm
  obtain rfl:=kX eK
  refine an rfl rfl (b_ T.ok 0 rfl hs rfl rfl rfl rfl rfl rfl rfl (by decide) rfl gn (zP g xs) (by show(0+xs.length)*160≤_;omega) (by unfold maxLen;omega) ?_);rintro a' c' g3 hs ah
  refine ba rfl ?_
  exact aF (aV rfl rfl (hs.ret (hs.mR (i:=0) rfl (cO.fl _ _))))
theorem uP{p:bc→Bool}(xs:List bc)(k:Nat)(h:k<xs.length)(hp:p xs[k]=true)(dy: ∀j (h:j<xs.length),j<k→p xs[j]=false):
  xs.take k=(xs.take (k+1)).filter (fun x=> !p x):=by
 rw[List.take_succ_eq_append_getElem h,List.filter_append]
 have:(xs.take k).filter (fun x=> !p x)=xs.take k:=by
  rw[List.filter_eq_self]
  intro x hx
  obtain⟨j,hj,rfl⟩:=List.mem_iff_getElem.1 hx
  simp only[List.length_take]at hj
  rw[List.getElem_take,dy j (by omega) (by omega)];rfl
 rw[this];simp[hp]
theorem Gp(xs:List bc)(i:Nat):(fl xs).take (i*19)=fl (xs.take i):=by
 rcases Nat.lt_or_ge xs.length i with h|h
 ·rw[List.take_of_length_le (l:=xs) (by omega),List.take_of_length_le]
  rw[mc];show xs.length*19≤_;omega
 ·have e:=mc (xs.take i)
  rw[List.length_take,Nat.min_eq_left h]at e
  conv=>lhs;rw[←List.take_append_drop i xs,lr]
  exact List.take_left' e
theorem B4(p:bc→Bool)(g0 g:G)(L:List cV)(v fo:Value)(xs:List bc)(hs:St g0 g (.row 54 19 v xs.length (fl xs)::L))(hlen:xs.length≤1000000)(hp:x6 fo p xs g):
  CallsIn Wd 0 Tryz.prog 127 #[v,fo] g.w (eu g fun g' v'=>St g0 g' (.row 54 19 v' (xs.filter fun x=> !p x).length (fl (xs.filter fun x=> !p x))::L)):=by
 have aq:=G.le.refl g
 obtain⟨ad,cap,rfl⟩:=(hs.own 0 _ rfl).1.form
 refine enter Tryz.func127 rfl Tryz.ntmps127 rfl ?_
 refine aX rfl ?_;refine cP 2 rfl ?_
 obtain⟨gf,Nh,H_,py,td⟩:=hs.Jc (α:=bc) (i:=0) rfl (cO.fl _ _)
 rw[←Nh]
 refine an rfl rfl (ay IS aI rfl rfl rfl rfl rfl (sZ _ _ xs p gf py (hp.mono H_)) ?_)
 rintro g2 _ wF rfl
 obtain⟨g3,sq,ff⟩:=td g2 wF
 rw[←sq]
 replace hs:=hs.call ff
 have ah:=ff.le;replace aq:=G.le.trans aq ah
 refine ba rfl ?_;apply aB;refine aX rfl ?_
 rcases mb p xs with⟨su,dy⟩|⟨k0,zl,su,wE,dy⟩
 ·refine aJ (b:=lu p xs== -1) (by simp[su]) rfl ?_
  refine aX rfl ?_
  have Jd:(xs.filter fun x=> !p x)=xs:=List.filter_eq_self.2 fun x hx=>by simp[dy x hx]
  rw[Jd]
  exact aF (aV rfl rfl (eu.intro aq hs))
 ·refine aS (b:=lu p xs== -1) (by simp only[su,beq_eq_false_iff_ne];omega) rfl ?_
  rw[su]
  obtain⟨⟨b0,p0,rfl⟩,qP⟩:(∃b p,ad=some ⟨b,p,none⟩)∧xs.length≤cap∧cap≤maxLen:=by
   rcases(hs.own 0 _ rfl).1.2 with⟨h,_⟩|⟨b,q,c,cur,e1,_,_,h1,h2,_⟩
   ·omega
   ·simp only[Value.slice.injEq]at e1
    obtain⟨rfl,_,rfl⟩:=e1
    exact⟨⟨b,q,rfl⟩,h1,h2⟩
  unfold maxLen at qP
  apply aE;apply au;apply aB;refine aX rfl ?_;apply aG
  refine bS (fun m a' w=> ∃(j i':Nat) (cs:List bc) (g':G),w=g'.w∧St g0 g' (eP 54 (some ⟨b0,p0,none⟩) xs.length cap cs::L)∧G.le g g'∧j≤xs.length∧m=xs.length-j∧
   cs.length=xs.length∧i'<j∧cs.take i'=(xs.take j).filter (fun x=> !p x)∧cs.drop j=xs.drop j∧
   Fr 42 [] [(0,.slice (some ⟨b0,p0,none⟩) xs.length cap),(1,fo),(5,.int .i64 i'),(6,.int .i64 j)] a') (xs.length-(k0+1))
   (fun a' ha=>⟨k0+1,k0,xs,g3,rfl,hs,aq,zl,rfl,rfl,Nat.lt_succ_self _,uP xs k0 zl wE dy,rfl,ha.keep ⟨rfl,rfl,rfl,kI rfl (by rw[wr (by omega) (by omega)];omega),trivial⟩⟩) ?_
  clear hs aq
  rintro m a' _ ⟨j,i',cs,g',rfl,hs,aq,hj,rfl,fY,zK,fw,H',eI⟩
  revert a'
  apply cQ;apply aB;refine aX rfl ?_
  by_cases bh:j<xs.length
  ·refine aJ (b:=decide ((j:Int)<(xs.length:Int))) (by simp;omega) rfl ?_
   have Qv:cs[j]? =some xs[j]:=by
    have:=congrArg (fun l=>l[0]?) H'
    simpa [List.getElem?_eq_getElem bh]using this
   apply aE;apply au;apply aB;apply aG;refine cP 2 rfl ?_
   refine an rfl rfl (cZ (α:=bc) 0 rfl hs rfl (by omega) (by omega) rfl rfl rfl rfl rfl rfl ?_)
   rintro b q hh;obtain⟨rfl,rfl⟩:b0=b∧p0=q:=by simpa using hh
   rw[Int.toNat_natCast]
   refine an rfl rfl (dR (α:=bc) 0 rfl hs rfl rfl (j:=j) Qv rfl rfl rfl ?_)
   have qQ:=List.getElem_mem bh
   have Gq:(xs.take (j+1)).filter (fun x=> !p x)=(xs.take j).filter (fun x=> !p x)++(if p xs[j]then []else [xs[j]]):=by
    rw[List.take_succ_eq_append_getElem bh,List.filter_append]
    cases Qw:p xs[j]<;>simp[Qw]
   have D1:cs.drop (j+1)=xs.drop (j+1):=by
    have:=congrArg (List.drop 1) H'
    simpa [List.drop_drop]using this
   generalize xs[j]=x at*
   refine an rfl rfl (aK T.ok rfl hs rfl rfl ?_);clear hs;rintro b7 g1 hs ah;replace aq:=G.le.trans aq ah
   refine bg rfl (aA T.ok 0 rfl hs rfl rfl rfl rfl rfl rfl rfl rfl rfl ?_);replace hs:=hs;rintro g1 hs ah;replace aq:=G.le.trans aq ah
   obtain⟨g2,bR,aU,ah,aL⟩:=hs.a_ (i:=0) rfl;replace hs:=aU;clear aU;rw[←bR];replace aq:=G.le.trans aq ah
   have aC:=aL;clear aL
   replace hs:St g0 _ (eP 54 (some ⟨b0,p0,none⟩) xs.length cap cs::L):=hs
   apply cf;refine dx 2 [.z aC] (St.start _) rfl ?_
   refine an rfl rfl (eA rfl rfl rfl rfl rfl rfl (hp _ x qQ aq) ?_);rintro g4 _ kL rfl;replace hs:=hs.call kL;have ah:=kL.le;obtain⟨aq,aC⟩:=cC ah aq aC
   cases hb:p x with
   |true=>
    refine ba rfl ?_
    refine aS rfl rfl ?_
    rw[hb,if_pos rfl,List.append_nil]at Gq
    apply aE;apply bU;apply au;apply ar;refine Wp 3 rfl ?_;apply aD
    exact fun a ha=>⟨xs.length-(j+1),by omega,j+1,i',cs,_,rfl,hs,aq,by omega,rfl,fY,by omega,by rw[fw,Gq],D1,ha.keep ⟨rfl,rfl,rfl,kI rfl (by rw[wr (by omega) (by omega)];omega),trivial⟩⟩
   |false=>
    refine ba rfl ?_
    refine aJ rfl rfl ?_
    rw[hb,if_neg (by simp)]at Gq
    refine dx 3 [.z aC] (St.start _) rfl ?_
    refine an rfl rfl (cZ (α:=bc) 0 rfl hs rfl (by omega) (by omega) rfl rfl rfl rfl rfl rfl ?_)
    rintro b q hh;obtain⟨rfl,rfl⟩:b0=b∧p0=q:=by simpa using hh
    rw[Int.toNat_natCast]
    refine bg rfl (fZ (α:=bc) 0 rfl hs rfl rfl rfl (v:=x) (j:=i') (by omega) rfl rfl ?_)
    clear hs;intro g5 hs ah;replace aq:=G.le.trans aq ah
    replace hs:St g0 g5 (eP 54 (some ⟨b0,p0,none⟩) xs.length cap (cs.set i' x)::L):=hs
    apply cf;apply ar;refine Wp 3 rfl ?_;apply aD;apply bU;apply au;apply ar;refine Wp 3 rfl ?_;apply aD
    exact fun a ha=>⟨xs.length-(j+1),by omega,j+1,i'+1,cs.set i' x,_,rfl,hs,aq,by omega,rfl,by simp[fY],by omega,
     by rw[Gq,←fw,og (by omega)],
     by rw[List.drop_set_of_lt (by omega)];exact D1,ha.keep ⟨rfl,rfl,kI rfl (by rw[wr (by omega) (by omega)];omega),kI rfl (by rw[wr (by omega) (by omega)];omega),trivial⟩⟩
  ·refine aS (b:=decide ((j:Int)<(xs.length:Int))) (by simp;omega) rfl ?_
   obtain rfl:j=xs.length:=by omega
   rw[List.take_length]at fw
   apply bE;apply bK;apply bK;apply dc;apply au;refine cP 2 rfl ?_
   refine an rfl rfl (j2 T.ok rfl rfl rfl rfl rfl (a:=i') (b:=xs.length) ⟨_,rfl⟩ rfl (by omega) (by omega) ?_)
   refine bg rfl (vr T.ok 0 (a:=i') (xs':=fl (cs.take i')++(List.replicate (xs.length-i') (bW gF)).flatten) rfl hs rfl rfl rfl rfl rfl rfl (by decide) rfl (by decide) ?_ (by omega) (by rw[Gp];rfl) ?_)
   ·by_cases Qx:cap=i'
    ·exact .inl (by omega)
    ·right;rw[if_neg Qx];simp[Addr.add_lit]
   clear hs;rintro g5 hs ah;replace aq:=G.le.trans aq ah
   apply cf;refine cP 2 rfl ?_
   refine an rfl rfl (j2 T.ok rfl rfl rfl rfl rfl (a:=0) (b:=i') rfl ⟨_,rfl⟩ (by omega) (by omega) ?_)
   refine ba rfl ?_
   refine aF (aV rfl rfl (eu.intro aq ?_))
   have tf:=hs.x9 (i:=0) (a:=i') rfl (by omega)
   have hl:(xs.filter fun x=> !p x).length=i':=by rw[←fw,List.length_take];omega
   rw[hl,←fw]
   have he:List.take (i'*19) (fl (cs.take i')++(List.replicate (xs.length-i') (bW gF)).flatten)=fl (cs.take i'):=by
    rw[List.take_left' (by rw[mc,List.length_take];show _*19=_;omega)]
   rw[he]at tf
   exact tf
def jb(b:fX)(w time:Int):List bc:=(pF b w).filter fun f=> !decide (time<f.time)
theorem qR{b:fX}(hb:DX b)(w:Int):(pF b w).length≤1000000:=by
 unfold pF
 split
 ·rw[fR];exact Nat.le_trans (List.length_filter_le ..) (hb 0)
 ·simp
theorem D2(x:bc)(time:Int)(b1:Nat)(g:G)(aC:EP g b1 0 [.int .i64 time]):CallsIn Wd 0 Tryz.prog 129 #[fv x,.pointer (some ⟨b1,0,none⟩)] g.w (cR g fun _ r=>r= .bool (decide (time<x.time))):=by
 have hs:=St.start g
 refine enter Tryz.func129 rfl Tryz.ntmps129 rfl ?_
 apply c_
 refine an rfl rfl (aR rfl hs rfl rfl ?_);clear hs;rintro b2 g1 hs ah;replace aC:=aC.mono ah
 obtain⟨g2,bR,aU,ah,aL⟩:=hs.a_ (i:=0) rfl;replace hs:=aU;clear aU;rw[←bR];replace aC:=aC.mono ah
 have aP:=aL;clear aL
 refine ba rfl ?_;refine nK [.z aP,.z aC] (St.start _) rfl ?_
 exact aF (aV rfl rfl (hs.ret rfl))
theorem wG(v:Value)(b:fX)(w time:Int)(g:G)(bI:iI g v b)(hb:DX b):CallsIn Wd 0 Tryz.prog 55 #[v,.int .i64 w,.int .i64 time] g.w (cR g fun g' r=>Rs g' r (jb b w time)):=by
 have hs:=St.start g
 have aq:=G.le.refl g
 obtain⟨sl,rfl,jr⟩:=bI
 have bI:iI g (.agg ((List.range 11).map sl).toArray) b:=⟨sl,rfl,jr⟩
 refine enter Tryz.func55 rfl Tryz.ntmps55 rfl ?_
 apply c_
 refine an rfl rfl (aR rfl hs rfl rfl ?_);clear hs;rintro b2 g1 hs ah;replace bI:=bI.mono ah
 obtain⟨g2,bR,aU,ah,aL⟩:=hs.a_ (i:=0) rfl;replace hs:=aU;clear aU;rw[←bR];replace bI:=bI.mono ah
 have aC:=aL;clear aL
 skip
 refine an rfl rfl (aR rfl hs rfl rfl ?_);clear hs;rintro b3 g1 hs ah;obtain⟨aC,bI⟩:=cC ah aC bI
 obtain⟨g2,bR,aU,ah,aL⟩:=hs.a_ (i:=0) rfl;replace hs:=aU;clear aU;rw[←bR];obtain⟨aC,bI⟩:=cC ah aC bI
 have aP:=aL;clear aL
 refine ba rfl ?_;refine dx 2 [.z aC] (St.start _) rfl ?_
 refine an rfl rfl (ay KY aI rfl rfl rfl rfl rfl (D3 _ b w _ bI hb) ?_);rintro g1 _ aN aH;replace hs:=hs.call aN;have ah:=aN.le;replace aP:=aP.mono ah
 have Ku:=qR hb w
 unfold jb
 generalize pF b w=h at*
 clear aN
 refine an rfl rfl (ay Lp aI rfl rfl rfl rfl rfl (D0 _ h _ aH Ku) ?_)
 rintro g6 v6 mY ⟨cells,hh,hr⟩
 obtain rfl:=kX hr
 replace hs:=hs.gJ mY hh;have ah:=mY.le;replace aP:=aP.mono ah
 clear hr hh mY
 refine Wp 1 rfl ?_
 refine an rfl rfl (dv Wv aI rfl rfl rfl rfl rfl (B4 (fun f=>decide (time<f.time)) g _ _ v6 _ h hs Ku (fun g' x _ hle=>de (first:=#[]) (args:=[fv x]) (captured:=#[.pointer (some ⟨b3,0,none⟩)]) Lt rfl (D2 x time b3 g' (aP.mono hle)))) ?_)
 clear hs
 rintro g7 v7 ah hs
 obtain⟨g8,xD,qO,ah,py⟩:=hs.cL (α:=bc) (i:=0) rfl (cO.fl _ _)
 rw[←xD];clear hs;replace hs:=qO;clear qO;clear xD
 refine ba rfl ?_
 exact aF (aV rfl rfl (hs.ret py))
end Go.Proofs.YtebobfdheanknaaGreatDoor
namespace Go.Proofs.YtebobfdheanknaaGreatDoor
def iO(l:List Int):Int:=l.getLastD 0
def ma(live:List Bool)(first:Int)(l:List Int):List Int→List (List Int)→List Bool→Option (List (List Int)×List Bool)
 |[],q,seen=>some (q,seen)
 |n::r,q,seen=>
  if n=first then none
  else if first<n∧live.getD n.toNat false=true∧seen.getD n.toNat true=false then ma live first l r (q++[l++[n]]) (seen.set n.toNat true)
  else ma live first l r q seen
def x5(f:bV)(live:List Bool)(first:Int):Nat→List (List Int)→List Bool→List Int
 |_,[],_=>[]
 |0,_::_,_=>[]
 |k+1,l::rest,seen=>
  match ma live first l (dG f (iO l)).next rest seen with
  |none=>l
  |some (q,g_)=>x5 f live first k q g_
def pA(f:bV)(live:List Bool)(first:Int):List Int:=x5 f live first (1+f.steps.length) [[first]] (List.replicate f.steps.length false)
end Go.Proofs.YtebobfdheanknaaGreatDoor
