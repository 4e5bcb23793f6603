/- Parts of the proof, from: Reading the line of a window. -/
import Derived.Test.YtkpojaffabjibaaGreatDoorYe
namespace Go.Proofs.YtkpojaffabjibaaGreatDoor
open Go Go.K Tryz
attribute [local irreducible] W WL cQ aP bG aR aQ aS cK ct
set_option maxRecDepth 10000
set_option maxHeartbeats 4000000
def Ia(B:Nat)(cs:List Value)(t:TypeId):Fact:=
 ⟨fun v g=> ∃b,v=vP b∧dc.holds B g (vO b cs t),fun _ _ _ hf ⟨b,e,h⟩=>⟨b,e,h.kept fun b hb=>⟨hf.below.block b (h.lt b hb).2.1,hf.im b (h.lt b hb).2.1⟩⟩⟩
def tZ(s:List UInt8):Fact:=⟨fun v g=> ∃b p,v= .pointer (some ⟨b,p,none⟩)∧EP g b p [.string (bs s)],fun _ _ _ hf ⟨b,p,e,h⟩=>⟨b,p,e,h.mono hf.le⟩⟩
def U6(p:Value→Prop):Fact:=⟨fun v _=>p v,fun _ _ _ _ h=>h⟩
def IX(x:List UInt8):Fact:=U6 fun v=> ∃n:Nat,gP x=some n∧v=vI n
def Vj:Fact:=U6 fun _=>False
def lP(w:cz):List Value:=[vI w.src,vI w.dst,vI w.dv]
def nk:List cz→List Value
 |[]=>[]
 |w::r=>lP w++nk r
theorem zU: ∀l:List cz,(nk l).length=l.length*3
 |[]=>rfl
 |w::r=>by show(lP w++nk r).length=_;rw[aal,zU r,aaw];show 3+_=_;omega
theorem cR.win(g:G): ∀l:List cz,cR g (nk l) l
 |[]=>rfl
 |w::r=>⟨lP w,nk r,rfl,rfl,cR.win g r⟩
theorem cR.Hw{g:G}: ∀{l:List cz} {cs:List Value},cR g cs l→cs=nk l
 |[],_,h=>h
 |x::r,_,⟨c1,c2,e,h1,h2⟩=>by rw[e,show c1=lP x from h1,cR.Hw h2];rfl
def IQ(b:Nat)(f:aU)(sa:Option Addr)(sc:Nat)(wa:Option Addr)(wc:Nat)(wz:List Value):List dc:=
 [vO b [vI f.bS,vI f.cd,.slice sa f.steps.length sc,.slice wa f.windows.length wc] 30,
  .row 91 7 (.slice sa f.steps.length sc) f.steps.length wz,
  .row 94 3 (.slice wa f.windows.length wc) f.windows.length (nk f.windows)]
def IS(b:Nat)(f:aU)(L:List dc)(g0 g:G):Prop:=∃sa sc wa wc wz,St g0 g (IQ b f sa sc wa wc wz++L)∧cR g wz f.steps
theorem Ox{line a x y z:List UInt8}(uf:bD 32 line=[a,x,y,z])(h:jG [fV,[],[],[]] [a,x,y,z]):jD line=match gP x,gP y,gP z with
   |some x,some y,some z=>some ⟨x,y,z⟩
   |_,_,_=>none:=by
 obtain rfl:=kg h 0 (w:=fV) rfl rfl (by decide);unfold jD;rw[uf];show(if fV=fV then _ else _)=_;rw[if_pos rfl]<;>(cases gP x<;>cases gP y<;>cases gP z<;>rfl)
theorem Oy{line:List UInt8}(h: ¬jG [fV,[],[],[]] (bD 32 line)):jD line=none:=by
 unfold jD;split
 ·rename_i a0 a1 a2 a3 he;rw[if_neg];rintro rfl;refine h ?_;rw[he];refine⟨aaz _,fun i w hw=>?_⟩
  match i,hw with
  |0,hw=>exact .inr hw
  |1,hw=>exact .inl (aax hw).symm
  |2,hw=>exact .inl (aax hw).symm
  |3,hw=>exact .inl (aax hw).symm
  |_+4,hw=>cases hw
 rfl
theorem Oz{line:List UInt8}(h:(bD 32 line).length≠4):jD line=none:=by
 unfold jD;split
 ·rename_i a0 a1 a2 a3 he;rw[he]at h;exact absurd rfl h
 rfl
def jF(f:aU)(line:List UInt8):Option cz:=(jD line).bind fun w=>if(de w 40&&decide ((f.windows.length:Int)<20)&&decide ((f.steps.length:Int)>0)&&follows f.windows w)=true then some w else none
theorem Hx{α:Type}{l:List α}(h:l.length=4): ∃a b c d,l=[a,b,c,d]:=by
 match l,h with
 |[a,b,c,d],_=>exact⟨a,b,c,d,rfl⟩
theorem Mf{b:Nat}(f:aU)(line:List UInt8)(hlen:line.length≤1000000)(JX:f.windows.length≤1000000){g0 g:G}{L:List dc}(hF:kr g)(hO:IS b f L g0 g):
  CallsIn Wd 0 prog 224 #[vP b,.string (bs line)] g.w fun e w'=>
   df g (fun g' r=>r= .tuple #[]∧ ∃w,jF f line=some w∧IS b {f with windows:=f.windows++[w]} L g0 g') e w'∨
   (jF f line=none∧gj g oG (fun g'=> ∃cs,St g0 g' (OA b cs::L)) e w'):=by
 have aj:=G.le.refl g;obtain⟨sa,sc,wa,wc,wz,hs,dn⟩:=hO;unfold IQ at hs;unfold OA;replace hs:St g0 g (vO b [vI f.bS,vI f.cd,.slice sa f.steps.length sc,.slice wa f.windows.length wc] 30::
  .row 91 7 (.slice sa f.steps.length sc) f.steps.length wz::
  .row 94 3 (.slice wa f.windows.length wc) f.windows.length (nk f.windows)::L):=hs
 refine enter func224 rfl ntmps224 rfl<|ck 1 rfl<|iX [(0,.string (bs fV)),(1,.string (bs [])),(2,.string (bs [])),(3,.string (bs []))] [.string (bs fV),.string (bs []),.string (bs []),.string (bs [])] hs rfl rfl fun bl gl hs ag=>?_;obtain⟨aj,dn⟩:=cA ag aj dn;obtain⟨gz,gX,dk,iw,aE⟩:=hs.cD (α:=xU) (xs:=[⟨fV⟩,⟨[]⟩,⟨[]⟩,⟨[]⟩]) (i:=0) rfl (cR.strs _ [fV,[],[],[]]);have ag:=iw;rw[←gX];replace hs:=dk;clear dk;obtain⟨aj,dn⟩:=cA ag aj dn;refine so rfl (xX line [fV,[],[],[]] _ _ hlen (by decide) (hF.mono aj) aE) ?_ ?_
 rotate_left
 ·intro hn g5 sQ;replace hs:=hs.call sQ;replace aj:=aj.trans sQ.le;exact iG<|dO (.inr ⟨by unfold jF;rw[Oy hn];rfl,gj.intro aj ⟨_,(hs.drop 1).drop 1⟩⟩)
 rintro g4 v nN ⟨mH,aA⟩;replace hs:=hs.call nN;have ag:=nN.le;obtain⟨aj,dn⟩:=cA ag aj dn;obtain⟨pa,pc,rfl⟩:=aA.isSlice;rw[aaS]at aA⊢;have ud:=mc 32 line;generalize uf:bD 32 line=ps at*;refine aF rfl<|ck 3 rfl ?_;by_cases h4:ps.length=4
 ·obtain⟨a,x,y,z,rfl⟩:=Hx h4;refine bd 11 (b':=true) (by simp) rfl<|so rfl (eP true _) ?_ fun h=>(by cases h);rintro g3 _ fT ⟨rfl,_⟩;replace hs:=hs.call fT;have ag:=fT.le;obtain⟨aj,aA,dn⟩:=eS ag aj aA dn;have E7:=Ox uf mH;refine bE<|ak ?_;have sT:=hs;apply dP (fe (.f (tZ x)::(fe (.f (IX x)::(fe (.f (tZ y)::(fe (.f (IX y)::(fe (.f (tZ z)::(fe (.f (IX z)::(.f (U6 fun v=> ∃x0 y0 z0:Nat,gP x=some x0∧gP y=some y0∧gP z=some z0∧v= .agg #[vI x0,vI y0,vI z0])::(.f (Ia g3.dr.w.heap.size [vI 0,vI 0,vI 0] 94)::[])))))))))))))) 14 [(12,25),(13,5)] (by kernel_rfl)
  ·refine jV [[]] rfl<|aW [(0,13)] (fun gd hf=>?_) ?_
   ·have eR:=(G.a_ _).trans hf.le;exact bU rfl<|az<|ay rfl<|dJ T.ok rfl (aA.mono eR) (y:=⟨x⟩) rfl rfl rfl rfl rfl rfl rfl fun b p ys aK fw=>⟨_,rfl,bW.refl _,b,p,rfl,by rw[←show ys=[Value.string (bs x)]from fw];exact aK⟩
   refine aW [(1,14)] (fun gd hf=>?_) ?_
   ·skip;refine aI fun v1 h1=>?_;apply az;obtain⟨b,p,rfl,aK⟩:=h1;refine ay rfl<|cu T.ok 0 rfl aK rfl rfl<|⟨_,rfl,bW.refl _,?_⟩;exact rfl
   refine aW [(2,15)] (fun gd hf=>?_) ?_
   ·have jk:=hs.dr.call hf;have eR:=(G.a_ _).trans hf.le;refine bU rfl<|az<|ay rfl<|kh (cB 264) bJ rfl rfl rfl rfl rfl (lF x _ (aaC (ud x (by simp)) hlen) (hF.mono (aj.trans eR))) (fun g' v gN h=>⟨g',rfl,gN,h⟩) fun hn g' gN=>?_
    replace jk:=jk.call gN;exact iG<|dO (.inr ⟨by unfold jF;rw[E7,hn];first|rfl|(cases gP x<;>first|rfl|(cases gP y<;>rfl)),gj.intro ((aj.trans eR).trans gN.le) ⟨_,(jk.drop 1).drop 1⟩⟩)
   refine jV [[]] rfl<|aW [(4,17)] (fun gd hf=>?_) ?_
   ·have eR:=(G.a_ _).trans hf.le;exact bU rfl<|az<|ay rfl<|dJ T.ok rfl (aA.mono eR) (y:=⟨y⟩) rfl rfl rfl rfl rfl rfl rfl fun b p ys aK fw=>⟨_,rfl,bW.refl _,b,p,rfl,by rw[←show ys=[Value.string (bs y)]from fw];exact aK⟩
   refine aW [(5,18)] (fun gd hf=>?_) ?_
   ·skip;refine aI fun v5 h5=>?_;apply az;obtain⟨b,p,rfl,aK⟩:=h5;refine ay rfl<|cu T.ok 0 rfl aK rfl rfl<|⟨_,rfl,bW.refl _,?_⟩;exact rfl
   refine aW [(6,19)] (fun gd hf=>?_) ?_
   ·have jk:=hs.dr.call hf;have eR:=(G.a_ _).trans hf.le;refine bU rfl<|az<|ay rfl<|kh (cB 264) bJ rfl rfl rfl rfl rfl (lF y _ (aaC (ud y (by simp)) hlen) (hF.mono (aj.trans eR))) (fun g' v gN h=>⟨g',rfl,gN,h⟩) fun hn g' gN=>?_
    replace jk:=jk.call gN;exact iG<|dO (.inr ⟨by unfold jF;rw[E7,hn];first|rfl|(cases gP x<;>first|rfl|(cases gP y<;>rfl)),gj.intro ((aj.trans eR).trans gN.le) ⟨_,(jk.drop 1).drop 1⟩⟩)
   refine jV [[]] rfl<|aW [(8,21)] (fun gd hf=>?_) ?_
   ·have eR:=(G.a_ _).trans hf.le;exact bU rfl<|az<|ay rfl<|dJ T.ok rfl (aA.mono eR) (y:=⟨z⟩) rfl rfl rfl rfl rfl rfl rfl fun b p ys aK fw=>⟨_,rfl,bW.refl _,b,p,rfl,by rw[←show ys=[Value.string (bs z)]from fw];exact aK⟩
   refine aW [(9,22)] (fun gd hf=>?_) ?_
   ·skip;refine aI fun v9 h9=>?_;apply az;obtain⟨b,p,rfl,aK⟩:=h9;refine ay rfl<|cu T.ok 0 rfl aK rfl rfl<|⟨_,rfl,bW.refl _,?_⟩;exact rfl
   refine aW [(10,23)] (fun gd hf=>?_) ?_
   ·have jk:=hs.dr.call hf;have eR:=(G.a_ _).trans hf.le;refine bU rfl<|az<|ay rfl<|kh (cB 264) bJ rfl rfl rfl rfl rfl (lF z _ (aaC (ud z (by simp)) hlen) (hF.mono (aj.trans eR))) (fun g' v gN h=>⟨g',rfl,gN,h⟩) fun hn g' gN=>?_
    replace jk:=jk.call gN;exact iG<|dO (.inr ⟨by unfold jF;rw[E7,hn];first|rfl|(cases gP x<;>first|rfl|(cases gP y<;>rfl)),gj.intro ((aj.trans eR).trans gN.le) ⟨_,(jk.drop 1).drop 1⟩⟩)
   refine aW [(3,16),(7,20),(11,24)] (fun gd hf=>?_) ?_
   ·skip;refine aI fun v3 h3=>?_;refine aI fun v7 h7=>?_;refine aI fun v11 Ni=>?_;apply az;obtain⟨x0,hx,rfl⟩:=h3;obtain⟨y0,hy,rfl⟩:=h7;obtain⟨z0,hz,rfl⟩:=Ni;exact ay rfl<|iS T.ok rfl (vs:=[(0,vI x0),(1,vI y0),(2,vI z0)]) (cells:=[vI x0,vI y0,vI z0]) rfl rfl rfl rfl [(0,1),(1,1),(2,1)] rfl (by kernel_rfl)<|⟨_,rfl,bW.refl _,x0,y0,z0,hx,hy,hz,rfl⟩
   refine aW [] (fun gd hf=>?_) ?_
   ·skip;refine az<|ay rfl<|ik T.ok rfl (St.start gd) rfl rfl fun b g' kP hle=>?_;have ho:=kP.own 0 _ rfl;exact⟨g',rfl,kP.p9,b,rfl,aaC hf.below.size ho.1,ho.2⟩
   exact fk
  intro g1 aH;refine aI fun v12 RA=>?_;refine aI fun v13 UT=>?_;apply az;replace hs:=hs.dr.call aH;have ag:=(G.a_ _).trans aH.le;obtain⟨aj,dn⟩:=cA ag aj dn;obtain⟨x0,y0,z0,hx,hy,hz,rfl⟩:=RA;obtain⟨bx,rfl,Aj⟩:=UT;replace hs:=sT.dr.jl aH Aj;clear sT;rw[hx,hy,hz]at E7;replace E7:jD line=some ⟨x0,y0,z0⟩:=E7;have PD:jF f line=if(de ⟨x0,y0,z0⟩ 40&&decide ((f.windows.length:Int)<20)&&decide ((f.steps.length:Int)>0)&&follows f.windows ⟨x0,y0,z0⟩)=true then some ⟨x0,y0,z0⟩else none:=by unfold jF;rw[E7];rfl
  clear h4;refine dC 0 hs rfl fun g1 hs ag=>?_;obtain⟨aj,dn⟩:=cA ag aj dn;refine bE<|ak ?_;cases Au:de ⟨x0,y0,z0⟩ 40 with
  |false=>
   apply dP (cV (cV (cV (eA (.f Vj::[]))))) 27 [(26,52)] (by kernel_rfl)
   ·refine cY [[]] [.o 0] hs rfl<|aW [(0,26)] (fun gd hf=>?_) ?_
    ·skip;refine bU rfl<|az<|ay rfl<|bu (cB 230) bJ rfl rfl rfl rfl rfl (gV ⟨x0,y0,z0⟩ 40 _ (by decide) (by decide)) fun g' v h1 h2=>⟨g',rfl,h1,?_⟩
     rw[h2];exact congrArg Value.bool Au
    refine jV [[1,1],[2],[3,2],[4,2],[5,2],[6,2]] rfl<|aW [(7,33),(2,28)] (fun gd hf=>?_) ?_
    ·skip;refine fD rfl<|az ?_
     first|(refine jO rfl ?_;exact rfl)|(refine ay rfl ?_;refine bR _ T.ok rfl ?_;exact⟨_,rfl,bW.refl _,congrArg Value.bool fm⟩)
    refine jV [[2,8],[9],[10],[11,10],[12,10],[13,10],[14,10]] rfl<|aW [(15,41),(10,36)] (fun gd hf=>?_) ?_
    ·skip;refine fD rfl<|az ?_
     first|(refine jO rfl ?_;exact rfl)|(refine ay rfl ?_;refine bR _ T.ok rfl ?_;exact⟨_,rfl,bW.refl _,congrArg Value.bool wH⟩)
    refine jV [[10,16],[17],[18],[19,18],[20,18],[21,18],[18],[22,23,18,18],[18,24]] rfl<|aW [(25,51)] (fun gd hf=>?_) ?_
    ·have jk:=hs.dr.call hf;have eR:=(G.a_ _).trans hf.le;refine bU rfl<|az<|ay rfl<|kh (cB 261) bJ rfl rfl rfl rfl rfl (eP false _) (fun g' v gN h=>(by cases h.2)) fun _ g' gN=>?_
     replace jk:=jk.call gN;exact iG<|dO (.inr ⟨by rw[PD,Au];rfl,gj.intro ((aj.trans eR).trans gN.le) ⟨_,(((jk.drop 0).drop 1).drop 1)⟩⟩)
    exact fk
   intro g1 aH;refine aI fun v26 Rl=>?_;apply az;replace hs:=hs.dr.call aH;have ag:=(G.a_ _).trans aH.le;obtain⟨aj,dn⟩:=cA ag aj dn;exact Rl.elim
  |true=>
  cases fm:decide ((f.windows.length:Int)<20)with
  |false=>
   apply dP (cV (cV (cV (eA (.f Vj::[]))))) 27 [(26,52)] (by kernel_rfl)
   ·refine cY [[]] [.o 0] hs rfl<|aW [(0,26)] (fun gd hf=>?_) ?_
    ·skip;refine bU rfl<|az<|ay rfl<|bu (cB 230) bJ rfl rfl rfl rfl rfl (gV ⟨x0,y0,z0⟩ 40 _ (by decide) (by decide)) fun g' v h1 h2=>⟨g',rfl,h1,?_⟩
     rw[h2];exact congrArg Value.bool Au
    refine cY [[1,1],[2],[3,2],[4,2],[5,2],[6,2]] [.o 1] hs rfl<|aW [(7,33),(2,28)] (fun gd hf=>?_) ?_
    ·skip;refine fD rfl<|az ?_
     first|(refine jO rfl ?_;exact rfl)|(refine ay rfl ?_;refine bR _ T.ok rfl ?_;exact⟨_,rfl,bW.refl _,congrArg Value.bool fm⟩)
    refine jV [[2,8],[9],[10],[11,10],[12,10],[13,10],[14,10]] rfl<|aW [(15,41),(10,36)] (fun gd hf=>?_) ?_
    ·skip;refine fD rfl<|az ?_
     first|(refine jO rfl ?_;exact rfl)|(refine ay rfl ?_;refine bR _ T.ok rfl ?_;exact⟨_,rfl,bW.refl _,congrArg Value.bool wH⟩)
    refine jV [[10,16],[17],[18],[19,18],[20,18],[21,18],[18],[22,23,18,18],[18,24]] rfl<|aW [(25,51)] (fun gd hf=>?_) ?_
    ·have jk:=hs.dr.call hf;have eR:=(G.a_ _).trans hf.le;refine bU rfl<|az<|ay rfl<|kh (cB 261) bJ rfl rfl rfl rfl rfl (eP false _) (fun g' v gN h=>(by cases h.2)) fun _ g' gN=>?_
     replace jk:=jk.call gN;exact iG<|dO (.inr ⟨by rw[PD,Au,fm];rfl,gj.intro ((aj.trans eR).trans gN.le) ⟨_,(((jk.drop 0).drop 1).drop 1)⟩⟩)
    exact fk
   intro g1 aH;refine aI fun v26 Rl=>?_;apply az;replace hs:=hs.dr.call aH;have ag:=(G.a_ _).trans aH.le;obtain⟨aj,dn⟩:=cA ag aj dn;exact Rl.elim
  |true=>
  cases wH:decide ((f.steps.length:Int)>0)with
  |false=>
   apply dP (cV (cV (cV (eA (.f Vj::[]))))) 27 [(26,52)] (by kernel_rfl)
   ·refine cY [[]] [.o 0] hs rfl<|aW [(0,26)] (fun gd hf=>?_) ?_
    ·skip;refine bU rfl<|az<|ay rfl<|bu (cB 230) bJ rfl rfl rfl rfl rfl (gV ⟨x0,y0,z0⟩ 40 _ (by decide) (by decide)) fun g' v h1 h2=>⟨g',rfl,h1,?_⟩
     rw[h2];exact congrArg Value.bool Au
    refine cY [[1,1],[2],[3,2],[4,2],[5,2],[6,2]] [.o 1] hs rfl<|aW [(7,33),(2,28)] (fun gd hf=>?_) ?_
    ·skip;refine fD rfl<|az ?_
     first|(refine jO rfl ?_;exact rfl)|(refine ay rfl ?_;refine bR _ T.ok rfl ?_;exact⟨_,rfl,bW.refl _,congrArg Value.bool fm⟩)
    refine cY [[2,8],[9],[10],[11,10],[12,10],[13,10],[14,10]] [.o 1] hs rfl<|aW [(15,41),(10,36)] (fun gd hf=>?_) ?_
    ·skip;refine fD rfl<|az ?_
     first|(refine jO rfl ?_;exact rfl)|(refine ay rfl ?_;refine bR _ T.ok rfl ?_;exact⟨_,rfl,bW.refl _,congrArg Value.bool wH⟩)
    refine jV [[10,16],[17],[18],[19,18],[20,18],[21,18],[18],[22,23,18,18],[18,24]] rfl<|aW [(25,51)] (fun gd hf=>?_) ?_
    ·have jk:=hs.dr.call hf;have eR:=(G.a_ _).trans hf.le;refine bU rfl<|az<|ay rfl<|kh (cB 261) bJ rfl rfl rfl rfl rfl (eP false _) (fun g' v gN h=>(by cases h.2)) fun _ g' gN=>?_
     replace jk:=jk.call gN;exact iG<|dO (.inr ⟨by rw[PD,Au,fm,wH];rfl,gj.intro ((aj.trans eR).trans gN.le) ⟨_,(((jk.drop 0).drop 1).drop 1)⟩⟩)
    exact fk
   intro g1 aH;refine aI fun v26 Rl=>?_;apply az;replace hs:=hs.dr.call aH;have ag:=(G.a_ _).trans aH.le;obtain⟨aj,dn⟩:=cA ag aj dn;exact Rl.elim
  |true=>
  cases Nd:follows f.windows ⟨x0,y0,z0⟩with
  |false=>
   apply dP (cV (cV (cV (eA (.f Vj::[]))))) 27 [(26,52)] (by kernel_rfl)
   ·refine cY [[]] [.o 0] hs rfl<|aW [(0,26)] (fun gd hf=>?_) ?_
    ·skip;refine bU rfl<|az<|ay rfl<|bu (cB 230) bJ rfl rfl rfl rfl rfl (gV ⟨x0,y0,z0⟩ 40 _ (by decide) (by decide)) fun g' v h1 h2=>⟨g',rfl,h1,?_⟩
     rw[h2];exact congrArg Value.bool Au
    refine cY [[1,1],[2],[3,2],[4,2],[5,2],[6,2]] [.o 1] hs rfl<|aW [(7,33),(2,28)] (fun gd hf=>?_) ?_
    ·skip;refine fD rfl<|az ?_
     first|(refine jO rfl ?_;exact rfl)|(refine ay rfl ?_;refine bR _ T.ok rfl ?_;exact⟨_,rfl,bW.refl _,congrArg Value.bool fm⟩)
    refine cY [[2,8],[9],[10],[11,10],[12,10],[13,10],[14,10]] [.o 1] hs rfl<|aW [(15,41),(10,36)] (fun gd hf=>?_) ?_
    ·skip;refine fD rfl<|az ?_
     first|(refine jO rfl ?_;exact rfl)|(refine ay rfl ?_;refine bR _ T.ok rfl ?_;exact⟨_,rfl,bW.refl _,congrArg Value.bool wH⟩)
    refine cY [[10,16],[17],[18],[19,18],[20,18],[21,18],[18]] [.o 1,.o 0] hs rfl<|aW [(22,48),(23,49),(18,44),(18,44)] (fun gd hf=>?_) ?_
    ·have jk:=hs.dr.call hf;refine lJ rfl<|bU rfl<|az<|ay rfl<|DX (α:=cz) (fun _ _ r=>r= .bool (follows f.windows ⟨x0,y0,z0⟩)) (fun _ _ r=>r= .bool (follows f.windows ⟨x0,y0,z0⟩)) (cB 231) bJ rfl rfl rfl rfl rfl jk 3 rfl (cR.win _ f.windows) (fun gf hle hw hr=>wB _ f.windows ⟨x0,y0,z0⟩ gf hr) (fun _ _ _ _ _ _ _ _ _ h=>h) fun g' v h1 h2=>⟨g',rfl,h1,?_⟩
     rw[h2];exact congrArg Value.bool Nd
    refine jV [[18,24]] rfl<|aW [(25,51)] (fun gd hf=>?_) ?_
    ·have jk:=hs.dr.call hf;have eR:=(G.a_ _).trans hf.le;refine bU rfl<|az<|ay rfl<|kh (cB 261) bJ rfl rfl rfl rfl rfl (eP false _) (fun g' v gN h=>(by cases h.2)) fun _ g' gN=>?_
     replace jk:=jk.call gN;exact iG<|dO (.inr ⟨by rw[PD,Au,fm,wH,Nd];rfl,gj.intro ((aj.trans eR).trans gN.le) ⟨_,(((jk.drop 0).drop 1).drop 1)⟩⟩)
    exact fk
   intro g1 aH;refine aI fun v26 Rl=>?_;apply az;replace hs:=hs.dr.call aH;have ag:=(G.a_ _).trans aH.le;obtain⟨aj,dn⟩:=cA ag aj dn;exact Rl.elim
  |true=>
  rw[Au,fm,wH,Nd]at PD;replace PD:jF f line=some ⟨x0,y0,z0⟩:=PD;apply aO hs (cV (cV (cV (eA (.f Fact.any::[]))))) 27 [(1,27)] (by kernel_rfl) rfl
  ·refine cY [[]] [.o 0] hs rfl<|aW [(0,26)] (fun gd hf=>?_) ?_
   ·skip;refine bU rfl<|az<|ay rfl<|bu (cB 230) bJ rfl rfl rfl rfl rfl (gV ⟨x0,y0,z0⟩ 40 _ (by decide) (by decide)) fun g' v h1 h2=>⟨g',rfl,h1,?_⟩
    rw[h2];exact congrArg Value.bool Au
   refine cY [[1,1],[2],[3,2],[4,2],[5,2],[6,2]] [.o 1] hs rfl<|aW [(7,33),(2,28)] (fun gd hf=>?_) ?_
   ·skip;refine fD rfl<|az ?_
    first|(refine jO rfl ?_;exact rfl)|(refine ay rfl ?_;refine bR _ T.ok rfl ?_;exact⟨_,rfl,bW.refl _,congrArg Value.bool fm⟩)
   refine cY [[2,8],[9],[10],[11,10],[12,10],[13,10],[14,10]] [.o 1] hs rfl<|aW [(15,41),(10,36)] (fun gd hf=>?_) ?_
   ·skip;refine fD rfl<|az ?_
    first|(refine jO rfl ?_;exact rfl)|(refine ay rfl ?_;refine bR _ T.ok rfl ?_;exact⟨_,rfl,bW.refl _,congrArg Value.bool wH⟩)
   refine cY [[10,16],[17],[18],[19,18],[20,18],[21,18],[18]] [.o 1,.o 0] hs rfl<|aW [(22,48),(23,49),(18,44),(18,44)] (fun gd hf=>?_) ?_
   ·have jk:=hs.dr.call hf;refine lJ rfl<|bU rfl<|az<|ay rfl<|DX (α:=cz) (fun _ _ r=>r= .bool (follows f.windows ⟨x0,y0,z0⟩)) (fun _ _ r=>r= .bool (follows f.windows ⟨x0,y0,z0⟩)) (cB 231) bJ rfl rfl rfl rfl rfl jk 3 rfl (cR.win _ f.windows) (fun gf hle hw hr=>wB _ f.windows ⟨x0,y0,z0⟩ gf hr) (fun _ _ _ _ _ _ _ _ _ h=>h) fun g' v h1 h2=>⟨g',rfl,h1,?_⟩
    rw[h2];exact congrArg Value.bool Nd
   exact jV [[18,24]] rfl<|aW [(25,51)] (fun gd hf=>cj rfl (ay rfl (kh (cB 261) bJ rfl rfl rfl rfl rfl (eP true _) (fun g' v gN h=>⟨g',rfl,gN,trivial⟩) fun h=>(by cases h))))<|fk
  clear hs;intro g1 hs ag;obtain⟨aj,dn⟩:=cA ag aj dn;have aap:f.windows.length<20:=by simp only[decide_eq_true_eq]at fm;omega
  have T3:=zU f.windows;apply bE;apply G8 bJ rfl (Fact.eq _::Fact.eq _::Fact.eq _::Fact.eq _::Fact.eq _::Fact.eq _::(Fact.rs [(⟨x0,y0,z0⟩:cz)])::(Tl g0 (fun v Vk=>vO bx [vI x0,vI y0,vI z0] 94::vO b [vI f.bS,vI f.cd,.slice sa f.steps.length sc,.slice wa f.windows.length wc] 30:: .row 91 7 (.slice sa f.steps.length sc) f.steps.length wz:: .row 94 3 v (f.windows.length+1) Vk::L) (f.windows.length+1) (f.windows++[(⟨x0,y0,z0⟩:cz)]))::[]) 8 [(0,53),(7,60)] [] [1,2,3,4,5,6] 7 rfl (by kernel_rfl) (by kernel_rfl)
  case houts=>exact rfl
  case hsoft=>(repeat (first|exact wN|apply wO|refine cX (ml _) ?_|refine cX (cw _) ?_|refine cX (mg _ _) ?_|refine cX (kD _) ?_|refine cX (mh _) ?_|refine cX (jt _) ?_|refine cX (pV _) ?_|refine cX (nK _) ?_|refine wP (by exact rfl) ?_))
  ·refine jP (qV (js:=[]) (by kernel_rfl) (by exact rfl) fun gd hf=>?_) ?_
   ·skip;apply az;(refine ay rfl ?_;refine bR _ T.ok rfl ?_;refine⟨_,rfl,bW.refl _,?_⟩;exact rfl)
   refine fh [] (fun gd hf=>az (bj rfl rfl))<|fh [(1,54)] (fun gd hf=>cj rfl (bj rfl rfl))<|fh [(2,55)] (fun gd hf=>cj rfl (bj rfl rfl))<|fh [(3,56)] (fun gd hf=>cj rfl (ay rfl (cJ T.ok 1 rfl (hs.dr.call hf) rfl rfl rfl (cC rfl))))<|fh [] (fun gd hf=>az (ay rfl (cJ T.ok 0 rfl (hs.dr.call hf) rfl rfl rfl (cC rfl))))<|fh [(5,58)] (fun gd hf=>?_) ?_
   ·skip;refine bU rfl<|az<|ay rfl<|iD T.ok rfl (St.start gd) (vs:=[(0,.agg #[vI x0,vI y0,vI z0])]) (cells:=[vI x0,vI y0,vI z0]) rfl rfl rfl rfl rfl rfl (by decide) (by decide) (by kernel_rfl) rfl fun b2 g2 pH OB=>?_;obtain⟨g3,wH,EW,Ac,ph⟩:=pH.cD (α:=cz) (xs:=[⟨x0,y0,z0⟩]) (i:=0) rfl ⟨_,[],by rw[aaI],rfl,rfl⟩;exact⟨g3,wH,EW.p9,ph⟩
   refine jP (wR (js:=[(4,57),(6,59)]) (by kernel_rfl) fun gd hf=>?_) ?_
   ·have jk:=hs.dr.call hf;refine bU rfl<|aI fun v6 h6=>?_
    apply az;obtain⟨ax,cx,rfl⟩:=Rs.isSlice h6;obtain⟨_,news,L4,iO⟩:=Src.jh h6;refine⟨rfl,?_⟩;exact ba T.ok 3 rfl jk rfl rfl rfl rfl rfl rfl rfl (by decide) rfl iO L4.one (by show(f.windows.length+1)*24≤_;omega) (by unfold maxLen;show f.windows.length+1≤_;omega) fun a' c' g8 oI nM=>⟨g8,rfl,nM,a',c',_,rfl,oI,cR.app (L4.mono nM) (cR.win _ _)⟩
   exact wQ
  intro g1 aH;refine bU rfl<|aI fun v7 h7=>?_;apply az
  have ag:=(G.a_ _).trans aH;obtain⟨aj,dn⟩:=cA ag aj dn;obtain⟨Zn,Zo,Vk,rfl,hs,hwc⟩:=h7;obtain rfl:=cR.Hw hwc;refine Wp 2 rfl<|dC 1 hs rfl fun g1 hs ag=>?_;obtain⟨aj,dn⟩:=cA ag aj dn;refine an<|nd rfl (.inl (df.intro aj ⟨rfl,_,PD,sa,sc,Zn,Zo,wz,?_,dn⟩));have dm:=hs.drop 0;show St g0 _ (.obj b _:: .row _ 7 _ _ _:: .row _ 3 (.slice Zn (f.windows++[_]).length Zo) (f.windows++[_]).length _::L);rw[aal];exact dm
 refine bd 11 (b':=false) (by simp;omega) rfl<|so rfl (eP false _) ?_ ?_
 ·rintro g3 _ fT ⟨_,hc⟩;cases hc
 intro _ g3 fT;replace hs:=hs.call fT;replace aj:=aj.trans fT.le;exact iG<|dO (.inr ⟨by unfold jF;rw[Oz (by rw[uf];exact h4)];rfl,gj.intro aj ⟨_,(hs.drop 1).drop 1⟩⟩)
def Rm(n:Nat):List (List UInt8):=[jc,dec n,gv,[],jQ,[],mS,[],mT,[]]
def RX:List (List UInt8):=[[],[],[],[],[],[],[],[],[],[],mU,[],i_,[]]
theorem Rn{α:Type}{l:List α}(h:10≤l.length): ∃a0 a1 a2 a3 a4 a5 a6 a7 a8 a9 r,l=a0::a1::a2::a3::a4::a5::a6::a7::a8::a9::r:=by
 match l,h with
 |a0::a1::a2::a3::a4::a5::a6::a7::a8::a9::r,_=>exact⟨a0,a1,a2,a3,a4,a5,a6,a7,a8,a9,r,rfl⟩
theorem OC{a3 a5 a7 a9:List UInt8}{bk:Option (Int×Int)}(h:gP a3=none):ke a3 a5 a7 a9 bk=none:=by
 unfold ke;split
 ·simp_all
 rfl
theorem OD{a3 a5 a7 a9:List UInt8}{bk:Option (Int×Int)}(h:o5 a5=none):ke a3 a5 a7 a9 bk=none:=by
 unfold ke;split
 ·simp_all
 rfl
theorem OE{a3 a5 a7 a9:List UInt8}{bk:Option (Int×Int)}(h:o6 a7=none):ke a3 a5 a7 a9 bk=none:=by
 unfold ke;split
 ·simp_all
 rfl
theorem OF{a3 a5 a7 a9:List UInt8}{bk:Option (Int×Int)}(h:s7 a9=none):ke a3 a5 a7 a9 bk=none:=by
 unfold ke;split
 ·simp_all
 rfl
theorem Hy{a3 a5 a7 a9:List UInt8}:ke a3 a5 a7 a9 none=none:=by
 unfold ke;split
 ·rename_i h1;cases h1
 rfl
theorem Hz{a3 a5 a7 a9:List UInt8}{r:Nat}{t nx:List Nat}{m n:Nat}{bk lm:Int}(h3:gP a3=some r)(h5:o5 a5=some t)(h7:o6 a7=some (m,n))(h9:s7 a9=some nx):
  ke a3 a5 a7 a9 (some (bk,lm))=some ⟨r,ints t,m,n,ints nx,bk,lm⟩:=by
 unfold ke;rw[h3,h5,h7,h9]
theorem IY{n:Nat}{line a0 a1 a2 a3 a4 a5 a6 a7 a8 a9:List UInt8}{r:List (List UInt8)}(h:bD 32 line=a0::a1::a2::a3::a4::a5::a6::a7::a8::a9::r):fN n line=none∨ ∃bk,fN n line=ke a3 a5 a7 a9 bk:=by
 unfold fN;rw[h]
 match r with
 |[]=>exact(Decidable.em (lC n a0 a1 a2 a4 a6 a8=true)).elim (fun hf=> .inr ⟨some (-1,0),if_pos hf⟩) (fun hf=> .inl (if_neg hf))
 |[b0,b1,b2,b3]=>exact(Decidable.em (lC n a0 a1 a2 a4 a6 a8=true∧b0=mU∧b2=i_)).elim (fun hf=> .inr ⟨wZ b1 b3,if_pos hf⟩) (fun hf=> .inl (if_neg hf))
 |[_]=>exact .inl rfl
 |[_,_]=>exact .inl rfl
 |[_,_,_]=>exact .inl rfl
 |_::_::_::_::_::_=>exact .inl rfl
theorem IZ{n:Nat}{line a0 a1 a2 a3 a4 a5 a6 a7 a8 a9:List UInt8}{r:List (List UInt8)}(h:bD 32 line=a0::a1::a2::a3::a4::a5::a6::a7::a8::a9::r)(hb: ∀bk,ke a3 a5 a7 a9 bk=none):fN n line=none:=by
 rcases IY (n:=n) h with e|⟨bk,e⟩
 ·exact e
 rw[e,hb]
theorem I0{n:Nat}{a0 a1 a2 a3 a4 a5 a6 a7 a8 a9:List UInt8}{r:List (List UInt8)}(h:jG (Rm n) (a0::a1::a2::a3::a4::a5::a6::a7::a8::a9::r)):lC n a0 a1 a2 a4 a6 a8=true:=by obtain rfl:=kg h 0 (w:=jc) rfl rfl (by decide);obtain rfl:=kg h 1 (w:=dec n) rfl rfl (pR n);obtain rfl:=kg h 2 (w:=gv) rfl rfl (by decide);obtain rfl:=kg h 4 (w:=jQ) rfl rfl (by decide);obtain rfl:=kg h 6 (w:=mS) rfl rfl (by decide);obtain rfl:=kg h 8 (w:=mT) rfl rfl (by decide);unfold lC;simp
theorem BK{n:Nat}{a0 a1 a2 a3 a4 a5 a6 a7 a8 a9:List UInt8}{r:List (List UInt8)}(h:lC n a0 a1 a2 a4 a6 a8=true):jG (Rm n) (a0::a1::a2::a3::a4::a5::a6::a7::a8::a9::r):=by
 unfold lC at h;simp only[aaA,beq_iff_eq]at h;obtain⟨⟨⟨⟨⟨rfl,rfl⟩,rfl⟩,rfl⟩,rfl⟩,rfl⟩:=h;refine⟨by show 10≤_;simp only[aaw];omega,fun i w hw=>?_⟩
 match i,hw with
 |0,hw=>exact .inr hw
 |1,hw=>exact .inr hw
 |2,hw=>exact .inr hw
 |3,hw=>exact .inl (aax hw).symm
 |4,hw=>exact .inr hw
 |5,hw=>exact .inl (aax hw).symm
 |6,hw=>exact .inr hw
 |7,hw=>exact .inl (aax hw).symm
 |8,hw=>exact .inr hw
 |9,hw=>exact .inl (aax hw).symm
 |_+10,hw=>cases hw
theorem I1{a0 a1 a2 a3 a4 a5 a6 a7 a8 a9 b1 b3:List UInt8}:jG RX [a0,a1,a2,a3,a4,a5,a6,a7,a8,a9,mU,b1,i_,b3]:=by
 refine⟨aaz _,fun i w hw=>?_⟩
 match i,hw with
 |0,hw=>exact .inl (aax hw).symm
 |1,hw=>exact .inl (aax hw).symm
 |2,hw=>exact .inl (aax hw).symm
 |3,hw=>exact .inl (aax hw).symm
 |4,hw=>exact .inl (aax hw).symm
 |5,hw=>exact .inl (aax hw).symm
 |6,hw=>exact .inl (aax hw).symm
 |7,hw=>exact .inl (aax hw).symm
 |8,hw=>exact .inl (aax hw).symm
 |9,hw=>exact .inl (aax hw).symm
 |10,hw=>exact .inr hw
 |11,hw=>exact .inl (aax hw).symm
 |12,hw=>exact .inr hw
 |13,hw=>exact .inl (aax hw).symm
 |_+14,hw=>cases hw
theorem Mg{n:Nat}{line:List UInt8}(h: ¬jG (Rm n) (bD 32 line)):fN n line=none:=by
 unfold fN;split
 ·rename_i he;rw[he]at h;rw[if_neg fun hf=>h (BK hf)]
 ·rename_i he;rw[he]at h;rw[if_neg fun hf=>h (BK hf.1)]
 rfl
theorem Gq{n:Nat}{line a0 a1 a2 a3 a4 a5 a6 a7 a8 a9:List UInt8}(h:bD 32 line=[a0,a1,a2,a3,a4,a5,a6,a7,a8,a9])(hf:lC n a0 a1 a2 a4 a6 a8=true):fN n line=ke a3 a5 a7 a9 (some (-1,0)):=by unfold fN;rw[h];show(if _ then _ else _)=_;rw[if_pos hf]
theorem I2{n:Nat}{line a0 a1 a2 a3 a4 a5 a6 a7 a8 a9 b0 b1 b2 b3:List UInt8}(h:bD 32 line=[a0,a1,a2,a3,a4,a5,a6,a7,a8,a9,b0,b1,b2,b3])(hf:lC n a0 a1 a2 a4 a6 a8=true)
  (hb:jG RX [a0,a1,a2,a3,a4,a5,a6,a7,a8,a9,b0,b1,b2,b3]):fN n line=ke a3 a5 a7 a9 (wZ b1 b3):=by
 obtain rfl:=kg hb 10 (w:=mU) rfl rfl (by decide);obtain rfl:=kg hb 12 (w:=i_) rfl rfl (by decide);unfold fN;rw[h];show(if _ then _ else _)=_;rw[if_pos ⟨hf,rfl,rfl⟩]
theorem I3{n:Nat}{line:List UInt8}(hl:10<(bD 32 line).length)(h: ¬jG RX (bD 32 line)):fN n line=none:=by
 unfold fN;split
 ·rename_i he;rw[he]at hl;exact absurd hl (by simp)
 ·rename_i he;rw[he]at h;rw[if_neg];rintro⟨_,rfl,rfl⟩;exact h I1
 rfl
theorem I4{n:Nat}{line:List UInt8}(hl:10<(bD 32 line).length)(h:(bD 32 line).length≠14):fN n line=none:=by
 unfold fN;split
 ·rename_i he;rw[he]at hl;exact absurd hl (by simp)
 ·rename_i he;rw[he]at h;exact absurd rfl h
 rfl
def vh(f:aU)(line:List UInt8):Option Step:=(fN f.steps.length line).bind fun s=>if(bO s 40&&decide ((f.steps.length:Int)<40)&&decide ((f.windows.length:Int)=0))=true then some s else none
theorem iK{f:aU}{line:List UInt8}(h:fN f.steps.length line=none):vh f line=none:=by unfold vh;rw[h];rfl
set_option maxHeartbeats 8000000
def Un(x:List UInt8):Fact:=⟨fun v g=> ∃ns,o5 x=some ns∧Rs g v (ints ns),fun _ _ _ hf ⟨ns,h1,h2⟩=>⟨ns,h1,h2.mono hf.le⟩⟩
def XJ(x y:List UInt8):Fact:=⟨fun v g=> ∃(r:Nat) (tl:List Nat) (a:Option Addr) (c:Nat),gP x=some r∧o5 y=some tl∧v= .agg #[vI r,.slice a tl.length c,vI 0,vI 0,.slice none 0 0,vI (-1),vI 0]∧Rs g (.slice a tl.length c) (ints tl),
 fun _ _ _ hf ⟨r,tl,a,c,h1,h2,h3,h4⟩=>⟨r,tl,a,c,h1,h2,h3,h4.mono hf.le⟩⟩
theorem Uo:(⟨#[45]⟩:ByteArray).toList=[45]:=cH [45]
theorem ru(l:List Nat):(ints l).length=l.length:=by simp[ints]
theorem Ro{b:Nat}(f:aU)(line:List UInt8)(hlen:line.length≤1000000)(Pu:f.steps.length≤1000000){g0 g:G}{L:List dc}(hF:kr g)(hO:IS b f L g0 g):
  CallsIn Wd 0 prog 223 #[vP b,.string (bs line)] g.w fun e w'=>
   df g (fun g' r=>r= .tuple #[]∧ ∃s,vh f line=some s∧IS b {f with steps:=f.steps++[s]} L g0 g') e w'∨
   (vh f line=none∧gj g oG (fun g'=> ∃cs,St g0 g' (OA b cs::L)) e w'):=by
 have aj:=G.le.refl g;obtain⟨sa,sc,wa,wc,wz,hs,dn⟩:=hO;unfold IQ at hs;unfold OA;replace hs:St g0 g (vO b [vI f.bS,vI f.cd,.slice sa f.steps.length sc,.slice wa f.windows.length wc] 30::
  .row 91 7 (.slice sa f.steps.length sc) f.steps.length wz::
  .row 94 3 (.slice wa f.windows.length wc) f.windows.length (nk f.windows)::L):=hs
 refine enter func223 rfl ntmps223 rfl<|jd 6 [.o 0] hs rfl<|d_ rfl (Mh f.steps.length _ (by unfold jJ;omega) hF) fun g1 _ aH VU=>?_;rw[zw]at VU;subst VU;replace hs:=hs.call aH;have ag:=aH.le;obtain⟨aj,dn⟩:=cA ag aj dn
 refine aN rfl rfl (iD T.ok rfl hs (vs:=[(0,.string (bs jc)),(1,.string (bs (dec f.steps.length))),(2,.string (bs gv)),(3,.string (bs [])),(4,.string (bs jQ)),(5,.string (bs [])),(6,.string (bs mS)),(7,.string (bs [])),(8,.string (bs mT)),(9,.string (bs []))])
  (cells:=[.string (bs jc),.string (bs (dec f.steps.length)),.string (bs gv),.string (bs []),.string (bs jQ),.string (bs []),.string (bs mS),.string (bs []),.string (bs mT),.string (bs [])]) rfl rfl rfl rfl rfl rfl (by decide) (by decide) (by kernel_rfl) rfl ?_)
 clear hs;rintro bl gl hs ag;obtain⟨aj,dn⟩:=cA ag aj dn;obtain⟨gz,gX,dk,iw,aE⟩:=hs.cD (α:=xU) (xs:=(Rm f.steps.length).map xU.mk) (i:=0) rfl (cR.strs _ (Rm f.steps.length));have ag:=iw;rw[←gX];replace hs:=dk;clear dk;obtain⟨aj,dn⟩:=cA ag aj dn;refine so rfl (xX line (Rm f.steps.length) _ _ hlen (by unfold Rm;simp) (hF.mono aj) aE) ?_ ?_;rotate_left
 ·intro hn g5 sQ;replace hs:=hs.call sQ;replace aj:=aj.trans sQ.le;exact iG<|dO (.inr ⟨iK (Mg hn),gj.intro aj ⟨_,(hs.drop 1).drop 1⟩⟩)
 rintro g4 v nN ⟨mH,aA⟩;replace hs:=hs.call nN;have ag:=nN.le;obtain⟨aj,dn⟩:=cA ag aj dn;obtain⟨pa,pc,rfl⟩:=aA.isSlice;rw[aaS]at aA⊢;have ud:=mc 32 line;have Fv:=pb 32 line;generalize uf:bD 32 line=ps at*;obtain⟨a0,a1,a2,a3,a4,a5,a6,a7,a8,a9,rest,rfl⟩:=Rn mH.1;have uD:=I0 mH;have HA: ∀{n},(∀bk,ke a3 a5 a7 a9 bk=none)→fN n line=none:=fun hb=>IZ uf hb;have xm:(a0::a1::a2::a3::a4::a5::a6::a7::a8::a9::rest).length=rest.length+10:=rfl;rw[xm]at aA⊢;refine aF rfl<|ak ?_;have sT:=hs;apply dP (fe (.f (tZ a3)::(fe (.f (IX a3)::(fe (.f (tZ a5)::(fe (.f (Un a5)::(.f (XJ a3 a5)::(.f (Ia g4.dr.w.heap.size [vI 0,.slice none 0 0,vI 0,vI 0,.slice none 0 0,vI 0,vI 0] 91)::[])))))))))) 10 [(8,23),(9,5)] (by kernel_rfl)
 ·refine jV [[]] rfl<|aW [(0,15)] (fun gd hf=>?_) ?_
  ·have eR:=(G.a_ _).trans hf.le;exact bU rfl<|az<|ay rfl<|dJ T.ok rfl (aA.mono eR) (y:=⟨a3⟩) rfl rfl rfl rfl rfl rfl rfl fun b p ys aK fw=>⟨_,rfl,bW.refl _,b,p,rfl,by rw[←show ys=[Value.string (bs a3)]from fw];exact aK⟩
  refine aW [(1,16)] (fun gd hf=>?_) ?_
  ·skip;refine aI fun v1 h1=>?_;apply az;obtain⟨b,p,rfl,aK⟩:=h1;refine ay rfl<|cu T.ok 0 rfl aK rfl rfl<|⟨_,rfl,bW.refl _,?_⟩;exact rfl
  refine aW [(2,17)] (fun gd hf=>?_) ?_
  ·have jk:=hs.dr.call hf;have eR:=(G.a_ _).trans hf.le;refine bU rfl<|az<|ay rfl<|kh (cB 264) bJ rfl rfl rfl rfl rfl (lF a3 _ (aaC (ud a3 (by simp)) hlen) (hF.mono (aj.trans eR))) (fun g' v gN h=>⟨g',rfl,gN,h⟩) fun hn g' gN=>?_
   replace jk:=jk.call gN;exact iG<|dO (.inr ⟨iK (HA fun _=>OC hn),gj.intro ((aj.trans eR).trans gN.le) ⟨_,(jk.drop 1).drop 1⟩⟩)
  refine jV [[]] rfl<|aW [(4,19)] (fun gd hf=>?_) ?_
  ·have eR:=(G.a_ _).trans hf.le;exact bU rfl<|az<|ay rfl<|dJ T.ok rfl (aA.mono eR) (y:=⟨a5⟩) rfl rfl rfl rfl rfl rfl rfl fun b p ys aK fw=>⟨_,rfl,bW.refl _,b,p,rfl,by rw[←show ys=[Value.string (bs a5)]from fw];exact aK⟩
  refine aW [(5,20)] (fun gd hf=>?_) ?_
  ·skip;refine aI fun v5 h5=>?_;apply az;obtain⟨b,p,rfl,aK⟩:=h5;refine ay rfl<|cu T.ok 0 rfl aK rfl rfl<|⟨_,rfl,bW.refl _,?_⟩;exact rfl
  refine aW [(6,21)] (fun gd hf=>?_) ?_
  ·have jk:=hs.dr.call hf;have eR:=(G.a_ _).trans hf.le;refine bU rfl<|az<|ay rfl<|kh (cB 265) bJ rfl rfl rfl rfl rfl (Mi a5 _ (aaC (ud a5 (by simp)) hlen) (hF.mono (aj.trans eR))) (fun g' v gN h=>⟨g',rfl,gN,h⟩) fun hn g' gN=>?_
   replace jk:=jk.call gN;exact iG<|dO (.inr ⟨iK (HA fun _=>OD hn),gj.intro ((aj.trans eR).trans gN.le) ⟨_,(jk.drop 1).drop 1⟩⟩)
  refine aW [(3,18),(7,22)] (fun gd hf=>?_) ?_
  ·skip;refine aI fun v3 h3=>?_;refine aI fun v7 h7=>?_;apply az;obtain⟨r,hr,rfl⟩:=h3;obtain⟨tl,ht,XK⟩:=h7;obtain⟨ta,tc,rfl⟩:=XK.isSlice;rw[ru]at XK⊢;exact ay rfl<|iS T.ok rfl (vs:=[(0,vI r),(1,.slice ta tl.length tc),(5,vI (-1))]) (cells:=[vI r,.slice ta tl.length tc,vI 0,vI 0,.slice none 0 0,vI (-1),vI 0]) rfl rfl rfl rfl [(0,1),(1,1),(2,1),(3,1),(4,1),(5,1),(6,1)] rfl (by kernel_rfl)<|⟨_,rfl,bW.refl _,r,tl,ta,tc,hr,ht,rfl,XK⟩
  refine aW [] (fun gd hf=>?_) ?_
  ·skip;refine az<|ay rfl<|ik T.ok rfl (St.start gd) rfl rfl fun b g' kP hle=>?_;have ho:=kP.own 0 _ rfl;exact⟨g',rfl,kP.p9,b,rfl,aaC hf.below.size ho.1,ho.2⟩
  exact fk
 intro g1 aH;refine aI fun v8 h8=>?_;refine aI fun v9 h9=>?_;apply az;replace hs:=hs.dr.call aH;have ag:=(G.a_ _).trans aH.le;obtain⟨aj,aA,dn⟩:=eS ag aj aA dn;obtain⟨r,tl,ta,tc,hr,ht,rfl,bB⟩:=h8;obtain⟨bx,rfl,Aj⟩:=h9;replace hs:=sT.dr.jl aH Aj;clear sT;refine dC 0 hs rfl fun g1 hs ag=>?_;obtain⟨aj,aA,bB,dn⟩:=dU ag aj aA bB dn;refine bE<|ck 1 rfl<|fP (y:=⟨a7⟩) aA rfl rfl ?_;rintro bq pq ys aK rfl;refine dE 1 [.e aK 0] rfl<|so rfl (Mj a7 _ (aaC (ud a7 (by simp)) hlen) (hF.mono aj)) ?_ ?_
 rotate_left
 ·intro hn g5 sQ;replace hs:=hs.call sQ;replace aj:=aj.trans sQ.le;exact iG<|dO (.inr ⟨iK (HA fun _=>OE hn),gj.intro aj ⟨_,((hs.drop 0).drop 1).drop 1⟩⟩)
 rintro g6 _ pw ⟨m,n,IA,rfl⟩;replace hs:=hs.call pw;have ag:=pw.le;obtain⟨aj,aA,bB,dn⟩:=dU ag aj aA bB dn;refine Wp 4 rfl<|dC 0 hs rfl fun g1 hs ag=>?_;obtain⟨aj,aA,bB,dn⟩:=dU ag aj aA bB dn;refine Wp 1 rfl<|dC 0 hs rfl fun g1 hs ag=>?_;obtain⟨aj,aA,bB,dn⟩:=dU ag aj aA bB dn;refine bE<|ak<|ck 1 rfl<|fP (y:=⟨a9⟩) aA rfl rfl ?_;rintro bq pq ys aK rfl;refine dE 1 [.e aK 0] rfl<|aF rfl ?_;refine lR (fun a' w=> ∃(na:Option Addr) (nc:Nat) (nx:List Nat) (g':G),w=g'.w∧g1.le g'∧s7 a9=some nx∧Rs g' (.slice na nx.length nc) (ints nx)∧
  St g0 g' (vO bx [vI r,.slice ta tl.length tc,vI m,vI n,.slice na nx.length nc,vI (-1),vI (0)] 91::
   vO b [vI f.bS,vI f.cd,.slice sa f.steps.length sc,.slice wa f.windows.length wc] 30::
   .row 91 7 (.slice sa f.steps.length sc) f.steps.length wz::
   .row 94 3 (.slice wa f.windows.length wc) f.windows.length (nk f.windows)::L)∧
  Fr 91 [] [(0,vP b),(1,.string (bs line)),(4,.slice pa (rest.length+10) pc),(5,vP bx)] a') ?_ ?_
 ·by_cases h9:a9=[45]
  ·refine bg (b:=_) ?_ rfl ?_
   ·rw[cH,Uo];simp[h9]
   exact ar<|fun a ha=>⟨none,0,[],g1,rfl,G.le.refl _,by unfold s7;rw[if_pos h9],Rs.nil _,hs,ha.kp rfl⟩
  refine aG (b:=_) ?_ rfl ?_
  ·rw[cH,Uo];simp[h9]
  have xN:=G.le.refl g1;refine ah<|Wp 1 rfl<|fP (y:=⟨a9⟩) aA rfl rfl ?_;rintro bq pq ys aK rfl;refine dE 1 [.e aK 0] rfl ?_;have Fi:s7 a9=o5 a9:=by unfold s7;rw[if_neg h9]
  refine so rfl (Mi a9 _ (aaC (ud a9 (by simp)) hlen) (hF.mono aj)) ?_ ?_;rotate_left
  ·intro hn g5 sQ;replace hs:=hs.call sQ;replace aj:=aj.trans sQ.le;exact iG<|dO (.inr ⟨iK (HA fun _=>OF (by rw[Fi];exact hn)),gj.intro aj ⟨_,((hs.drop 0).drop 1).drop 1⟩⟩)
  rintro g7 v Af ⟨nx,lH,aT⟩;obtain⟨na,nc,rfl⟩:=aT.isSlice;rw[ru]at aT⊢;replace hs:=hs.call Af;have ag:=Af.le;obtain⟨aj,xN,bB,dn⟩:=dU ag aj xN bB dn;refine Wp 1 rfl<|dC 0 hs rfl fun g8 hs ag=>?_;obtain⟨aj,xN,bB,aT,dn⟩:=mY ag aj xN bB aT dn;exact an<|fun a ha=>⟨na,nc,nx,g8,rfl,xN,by rw[Fi,lH],aT,hs,ha.kp rfl⟩
 clear hs;rintro a' _ ⟨na,nc,nx,g7,rfl,ag,lH,aT,hs,dT⟩;obtain⟨aj,bB,dn⟩:=eS ag aj bB dn;revert a';refine bT<|ak<|aD rfl ?_
 refine lR (fun a' w=> ∃(bk lm:Int) (g':G),w=g'.w∧g7.le g'∧fN f.steps.length line=some ⟨r,ints tl,m,n,ints nx,bk,lm⟩∧
  St g0 g' (vO bx [vI r,.slice ta tl.length tc,vI m,vI n,.slice na nx.length nc,vI (bk),vI (lm)] 91::
   vO b [vI f.bS,vI f.cd,.slice sa f.steps.length sc,.slice wa f.windows.length wc] 30::
   .row 91 7 (.slice sa f.steps.length sc) f.steps.length wz::
   .row 94 3 (.slice wa f.windows.length wc) f.windows.length (nk f.windows)::L)∧
  Fr 91 [] [(0,vP b),(5,vP bx)] a') ?_ ?_
 ·by_cases J4:rest.length=0
  ·obtain rfl:=acx.1 J4;refine bg (b:=_) ?_ rfl ?_
   ·simp
   exact ar<|fun a ha=>⟨-1,0,g7,rfl,G.le.refl _,by rw[Gq uf uD,Hz hr ht IA lH],hs,ha.kp rfl⟩
  refine aG (b:=_) ?_ rfl ?_
  ·simp;omega
  have xN:=G.le.refl g7;have Up:10<(bD 32 line).length:=by rw[uf,xm];omega
  refine ck 1 rfl ?_;refine aN rfl rfl (iD T.ok rfl hs (vs:=[(0,.string (bs [])),(1,.string (bs [])),(2,.string (bs [])),(3,.string (bs [])),(4,.string (bs [])),(5,.string (bs [])),(6,.string (bs [])),(7,.string (bs [])),(8,.string (bs [])),(9,.string (bs [])),(10,.string (bs mU)),(11,.string (bs [])),(12,.string (bs i_)),(13,.string (bs []))])
   (cells:=[.string (bs []),.string (bs []),.string (bs []),.string (bs []),.string (bs []),.string (bs []),.string (bs []),.string (bs []),.string (bs []),.string (bs []),.string (bs mU),.string (bs []),.string (bs i_),.string (bs [])]) rfl rfl rfl rfl rfl rfl (by decide) (by decide) (by kernel_rfl) rfl ?_)
  clear hs;rintro bl gl hs ag;obtain⟨aj,xN,bB,aT,dn⟩:=mY ag aj xN bB aT dn;obtain⟨gz,gX,dk,iw,bV⟩:=hs.cD (α:=xU) (xs:=RX.map xU.mk) (i:=0) rfl (cR.strs _ RX);have ag:=iw;rw[←gX];replace hs:=dk;clear dk;obtain⟨aj,xN,bB,aT,dn⟩:=mY ag aj xN bB aT dn;refine so rfl (xX line RX _ _ hlen (by decide) (hF.mono aj) bV) ?_ ?_;rotate_left
  ·intro hn g5 sQ;replace hs:=hs.call sQ;replace aj:=aj.trans sQ.le;exact iG<|dO (.inr ⟨iK (I3 Up hn),gj.intro aj ⟨_,((hs.drop 0).drop 1).drop 1⟩⟩)
  clear bV;rintro g4 v nN ⟨Zp,bV⟩;replace hs:=hs.call nN;have ag:=nN.le;obtain⟨aj,xN,bB,aT,dn⟩:=mY ag aj xN bB aT dn;obtain⟨qa,qc,rfl⟩:=bV.isSlice;rw[aaS]at bV⊢;rw[uf]at Zp bV⊢;rw[xm]at bV⊢;refine aF rfl<|ck 3 rfl ?_;by_cases h4:rest.length=4
  ·obtain⟨b0,b1,b2,b3,rfl⟩:=Hx h4;refine bd 50 (b':=true) (by simp) rfl ?_;have uZ:=I2 uf uD Zp;refine so rfl (eP true _) ?_ fun h=>(by cases h);rintro g3 _ fT ⟨rfl,_⟩;replace hs:=hs.call fT;have ag:=fT.le;obtain⟨aj,xN,bB,aT,bV,dn⟩:=iB ag aj xN bB aT bV dn;apply bE;apply dP (fe (.f (tZ b1)::(fe (.f (IX b1)::(fe (.f (tZ b3)::(fe (.f (IX b3)::(fe []))))))))) 9 [(3,55),(7,59),(8,60)] (by kernel_rfl)
   ·refine jV [[]] rfl<|aW [(0,52)] (fun gd hf=>?_) ?_
    ·have eR:=(G.a_ _).trans hf.le;exact bU rfl<|az<|ay rfl<|dJ T.ok rfl (bV.mono eR) (y:=⟨b1⟩) rfl rfl rfl rfl rfl rfl rfl fun b p ys aK fw=>⟨_,rfl,bW.refl _,b,p,rfl,by rw[←show ys=[Value.string (bs b1)]from fw];exact aK⟩
    refine aW [(1,53)] (fun gd hf=>?_) ?_
    ·skip;refine aI fun v1 h1=>?_;apply az;obtain⟨b,p,rfl,aK⟩:=h1;refine ay rfl<|cu T.ok 0 rfl aK rfl rfl<|⟨_,rfl,bW.refl _,?_⟩;exact rfl
    refine aW [(2,54)] (fun gd hf=>?_) ?_
    ·have jk:=hs.dr.call hf;have eR:=(G.a_ _).trans hf.le;refine bU rfl<|az<|ay rfl<|kh (cB 264) bJ rfl rfl rfl rfl rfl (lF b1 _ (aaC (ud b1 (by simp)) hlen) (hF.mono (aj.trans eR))) (fun g' v gN h=>⟨g',rfl,gN,h⟩) fun hn g' gN=>?_
     replace jk:=jk.call gN;exact iG<|dO (.inr ⟨iK (by rw[uZ];unfold wZ;rw[hn];exact Hy),gj.intro ((aj.trans eR).trans gN.le) ⟨_,((jk.drop 0).drop 1).drop 1⟩⟩)
    refine jV [[]] rfl<|aW [(4,56)] (fun gd hf=>?_) ?_
    ·have eR:=(G.a_ _).trans hf.le;exact bU rfl<|az<|ay rfl<|dJ T.ok rfl (bV.mono eR) (y:=⟨b3⟩) rfl rfl rfl rfl rfl rfl rfl fun b p ys aK fw=>⟨_,rfl,bW.refl _,b,p,rfl,by rw[←show ys=[Value.string (bs b3)]from fw];exact aK⟩
    refine aW [(5,57)] (fun gd hf=>?_) ?_
    ·skip;refine aI fun v5 h5=>?_;apply az;obtain⟨b,p,rfl,aK⟩:=h5;refine ay rfl<|cu T.ok 0 rfl aK rfl rfl<|⟨_,rfl,bW.refl _,?_⟩;exact rfl
    refine aW [(6,58)] (fun gd hf=>?_) ?_
    ·have jk:=hs.dr.call hf;have eR:=(G.a_ _).trans hf.le;refine bU rfl<|az<|ay rfl<|kh (cB 264) bJ rfl rfl rfl rfl rfl (lF b3 _ (aaC (ud b3 (by simp)) hlen) (hF.mono (aj.trans eR))) (fun g' v gN h=>⟨g',rfl,gN,h⟩) fun hn g' gN=>?_
     replace jk:=jk.call gN;exact iG<|dO (.inr ⟨iK (by rw[uZ];unfold wZ;rw[hn];(cases gP b1<;>exact Hy)),gj.intro ((aj.trans eR).trans gN.le) ⟨_,((jk.drop 0).drop 1).drop 1⟩⟩)
    exact qo [[]] rfl
   intro g1 aH;refine aI fun v3 h3=>?_;refine aI fun v7 h7=>?_;refine bU rfl ?_;apply az;replace hs:=hs.dr.call aH;have ag:=(G.a_ _).trans aH.le;obtain⟨aj,xN,bB,aT,dn⟩:=mY ag aj xN bB aT dn;obtain⟨bk,GY,rfl⟩:=h3;obtain⟨lm,Mz,rfl⟩:=h7;refine dC 0 hs rfl fun g8 hs ag=>?_;obtain⟨aj,xN,bB,aT,dn⟩:=mY ag aj xN bB aT dn;refine Wp 1 rfl<|dC 0 hs rfl fun g9 hs ag=>?_;obtain⟨aj,xN,bB,aT,dn⟩:=mY ag aj xN bB aT dn;exact an<|fun a ha=>⟨bk,lm,g9,rfl,xN,by rw[uZ];unfold wZ;rw[GY,Mz];exact Hz hr ht IA lH,hs,ha.kp rfl⟩
  refine bd 50 (b':=false) (by simp;omega) rfl<|so rfl (eP false _) ?_ ?_
  ·rintro g3 _ fT ⟨_,hc⟩;cases hc
  intro _ g3 fT;replace hs:=hs.call fT;replace aj:=aj.trans fT.le;exact iG<|dO (.inr ⟨iK (I4 Up (by rw[uf,xm];omega)),gj.intro aj ⟨_,((hs.drop 0).drop 1).drop 1⟩⟩)
 clear hs;rintro a' _ ⟨bk,lm,g8,rfl,ag,dj,hs,dT⟩;obtain⟨aj,bB,aT,dn⟩:=dU ag aj bB aT dn;revert a';refine bT<|jd 1 [.o 0] hs rfl<|d_ rfl (xf _ ⟨r,ints tl,m,n,ints nx,bk,lm⟩ 40 _ ⟨[vI r,.slice ta tl.length tc,vI m,vI n,.slice na nx.length nc,vI bk,vI lm],rfl,ta,tl.length,tc,na,nx.length,nc,rfl,bB,aT⟩ (by decide) (by decide)) ?_;rintro g9 _ EO rfl;replace hs:=hs.call EO;have ag:=EO.le;obtain⟨aj,bB,aT,dn⟩:=dU ag aj bB aT dn;have RY:vh f line=if(bO ⟨r,ints tl,m,n,ints nx,bk,lm⟩ 40&&decide ((f.steps.length:Int)<40)&&decide ((f.windows.length:Int)=0))=true then some ⟨r,ints tl,m,n,ints nx,bk,lm⟩else none:=by unfold vh;rw[dj];rfl
 cases Au:bO ⟨r,ints tl,m,n,ints nx,bk,lm⟩ 40 with
 |false=>
  refine Wp 16 rfl<|so rfl (eP false _) ?_ ?_
  ·rintro g3 _ fT ⟨_,hc⟩;cases hc
  intro _ g3 fT;replace hs:=hs.call fT;replace aj:=aj.trans fT.le;exact iG<|dO (.inr ⟨by rw[RY,Au];rfl,gj.intro aj ⟨_,((hs.drop 0).drop 1).drop 1⟩⟩)
 |true=>
 refine Wm 9 [.o 1] hs rfl ?_;by_cases VI:f.steps.length<40
 ·refine bd 72 (b':=true) (by simp;omega) rfl<|Wm 7 [.o 1] hs rfl ?_;by_cases Vf:f.windows.length=0
  ·refine bd 79 (b':=true) (by simp[Vf]) rfl<|so rfl (eP true _) ?_ fun h=>(by cases h)
   rintro g3 _ fT ⟨rfl,_⟩;replace hs:=hs.call fT;have ag:=fT.le;obtain⟨aj,bB,aT,dn⟩:=dU ag aj bB aT dn;replace RY:vh f line=some ⟨r,ints tl,m,n,ints nx,bk,lm⟩:=by rw[RY,Au,decide_eq_true (by omega:(f.steps.length:Int)<40),decide_eq_true (by omega:(f.windows.length:Int)=0)];rfl
   apply bE;apply G8 bJ rfl (Fact.eq _::Fact.eq _::Fact.eq _::Fact.eq _::Fact.eq _::Fact.eq _::(Fact.rs [(⟨r,ints tl,m,n,ints nx,bk,lm⟩:Step)])::(Tl g0 (fun v Vk=>vO bx [vI r,.slice ta tl.length tc,vI m,vI n,.slice na nx.length nc,vI bk,vI lm] 91::vO b [vI f.bS,vI f.cd,.slice sa f.steps.length sc,.slice wa f.windows.length wc] 30:: .row 91 7 v (f.steps.length+1) Vk:: .row 94 3 (.slice wa f.windows.length wc) f.windows.length (nk f.windows)::L) (f.steps.length+1) (f.steps++[(⟨r,ints tl,m,n,ints nx,bk,lm⟩:Step)]))::[]) 8 [(0,81),(7,88)] [] [1,2,3,4,5,6] 7 rfl (by kernel_rfl) (by kernel_rfl)
   case houts=>exact rfl
   case hsoft=>(repeat (first|exact wN|apply wO|refine cX (ml _) ?_|refine cX (cw _) ?_|refine cX (mg _ _) ?_|refine cX (kD _) ?_|refine cX (mh _) ?_|refine cX (jt _) ?_|refine cX (pV _) ?_|refine cX (nK _) ?_|refine wP (by exact rfl) ?_))
   ·refine jP (qV (js:=[]) (by kernel_rfl) (by exact rfl) fun gd hf=>?_) ?_
    ·skip;apply az;(refine ay rfl ?_;refine bR _ T.ok rfl ?_;refine⟨_,rfl,bW.refl _,?_⟩;exact rfl)
    refine fh [] (fun gd hf=>az (bj rfl rfl))<|fh [(1,82)] (fun gd hf=>cj rfl (bj rfl rfl))<|fh [(2,83)] (fun gd hf=>cj rfl (bj rfl rfl))<|fh [(3,84)] (fun gd hf=>cj rfl (ay rfl (cJ T.ok 1 rfl (hs.dr.call hf) rfl rfl rfl (cC rfl))))<|fh [] (fun gd hf=>az (ay rfl (cJ T.ok 0 rfl (hs.dr.call hf) rfl rfl rfl (cC rfl))))<|fh [(5,86)] (fun gd hf=>?_) ?_
    ·have eR:=(G.a_ _).trans hf.le;refine bU rfl<|az<|ay rfl<|iD T.ok rfl (St.start gd) (vs:=[(0,.agg #[vI r,.slice ta tl.length tc,vI m,vI n,.slice na nx.length nc,vI bk,vI lm])]) (cells:=[vI r,.slice ta tl.length tc,vI m,vI n,.slice na nx.length nc,vI bk,vI lm]) rfl rfl rfl rfl rfl rfl (by decide) (by decide) (by kernel_rfl) rfl fun b2 g2 pH OB=>?_;obtain⟨g3,wH,EW,Ac,ph⟩:=pH.cD (α:=Step) (xs:=[⟨r,ints tl,m,n,ints nx,bk,lm⟩]) (i:=0) rfl ⟨_,[],by rw[aaI],⟨ta,tl.length,tc,na,nx.length,nc,rfl,bB.mono (eR.trans OB),aT.mono (eR.trans OB)⟩,rfl⟩;exact⟨g3,wH,EW.p9,ph⟩
    refine jP (wR (js:=[(4,85),(6,87)]) (by kernel_rfl) fun gd hf=>?_) ?_
    ·have jk:=hs.dr.call hf;have eR:=(G.a_ _).trans hf.le;refine bU rfl<|aI fun v6 h6=>?_
     apply az;obtain⟨ax,cx,rfl⟩:=Rs.isSlice h6;obtain⟨_,news,L4,iO⟩:=Src.jh h6;refine⟨rfl,?_⟩;exact ba T.ok 2 rfl jk rfl rfl rfl rfl rfl rfl rfl (by decide) rfl iO L4.one (by show(f.steps.length+1)*88≤_;omega) (by unfold maxLen;show f.steps.length+1≤_;omega) fun a' c' g8 oI nM=>⟨g8,rfl,nM,a',c',_,rfl,oI,cR.app (L4.mono nM) (dn.mono (eR.trans nM))⟩
    exact wQ
   intro g1 aH;refine bU rfl<|aI fun v7 h7=>?_;apply az
   have ag:=(G.a_ _).trans aH;replace aj:=G.le.trans aj ag;obtain⟨Zq,Zr,XL,rfl,hs,XM⟩:=h7;refine Wp 2 rfl<|dC 1 hs rfl fun g9 hs ag=>?_;replace aj:=G.le.trans aj ag;refine an<|nd rfl (.inl (df.intro aj ⟨rfl,_,RY,Zq,Zr,wa,wc,XL,?_,XM.mono ag⟩));have dm:=hs.drop 0;show St g0 _ (.obj b _:: .row _ 7 (.slice Zq (f.steps++[_]).length Zr) (f.steps++[_]).length _:: .row _ 3 _ _ _::L);rw[aal];exact dm
  refine bd 79 (b':=false) (by simp[Vf]) rfl<|so rfl (eP false _) ?_ ?_
  ·rintro g3 _ fT ⟨_,hc⟩;cases hc
  intro _ g3 fT;replace hs:=hs.call fT;replace aj:=aj.trans fT.le;exact iG<|dO (.inr ⟨by rw[RY,decide_eq_false (by omega: ¬(f.windows.length:Int)=0),aci];rfl,gj.intro aj ⟨_,((hs.drop 0).drop 1).drop 1⟩⟩)
 refine bd 72 (b':=false) (by simp;omega) rfl<|Wp 7 rfl<|so rfl (eP false _) ?_ ?_
 ·rintro g3 _ fT ⟨_,hc⟩;cases hc
 intro _ g3 fT;replace hs:=hs.call fT;replace aj:=aj.trans fT.le;exact iG<|dO (.inr ⟨by rw[RY,decide_eq_false (by omega: ¬(f.steps.length:Int)<40),aci,aa6];rfl,gj.intro aj ⟨_,((hs.drop 0).drop 1).drop 1⟩⟩)
theorem iW{fn:Func}{tb:Tb}{P:Program}{g0 g:G}{L:List dc}(dS:tb.ok P){tmps:Array Value}{t tt b:Nat}{v:Value}{cs:List Value}{E:TypeId}{fz:Nat×Nat}(i:Nat)(hr:fn.results=#[.cell t tt])(hs:St g0 g L)
  (h1:tmps[t]? =some (vP b)) (hi:L[i]? =some (.obj b (.cells cs.toArray E fz))) (hv:Ad tb tt cs 0=some v):
  (results fn tmps).run P g.w= .ok v g.w:=by
 have e1:=jo (P:=P) (w:=g.w) (off:=0) (o:=0) dS hv (lZ (hs.own i _ hi).2.1);simp only[abj]at e1;simp[results,hr,h1,asAddr,e1]
theorem t_{b6:Nat}{v6:Bool}{g0 g:G}{e0:dc}{L:List dc}(hs:St g0 g (e0::vO b6 [Value.bool v6] 4::L)):
  CallsDIn Wd 0 prog 221 #[vP b6] (.panicking oG) g.w fun en u' w'=>en= .returned (.tuple #[])∧u'= .panicking [{v:=.iface 288 (.agg #[]),recovered:=true}]∧
   ∃g',g'.w=w'∧g.le g'∧St g0 g' (e0::vO b6 [Value.bool false] 4::L):=by
 refine callsDIn_of_wpSIn func221 rfl trivial fun c₀ cs hu=>?_;apply wpSIn_seq;apply wpSIn_region;simp[wpOpsSIn,go_sem,recoverD,hu,oG,ntmps221,Exit.thenS];refine Ha (N:=5) (l:=[(0,vP b6),(1,.iface 288 (.agg #[])),(2,.iface 288 (.agg #[]))]) rfl (by simp) (by simp[tM]) ?_;have aj:=G.le.refl g;refine ck 1 rfl<|aN rfl rfl<|qX (neg:=true) rfl rfl rfl rfl rfl<|bE<|bZ rfl<|ah<|dC 1 hs rfl fun g1 hs ag=>?_;replace aj:=G.le.trans aj ag;exact an<|Tw _ rfl rfl ⟨rfl,rfl,g1,rfl,aj,hs⟩
theorem ub{b6:Nat}(w:World):CallsDIn Wd 0 prog 221 #[vP b6] .returning w fun en u' w'=>en= .returned (.tuple #[])∧u'= .returning∧w'=w:=by refine callsDIn_of_wpSIn func221 rfl trivial fun c₀ cs hu=>?_;apply wpSIn_seq;apply wpSIn_region;simp[wpOpsSIn,go_sem,recoverD,hu,ntmps221,Exit.thenS];exact Ha (N:=5) (l:=[(0,vP b6),(1,.nilIface),(2,.nilIface)]) rfl (by simp) (by simp[tM])<|ck 1 rfl<|aN rfl rfl<|qX (neg:=true) rfl rfl rfl rfl rfl<|bE<|bI rfl<|ar<|Tw _ rfl (by cases c₀;simp_all) ⟨rfl,rfl,rfl⟩
def lD(f:aU)(line:List UInt8):Option aU:=
 if jc.isPrefixOf line=true then(vh f line).map fun s=>{f with steps:=f.steps++[s]}
 else(jF f line).map fun w=>{f with windows:=f.windows++[w]}
def wC(b:Nat)(L:List dc)(g0 g':G)(res:Option aU)(r:Value):Prop:=
 match res with
 |some f'=>r= .bool true∧IS b f' L g0 g'
 |none=>r= .bool false∧ ∃cs,St g0 g' (OA b cs::L)
theorem OG{b:Nat}(f:aU)(line:List UInt8)(hlen:line.length≤1000000)(Pu:f.steps.length≤1000000)(JX:f.windows.length≤1000000){g0 g:G}{L:List dc}(hF:kr g)(hO:IS b f L g0 g):
  CallsIn Wd 0 prog 180 #[vP b,.string (bs line),.bool false] g.w (df g fun g' r=>wC b L g0 g' (lD f line) r):=by
 have aj:=G.le.refl g;obtain⟨sa,sc,wa,wc,wz,hs,dn⟩:=hO;refine Lo func180 rfl ntmps180 rfl<|cO<|fA hs rfl fun b6 g1 hs ag=>?_;obtain⟨aj,dn⟩:=cA ag aj dn;have dm:St g0 g1 (IQ b f sa sc wa wc wz++vO b6 [Value.bool false] 4::L):=hs.perm abA.symm;replace hs:=dm;clear dm;refine bE<|ck 1 rfl<|D7 rfl bJ rfl rfl rfl rfl<|bE<|ak<|aw<|aD rfl<|bI rfl<|ck 1 rfl<|d_ rfl (EE line jc _) ?_;rintro g2 _ FE rfl;replace hs:=hs.call FE;have ag:=FE.le;obtain⟨aj,dn⟩:=cA ag aj dn;have hO:IS b f (vO b6 [Value.bool false] 4::L) g0 g2:=⟨sa,sc,wa,wc,wz,hs,dn⟩;have Zs:=hF.mono aj;clear hs dn;refine aF rfl ?_;cases oz:jc.isPrefixOf line with
 |true=>
  refine bZ rfl<|ah<|Wp 2 rfl ?_;have dj:=Ro f line hlen Pu Zs hO;refine aN rfl rfl (rY (cB 223) bJ rfl rfl rfl rfl rfl (dj.mono fun e w' h=>?_));rcases h with⟨g3,v,rfl,rfl,ag,rfl,s,kP,XN⟩|⟨hn,g3,rfl,rfl,ag,cs,hs⟩
  ·refine .inl ⟨_,rfl,?_⟩;obtain⟨sa,sc,wa,wc,wz,hs,dn⟩:=XN;replace aj:=G.le.trans aj ag;refine an<|aX<|ai<|cO<|dC 3 hs rfl fun g1 hs ag=>?_;obtain⟨aj,dn⟩:=cA ag aj dn;refine bE<|au (QV (cB 221) fun tmps we=>(ub _).mono ?_);rintro e u' QL ⟨rfl,rfl,rfl⟩;refine⟨_,iW T.ok 3 rfl hs (we _ _ rfl) rfl rfl,?_⟩;refine df.intro aj ?_;rw[show lD f line=some {f with steps:=f.steps++[s]}from by unfold lD;rw[if_pos oz,kP];rfl];exact⟨rfl,sa,sc,wa,wc,wz,hs.drop 3,dn⟩
  refine .inr ⟨_,rfl,?_⟩;replace aj:=aj.trans ag;refine iG<|F1 (cB 221) fun tmps we=>(t_ hs).mono ?_
  rintro e u' QL ⟨rfl,rfl,g4,rfl,Mk,MJ⟩;refine⟨_,iW T.ok 1 rfl MJ (we _ _ rfl) rfl rfl,?_⟩;refine df.intro (aj.trans Mk) ?_;rw[show lD f line=none from by unfold lD;rw[if_pos oz,hn];rfl];exact⟨rfl,cs,MJ.drop 1⟩
 |false=>
  refine bI rfl<|ah<|Wp 2 rfl ?_;have dj:=Mf f line hlen JX Zs hO;refine aN rfl rfl (rY (cB 224) bJ rfl rfl rfl rfl rfl (dj.mono fun e w' h=>?_));rcases h with⟨g3,v,rfl,rfl,ag,rfl,s,kP,XN⟩|⟨hn,g3,rfl,rfl,ag,cs,hs⟩
  ·refine .inl ⟨_,rfl,?_⟩;obtain⟨sa,sc,wa,wc,wz,hs,dn⟩:=XN;replace aj:=G.le.trans aj ag;refine an<|aX<|ai<|cO<|dC 3 hs rfl fun g1 hs ag=>?_;obtain⟨aj,dn⟩:=cA ag aj dn;refine bE<|au (QV (cB 221) fun tmps we=>(ub _).mono ?_);rintro e u' QL ⟨rfl,rfl,rfl⟩;refine⟨_,iW T.ok 3 rfl hs (we _ _ rfl) rfl rfl,?_⟩;refine df.intro aj ?_;rw[show lD f line=some {f with windows:=f.windows++[s]}from by unfold lD;rw[if_neg (by rw[oz];simp),kP];rfl];exact⟨rfl,sa,sc,wa,wc,wz,hs.drop 3,dn⟩
  refine .inr ⟨_,rfl,?_⟩;replace aj:=aj.trans ag;refine iG<|F1 (cB 221) fun tmps we=>(t_ hs).mono ?_
  rintro e u' QL ⟨rfl,rfl,g4,rfl,Mk,MJ⟩;refine⟨_,iW T.ok 1 rfl MJ (we _ _ rfl) rfl rfl,?_⟩;refine df.intro (aj.trans Mk) ?_;rw[show lD f line=none from by unfold lD;rw[if_neg (by rw[oz];simp),hn];rfl];exact⟨rfl,cs,MJ.drop 1⟩
theorem EF{b:Nat}(line:List UInt8)(hlen:line.length≤1000000){g0 g:G}{L:List dc}(hF:kr g)(hs:St g0 g (IQ b ⟨0,0,[],[]⟩ none 0 none 0 []++L)):
  CallsIn Wd 0 prog 180 #[vP b,.string (bs line),.bool true] g.w (df g fun g' r=>wC b L g0 g' ((rn line).map fun p=>⟨p.1,p.2,[],[]⟩) r):=by
 have aj:=G.le.refl g;refine Lo func180 rfl ntmps180 rfl<|cO<|fA hs rfl fun b6 g1 hs ag=>?_;replace aj:=G.le.trans aj ag;have dm:St g0 g1 (IQ b ⟨0,0,[],[]⟩ none 0 none 0 []++vO b6 [Value.bool false] 4::L):=hs.perm abA.symm;replace hs:=dm;clear dm;refine bE<|ck 1 rfl<|D7 rfl bJ rfl rfl rfl rfl<|bE<|ak<|aw<|aD rfl<|bZ rfl<|ah<|Wp 2 rfl ?_;have dj:=Rp line hlen (hF.mono aj) hs;clear hs;refine aN rfl rfl (rY (cB 222) bJ rfl rfl rfl rfl rfl (dj.mono fun e w' h=>?_));rcases h with⟨g3,v,rfl,rfl,ag,rfl,m,n,IA,hs⟩|⟨hn,g3,rfl,rfl,ag,cs,hs⟩
 ·refine .inl ⟨_,rfl,?_⟩;replace aj:=G.le.trans aj ag;refine an<|aX<|ai<|cO<|dC 3 hs rfl fun g1 hs ag=>?_;replace aj:=G.le.trans aj ag;refine bE<|au (QV (cB 221) fun tmps we=>(ub _).mono ?_);rintro e u' QL ⟨rfl,rfl,rfl⟩;refine⟨_,iW T.ok 3 rfl hs (we _ _ rfl) rfl rfl,?_⟩;refine df.intro aj ?_;rw[IA];exact⟨rfl,none,0,none,0,[],hs.drop 3,rfl⟩
 refine .inr ⟨_,rfl,?_⟩;replace hs:=(hs.drop 1).drop 1;replace aj:=aj.trans ag;refine iG<|F1 (cB 221) fun tmps we=>(t_ hs).mono ?_
 rintro e u' QL ⟨rfl,rfl,g4,rfl,Mk,MJ⟩;refine⟨_,iW T.ok 1 rfl MJ (we _ _ rfl) rfl rfl,?_⟩;refine df.intro (aj.trans Mk) ?_;rw[hn];exact⟨rfl,cs,MJ.drop 1⟩
def nI:aU:=⟨0,0,[],[]⟩
def w8(l:List UInt8):Bool:=l==[]||[35].isPrefixOf l
def oe(first:Bool)(f:aU)(l:List UInt8):Option aU:=if first=true then(rn l).map fun p=>⟨p.1,p.2,[],[]⟩else lD f l
def eL(first:Bool)(f:aU)(i:Nat):List (List UInt8)→aU⊕Nat
 |[]=> .inl f
 |l::r=>if w8 l=true then eL first f (i+1) r else
  match oe first f l with
  |some f'=>eL false f' (i+1) r
  |none=> .inr (i+1)
def lW(s:List UInt8):aU⊕Nat:=
 match eL true nI 0 (bD 10 s)with
 | .inl f=>if valid f=true then .inl f else .inr (bD 10 s).length
 | .inr k=> .inr k
def Rq:Value:=.agg #[vI 0,vI 0,.slice none 0 0,.slice none 0 0]
def kG(g':G)(res:aU⊕Nat)(r:Value):Prop:=
 match res with
 | .inl f=> ∃v,r= .tuple #[v,vI 0,vI 0]∧eQ g' v f
 | .inr k=>r= .tuple #[Rq,vI k,vI 40]
theorem w9{fn:Func}{tb:Tb}{P:Program}{N:Nat}{l:Env}{g0 g:G}{L:List dc}{R:Ending→World→Prop}(dS:tb.ok P)(i:Nat){t tt u x b:Nat}{cs:List Value}{E:TypeId}{fz:Nat×Nat}{v v2 v3:Value}(hr:fn.results=#[.cell t tt,.tmp u,.tmp x])(hs:St g0 g L)(hi:L[i]? =some (.obj b (.cells cs.toArray E fz)))
  (hl:lk l t=some (vP b)) (hv:Ad tb tt cs 0=some v) (rD:lk l u=some v2) (RN:lk l x=some v3) (hR:R (.returned (.tuple #[v,v2,v3])) g.w) (a:Act) (ha:Fr N [] l a):bodyPost P fn R .ret a g.w:=by
 refine⟨ha.defers,_,?_,hR⟩;have:=jo (P:=P) (w:=g.w) (off:=0) (o:=0) dS hv (lZ (hs.own i _ hi).2.1);simp only[abj]at this;simp[results,hr,ha.get t _ hl,ha.get u _ rD,ha.get x _ RN,asAddr,this]
def EG(b b2:Nat)(first:Bool)(f:aU)(g0 g:G):Prop:=
 match first with
 |true=>f=nI∧St g0 g (IQ b nI none 0 none 0 []++[vO b2 [vI 0,vI 0,.slice none 0 0,.slice none 0 0] 30])
 |false=>IS b f [vO b2 [vI 0,vI 0,.slice none 0 0,.slice none 0 0] 30] g0 g
theorem EG.o{b b2:Nat}{first:Bool}{f:aU}{g0 g:G}(h:EG b b2 first f g0 g):IS b f [vO b2 [vI 0,vI 0,.slice none 0 0,.slice none 0 0] 30] g0 g:=by
 cases first with
 |true=>obtain⟨rfl,h⟩:=h;exact⟨none,0,none,0,[],h,rfl⟩
 |false=>exact h
theorem EG.call{b b2:Nat}{first:Bool}{f:aU}{g0 g g':G}(h:EG b b2 first f g0 g)(hf:bW g g'):EG b b2 first f g0 g':=by
 cases first with
 |true=>exact⟨h.1,h.2.call hf⟩
 |false=>obtain⟨a,c,d,e,k,h1,h2⟩:=h;exact⟨a,c,d,e,k,h1.call hf,h2.mono hf.le⟩
theorem I5{b b2:Nat}{first:Bool}(f:aU)(line:List UInt8)(hlen:line.length≤1000000)(Pu:f.steps.length≤1000000)(JX:f.windows.length≤1000000){g0 g:G}(hF:kr g)(h:EG b b2 first f g0 g):
  CallsIn Wd 0 prog 180 #[vP b,.string (bs line),.bool first] g.w (df g fun g' r=>wC b [vO b2 [vI 0,vI 0,.slice none 0 0,.slice none 0 0] 30] g0 g' (oe first f line) r):=by
 cases first with
 |true=>obtain⟨rfl,h⟩:=h;exact EF line hlen hF h
 |false=>exact OG f line hlen Pu JX hF h
theorem Ml{first:Bool}{f f':aU}{line:List UInt8}(h:oe first f line=some f'):f'.steps.length≤f.steps.length+1∧f'.windows.length≤f.windows.length+1:=by
 unfold oe lD at h;split at h
 ·obtain⟨p,_,rfl⟩:=abk.1 h;exact⟨aar _,aar _⟩
 split at h
 ·obtain⟨p,_,rfl⟩:=abk.1 h;exact⟨by simp,by simp⟩
 obtain⟨p,_,rfl⟩:=abk.1 h;exact⟨by simp,by simp⟩
theorem NI(s:List UInt8)(g:G)(hlen:s.length≤999999)(hF:kr g):cN prog 100 #[.string (bs s)] g fun g' r=>kG g' (lW s) r:=by
 have hs:=St.start g;have aj:=G.le.refl g;refine enter func100 rfl ntmps100 rfl<|cO<|fA hs rfl fun b2 g1 hs ag=>?_;replace aj:=G.le.trans aj ag;refine aF rfl<|cO<|fA hs rfl fun b g1 hs ag=>?_;replace aj:=G.le.trans aj ag;refine bE<|ck 1 rfl<|d_ rfl (CT s 10 _ (by omega) (hF.mono aj)) fun g1 vo aH AR=>?_;obtain⟨gz,gX,dk,iw,aA⟩:=hs.lS aH AR;have ag:=aH.le.trans iw;rw[←gX];replace hs:=dk;clear dk AR;replace aj:=G.le.trans aj ag;have Fv:=pb 10 s;have ud:=mc 10 s
 have Rf: ∀x,eL true nI 0 (bD 10 s)=x→lW s=match x with
  | .inl f=>if valid f=true then .inl f else .inr (bD 10 s).length
  | .inr k=> .inr k:=by rintro x rfl;rfl
 generalize bD 10 s=ps at*;obtain⟨pa,pc,rfl⟩:=aA.isSlice;have Je:=aj;have MO:(ps.map xU.mk).length=ps.length:=aaS _;have Mm:Rs gz (.slice pa ps.length pc) (ps.map xU.mk):=by have h:=aA;rw[MO]at h;exact h
 clear aA;rw[MO];have dm:St g gz (IQ b nI none 0 none 0 []++[vO b2 [vI 0,vI 0,.slice none 0 0,.slice none 0 0] 30]):=
  ((hs.eM 94 3 none).eM 91 7 none).perm (abA (l₁:=[dc.row 91 7 (.slice none 0 0) 0 [],dc.row 94 3 (.slice none 0 0) 0 []]))
 clear hs;have Zt:EG b b2 true nI g gz:=⟨rfl,dm⟩;clear dm;refine aF rfl<|aD rfl<|ak<|aD rfl<|aw ?_
 refine aZ (fun m a' w=> ∃(k:Nat) (first:Bool) (f:aU) (g':G),w=g'.w∧EG b b2 first f g g'∧G.le gz g'∧k≤ps.length∧m=ps.length-k∧f.steps.length≤k∧f.windows.length≤k∧eL first f k (ps.drop k)=eL true nI 0 ps∧
  Fr 40 [] [(2,vP b2),(5,vP b),(6,.slice pa ps.length pc),(7,.bool first),(12,.slice pa ps.length pc),(13,vI ps.length),(14,vI k)] a') ps.length
   (fun a' ha=>⟨0,true,nI,gz,rfl,Zt,G.le.refl _,aar _,rfl,aar _,aar _,rfl,ha.kp rfl⟩) ?_
 clear aj Zt;rintro m a' _ ⟨k,first,f,g',rfl,hP,kS,hk,rfl,Pu,JX,mI,dT⟩;have aA:=Mm.mono kS;have aj:=Je.trans kS;revert a';refine bT<|aD rfl<|ak ?_;by_cases aV:k<ps.length
 ·refine aG (b:=decide ((k:Int)<(ps.length:Int))) (by simp;omega) rfl ?_;rw[aa7 aV]at mI;refine ar<|ai<|ak<|aw<|ck 1 rfl<|fP (y:=⟨ps[k]⟩) aA (by simp[dq,aV]) rfl ?_;rintro bq pq ys aK rfl;refine dE 1 [.e aK 0] rfl<|aF rfl<|ak<|ck 3 rfl ?_;by_cases h0:ps[k]=[]
  ·refine bd 21 (b':=true) (by rw[cH,xY];simp[h0]) rfl ?_;rw[show eL first f k (ps[k]::ps.drop (k+1))=eL first f (k+1) (ps.drop (k+1))from by rw[eL,if_pos (by unfold w8;rw[h0];rfl)]]at mI;refine aF rfl<|bZ rfl<|aJ<|aM<|b_<|ai<|ah<|Wp 2 rfl<|an<|fun a ha=>⟨ps.length-(k+1),by omega,k+1,first,f,g',rfl,hP,kS,by omega,rfl,by have:=Pu;omega,by have:=JX;omega,mI,ha.keep ⟨rfl,rfl,rfl,rfl,rfl,rfl,kW rfl,trivial⟩⟩
  refine bd 21 (b':=false) (by rw[cH,xY];simp[h0]) rfl<|Wp 1 rfl<|d_ rfl (EE ps[k] [35] _) ?_;rintro g2 _ FE rfl;replace hP:=hP.call FE;have ag:=FE.le;replace aj:=G.le.trans aj ag;replace kS:=kS.trans ag;cases oz:[35].isPrefixOf ps[k]with
  |true=>
   rw[show eL first f k (ps[k]::ps.drop (k+1))=eL first f (k+1) (ps.drop (k+1))from by rw[eL,if_pos (by unfold w8;rw[oz,Bool.or_true])]]at mI;refine aF rfl<|bZ rfl<|aJ<|aM<|b_<|ai<|ah<|Wp 2 rfl<|an<|fun a ha=>⟨ps.length-(k+1),by omega,k+1,first,f,g2,rfl,hP,kS,by omega,rfl,by have:=Pu;omega,by have:=JX;omega,mI,ha.keep ⟨rfl,rfl,rfl,rfl,rfl,rfl,kW rfl,trivial⟩⟩
  |false=>
   rw[show eL first f k (ps[k]::ps.drop (k+1))=(match oe first f ps[k]with
    |some f'=>eL false f' (k+1) (ps.drop (k+1))
    |none=> .inr (k+1))from by rw[eL,if_neg (by unfold w8;rw[oz,acj];simpa using h0)]]at mI
   refine aF rfl<|bI rfl<|ar<|ai<|ak<|ck 2 rfl<|nb rfl (I5 f ps[k] (aaC (ud _ (aaQ aV)) (by omega)) (by omega) (by omega) (hF.mono aj) hP) fun g3 r ag HB=>?_;replace kS:=kS.trans ag;cases Lh:oe first f ps[k]with
   |some f'=>
    rw[Lh]at HB mI;obtain⟨rfl,hO⟩:=HB;have rD:=Ml Lh;refine aF rfl<|bI rfl<|ar<|ai<|ah<|Wp 1 rfl<|an<|aX<|ai<|ah<|Wp 2 rfl<|an<|fun a ha=>⟨ps.length-(k+1),by omega,k+1,false,f',g3,rfl,hO,kS,by omega,rfl,by have:=rD.1;omega,by have:=rD.2;omega,mI,ha.keep ⟨rfl,rfl,rfl,rfl,rfl,rfl,kW rfl,trivial⟩⟩
   |none=>
    rw[Lh]at HB mI;obtain⟨rfl,cs,hs⟩:=HB;refine aF rfl<|bZ rfl<|cO<|hZ [] [vI 0,vI 0,.slice none 0 0,.slice none 0 0] [(0,1),(1,1),(2,1),(3,1)] rfl<|Wp 2 rfl<|dC 1 hs rfl fun g1 hs ag=>aF rfl<|au<|ec<|iy<|ec<|ec<|iy<|ec<|w9 (v2:=vI ((k+1:Nat):Int)) T.ok 1 rfl hs rfl rfl rfl (kW rfl) rfl<|hs.ret ?_;rw[Rf _ mI.symm]
    rfl
 refine bg (b:=decide ((k:Int)<(ps.length:Int))) (by simp;omega) rfl ?_;obtain rfl:k=ps.length:=by omega
 rw[acW]at mI;have L1:=Rf _ mI.symm;obtain⟨sa,sc,wa,wc,wz,hs,dn⟩:=hP.o;obtain⟨g1,Au,pH,MQ,bB⟩:=hs.cD (α:=Step) (xs:=f.steps) (i:=1) rfl dn;obtain⟨g2,fm,dm,Jf,aT⟩:=pH.cD (α:=cz) (xs:=f.windows) (i:=1) rfl (cR.win _ _);replace hs:St g g2 (vO b [vI f.bS,vI f.cd,.slice sa f.steps.length sc,.slice wa f.windows.length wc] 30::vO b2 [vI 0,vI 0,.slice none 0 0,.slice none 0 0] 30::[]):=dm;clear pH dm;replace bB:=bB.mono Jf;rw[←Au,←fm];have dx:eQ g2 (.agg #[vI f.bS,vI f.cd,.slice sa f.steps.length sc,.slice wa f.windows.length wc]) f:=⟨sa,f.steps.length,sc,wa,f.windows.length,wc,rfl,bB,aT⟩;refine aJ<|aM<|aM<|b_<|ai<|ak<|jd 1 [.o 0] hs rfl<|jN rfl (G0 _ f _ dx) hs fun g1 hs ag=>?_;replace dx:=dx.mono ag;refine aF rfl ?_;cases hv:valid f with
 |true=>
  refine bI rfl<|ar<|ai<|jd 1 [.o 0] hs rfl<|dC 1 hs rfl fun g1 hs ag=>?_;replace dx:=dx.mono ag;refine aF rfl<|au<|w9 T.ok 1 rfl hs rfl rfl rfl rfl rfl<|hs.ret ?_;rw[L1];show kG _ (if valid f=true then _ else _) _;rw[if_pos hv];exact⟨_,rfl,dx⟩
 |false=>
  refine bZ rfl<|cO<|hZ [] [vI 0,vI 0,.slice none 0 0,.slice none 0 0] [(0,1),(1,1),(2,1),(3,1)] rfl<|Wp 2 rfl<|dC 1 hs rfl fun g1 hs ag=>aF rfl<|au<|ec<|w9 T.ok 1 rfl hs rfl rfl rfl rfl rfl<|hs.ret ?_;rw[L1];show kG _ (if valid f=true then _ else _) _;rw[if_neg (by rw[hv];simp)]
  rfl
def OH(E:TypeId):Prop:=liesAt prog prog.depth E (2/prog.cellsOf E) 0 105 1=true
theorem J8:OH 107:=by unfold OH;kernel_rfl
theorem EH{b:Nat}{p v:Value}(hp:p= .pointer none∨p=vP b){E:TypeId}(hE:OH E){g0 g:G}{L:List dc}(hs:St g0 g (vO b [p,v] E::L)):
  CallsIn Wd 0 prog 197 #[vP b] g.w
   (df g fun g' r=>r= .tuple #[]∧St g0 g' (vO b [vP b,v] E::L)):=by
 have aj:=G.le.refl g;have hh:g.w.heap[b]? =some (.cells [p,v].toArray E (0,0)):=(hs.own 0 _ rfl).2.1;have qL:g.w.shape? b=some (E,2):=by simp[World.shape?,hh]
 obtain⟨j,hj,hjs⟩:=abk.1 Tryz.Builder_Extra_169.sizeBuilder;refine enter func197 rfl ntmps197 rfl<|jd 4 [.o 0] hs rfl ?_;rcases hp with rfl|rfl
 ·refine aN rfl rfl<|jx T.ok (neg:=false) rfl rfl rfl rfl rfl<|an<|ai<|bZ rfl<|ah<|Wp 2 rfl<|aN rfl rfl<|D6 rfl rfl (Lib.run_to_unsafe g.w ⟨b,0,none⟩ Tryz.underlying102 Tryz.underlying261 hj (by rw[hjs];decide) qL (Nat.zero_lt_succ 1))<|aN rfl rfl<|F0 func246 (by kernel_rfl) (by kernel_rfl) (by kernel_rfl) (e:=Extern.AbiNoEscape.same) (by kernel_rfl) bJ rfl rfl rfl rfl<|aN rfl rfl<|D6 rfl rfl (Lib.run_from_unsafe g.w ⟨b,0,none⟩ Tryz.underlying261 Tryz.underlying102 hj qL hE)<|Wp 2 rfl<|dC 0 hs rfl fun g1 hs ag=>?_;replace aj:=G.le.trans aj ag;exact an<|nd rfl (df.intro aj ⟨rfl,hs⟩)
 exact aN rfl rfl<|jx T.ok (neg:=false) rfl rfl rfl rfl rfl<|an<|ai<|bI rfl<|jd 5 [.o 0] hs rfl<|aN rfl rfl<|ze rfl rfl rfl Tryz.underlying102 hj<|bE<|bI rfl<|ar<|nd rfl (df.intro aj ⟨rfl,hs⟩)
theorem J7{b:Nat}{p v:Value}{xs:List UInt8}{Lr:List dc}(hp:p= .pointer none∨p=vP b)(hb:oV 5 v xs Lr)(ys:List UInt8)(hl:xs.length+ys.length≤140737488355328)
  {E:TypeId} (hE:OH E) {g0 g:G} {L:List dc} (hs:St g0 g (vO b [p,v] E::(Lr++L))):
  CallsIn Wd 0 prog 115 #[vP b,.string (bs ys)] g.w
   (df g fun g' _=> ∃v' Ae,oV 5 v' (xs++ys) Ae∧St g0 g' (vO b [vP b,v'] E::(Ae++L))):=by
 have aj:=G.le.refl g;refine enter func115 rfl ntmps115 rfl<|aD rfl<|ck 1 rfl<|nb rfl (EH hp hE hs) ?_;clear hs;rintro g1 _ ag ⟨rfl,hs⟩;replace aj:=G.le.trans aj ag;refine bE<|jd 6 [.o 0] hs rfl<|aN rfl rfl<|D5 T.ok rfl hb hs.in1 rfl rfl rfl rfl rfl rfl rfl rfl rfl rfl hl fun v' Ae g2 UA dm ag=>?_;replace aj:=G.le.trans aj ag
 obtain⟨ao,no,co,rfl⟩: ∃ao no co,v'= .slice ao no co:=by rcases UA with⟨rfl,_⟩|⟨_,_,_,rfl,_⟩<;>exact⟨_,_,_,rfl⟩
 replace hs:=dm.WO;refine Wp 2 rfl<|dC 0 hs rfl fun g1 hs ag=>?_;replace aj:=G.le.trans aj ag;exact bE<|aD rfl<|au (uv rfl rfl rfl (df.intro aj ⟨_,Ae,UA,hs⟩))
theorem Fz{b:Nat}{p v:Value}{xs:List UInt8}{Lr:List dc}(hx:xs≠[])(hb:oV 5 v xs Lr){E:TypeId}{g0 g:G}{L:List dc}(hs:St g0 g (vO b [p,v] E::(Lr++L))):
  CallsIn Wd 0 prog 58 #[vP b] g.w (df g fun g' r=>r= .string (bs xs)∧St g0 g' L):=by
 rcases hb with⟨_,h,_⟩|⟨br,cap,cur,rfl,rfl,qP,tG,oR,ed⟩
 ·exact absurd h hx
 have E3:xs.length≠0:=by simpa using hx
 have aj:=G.le.refl g;refine enter func58 rfl ntmps58 rfl<|aD rfl<|ak ?_;apply aO hs (cV (eA [])) 10 [(4,7),(9,12)] (by kernel_rfl) rfl
 ·exact cY [[],[0],[1],[2]] [.o 0] hs rfl<|aW [(3,6)] (fun gd hf=>cj rfl (ay rfl (Av rfl rfl (by omega) ⟨gd,rfl,bW.refl gd,rfl⟩)))<|mX [[],[5],[6],[7],[8]] [.o 0] hs rfl
 clear hs;intro g1 hs ag;replace aj:=G.le.trans aj ag;refine aN rfl rfl<|Aw 1 hs rfl rfl rfl rfl hx rfl rfl qP tG oR ed fun g2 hs ag=>?_;replace aj:=G.le.trans aj ag;exact aF rfl<|au (eC rfl (df.intro aj ⟨rfl,hs.drop 0⟩))
def N3(b:Nat)(z:Int):dc:=vO b [.int .u64 z] 197
theorem DR(b:Nat)(k0:Nat)(z0:Int)(g:G)(OS:0≤z0∧z0<128^(k0+1)):
  Td prog 245 #[vP b] (fun x:Int×Bool=>[.int .u8 x.1,.bool x.2]) (n5 (k0+1) z0) (N3 b z0) g:=by
 intro g1 hle yv J Jx Te hy Fx;have aj:=G.le.refl g1;refine enter func245 rfl ntmps245 rfl<|aw ?_
 refine aZ (fun m a' w=> ∃(k:Nat) (z:Int) (pre:List (Int×Bool)) (g2:G),w=g2.w∧G.le g1 g2∧k≤k0∧m=k∧(0≤z∧z<128^(k+1))∧J pre (N3 b z) g2∧n5 (k0+1) z0=pre++n5 (k+1) z∧
   Fr 18 [] [(0,yv),(1,vP b)] a') k0
  (fun a' ha=>⟨k0,z0,[],g1,rfl,aj,aaz _,rfl,OS,Fx,rfl,ha.kp rfl⟩) ?_
 clear aj;rintro k a' _ ⟨_,z,pre,g2,rfl,aj,hk,rfl,hz,uE,hx,dT⟩;obtain⟨g0,L,i,hs,hi,yR⟩:=Te _ _ _ uE;revert a';have mI:n5 (k+1) z=(IntKind.u8.wrap (aP .u64 z 127),decide (z<128))::if z<128 then []else n5 k (ct .u64 z 7):=rfl;rw[mI]at hx;refine bT<|aw<|cO<|aN rfl rfl<|cJ T.ok i rfl hs hi rfl rfl<|aF rfl<|ak<|ck 1 rfl<|aN rfl rfl<|cJ T.ok i rfl hs hi rfl rfl<|Wp 3 rfl<|aN rfl rfl (fZ rfl rfl rfl rfl rfl rfl ((hy pre _ _ _ _ hx aj uE).mono ?_));rintro _ _ ⟨g3,bb,rfl,rfl,ag,ht,hf⟩;refine⟨_,rfl,?_⟩;replace aj:=aj.trans ag;have oz:pre++[(IntKind.u8.wrap (aP .u64 z 127),decide (z<128))]<+:n5 (k0+1) z0:=⟨if z<128 then []else n5 k (ct .u64 z 7),by rw[hx];simp⟩;cases bb with
 |false=>
  exact aF rfl<|bZ rfl<|au<|ec<|iy<|ec<|iy<|tA rfl<|⟨g3,_,rfl,rfl,aj,.inr ⟨_,_,oz,hf rfl⟩⟩
 |true=>
  have ME:=ht rfl;by_cases aV:z<128
  ·rw[if_pos aV]at hx;exact aF rfl<|aG (b:=decide (z<128)) (decide_eq_true aV) rfl<|au<|ec<|iy<|ec<|iy<|tA rfl<|⟨g3,_,rfl,rfl,aj,.inl ⟨_,by rw[hx];exact ME⟩⟩
  rw[if_neg aV]at hx;obtain⟨k,rfl⟩: ∃k',k=k'+1:=⟨k-1,by
   rcases k with _|k
   ·simp at hz;omega
   rfl⟩
  obtain⟨g4,L',i',kP,hi',QI⟩:=Te _ _ _ ME;refine aF rfl<|bg (b:=decide (z<128)) (decide_eq_false aV) rfl<|ar<|ai<|ah<|aN rfl rfl<|cJ T.ok i' rfl kP hi' rfl rfl<|Wp 1 rfl<|gw rfl<|eT T.ok i' rfl kP hi' rfl rfl rfl rfl rfl rfl rfl rfl fun g5 K0 ag=>?_;have hJ3:=QI (N3 b (ct .u64 z 7)) g5 K0 ag;refine an<|aX ?_;exact fun a ha=>⟨k,by omega,k,ct .u64 z 7,_,g5,rfl,aj.trans ag,by omega,rfl,by
   rw[Wz hz.1];have h:=hz.2;rw[Int.pow_succ]at h;exact⟨by omega,by omega⟩,hJ3,by rw[hx];simp,ha.kp rfl⟩
theorem K_(z:Int)(g:G):CallsIn Wd 0 prog 196 #[.int .u64 z] g.w
  (ug g fun g' r=> ∃b,r= .func (.func 245) #[] #[vP b]∧(N3 b z).holds g.w.heap.size g'):=by
 have hs:=St.start g;have aj:=G.le.refl g;exact enter func196 rfl ntmps196 rfl<|cO<|nX hs rfl fun b1 g1 hs ag=>aF rfl<|aD rfl<|au (cg rfl hs ⟨_,rfl,hs.own 0 _ rfl⟩)
theorem Dp(n:Int)(g:G)(hn:ur n):cN prog 114 #[vI n] g fun _ r=>r= .tuple #[.string (bs (hQ n)),vI 0]:=by
 have hs:=St.start g;have aj:=G.le.refl g;have I_:=hn.1;have UX:=hn.2;refine vK func114 rfl ntmps114 rfl<|aD rfl<|ak<|ck 3 rfl<|bd 9 (b':=false) (decide_eq_false (by omega)) rfl<|aF rfl<|bg (b:=decide (4611686018427387903<n)) (decide_eq_false (by omega)) rfl<|ar<|ai<|cO<|fA hs rfl fun bo g1 hs ag=>?_;replace hs:=hs.eM 5 1 none;refine bE<|ak<|ck 7 rfl ?_;have hzz:=K' n;have HR:=Bc 10 (zz n);unfold hQ;refine jK (.int .u64 (zz n)) (t:=19) rfl rfl ?_;generalize zz n=z at*;refine d_ rfl (K_ z _) ?_;rintro g4 _ nN ⟨bz,rfl,hh⟩;replace hs:=hs.jl nN hh;have ag:=nN.le;clear hh;refine bE<|aw ?_
 refine La (N:=33) hs rfl (cB 245) (DR bz 9 z g4 hzz) rfl (fun _=>rfl)
  (fun pre L _=> ∃v,L=[.row 5 1 v pre.length (pre.map fun x=>Value.int .u8 (Ip x)),.obj bo (.cells #[v] 103 (0,0))]) (fun _ _ _ _=>False)
  (fun _ _ _ _ _ h=>h) (fun _ _ _ _ _ _ h=>h) ⟨_,rfl⟩ (fun x=>[(5,.int .u8 x.1),(6,.bool x.2),(4,vP bo)]) ?_ ?_ ?_ ?_
 ·intro x ro w;exact aD rfl<|ah<|Wp 1 rfl<|an<|fun a ha=>⟨rfl,ha.kp rfl⟩
 ·rintro lp D ro pre x rest e gr Lr lG hle hs ⟨v,rfl⟩;have cM:=G.le.refl gr;have Fv:pre.length<10:=by have:=congrArg List.length lG;simp at this;omega
  obtain⟨xb,xl⟩:=x;refine aw<|ak<|aD rfl<|lR (fun a' w'=>w'=gr.w∧Fr 33 [] [(5,.int .u8 (Ip (xb,xl))),(4,vP bo)] a') ?_ ?_
  ·cases xl with
   |true=>
    exact bI rfl<|ar<|fun a ha=>⟨rfl,ha.kp rfl⟩
   |false=>
    exact bZ rfl<|ah<|Wp 3 rfl<|an<|fun a ha=>⟨rfl,ha.kp rfl⟩
  rintro a' _ ⟨rfl,dT⟩;revert a';refine bT<|ah<|Wm 2 [.o 4] hs rfl<|iX [(0,.int .u8 (Ip (xb,xl)))] [.int .u8 (Ip (xb,xl))] hs rfl rfl fun b2 g2 hs ag=>?_;replace cM:=G.le.trans cM ag;refine aN rfl rfl<|ba T.ok 4 rfl hs rfl rfl rfl rfl rfl rfl rfl (by decide) rfl (Src.dZ (hs.own 0 _ rfl).1).2 (by simp[Value.oneCell']) (by show(pre.length+1)*1≤_;omega) (by unfold maxLen;omega) fun a9 c9 g3 hs ag=>?_;replace cM:=G.le.trans cM ag;refine dC 5 hs rfl fun g1 hs ag=>?_;replace cM:=G.le.trans cM ag;exact an<|aX<|fun a ha=>⟨_,_,rfl,hs.drop 0,cM,_,rfl,.slice a9 (pre.length+1) c9,by simp[nY]⟩
 ·rintro lp D o e Lr ge hle hs ⟨v,rfl⟩;obtain⟨av,cv,rfl⟩:=(hs.own 3 _ rfl).1.form;have iO:=(Src.dZ (hs.own 3 _ rfl).1).2;refine aX<|ai<|jd 1 [.o 4] hs rfl<|aN rfl rfl<|pI T.ok (ns:=(n5 (9+1) z).map Ip) rfl rfl rfl rfl rfl rfl rfl rfl (by rw[abw];exact iO)<|aF rfl<|au<|Tf 1 rfl hs rfl rfl rfl (fun g' kP gZ=>?_);exact kP.ret rfl
 rintro c lp D o pre e Lr ge _ _ _ h;exact h.elim
theorem Ka(s:List UInt8)(g:G)(hl:s.length≤1099511627776):cN prog 138 #[.string (bs s)] g fun _ r=>r= .tuple #[.string (bs (pn s).1),vI (pn s).2]:=by
 have hs:=St.start g;have aj:=G.le.refl g;refine enter func138 rfl ntmps138 rfl ?_;unfold pn;refine aD rfl<|ak<|aD rfl ?_;by_cases aV:65536<s.length
 ·rw[if_pos aV];exact aG (b:=decide ((65536:Int)<((bs s).size:Int))) (decide_eq_true (by rw[bX];omega)) rfl<|aD rfl<|au (uv rfl rfl rfl (hs.ret rfl))
 rw[if_neg aV];refine bg (b:=decide ((65536:Int)<((bs s).size:Int))) (decide_eq_false (by rw[bX];omega)) rfl ?_;have Fv:=n3 (s.length:Int);exact ar<|ai<|ck 2 rfl<|jK (vI (s.length:Int)) (t:=11) rfl (by rw[bX])<|jN rfl (Dp (s.length:Int) _ ⟨by omega,by omega⟩) hs fun g1 hs ag=>aF rfl<|ck 2 rfl<|aN rfl rfl<|cL (p:=hQ s.length) (q:=s) rfl rfl rfl (by omega)<|aF rfl<|au (uv rfl rfl rfl (hs.ret rfl))
theorem yZ(v fv:Value)(l:List Int)(p:Int→Bool)(g:G)(hl:Rs g v l)
  (hp: ∀(g':G) (x:Int),x∈l→g.le g'→jX prog fv [vI x] g'.w (ug g' fun _ r=>r= .bool (p x))):
  cN prog 270 #[v,fv] g fun _ r=>r=vI (ox p l):=by
 obtain⟨a,c,rfl⟩:=hl.isSlice;have hlen:=hl.ef;unfold maxLen at hlen;have hs:=St.start g;refine enter func270 rfl ntmps270 rfl<|aD rfl<|ak<|aD rfl<|aw ?_;refine aZ (fun m a' w=> ∃(k:Nat) (g':G),w=g'.w∧St g g' []∧G.le g g'∧k≤l.length∧m=l.length-k∧(∀j (h:j<l.length),j<k→p l[j]=false)∧
  Fr 19 [] [(0,.slice a l.length c),(1,fv),(7,vI l.length),(8,vI k)] a') l.length (fun a' ha=>⟨0,g,rfl,hs,G.le.refl g,aar _,rfl,by simp,ha.kp rfl⟩) ?_
 clear hs;rintro m a' _ ⟨k,g',rfl,hs,aj,hk,rfl,dt,dT⟩;revert a';refine bT<|aD rfl<|ak ?_;by_cases aV:k<l.length
 ·refine aG (b:=decide ((k:Int)<(l.length:Int))) (by simp;omega) rfl<|ar<|ai<|ak<|aw<|aD rfl<|ck 3 rfl<|fP (y:=l[k]) (hl.mono aj) (by simp[dq,aV]) rfl ?_;rintro b q ys aK rfl;refine dE 1 [.e aK 0] rfl<|aN rfl rfl<|fF rfl rfl rfl rfl rfl rfl (hp _ _ (aaQ aV) aj) ?_;rintro g1 _ aH rfl;replace hs:=hs.call aH;have ag:=aH.le;replace aj:=G.le.trans aj ag;apply bE;cases Cc:p l[k]with
  |true=>
   exact bZ rfl<|aD rfl<|au (cg rfl hs (by rw[xP aV Cc dt]))
  |false=>
   refine bI rfl<|ar<|aX<|ai<|ah<|Wp 2 rfl<|an<|fun a ha=>⟨l.length-(k+1),by omega,k+1,_,rfl,hs,aj,by omega,rfl,?_,ha.keep ⟨rfl,rfl,rfl,kW rfl,trivial⟩⟩
   intro j hj ER;by_cases e:j=k
   ·subst e;exact Cc
   exact dt j hj (by omega)
 refine bg (b:=decide ((k:Int)<(l.length:Int))) (by simp;omega) rfl<|aJ<|aM<|aM<|b_<|ai<|aD rfl ?_;obtain rfl:k=l.length:=by omega
 exact au (cg rfl hs (by rw[xQ fun j h=>dt j h h]))
theorem Ao(v fv:Value)(l:List Int)(p:Int→Bool)(g:G)(hl:Rs g v l)
  (hp: ∀(g':G) (x:Int),x∈l→g.le g'→jX prog fv [vI x] g'.w (ug g' fun _ r=>r= .bool (p x))):
  cN prog 268 #[v,fv] g fun _ r=>r= .bool (l.any p):=by
 have hs:=St.start g;exact enter func268 rfl ntmps268 rfl<|aD rfl<|ck 2 rfl<|jN rfl (yZ _ _ l p g hl hp) hs fun g1 hs ag=>aF rfl<|au (cg rfl hs (by rw[←qQ]))
def rS(f:aU)(n:Int):Bool:=decide (n<0)||decide ((f.steps.length:Int)≤n)
def given(f:aU)(l:List Int):Bool:=valid f&& !l.any (rS f)
def dL:Int→List Int→List Int
 |back,[]=>if 0≤back then [back]else []
 |back,n::r=>(if 0≤back∧back<n then [back]else [])++n::dL (if back≤n then -1 else back) r
def eU(s:Step):List Int:=dL s.back s.next
def p_(s:Step):Bool:=(s.next.length:Int)==0
def aY(f:aU)(n:Int):Step:=f.steps.getD n.toNat ⟨0,[],0,0,[],0,0⟩
def follow(f:aU)(n:Int):List Int:=if given f [n]then eU (aY f n)else []
theorem lY{f:aU}(h:valid f=true){n:Int}(h0:0≤n)(h1:n<f.steps.length):bO (aY f n) f.steps.length=true:=by unfold valid at h;simp only[aaA,aa2]at h;refine h.1.2 _ ?_;unfold aY;rw[aaP,aas (by omega)];exact aaQ _
theorem yN{s:Step}{n:Int}(h:bO s n=true):s.next.length≤4:=by unfold bO at h;simp only[aaA,decide_eq_true_eq]at h;omega
theorem NT(v:Value)(s:Step)(g:G)(wM:kz g v s):
  cN prog 235 #[v] g fun _ r=>r= .bool (p_ s):=by
 obtain⟨cs,rfl,a1,n1,c1,a2,n2,c2,rfl,aA,aE⟩:=wM;obtain⟨_,_,e⟩:=aE.isSlice;obtain⟨rfl,rfl,rfl⟩:=aaO e;clear e;have hs:=St.start g;exact enter func235 rfl ntmps235 rfl<|cO<|nX hs rfl fun b1 g1 hs ag=>aF rfl<|Ja [.o 0] hs rfl<|au (cg rfl hs rfl)
def vT(g:G)(cs:List Value)(f:aU):Prop:=
 ∃a1 n1 c1 a2 n2 c2,cs=[vI f.bS,vI f.cd,.slice a1 n1 c1,.slice a2 n2 c2]∧Rs g (.slice a1 n1 c1) f.steps∧Rs g (.slice a2 n2 c2) f.windows
theorem vT.mono{g g':G}{cs:List Value}{f:aU}(h:vT g cs f)(hle:g.le g'):vT g' cs f:=by obtain⟨a1,n1,c1,a2,n2,c2,e,h1,h2⟩:=h;exact⟨a1,n1,c1,a2,n2,c2,e,h1.mono hle,h2.mono hle⟩
theorem KY(n:Int)(f:aU)(b:Nat)(cs:List Value)(g:G)(aq:EP g b 0 cs)(hc:vT g cs f):
  cN prog 269 #[vI n,vP b] g fun _ r=>r= .bool (rS f n):=by
 obtain⟨a1,n1,c1,a2,n2,c2,rfl,aA,aE⟩:=hc;obtain⟨_,_,e⟩:=aA.isSlice;obtain⟨rfl,rfl,rfl⟩:=aaO e;clear e;have hs:=St.start g;refine enter func269 rfl ntmps269 rfl<|aD rfl<|ck 3 rfl<|cI (want:=false) (x:=decide ((f.steps.length:Int)≤n)) 5 bJ rfl rfl rfl rfl (.inr ⟨rfl,rfl,rfl⟩) rfl rfl rfl rfl (fun hb Q' fp=>?_) (fun g' hf=>?_)
 ·exact dE 5 [.z aq] rfl<|an<|fun a ha=>fp _ a (bW.refl _) (ha.kp rfl)
 replace hs:=hs.call hf;have ag:=hf.le;exact aF rfl<|au (cg rfl hs rfl)
theorem NU(v lv:Value)(f:aU)(l:List Int)(g:G)(dx:eQ g v f)(bB:Rs g lv l):
  cN prog 232 #[v,lv] g fun _ r=>r= .bool (given f l):=by
 obtain⟨a1,n1,c1,a2,n2,c2,rfl,aA,aE⟩:=id dx;have hs:=St.start g;refine enter func232 rfl ntmps232 rfl<|cO<|gF hs rfl fun b1 g2 hs ag aK=>?_;obtain⟨aA,aE,bB,dx⟩:=dU ag aA aE bB dx;have aq:=aK;refine aF rfl<|eO 1 [.z aq] rfl<|jN rfl (G0 _ f _ dx) hs fun g1 hs ag=>?_;obtain⟨aq,aA,aE,bB⟩:=dU ag aq aA aE bB;refine Wp 1 rfl<|cI (want:=true) (x:=!l.any (rS f)) 4 bJ rfl rfl rfl rfl (.inl ⟨rfl,rfl,rfl⟩) rfl rfl rfl rfl (fun hb Q' fp=>?_) (fun g' hf=>?_)
 ·refine Wp 2 rfl<|d_ rfl (Ao _ _ l (rS f) _ bB (fun g' x _ hle=>dF (cB 269) rfl (KY x f _ _ g' (aq.mono hle) ⟨_,_,_,_,_,_,rfl,aA.mono hle,aE.mono hle⟩))) ?_;rintro g1 _ aH rfl;replace hs:=hs.call aH;have ag:=aH.le;exact Wp 1 rfl<|an<|fun a ha=>fp _ a aH (ha.kp rfl)
 replace hs:=hs.call hf;have ag:=hf.le;exact aF rfl<|au (cg rfl hs rfl)
theorem KZ(s:Step)(b:Nat)(cs:List Value)(g:G)(ep:EP g b 0 cs)(hc:sR g cs s):
  yH prog 271 #[vP b] (fun n:Int=>[vI n]) (eU s) g:=by
 obtain⟨a1,n1,c1,a2,n2,c2,rfl,aA,aE⟩:=hc;obtain⟨_,_,e⟩:=aE.isSlice;obtain⟨rfl,rfl,rfl⟩:=aaO e;clear e;intro g1 hle yv J Jx hJ VP hy Fx;have hlen:=aE.ef;unfold maxLen at hlen;have aj:=G.le.refl g1;have UH:=ep.mono hle;have O1:=aE.mono hle;have aq:=UH;refine enter func271 rfl ntmps271 rfl<|pW [.z aq] rfl<|ak<|pW [.z aq] rfl<|aw ?_;refine aZ (fun m a' w=> ∃(k:Nat) (pre:List Int) (back:Int) (g':G),w=g'.w∧G.le g1 g'∧k≤s.next.length∧m=s.next.length-k∧J pre g'∧eU s=pre++dL back (s.next.drop k)∧
  Fr 41 [] [(0,yv),(1,vP b),(3,vI back),(9,.slice a2 s.next.length c2),(10,vI s.next.length),(11,vI k)] a') s.next.length
  (fun a' ha=>⟨0,[],s.back,g1,rfl,aj,aar _,rfl,Fx,rfl,ha.kp rfl⟩) ?_
 clear aq aj;rintro m a' _ ⟨k,pre,back,g',rfl,aj,hk,rfl,uE,hx,dT⟩;have aq:=UH.mono aj;have aE:=O1.mono aj;revert a';refine bT<|aD rfl<|ak ?_;by_cases aV:k<s.next.length
 ·refine aG (b:=decide ((k:Int)<(s.next.length:Int))) (by simp;omega) rfl<|ar<|ai<|ak<|aw<|cO<|fP (y:=s.next[k]) aE (by simp[dq,aV]) rfl ?_;rintro b p ys aK rfl;refine dE 1 [.e aK 0] rfl<|aF rfl<|ak<|ck 3 rfl ?_;rw[aa7 aV,dL]at hx;refine cI (want:=true) (x:=decide (back<s.next[k])) 3 bJ rfl rfl rfl rfl (.inl ⟨rfl,rfl,rfl⟩) rfl rfl rfl rfl (fun hb Q' fp=>?_) (fun g' hf=>?_)
  ·exact Wp 3 rfl<|an<|fun a ha=>fp _ a (bW.refl _) (ha.kp rfl)
  have ag:=hf.le;replace uE:=hJ _ _ _ hf uE;replace aj:=G.le.trans aj ag;refine Wp 1 rfl ?_;by_cases hc:0≤back∧back<s.next[k]
  ·refine jK (t:=22) (.bool true) rfl (by simp[hc]) ?_;rw[if_pos hc,if_pos (by omega:back≤s.next[k])]at hx;refine Wp 2 rfl<|aN rfl rfl (fZ rfl rfl rfl rfl rfl rfl ((hy pre back (s.next[k]::dL (-1) (s.next.drop (k+1))) _ (by rw[hx];rfl) aj uE).mono ?_));rintro _ _ ⟨g3,bb,rfl,rfl,ag,ht,hf⟩;refine⟨_,rfl,?_⟩;replace aj:=G.le.trans aj ag;cases bb with
   |false=>
    exact aF rfl<|bZ rfl<|au<|ec<|iy<|ec<|ec<|iy<|ec<|tA rfl<|⟨g3,_,rfl,rfl,aj,.inr ⟨_,⟨s.next[k]::dL (-1) (s.next.drop (k+1)),by rw[hx];simp⟩,hf rfl⟩⟩
   |true=>
    refine aF rfl<|bI rfl<|ar<|ai<|ak<|aD rfl<|aG (b:=decide (back≤s.next[k])) (by simp;omega) rfl<|ah<|aF rfl<|ck 2 rfl ?_;have Fg:eU s=(pre++[back])++s.next[k]::dL (-1) (s.next.drop (k+1)):=by rw[hx];simp
    refine aN rfl rfl (fZ rfl rfl rfl rfl rfl rfl ((hy ((pre++[back])) s.next[k] (dL (-1) (s.next.drop (k+1))) _ (Fg) aj (ht rfl)).mono ?_));rintro _ _ ⟨g4,bb,rfl,rfl,ag,ht,hf⟩;refine⟨_,rfl,?_⟩;replace aj:=G.le.trans aj ag;cases bb with
    |false=>
     exact aF rfl<|bZ rfl<|au<|iy<|ec<|ec<|iy<|ec<|tA rfl<|⟨g4,_,rfl,rfl,aj,.inr ⟨_,⟨dL (-1) (s.next.drop (k+1)),by rw[Fg];simp⟩,hf rfl⟩⟩
    |true=>
     exact aF rfl<|bI rfl<|ar<|aX<|ai<|ah<|Wp 2 rfl<|an<|fun a ha=>⟨s.next.length-(k+1),by omega,k+1,(pre++[back])++[s.next[k]],-1,_,rfl,aj,by omega,rfl,ht rfl,by rw[Fg];simp,ha.keep ⟨rfl,rfl,rfl,rfl,rfl,kW rfl,trivial⟩⟩
  refine jK (t:=22) (.bool false) rfl (congrArg Value.bool (by simp only[cond_true,acE,decide_eq_false_iff_not];omega))<|aF rfl<|bI rfl ?_;rw[if_neg hc]at hx;refine ar<|ai<|ak<|aD rfl ?_;by_cases UR:back≤s.next[k]
  ·refine aG (b:=decide (back≤s.next[k])) (by simp;omega) rfl ?_;rw[if_pos UR]at hx;refine ah<|aF rfl<|ck 2 rfl ?_;have Fg:eU s=pre++s.next[k]::dL (-1) (s.next.drop (k+1)):=by rw[hx];simp
   refine aN rfl rfl (fZ rfl rfl rfl rfl rfl rfl ((hy (pre) s.next[k] (dL (-1) (s.next.drop (k+1))) _ (Fg) aj (uE)).mono ?_));rintro _ _ ⟨g4,bb,rfl,rfl,ag,ht,hf⟩;refine⟨_,rfl,?_⟩;replace aj:=G.le.trans aj ag;cases bb with
   |false=>
    exact aF rfl<|bZ rfl<|au<|iy<|ec<|ec<|iy<|ec<|tA rfl<|⟨g4,_,rfl,rfl,aj,.inr ⟨_,⟨dL (-1) (s.next.drop (k+1)),by rw[Fg];simp⟩,hf rfl⟩⟩
   |true=>
    exact aF rfl<|bI rfl<|ar<|aX<|ai<|ah<|Wp 2 rfl<|an<|fun a ha=>⟨s.next.length-(k+1),by omega,k+1,pre++[s.next[k]],-1,_,rfl,aj,by omega,rfl,ht rfl,by rw[Fg];simp,ha.keep ⟨rfl,rfl,rfl,rfl,rfl,kW rfl,trivial⟩⟩
  refine bg (b:=decide (back≤s.next[k])) (by simp;omega) rfl ?_;rw[if_neg UR]at hx;refine ar<|ai<|ck 2 rfl ?_;have Fg:eU s=pre++s.next[k]::dL back (s.next.drop (k+1)):=by rw[hx];simp
  refine aN rfl rfl (fZ rfl rfl rfl rfl rfl rfl ((hy (pre) s.next[k] (dL (back) (s.next.drop (k+1))) _ (Fg) aj (uE)).mono ?_));rintro _ _ ⟨g4,bb,rfl,rfl,ag,ht,hf⟩;refine⟨_,rfl,?_⟩;replace aj:=G.le.trans aj ag;cases bb with
  |false=>
   exact aF rfl<|bZ rfl<|au<|iy<|ec<|ec<|iy<|ec<|tA rfl<|⟨g4,_,rfl,rfl,aj,.inr ⟨_,⟨dL (back) (s.next.drop (k+1)),by rw[Fg];simp⟩,hf rfl⟩⟩
  |true=>
   exact aF rfl<|bI rfl<|ar<|aX<|ai<|ah<|Wp 2 rfl<|an<|fun a ha=>⟨s.next.length-(k+1),by omega,k+1,pre++[s.next[k]],back,_,rfl,aj,by omega,rfl,ht rfl,by rw[Fg];simp,ha.keep ⟨rfl,rfl,rfl,rfl,rfl,kW rfl,trivial⟩⟩
 refine bg (b:=decide ((k:Int)<(s.next.length:Int))) (by simp;omega) rfl<|aJ<|aM<|aM<|b_<|ai<|aD rfl ?_;obtain rfl:k=s.next.length:=by omega
 rw[acW,dL]at hx;by_cases hb:0≤back
 ·refine aG (b:=decide (0≤back)) (by simp;omega) rfl ?_;rw[if_pos hb]at hx;refine ah<|Wp 2 rfl<|aN rfl rfl (fZ rfl rfl rfl rfl rfl rfl ((hy pre back [] _ hx aj uE).mono ?_));rintro _ _ ⟨g3,bb,rfl,rfl,ag,ht,hf⟩;refine⟨_,rfl,?_⟩;replace aj:=G.le.trans aj ag;refine an<|nd rfl ?_;cases bb with
  |true=>exact⟨g3,_,rfl,rfl,aj,.inl (by rw[hx];exact ht rfl)⟩
  |false=>exact⟨g3,_,rfl,rfl,aj,.inr ⟨_,⟨[],by rw[hx];simp⟩,hf rfl⟩⟩
 refine bg (b:=decide (0≤back)) (by simp;omega) rfl ?_;rw[if_neg hb,aaI]at hx;exact ar<|nd rfl<|⟨_,_,rfl,rfl,aj,.inl (by rw[hx];exact uE)⟩
def Fy(g:G)(v:Value)(xs:List Int):Prop:=
 ∃mJ fO,v= .func (.func mJ) #[] fO∧cS prog mJ∧yH prog mJ fO (fun n:Int=>[vI n]) xs g
theorem Fy.mono{g g':G}{v:Value}{xs:List Int}(h:Fy g v xs)(hle:g.le g'):Fy g' v xs:=by obtain⟨mJ,fO,e,h1,h2⟩:=h;exact⟨mJ,fO,e,h1,h2.mono hle⟩
theorem NY(v:Value)(s:Step)(g:G)(wM:kz g v s):
  cN prog 237 #[v] g fun g' r=>Fy g' r (eU s):=by
 obtain⟨cs,rfl,a1,n1,c1,a2,n2,c2,rfl,aA,aE⟩:=wM;have hs:=St.start g;refine enter func237 rfl ntmps237 rfl<|cO<|nX hs rfl fun b1 g1 hs ag=>?_;obtain⟨aA,aE⟩:=cA ag aA aE;refine aF rfl<|aD rfl ?_;obtain⟨g2,fm,dm,ag,aK⟩:=hs.fM (i:=0) rfl;replace hs:=dm;clear dm;rw[←fm];obtain⟨aA,aE⟩:=cA ag aA aE;exact au (cg rfl hs ⟨271,_,rfl,(cB 271),KZ s _ _ _ aK ⟨_,_,_,_,_,_,rfl,aA,aE⟩⟩)
set_option maxHeartbeats 4000000
def Dn(b:Nat)(xs:List UInt8)(Lw:List dc):Prop:=∃p v Lr,(p= .pointer none∨p=vP b)∧oV 5 v xs Lr∧Lw=vO b [p,v] 107::Lr
def lr(l:List Int):List UInt8:=l.flatMap hQ
theorem nq: ∀l:List Int,(lr l).length≤10*l.length
 |[]=>by simp[lr]
 |n::l=>by have:=nq l;have h:=n3 n;unfold lr at this⊢;simp only[List.flatMap_cons,aal,aaw];omega
theorem Ft{b:Nat}{xs:List UInt8}{Lw L:List dc}{sv:Value}(l:List Int){g0 g:G}(hw:Dn b xs Lw)(hl: ∀n∈l,ur n)(hlen:xs.length+10*l.length≤1000000)(aA:Rs g sv l)(hs:St g0 g (Lw++L)):
  CallsIn Wd 0 prog 54 #[vP b,sv] g.w (df g fun g' r=>r= .tuple #[]∧ ∃Fu,Dn b (xs++lr l) Fu∧St g0 g' (Fu++L)):=by
 obtain⟨a,c,rfl⟩:=aA.isSlice;have aj:=G.le.refl g;refine enter func54 rfl ntmps54 rfl<|aD rfl<|aw ?_;have ot:=aA;refine aZ (fun m a' w=> ∃(k:Nat) (Fu:List dc) (g':G),w=g'.w∧Dn b (xs++lr (l.take k)) Fu∧St g0 g' (Fu++L)∧G.le g g'∧k≤l.length∧m=l.length-k∧
   Fr 25 [] [(0,vP b),(8,.slice a l.length c),(9,vI l.length),(10,vI k)] a') l.length
  (fun a' ha=>⟨0,Lw,g,rfl,by simpa [lr]using hw,hs,aj,aar _,rfl,ha.kp rfl⟩) ?_
 clear hs aj aA hw;rintro m a' _ ⟨k,Fu,g',rfl,⟨p,v,Lr,hp,hb,rfl⟩,hs,aj,hk,rfl,dT⟩;have aA:=ot.mono aj;revert a';refine bT<|aD rfl<|ak ?_;by_cases aV:k<l.length
 ·refine aG (b:=decide ((k:Int)<(l.length:Int))) (by simp;omega) rfl<|ar<|ai<|ak<|aw<|cO<|fP (y:=l[k]) aA (bM rfl aV) rfl ?_;rintro b1 p1 ys aK rfl;refine dE 1 [.e aK 0] rfl<|aF rfl<|ck 1 rfl<|jN rfl (Dp l[k] _ (hl _ (aaQ aV))) hs fun g1 hs ag=>?_;obtain⟨aj,aA⟩:=cA ag aj aA;refine aF rfl<|ah<|Wp 4 rfl ?_;have Fv:=nq (l.take k);have Sn:=n3 l[k];rw[aat]at Fv;refine nb rfl (J7 hp hb (hQ l[k]) (by rw[aal];omega) J8 hs) ?_;clear hs;rintro g5 _ ag ⟨v',Ae,xw,hs⟩;obtain⟨aj,aA⟩:=cA ag aj aA;refine an<|aX<|ai<|ah<|Wp 2 rfl<|an<|fun a ha=>⟨l.length-(k+1),by omega,k+1,_,_,rfl,⟨_,v',Ae,.inr rfl,?_,rfl⟩,hs,aj,by omega,rfl,ha.keep ⟨rfl,rfl,rfl,kI rfl (by have:=aA.ef;unfold maxLen at this;rw[wq];omega),trivial⟩⟩
  rw[aaX aV];unfold lr at xw⊢;rw[ac4];simpa using xw
 refine bg (b:=decide ((k:Int)<(l.length:Int))) (by simp;omega) rfl<|aJ<|aM<|aM<|b_<|nd rfl (df.intro aj ⟨rfl,_,⟨p,v,Lr,hp,?_,rfl⟩,hs⟩);rw[aaD (by omega)]at hb;exact hb
theorem Fw(f:bc)(fs:List mi)(Nn: ∀x∈fs,nR x.at_)(bl bf:Nat)(u:Value)(g:G)(epl:EP g bl 0 [u])(rs:Rs g u fs)(Sp:EP g bf 0 (bK f)):
  yH prog 116 #[vP bl,vP bf] (fun n:Int=>[vI n]) (fs.map fun x=>f.num x.at_) g:=by
 obtain⟨a,c,rfl⟩:=rs.isSlice;intro g1 hle yv J Jx hJ VP hy Fx;have hlen:=rs.ef;unfold maxLen at hlen;have aj:=G.le.refl g1;have nt:=epl.mono hle;have O1:=rs.mono hle;have Qc:=Sp.mono hle;have aq:=nt;refine enter func116 rfl ntmps116 rfl<|pW [.z aq] rfl<|aw ?_;refine aZ (fun m a' w=> ∃(k:Nat) (g':G),w=g'.w∧G.le g1 g'∧k≤fs.length∧m=fs.length-k∧J ((fs.map fun x=>f.num x.at_).take k) g'∧
   Fr 21 [] [(0,yv),(1,vP bl),(2,vP bf),(6,.slice a fs.length c),(7,vI fs.length),(8,vI k)] a') fs.length
  (fun a' ha=>⟨0,g1,rfl,aj,aar _,rfl,Fx,ha.kp rfl⟩) ?_
 clear aq aj;rintro m a' _ ⟨k,g',rfl,aj,hk,rfl,uE,dT⟩;have aq:=Qc.mono aj;have fg:=O1.mono aj;have hs:=St.start g';revert a';refine bT<|aD rfl<|ak ?_;by_cases aV:k<fs.length
 ·refine aG (b:=decide ((k:Int)<(fs.length:Int))) (by simp;omega) rfl ?_;have uD:=Nn _ (aaQ aV);have eI:=bM (n:=((k:Nat):Int)) rfl aV;have th:(fs.map fun x=>f.num x.at_)=(fs.map fun x=>f.num x.at_).take k++f.num fs[k].at_::(fs.map fun x=>f.num x.at_).drop (k+1):=by
   conv=>lhs;rw[←aaY k (fs.map fun x=>f.num x.at_)]
   rw[aa7 (by simpa using aV)];simp
  have ed:(fs.map fun x=>f.num x.at_).take (k+1)=(fs.map fun x=>f.num x.at_).take k++[f.num fs[k].at_]:=by rw[aaX (by simpa using aV)];simp
  generalize fs[k]=x at*;refine ar<|ai<|ak<|aw<|cO<|fP (y:=x) fg eI rfl ?_;rintro bq pq ys aK rfl;refine dE 1 [.e aK 0] rfl<|fA hs rfl fun bx g1 hs ag=>?_;obtain⟨aj,aq⟩:=cA ag aj aq;refine dC 0 hs rfl fun g1 hs ag=>?_;obtain⟨aj,aq⟩:=cA ag aj aq;refine bE<|jd 3 [.o 0] hs rfl<|aN rfl rfl<|fF rfl rfl rfl rfl rfl rfl (dF (first:=#[]) (captured:=#[]) (args:=[vP bf]) (JZ uD) rfl (OW uD bf _)) ?_;rintro g4 _ nN rfl;replace hs:=hs.call nN;have ag:=nN.le;obtain⟨aj,aq⟩:=cA ag aj aq;refine Wp 1 rfl<|aN rfl rfl<|yI T.ok rfl aq rfl (B4 uD f) ?_;have ME:=hJ _ _ _ hs.p9 uE;refine aN rfl rfl (fZ rfl rfl rfl rfl rfl rfl ((hy _ _ _ _ th aj ME).mono ?_));rintro _ _ ⟨g5,bb,rfl,rfl,ag,ht,hf⟩;refine⟨_,rfl,?_⟩;clear hs ME;replace aj:=G.le.trans aj ag;cases bb with
  |false=>
   exact aF rfl<|bZ rfl<|au<|iy<|ec<|ec<|iy<|tA rfl<|⟨g5,_,rfl,rfl,aj,.inr ⟨_,⟨_,by rw[aaG];exact th.symm⟩,hf rfl⟩⟩
  |true=>
   exact aF rfl<|bI rfl<|ar<|aX<|ai<|ah<|Wp 2 rfl<|an<|fun a ha=>⟨fs.length-(k+1),by omega,k+1,_,rfl,aj,by omega,rfl,ed▸ht rfl,ha.keep ⟨rfl,rfl,rfl,rfl,rfl,kW rfl,trivial⟩⟩
 refine bg (b:=decide ((k:Int)<(fs.length:Int))) (by simp;omega) rfl<|aJ<|aM<|aM<|b_<|nd rfl ⟨g',_,rfl,rfl,aj,.inl ?_⟩;rw[aaD (by simp;omega)]at uE;exact uE
theorem AX(f:bc)(fs:List mi)(Nn: ∀x∈fs,nR x.at_)(u:Value)(g:G)(aA:Rs g u fs):
  cN prog 56 #[fv f,u] g fun g' r=>Fy g' r (fs.map fun x=>f.num x.at_):=by
 obtain⟨a,c,rfl⟩:=aA.isSlice;have hs:=St.start g;refine enter func56 rfl ntmps56 rfl<|cO<|nX hs rfl fun bf g1 hs ag=>?_;replace aA:=aA.mono ag;refine gF hs rfl fun bl g2 hs ag aq=>?_;replace aA:=aA.mono ag;obtain⟨g2,fm,dm,ag,aK⟩:=hs.fM (i:=0) rfl;replace hs:=dm;clear dm;rw[←fm];obtain⟨aq,aA⟩:=cA ag aq aA;have aB:=aK;clear aK;exact aF rfl<|aD rfl<|au (cg rfl hs ⟨116,_,rfl,(cB 116),Fw f fs Nn _ _ _ _ aq aA aB⟩)
theorem O2{α:Type}{a b:α}{A C:List α}:List.Perm (a::b::(A++C)) (A++(a::b::C)):=(abA.symm.cons a).trans abA.symm
theorem AY{b:Nat}{xs:List UInt8}{Lw L:List dc}{Yl:Value}(l:List Int){g0 g:G}(hw:Dn b xs Lw)(hl: ∀n∈l,ur n)(hlen:xs.length+10*l.length≤1000000)(hx:Fy g Yl l)(hs:St g0 g (Lw++L)):
  CallsIn Wd 0 prog 55 #[vP b,Yl] g.w (df g fun g' r=>r= .tuple #[]∧ ∃Fu,Dn b (xs++lr l) Fu∧St g0 g' (Fu++L)):=by
 obtain⟨mJ,fO,rfl,je,vJ⟩:=hx;have aj:=G.le.refl g;refine vK func55 rfl ntmps55 rfl<|cO<|nX hs rfl fun bx g1 hs ag=>?_;replace aj:=G.le.trans aj ag;obtain⟨g2,fm,dm,ag,aK⟩:=hs.fM (i:=0) rfl;replace hs:=dm;clear dm;rw[←fm];replace aj:=G.le.trans aj ag;have aq:=aK;clear aK;have hs:St g0 g2 (Lw++L):=hs;refine bE<|aD rfl<|aw ?_;refine GO (N:=11) hs rfl je (vJ.mono aj) rfl (fun _=>rfl)
  (fun pre L' g'=>EP g' bx 0 [vP b]∧G.le g g'∧ ∃Fu,L'=Fu++L∧Dn b (xs++lr pre) Fu) (fun _ _ _ _=>False)
  (fun _ _ _ _ hle h=>⟨h.1.mono hle,h.2.1.trans hle,h.2.2⟩) (fun _ _ _ _ _ _ h=>h) ⟨aq,aj,Lw,rfl,by simpa [lr]using hw⟩ (fun n=>[(4,vI n),(2,vP bx)]) ?_ ?_ ?_ ?_
 ·intro x ro w;exact ah<|Wp 1 rfl<|an<|fun a ha=>⟨rfl,ha.kp rfl⟩
 ·rintro lp D ro pre x rest gr Lr lG hle hs ⟨aq,ou,Fu,rfl,hw⟩;have cM:=G.le.refl gr;have Fv:=nq pre;have Sn:pre.length+1≤l.length:=by rw[lG];simp
  have nL:x∈l:=by rw[lG];simp
  refine aw<|ah<|dE 2 [.z aq] rfl<|iX [(0,vI (x))] [vI (x)] hs rfl rfl fun bl gl hs ag=>?_;obtain⟨cM,ou,aq⟩:=eS ag cM ou aq;obtain⟨gz,gX,dk,iw,sx⟩:=hs.cD (α:=Int) (xs:=[x]) (i:=0) rfl (cR.ints _ [x]);clear ag;have ag:=iw;rw[←gX];replace hs:=dk;clear dk;obtain⟨cM,ou,aq⟩:=eS ag cM ou aq;have dm:=hs.perm O2;refine aN rfl rfl<|lu (cB 54) (fun _=>trivial) rfl rfl rfl rfl rfl (CallsIn.nB rfl rfl rfl (Ft [x] hw (by simpa using hl x nL) (by rw[aal];simp only[aaw,aay];omega) sx dm)) ?_;clear hs dm;rintro g5 _ ag ⟨rfl,VQ,fm,hs⟩;obtain⟨cM,ou,aq⟩:=eS ag cM ou aq;replace hs:=hs.perm O2.symm;refine an<|aX<|fun a ha=>⟨_,_,rfl,hs,cM,aq,ou,VQ,rfl,?_⟩
  unfold lr at fm⊢;rw[ac4,←aaG];exact fm
 ·rintro lp D o Lr ge hle hs ⟨aq,ou,Fu,rfl,hw⟩;refine aX<|O3 1 rfl hs rfl (fun g' kP gZ=>?_);exact df.intro (ou.trans gZ) ⟨rfl,Fu,hw,kP.drop 0⟩
 rintro c lp D o pre Lr ge _ _ _ h;exact h.elim
set_option maxHeartbeats 8000000
def VR(xs:List Int):Fact:=⟨fun v g=>Fy g v xs,fun _ _ _ hf h=>h.mono hf.le⟩
def uF(f:bc)(l:List mi):List Int:=l.map fun x=>f.num x.at_
theorem vL(f:bc)(l:List mi):lr (uF f l)=x5 f l:=by unfold lr uF x5;rw[List.flatMap_map]
theorem tB(n:Int):hQ n≠[]:=by unfold hQ n5;simp
theorem J9(f:bc)(g:G):cN prog 24 #[fv f] g fun _ r=>r= .string (bs (gE f)):=by
 have hs:=St.start g;have aj:=G.le.refl g;refine enter func24 rfl ntmps24 rfl<|cO<|gF hs rfl fun bf g2 hs ag aq=>aF rfl<|ak<|eO 1 [.z aq] rfl<|jN rfl (Dk f _) hs fun g1 hs ag=>?_;replace aq:=aq.mono ag;refine aF rfl ?_;cases hv:gD f with
 |false=>
  refine bZ rfl<|aD rfl<|au<|ec<|cg rfl hs ?_;unfold gE;rw[hv];rfl
 |true=>
  refine bI rfl ?_;obtain⟨s,qL,VS,Ym,J_,_⟩:=nS hv;obtain⟨_,_,_,oO,C9,_,JG,VT⟩:=qx qL;refine ar<|ai<|cO<|hZ [] [.pointer none,.slice none 0 0] [(0,2)] rfl<|nX hs rfl fun bw g1 hs ag=>?_;replace aq:=aq.mono ag;have hw:Dn bw [] [vO bw [.pointer none,.slice none 0 0] 107]:=⟨_,_,[],.inl rfl,.inl ⟨rfl,rfl,rfl⟩,rfl⟩;refine aF rfl<|eO 3 [.z aq] rfl<|iX [(0,vI (f.kind))] [vI (f.kind)] hs rfl rfl fun bl gl hs ag=>?_;replace aq:=aq.mono ag;obtain⟨gz,gX,dk,iw,sx⟩:=hs.cD (α:=Int) (xs:=[f.kind]) (i:=0) rfl (cR.ints _ [f.kind]);clear ag;have ag:=iw;rw[←gX];replace hs:=dk;clear dk;replace aq:=aq.mono ag;refine nb rfl (Ft (L:=[]) [f.kind] hw (by intro n hn;obtain rfl:n=f.kind:=(by simpa using hn);unfold ur;omega) (by simp) sx hs) ?_;clear hs hw sx;rintro g5 _ ag ⟨rfl,VQ,hw,hs⟩;replace aq:=aq.mono ag;refine bE<|ak ?_;apply dP (eA (.f Nk::eA (.f (HW (eD f.kind) id):: .f (Fact.rs s.key):: .f (VR (uF f s.key))::[]))) 8 [(0,14),(7,21)] (by kernel_rfl)
  ·refine cY [[],[]] [.z aq] hs rfl<|aW [] (fun gd hf=>az (ay rfl (bu (cB 57) bJ rfl rfl rfl rfl rfl (yG gd) fun g' v hf ⟨b,cP,e,h1,h2⟩=>⟨g',rfl,hf,b,cP,e,h1,h2⟩)))<|cY [[],[3]] [.z aq] hs rfl<|aW [(2,16),(4,18)] (fun gd hf=>aI fun v2 h2=>cj rfl ?_) ?_
   ·obtain⟨b,cP,rfl,h1,h2⟩:=h2;exact ay rfl (B3 rfl h1 h2 rfl rfl fun cs h=>⟨gd,rfl,bW.refl _,cs,rfl,h⟩)
   refine aW [(5,19)] (fun gd hf=>aI fun v5 h5=>az ?_) ?_
   ·obtain⟨cs,rfl,h⟩:=h5;rw[qL]at h;obtain⟨a,b,rfl,h1,h2⟩:=h;exact bj rfl (h2)
   exact aW [(1,15),(6,20)] (fun gd hf=>bU rfl (aI fun v6 h6=>az (ay rfl (bu (cB 56) bJ rfl rfl rfl rfl rfl (AX f s.key (pv qL).2 v6 gd h6) fun g' v hf hv=>⟨g',rfl,hf,hv⟩))))<|fk
  intro g1 aH;refine bU rfl (aI fun v7 h7=>az ?_);replace hs:=hs.dr.call aH;have ag:=(G.a_ _).trans aH.le;refine nb rfl (AY (L:=[]) (uF f s.key) hw (by intro n hn;obtain⟨x,hx,rfl⟩:=aaU.1 hn;exact J_ x hx) (by have:=nq [f.kind];simp only[aa1,uF,aaS,aaw,aay]at this⊢;omega) h7 hs) ?_;clear hs hw h7;rintro g5 _ ag ⟨rfl,Lw3,⟨p,v,Lr,hp,hb,rfl⟩,hs⟩;refine bE<|ck 3 rfl<|nb rfl (Fz (L:=[]) (by simp[lr,tB]) hb hs) ?_;clear hs hb;rintro g6 _ ag ⟨rfl,hs⟩;refine aF rfl<|au<|cg rfl hs ?_;rw[vL];unfold gE;rw[hv,qL];simp[lr]
end Go.Proofs.YtkpojaffabjibaaGreatDoor
