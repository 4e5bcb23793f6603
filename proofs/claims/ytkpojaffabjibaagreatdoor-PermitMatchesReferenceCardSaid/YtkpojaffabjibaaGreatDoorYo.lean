/- Parts of the proof, from: The reference's readMove, readWindow. -/
import Derived.Test.YtkpojaffabjibaaGreatDoorYn
namespace Go.Proofs.YtkpojaffabjibaaGreatDoor
open Go Go.K Tryz
attribute [local irreducible] W WL cQ aP bG aR aQ aS cK ct
set_option maxRecDepth 10000
set_option maxHeartbeats 16000000
def wA(g0:G)(L:List dc):Fact:=⟨fun _ g=>St g0 g L,fun _ _ _ hf h=>h.call hf⟩
theorem BJ{fn:Func}{tb:Tb}{P:Program}{N:Nat}{l:Env}{g0 g:G}{L:List dc}{R:Ending→World→Prop}(dS:tb.ok P)(i:Nat){t tt u b:Nat}{cs:List Value}{E:TypeId}{fz:Nat×Nat}{v v2:Value}(hr:fn.results=#[.cell t tt,.tmp u])(hs:St g0 g L)(hi:L[i]? =some (.obj b (.cells cs.toArray E fz)))
  (hl:lk l t=some (vP b)) (hv:Ad tb tt cs 0=some v) (rD:lk l u=some v2) (hR:R (.returned (.tuple #[v,v2])) g.w) (a:Act) (ha:Fr N [] l a):bodyPost P fn R .ret a g.w:=by
 refine⟨ha.defers,_,?_,hR⟩;have:=jo (P:=P) (w:=g.w) (off:=0) (o:=0) dS hv (lZ (hs.own i _ hi).2.1);simp only[abj]at this;simp[results,hr,ha.get t _ hl,ha.get u _ rD,asAddr,this]
theorem Eo(line:List UInt8)(g:G)(ee:line.length≤1000000):
  cN prog 188 #[.string (bs line)] g fun _ r=>r= .tuple #[vI (et line).1.1,vI (et line).1.2,.bool ((et line).2&&dV ⟨(et line).1.1,(et line).1.2,[],[]⟩)]:=by
 have hs:=St.start g;have aj:=G.le.refl g;refine enter func188 rfl ntmps188 rfl<|aD rfl<|ck 1 rfl<|hZ [(0,.string (bs line)),(2,.bool true)] [.string (bs line),vI 0,.bool true] [(0,1),(1,1),(2,1)] rfl<|nX hs rfl fun b g1 hs ag=>?_;obtain⟨Pw,Ez⟩: ∃x:Bool,x=true:=⟨true,rfl⟩;obtain⟨r0,EA⟩: ∃r,line.drop 0=r:=⟨_,rfl⟩;have L8:0≤line.length:=aar _;have J4:r0=line:=EA.symm;replace hs:St g g1 (qp b line 0 Pw::[]):=by rw[Ez];exact hs
 refine aF rfl<|ck 1 rfl ?_;obtain⟨wv,r1,MQ⟩: ∃x y,dK (mD++[32]) Pw r0=(x,y):=⟨_,_,rfl⟩;have hc:=me (w:=mD++[32]) L8 ee (by simp only[aal,aaw,aay,mD];omega) hs;rw[EA,MQ]at hc;refine nb rfl hc ?_;clear hs hc;rintro g1 _ ag ⟨rfl,a1,L9,EB,hs⟩;dsimp only at EB hs;refine bE<|ck 1 rfl ?_;obtain⟨n2,w3,r2,Jf⟩: ∃x y z,eu wv r1=(x,y,z):=⟨_,_,_,rfl⟩;have hc:=gI L9 ee hs;rw[EB,Jf]at hc;refine nb rfl hc ?_;clear hs hc;rintro g1 _ ag ⟨rfl,a2,L_,uK,hs⟩;dsimp only at uK hs;refine aF rfl<|ck 1 rfl ?_;obtain⟨Az,r3,Px⟩: ∃x y,dK ([46,46]) w3 r2=(x,y):=⟨_,_,rfl⟩;have hc:=me (w:=[46,46]) L_ ee (by simp only[aaw,aay];omega) hs;rw[uK,Px]at hc;refine nb rfl hc ?_;clear hs hc;rintro g1 _ ag ⟨rfl,a3,Ma,EC,hs⟩;dsimp only at EC hs;refine bE<|ck 1 rfl ?_;obtain⟨n4,z7,r4,Py⟩: ∃x y z,eu Az r3=(x,y,z):=⟨_,_,_,rfl⟩;have hc:=gI Ma ee hs;rw[EC,Py]at hc;refine nb rfl hc ?_;clear hs hc;rintro g1 _ ag ⟨rfl,a4,Mb,ED,hs⟩;dsimp only at ED hs
 have T7:et line=(((n2:Int),(n4:Int)),Ay z7 r4):=by unfold et;rw[←J4,←Ez,MQ];dsimp only;rw[Jf];dsimp only;rw[Px];dsimp only;rw[Py]
 rw[T7,CS ED Mb];unfold qp at hs;cases z7 with
 |false=>
  exact aF rfl<|Ja [.o 0] hs rfl<|au (QQ rfl rfl rfl rfl (hs.ret rfl))
 |true=>
  cases e1:decide ((a4:Int)=(line.length:Int))with
  |false=>
   have RW:a4≠line.length:=by simp at e1;omega
   exact aF rfl<|jd 16 [.o 0,.o 0] hs rfl<|bd 34 (b':=false) (by rw[bX];simp;omega) rfl<|aF rfl<|au (QQ rfl rfl rfl rfl (hs.ret rfl))
  |true=>
   have RW:a4=line.length:=by simp at e1;omega
   exact aF rfl<|jd 16 [.o 0,.o 0] hs rfl<|bd 34 (b':=true) (by rw[bX];simp;omega) rfl<|Wp 2 rfl<|jN rfl (Em (n2:Int) (n4:Int) _) hs fun g1 hs ag=>aF rfl<|au (QQ rfl rfl rfl rfl (hs.ret rfl))
theorem AB(line:List UInt8)(g:G)(ee:line.length≤1000000):
  cN prog 190 #[.string (bs line)] g fun _ r=>r= .tuple #[.agg (lP (ek line).1).toArray,.bool ((ek line).2&&de (ek line).1 40)]:=by
 have hs:=St.start g;have aj:=G.le.refl g;refine enter func190 rfl ntmps190 rfl<|cO<|fA hs rfl fun br g1 hs ag=>aF rfl<|ck 1 rfl<|hZ [(0,.string (bs line)),(2,.bool true)] [.string (bs line),vI 0,.bool true] [(0,1),(1,1),(2,1)] rfl<|nX hs rfl fun b g1 hs ag=>?_;obtain⟨Pw,Ez⟩: ∃x:Bool,x=true:=⟨true,rfl⟩;obtain⟨r0,EA⟩: ∃r,line.drop 0=r:=⟨_,rfl⟩;have L8:0≤line.length:=aar _;have J4:r0=line:=EA.symm;refine aF rfl<|cO<|hZ [] [vI 0,vI 0,vI 0] [(0,1),(1,1),(2,1)] rfl<|fA hs rfl fun bw g1 hs ag=>dC 0 hs rfl fun g1 hs ag=>?_;replace hs:=hs.front (i:=1) rfl;replace hs:St g g1 (qp b line 0 Pw::vO bw [vI 0,vI 0,vI 0] 94::vO br [vI 0,vI 0,vI 0] 94::[]):=by rw[Ez];exact hs
 refine bE<|ck 1 rfl ?_;obtain⟨wv,r1,MQ⟩: ∃x y,dK (fV++[32]) Pw r0=(x,y):=⟨_,_,rfl⟩;have hc:=me (w:=fV++[32]) L8 ee (by simp only[aal,aaw,aay,fV];omega) hs;rw[EA,MQ]at hc;refine nb rfl hc ?_;clear hs hc;rintro g1 _ ag ⟨rfl,a1,L9,EB,hs⟩;dsimp only at EB hs;refine bE<|ck 1 rfl ?_;obtain⟨n2,w3,r2,Jf⟩: ∃x y z,eu wv r1=(x,y,z):=⟨_,_,_,rfl⟩;have hc:=gI L9 ee hs;rw[EB,Jf]at hc;refine nb rfl hc ?_;clear hs hc;rintro g1 _ ag ⟨rfl,a2,L_,uK,hs⟩;dsimp only at uK hs;unfold qp at hs;refine Wp 1 rfl<|dC 1 hs rfl fun g1 hs ag=>?_;replace hs:St g g1 (qp b line a2 w3::vO bw [vI (n2:Nat),vI 0,vI 0] 94::vO br [vI 0,vI 0,vI 0] 94::[]):=hs;refine bE<|ck 1 rfl ?_;obtain⟨Az,r3,Px⟩: ∃x y,dK ([32]) w3 r2=(x,y):=⟨_,_,rfl⟩;have hc:=me (w:=[32]) L_ ee (by simp only[aaw,aay];omega) hs;rw[uK,Px]at hc;refine nb rfl hc ?_;clear hs hc;rintro g1 _ ag ⟨rfl,a3,Ma,EC,hs⟩;dsimp only at EC hs;refine bE<|ck 1 rfl ?_;obtain⟨n4,z7,r4,Py⟩: ∃x y z,eu Az r3=(x,y,z):=⟨_,_,_,rfl⟩;have hc:=gI Ma ee hs;rw[EC,Py]at hc;refine nb rfl hc ?_;clear hs hc;rintro g1 _ ag ⟨rfl,a4,Mb,ED,hs⟩;dsimp only at ED hs;unfold qp at hs;refine Wp 1 rfl<|dC 1 hs rfl fun g1 hs ag=>?_;replace hs:St g g1 (qp b line a4 z7::vO bw [vI (n2:Nat),vI (n4:Nat),vI 0] 94::vO br [vI 0,vI 0,vI 0] 94::[]):=hs;refine bE<|ck 1 rfl ?_;obtain⟨LV,r5,T8⟩: ∃x y,dK ([32]) z7 r4=(x,y):=⟨_,_,rfl⟩;have hc:=me (w:=[32]) Mb ee (by simp only[aaw,aay];omega) hs;rw[ED,T8]at hc;refine nb rfl hc ?_;clear hs hc;rintro g1 _ ag ⟨rfl,a5,Ri,Mc,hs⟩;dsimp only at Mc hs;refine bE<|ck 1 rfl ?_;obtain⟨n6,IK,r6,T9⟩: ∃x y z,eu LV r5=(x,y,z):=⟨_,_,_,rfl⟩;have hc:=gI Ri ee hs;rw[Mc,T9]at hc;refine nb rfl hc ?_;clear hs hc;rintro g1 _ ag ⟨rfl,a6,Rj,Md,hs⟩;dsimp only at Md hs;unfold qp at hs;refine Wp 1 rfl<|dC 1 hs rfl fun g1 hs ag=>?_;replace hs:St g g1 (vO b [.string (bs line),vI a6,.bool IK] 255::vO bw [vI (n2:Nat),vI (n4:Nat),vI (n6:Nat)] 94::vO br [vI 0,vI 0,vI 0] 94::[]):=hs
 have T7:ek line=(⟨(n2:Int),(n4:Int),(n6:Int)⟩,Ay IK r6):=by unfold ek;rw[←J4,←Ez,MQ];dsimp only;rw[Jf];dsimp only;rw[Px];dsimp only;rw[Py];dsimp only;rw[T8];dsimp only;rw[T9]
 rw[T7,CS Md Rj];cases IK with
 |false=>
  refine bE<|ak ?_;apply rZ bJ rfl (Fact.eq _::Fact.eq _::Fact.eq _::Fact.eq _::Fact.eq _::Fact.eq _::Fact.eq _::Fact.eq _::Fact.eq _::Fact.eq _::Fact.eq _::Fact.eq _::Fact.eq _::Fact.eq _::Fact.eq _::Fact.eq _::Fact.eq _::Fact.eq _::(wA g (vO b [.string (bs line),vI a6,.bool false] 255::vO bw [vI (n2:Nat),vI (n4:Nat),vI (n6:Nat)] 94::vO br [vI (n2:Nat),vI (n4:Nat),vI (n6:Nat)] 94::[]))::[]) 19 [(17,42)] [] [0,1,2,3,4,5,6,7,8,9,10,11,12,13,14,15,16] 18 rfl (by decide) (by kernel_rfl) (by kernel_rfl)
  case houts=>exact rfl
  case hsoft=>(repeat (first|exact wN|apply wO|refine cX (ml _) ?_|refine cX (cw _) ?_|refine cX (mg _ _) ?_|refine cX (kD _) ?_|refine cX (mh _) ?_|refine cX (jt _) ?_|refine cX (pV _) ?_|refine cX (nK _) ?_|refine wP (by exact rfl) ?_))
  ·refine fh [] (fun gd hf=>az (ay rfl (cJ T.ok 1 rfl (hs.dr.call hf) rfl rfl rfl (cC rfl))))<|fh [] (fun gd hf=>az (bj rfl rfl))<|fh [(1,26)] (fun gd hf=>cj rfl (bj rfl rfl))<|fh [(2,27)] (fun gd hf=>cj rfl (bj rfl rfl))<|fh [(3,28)] (fun gd hf=>cj rfl (ay rfl (cJ T.ok 0 rfl (hs.dr.call hf) rfl rfl rfl (cC rfl))))<|fh [(4,29)] (fun gd hf=>cj rfl (bj rfl rfl))<|fh [(5,30)] (fun gd hf=>cj rfl (jO rfl rfl))<|fh [(6,31),(5,30)] (fun gd hf=>bN rfl (jO rfl rfl))<|fh [(7,32),(5,30)] (fun gd hf=>bN rfl (jO rfl rfl))<|fh [(8,33),(5,30)] (fun gd hf=>bN rfl (jO rfl rfl))<|fh [(5,30)] (fun gd hf=>cj rfl (jO rfl rfl))<|fh [(10,35),(5,30)] (fun gd hf=>bN rfl (jO rfl rfl))<|fh [(9,34),(11,36),(5,30)] (fun gd hf=>dD rfl (jO rfl rfl))<|fh [(5,30),(12,37)] (fun gd hf=>bN rfl (bj rfl rfl))<|fh [(13,38)] (fun gd hf=>cj rfl (bj rfl rfl))<|fh [(14,39)] (fun gd hf=>cj rfl (jO rfl rfl))<|fh [(15,40),(14,39),(14,39)] (fun gd hf=>dD rfl (jO rfl rfl))<|jP (qV (js:=[(14,39),(16,41)]) (by kernel_rfl) (by exact rfl) fun gd hf=>?_) ?_
   ·skip;refine fD rfl<|az ?_;(refine ay rfl ?_;refine bR _ T.ok rfl ?_;refine⟨_,rfl,bW.refl _,?_⟩;exact rfl)
   refine jP (wR (js:=[(0,25),(0,25)]) (by kernel_rfl) fun gd hf=>?_) ?_
   ·have jk:=hs.dr.call hf;refine fD rfl<|az<|⟨rfl,?_⟩;exact eT T.ok 2 rfl jk rfl rfl rfl rfl rfl rfl rfl rfl rfl fun g8 oI nM=>⟨g8,rfl,nM,oI⟩
   exact wQ
  intro g1 aH;rintro⟨_,hE⟩;refine bU rfl<|az ?_;have ag:=(G.a_ _).trans aH;replace hs:St g g1 [vO b [.string (bs line),vI a6,.bool false] 255,vO bw [vI (n2:Nat),vI (n4:Nat),vI (n6:Nat)] 94,vO br [vI (n2:Nat),vI (n4:Nat),vI (n6:Nat)] 94]:=hE;exact aF rfl<|au<|BJ T.ok 2 rfl hs rfl rfl rfl rfl (hs.ret rfl)
 |true=>
  cases e1:decide ((a6:Int)=(line.length:Int))with
  |false=>
   refine bE<|ak ?_;apply rZ bJ rfl (Fact.eq _::Fact.eq _::Fact.eq _::Fact.eq _::Fact.eq _::Fact.eq _::Fact.eq _::Fact.eq _::Fact.eq _::Fact.eq _::Fact.eq _::Fact.eq _::Fact.eq _::Fact.eq _::Fact.eq _::Fact.eq _::Fact.eq _::Fact.eq _::(wA g (vO b [.string (bs line),vI a6,.bool true] 255::vO bw [vI (n2:Nat),vI (n4:Nat),vI (n6:Nat)] 94::vO br [vI (n2:Nat),vI (n4:Nat),vI (n6:Nat)] 94::[]))::[]) 19 [(17,42)] [] [0,1,2,3,4,5,6,7,8,9,10,11,12,13,14,15,16] 18 rfl (by decide) (by kernel_rfl) (by kernel_rfl)
   case houts=>exact rfl
   case hsoft=>(repeat (first|exact wN|apply wO|refine cX (ml _) ?_|refine cX (cw _) ?_|refine cX (mg _ _) ?_|refine cX (kD _) ?_|refine cX (mh _) ?_|refine cX (jt _) ?_|refine cX (pV _) ?_|refine cX (nK _) ?_|refine wP (by exact rfl) ?_))
   ·refine fh [] (fun gd hf=>az (ay rfl (cJ T.ok 1 rfl (hs.dr.call hf) rfl rfl rfl (cC rfl))))<|fh [] (fun gd hf=>az (bj rfl rfl))<|fh [(1,26)] (fun gd hf=>cj rfl (bj rfl rfl))<|fh [(2,27)] (fun gd hf=>cj rfl (bj rfl rfl))<|fh [(3,28)] (fun gd hf=>cj rfl (ay rfl (cJ T.ok 0 rfl (hs.dr.call hf) rfl rfl rfl (cC rfl))))<|fh [(4,29)] (fun gd hf=>cj rfl (bj rfl rfl))<|fh [(5,30)] (fun gd hf=>cj rfl (bj rfl rfl))<|fh [(6,31),(5,30)] (fun gd hf=>bN rfl (bj rfl rfl))<|fh [(7,32),(5,30)] (fun gd hf=>bN rfl (bj rfl rfl))<|fh [(8,33),(5,30)] (fun gd hf=>bN rfl (ay rfl (cJ T.ok 0 rfl (hs.dr.call hf) rfl rfl rfl (cC rfl))))<|fh [(5,30)] (fun gd hf=>cj rfl (bj rfl rfl))<|fh [(10,35),(5,30)] (fun gd hf=>bN rfl (bj rfl rfl))<|fh [(9,34),(11,36),(5,30)] (fun gd hf=>dD rfl (bj rfl (congrArg Value.bool (show _=false from by rw[bX];simpa using e1))))<|fh [(5,30),(12,37)] (fun gd hf=>bN rfl (bj rfl rfl))<|fh [(13,38)] (fun gd hf=>cj rfl (bj rfl rfl))<|fh [(14,39)] (fun gd hf=>cj rfl (jO rfl rfl))<|fh [(15,40),(14,39),(14,39)] (fun gd hf=>dD rfl (jO rfl rfl))<|jP (qV (js:=[(14,39),(16,41)]) (by kernel_rfl) (by exact rfl) fun gd hf=>?_) ?_
    ·skip;refine fD rfl<|az ?_;(refine ay rfl ?_;refine bR _ T.ok rfl ?_;refine⟨_,rfl,bW.refl _,?_⟩;exact rfl)
    refine jP (wR (js:=[(0,25),(0,25)]) (by kernel_rfl) fun gd hf=>?_) ?_
    ·have jk:=hs.dr.call hf;refine fD rfl<|az<|⟨rfl,?_⟩;exact eT T.ok 2 rfl jk rfl rfl rfl rfl rfl rfl rfl rfl rfl fun g8 oI nM=>⟨g8,rfl,nM,oI⟩
    exact wQ
   intro g1 aH;rintro⟨_,hE⟩;refine bU rfl<|az ?_;have ag:=(G.a_ _).trans aH;replace hs:St g g1 [vO b [.string (bs line),vI a6,.bool true] 255,vO bw [vI (n2:Nat),vI (n4:Nat),vI (n6:Nat)] 94,vO br [vI (n2:Nat),vI (n4:Nat),vI (n6:Nat)] 94]:=hE;exact aF rfl<|au<|BJ T.ok 2 rfl hs rfl rfl rfl rfl (hs.ret rfl)
  |true=>
   refine bE<|ak ?_;apply rZ bJ rfl (Fact.eq _::Fact.eq _::Fact.eq _::Fact.eq _::Fact.eq _::Fact.eq _::Fact.eq _::Fact.eq _::Fact.eq _::Fact.eq _::Fact.eq _::Fact.eq _::Fact.eq _::Fact.eq _::Fact.eq _::Fact.eq _::Fact.eq _::Fact.eq _::(wA g (vO b [.string (bs line),vI a6,.bool true] 255::vO bw [vI (n2:Nat),vI (n4:Nat),vI (n6:Nat)] 94::vO br [vI (n2:Nat),vI (n4:Nat),vI (n6:Nat)] 94::[]))::[]) 19 [(17,42)] [] [0,1,2,3,4,5,6,7,8,9,10,11,12,13,14,15,16] 18 rfl (by decide) (by kernel_rfl) (by kernel_rfl)
   case houts=>exact rfl
   case hsoft=>(repeat (first|exact wN|apply wO|refine cX (ml _) ?_|refine cX (cw _) ?_|refine cX (mg _ _) ?_|refine cX (kD _) ?_|refine cX (mh _) ?_|refine cX (jt _) ?_|refine cX (pV _) ?_|refine cX (nK _) ?_|refine wP (by exact rfl) ?_))
   ·refine fh [] (fun gd hf=>az (ay rfl (cJ T.ok 1 rfl (hs.dr.call hf) rfl rfl rfl (cC rfl))))<|fh [] (fun gd hf=>az (bj rfl rfl))<|fh [(1,26)] (fun gd hf=>cj rfl (bj rfl rfl))<|fh [(2,27)] (fun gd hf=>cj rfl (bj rfl rfl))<|fh [(3,28)] (fun gd hf=>cj rfl (ay rfl (cJ T.ok 0 rfl (hs.dr.call hf) rfl rfl rfl (cC rfl))))<|fh [(4,29)] (fun gd hf=>cj rfl (bj rfl rfl))<|fh [(5,30)] (fun gd hf=>cj rfl (bj rfl rfl))<|fh [(6,31),(5,30)] (fun gd hf=>bN rfl (bj rfl rfl))<|fh [(7,32),(5,30)] (fun gd hf=>bN rfl (bj rfl rfl))<|fh [(8,33),(5,30)] (fun gd hf=>bN rfl (ay rfl (cJ T.ok 0 rfl (hs.dr.call hf) rfl rfl rfl (cC rfl))))<|fh [(5,30)] (fun gd hf=>cj rfl (bj rfl rfl))<|fh [(10,35),(5,30)] (fun gd hf=>bN rfl (bj rfl rfl))<|fh [(9,34),(11,36),(5,30)] (fun gd hf=>dD rfl (bj rfl (congrArg Value.bool (show _=true from by rw[bX];simpa using e1))))<|fh [(5,30),(12,37)] (fun gd hf=>bN rfl (bj rfl rfl))<|fh [(13,38)] (fun gd hf=>cj rfl (bj rfl rfl))<|fh [(14,39)] (fun gd hf=>cj rfl (ay rfl (cJ T.ok 1 rfl (hs.dr.call hf) rfl rfl rfl (cC rfl))))<|fh [(15,40),(14,39),(14,39)] (fun gd hf=>?_) ?_
    ·skip;refine lJ rfl<|az<|ay rfl<|bu (cB 112) bJ rfl rfl rfl rfl rfl (o_ ⟨(n2:Int),(n4:Int),(n6:Int)⟩ 40 _ (by omega) (by omega)) fun g' v h1 h2=>⟨g',rfl,h1,?_⟩
     exact h2
    refine jP (qV (js:=[(14,39),(16,41)]) (by kernel_rfl) (by exact rfl) fun gd hf=>?_) ?_
    ·skip;refine fD rfl<|az ?_;(refine ay rfl ?_;refine bR _ T.ok rfl ?_;refine⟨_,rfl,bW.refl _,?_⟩;exact rfl)
    refine jP (wR (js:=[(0,25),(0,25)]) (by kernel_rfl) fun gd hf=>?_) ?_
    ·have jk:=hs.dr.call hf;refine fD rfl<|az<|⟨rfl,?_⟩;exact eT T.ok 2 rfl jk rfl rfl rfl rfl rfl rfl rfl rfl rfl fun g8 oI nM=>⟨g8,rfl,nM,oI⟩
    exact wQ
   intro g1 aH;rintro⟨_,hE⟩;refine bU rfl<|az ?_;have ag:=(G.a_ _).trans aH;replace hs:St g g1 [vO b [.string (bs line),vI a6,.bool true] 255,vO bw [vI (n2:Nat),vI (n4:Nat),vI (n6:Nat)] 94,vO br [vI (n2:Nat),vI (n4:Nat),vI (n6:Nat)] 94]:=hE;exact aF rfl<|au<|BJ T.ok 2 rfl hs rfl rfl rfl rfl (hs.ret rfl)
theorem Ep(line:List UInt8)(i:Nat)(g:G)(ee:line.length≤1000000)(hi:i≤1000000):
  cN prog 189 #[.string (bs line),vI i] g fun g' r=> ∃v,r= .tuple #[v,.bool ((f_ i line).2&&bO (f_ i line).1 40)]∧kz g' v (f_ i line).1:=by
 have hs:=St.start g;have aj:=G.le.refl g;have T0:lB (i:Int):=⟨by omega,by omega⟩;have xJ:cq (i:Int)=dec i:=rfl;have UB:=dQ T0;rw[xJ]at UB;refine enter func189 rfl ntmps189 rfl<|cO<|fA hs rfl fun br g1 hs ag=>aF rfl<|ck 1 rfl<|hZ [(0,.string (bs line)),(2,.bool true)] [.string (bs line),vI 0,.bool true] [(0,1),(1,1),(2,1)] rfl<|nX hs rfl fun b g1 hs ag=>?_;obtain⟨Pw,Ez⟩: ∃x:Bool,x=true:=⟨true,rfl⟩;obtain⟨r0,EA⟩: ∃r,line.drop 0=r:=⟨_,rfl⟩;have L8:0≤line.length:=aar _;have J4:r0=line:=EA.symm;refine aF rfl<|cO<|hZ [(5,vI (-1))] [vI 0,.slice none 0 0,vI 0,vI 0,.slice none 0 0,vI (-1),vI 0] [(0,1),(1,1),(2,1),(3,1),(4,1),(5,1),(6,1)] rfl<|fA hs rfl fun b7 g1 hs ag=>dC 0 hs rfl fun g1 hs ag=>?_;replace hs:=hs.front (i:=1) rfl;replace hs:St g g1 (qp b line 0 Pw::vO b7 [vI 0,.slice none 0 0,vI 0,vI 0,.slice none 0 0,vI (-1),vI 0] 91::vO br [vI 0,.slice none 0 0,vI 0,vI 0,.slice none 0 0,vI 0,vI 0] 91::[]):=by rw[Ez];exact hs
 have Au:fR++cq (i:Int)++dR=jc++32::(dec i++32::(gv++[32])):=by rw[xJ];simp[fR,dR,jc,gv]
 refine bE<|ck 2 rfl<|jN rfl (gQ (i:Int) _ T0) hs fun g1 hs ag=>aN rfl rfl<|cL (p:=fR) (q:=cq (i:Int)) rfl rfl rfl (by rw[xJ];simp only[fR,aaw,aay];omega)<|aN rfl rfl<|cL (p:=fR++cq (i:Int)) (q:=dR) rfl rfl rfl (by rw[xJ];simp only[fR,dR,aal,aaw,aay];omega) ?_;rw[Au];obtain⟨wv,r1,MQ⟩: ∃x y,dK (jc++32::(dec i++32::(gv++[32]))) Pw r0=(x,y):=⟨_,_,rfl⟩;have hc:=me (w:=jc++32::(dec i++32::(gv++[32]))) L8 ee (by simp only[aal,aaw,aay,jc,gv];omega) hs;rw[EA,MQ]at hc;refine nb rfl hc ?_;clear hs hc;rintro g1 _ ag ⟨rfl,a1,L9,EB,hs⟩;dsimp only at EB hs;refine bE<|ck 1 rfl ?_;obtain⟨n2,w3,r2,Jf⟩: ∃x y z,eu wv r1=(x,y,z):=⟨_,_,_,rfl⟩;have hc:=gI L9 ee hs;rw[EB,Jf]at hc;refine nb rfl hc ?_;clear hs hc;rintro g1 _ ag ⟨rfl,a2,L_,uK,hs⟩;dsimp only at uK hs;unfold qp at hs;refine Wp 1 rfl<|dC 1 hs rfl fun g1 hs ag=>?_;replace hs:St g g1 (qp b line a2 w3::vO b7 [vI (n2:Nat),.slice none 0 0,vI 0,vI 0,.slice none 0 0,vI (-1),vI 0] 91::vO br [vI 0,.slice none 0 0,vI 0,vI 0,.slice none 0 0,vI 0,vI 0] 91::[]):=hs;refine bE<|ck 1 rfl ?_;obtain⟨Az,r3,Px⟩: ∃x y,dK (32::jQ++[32]) w3 r2=(x,y):=⟨_,_,rfl⟩;have hc:=me (w:=32::jQ++[32]) L_ ee (by simp only[aal,aaw,aay,jQ];omega) hs;rw[uK,Px]at hc;refine nb rfl hc ?_;clear hs hc;rintro g1 _ ag ⟨rfl,a3,Ma,EC,hs⟩;dsimp only at EC hs;refine bE<|ck 1 rfl ?_;obtain⟨l4,z7,r4,Py⟩: ∃x y z,o7 Az r3=(x,y,z):=⟨_,_,_,rfl⟩;have hc:=zS Ma ee hs;rw[EC,Py]at hc;refine nb rfl hc ?_;clear hs hc;rintro g1 _ ag ⟨bV,a4,Mb,ED,hs⟩;dsimp only at ED hs bV;obtain⟨ta,tc,rfl⟩:=bV.isSlice;unfold qp at hs;refine Wp 1 rfl<|dC 1 hs rfl fun g1 hs ag=>?_;replace bV:=bV.mono ag;replace hs:St g g1 (qp b line a4 z7::vO b7 [vI (n2:Nat),.slice ta (ints l4).length tc,vI 0,vI 0,.slice none 0 0,vI (-1),vI 0] 91::vO br [vI 0,.slice none 0 0,vI 0,vI 0,.slice none 0 0,vI 0,vI 0] 91::[]):=hs;refine bE<|ck 1 rfl ?_;obtain⟨LV,r5,T8⟩: ∃x y,dK (32::mS++[32]) z7 r4=(x,y):=⟨_,_,rfl⟩;have hc:=me (w:=32::mS++[32]) Mb ee (by simp only[aal,aaw,aay,mS];omega) hs;rw[ED,T8]at hc;refine nb rfl hc ?_;clear hs hc;rintro g1 _ ag ⟨rfl,a5,Ri,Mc,hs⟩;replace bV:=bV.mono ag;dsimp only at Mc hs;refine bE<|ck 1 rfl ?_;obtain⟨n6,IK,r6,T9⟩: ∃x y z,eu LV r5=(x,y,z):=⟨_,_,_,rfl⟩;have hc:=gI Ri ee hs;rw[Mc,T9]at hc;refine nb rfl hc ?_;clear hs hc;rintro g1 _ ag ⟨rfl,a6,Rj,Md,hs⟩;replace bV:=bV.mono ag;dsimp only at Md hs;unfold qp at hs;refine Wp 1 rfl<|dC 1 hs rfl fun g1 hs ag=>?_;replace bV:=bV.mono ag;replace hs:St g g1 (qp b line a6 IK::vO b7 [vI (n2:Nat),.slice ta (ints l4).length tc,vI (n6:Nat),vI 0,.slice none 0 0,vI (-1),vI 0] 91::vO br [vI 0,.slice none 0 0,vI 0,vI 0,.slice none 0 0,vI 0,vI 0] 91::[]):=hs;refine bE<|ck 1 rfl ?_;obtain⟨TV,r7,Zj⟩: ∃x y,dK ([46,46]) IK r6=(x,y):=⟨_,_,rfl⟩;have hc:=me (w:=[46,46]) Rj ee (by simp only[aaw,aay];omega) hs;rw[Md,Zj]at hc;refine nb rfl hc ?_;clear hs hc;rintro g1 _ ag ⟨rfl,a7,XE,T_,hs⟩;replace bV:=bV.mono ag;dsimp only at T_ hs;refine bE<|ck 1 rfl ?_;obtain⟨n8,RV,r8,Zk⟩: ∃x y z,eu TV r7=(x,y,z):=⟨_,_,_,rfl⟩;have hc:=gI XE ee hs;rw[T_,Zk]at hc;refine nb rfl hc ?_;clear hs hc;rintro g1 _ ag ⟨rfl,a8,XF,T',hs⟩;replace bV:=bV.mono ag;dsimp only at T' hs;unfold qp at hs;refine Wp 1 rfl<|dC 1 hs rfl fun g1 hs ag=>?_;replace bV:=bV.mono ag;replace hs:St g g1 (qp b line a8 RV::vO b7 [vI (n2:Nat),.slice ta (ints l4).length tc,vI (n6:Nat),vI (n8:Nat),.slice none 0 0,vI (-1),vI 0] 91::vO br [vI 0,.slice none 0 0,vI 0,vI 0,.slice none 0 0,vI 0,vI 0] 91::[]):=hs;refine bE<|ck 1 rfl ?_;obtain⟨Pr,r9,Zl⟩: ∃x y,dK (32::mT++[32]) RV r8=(x,y):=⟨_,_,rfl⟩;have hc:=me (w:=32::mT++[32]) XF ee (by simp only[aal,aaw,aay,mT];omega) hs;rw[T',Zl]at hc;refine nb rfl hc ?_;clear hs hc;rintro g1 _ ag ⟨rfl,a9,Rk,Ow,hs⟩;replace bV:=bV.mono ag;dsimp only at Ow hs;refine bE<|ak<|ck 1 rfl ?_;have hb:=Ey (w:=[45]) Rk ee (by decide) hs;rw[Ow]at hb;refine nb rfl hb ?_;clear hs hb;rintro g1 _ ag ⟨rfl,hs⟩;replace bV:=bV.mono ag;apply bE;have e_:=G.le.refl g1
 refine lR (fun a' w=> ∃(nx:List Nat) (tT:Bool) (E5:List UInt8) (Mw:Nat) (na:Option Addr) (nc:Nat) (g6:G),zC Pr r9=(nx,tT,E5)∧Rs g6 (.slice na (ints nx).length nc) (ints nx)∧Mw≤line.length∧line.drop Mw=E5∧w=g6.w∧G.le g1 g6∧St g g6 (qp b line Mw tT::vO b7 [vI (n2:Nat),.slice ta (ints l4).length tc,vI (n6:Nat),vI (n8:Nat),.slice na (ints nx).length nc,vI (-1),vI 0] 91::vO br [vI 0,.slice none 0 0,vI 0,vI 0,.slice none 0 0,vI 0,vI 0] 91::[])∧
   Fr 75 [] [(0,.string (bs line)),(4,vP br),(5,.bool false),(6,vP b),(7,vP b7)] a') ?_ ?_
 ·cases Ua:ki [45] Pr r9 with
  |true=>
   refine bZ rfl<|ah<|Wp 1 rfl ?_;obtain⟨tT,E5,Gp⟩: ∃x y,dK ([45]) Pr r9=(x,y):=⟨_,_,rfl⟩;have hc:=me (w:=[45]) Rk ee (by simp only[aaw,aay];omega) hs;rw[Ow,Gp]at hc;refine nb rfl hc ?_;clear hs hc;rintro g1 _ ag ⟨rfl,Mw,zT,vi,hs⟩;obtain⟨e_,bV⟩:=cA ag e_ bV;dsimp only at vi hs;exact an<|fun a ha=>⟨[],tT,E5,Mw,none,0,g1,by unfold zC;rw[if_pos Ua,Gp],Rs.nil _,zT,vi,rfl,e_,hs,ha.kp rfl⟩
  |false=>
   refine bI rfl<|ah<|Wp 1 rfl ?_;obtain⟨l10,tT,E5,Gp⟩: ∃x y z,o7 Pr r9=(x,y,z):=⟨_,_,_,rfl⟩;have hc:=zS Rk ee hs;rw[Ow,Gp]at hc;refine nb rfl hc ?_;clear hs hc;rintro g1 _ ag ⟨cU,Mw,zT,vi,hs⟩;obtain⟨e_,bV⟩:=cA ag e_ bV;dsimp only at vi hs cU;obtain⟨na,nc,rfl⟩:=cU.isSlice;unfold qp at hs;refine Wp 1 rfl<|dC 1 hs rfl fun g1 hs ag=>?_;obtain⟨e_,bV,cU⟩:=eS ag e_ bV cU;exact an<|fun a ha=>⟨l10,tT,E5,Mw,na,nc,g1,by unfold zC;rw[if_neg (by rw[Ua];decide),Gp],cU,zT,vi,rfl,e_,hs,ha.kp rfl⟩
 clear hs;rintro a' _ ⟨nx,tT,E5,Mw,na,nc,g6,Gp,cU,zT,vi,rfl,ag,hs,dT⟩;obtain⟨e_,bV⟩:=cA ag e_ bV;clear e_;revert a';refine bT<|ak<|ck 1 rfl ?_;have hb:=Ey (w:=[32]) zT ee (by decide) hs;rw[vi]at hb;refine nb rfl hb ?_;clear hs hb;rintro g1 _ ag ⟨rfl,hs⟩;obtain⟨bV,cU⟩:=cA ag bV cU;apply bE;have e_:=G.le.refl g1
 refine lR (fun a' w=> ∃(bk lm:Int) (Me:Bool) (Vi:List UInt8) (I6:Nat) (g6:G),zD tT E5=((bk,lm),Me,Vi)∧I6≤line.length∧line.drop I6=Vi∧w=g6.w∧G.le g1 g6∧St g g6 (qp b line I6 Me::vO b7 [vI (n2:Nat),.slice ta (ints l4).length tc,vI (n6:Nat),vI (n8:Nat),.slice na (ints nx).length nc,vI bk,vI lm] 91::vO br [vI 0,.slice none 0 0,vI 0,vI 0,.slice none 0 0,vI 0,vI 0] 91::[])∧
   Fr 75 [] [(0,.string (bs line)),(4,vP br),(5,.bool false),(6,vP b),(7,vP b7)] a') ?_ ?_
 ·cases Ua:ki [32] tT E5 with
  |true=>
   refine bZ rfl<|ck 1 rfl ?_;obtain⟨Ol,Vd,Ub⟩: ∃x y,dK (32::mU++[32]) tT E5=(x,y):=⟨_,_,rfl⟩;have hc:=me (w:=32::mU++[32]) zT ee (by simp only[aal,aaw,aay,mU];omega) hs;rw[vi,Ub]at hc;refine nb rfl hc ?_;clear hs hc;rintro g1 _ ag ⟨rfl,Zu,Uc,Pz,hs⟩;obtain⟨e_,bV,cU⟩:=eS ag e_ bV cU;dsimp only at Pz hs;refine bE<|ck 1 rfl ?_;obtain⟨Zm,Ud,r12,Ue⟩: ∃x y z,eu Ol Vd=(x,y,z):=⟨_,_,_,rfl⟩;have hc:=gI Uc ee hs;rw[Pz,Ue]at hc;refine nb rfl hc ?_;clear hs hc;rintro g1 _ ag ⟨rfl,a12,Uf,PA,hs⟩;obtain⟨e_,bV,cU⟩:=eS ag e_ bV cU;dsimp only at PA hs;unfold qp at hs;refine Wp 1 rfl<|dC 1 hs rfl fun g1 hs ag=>?_;obtain⟨e_,bV,cU⟩:=eS ag e_ bV cU;replace hs:St g g1 (qp b line a12 Ud::vO b7 [vI (n2:Nat),.slice ta (ints l4).length tc,vI (n6:Nat),vI (n8:Nat),.slice na (ints nx).length nc,vI (Zm:Nat),vI 0] 91::vO br [vI 0,.slice none 0 0,vI 0,vI 0,.slice none 0 0,vI 0,vI 0] 91::[]):=hs;refine bE<|ck 1 rfl ?_;obtain⟨XG,r13,Ug⟩: ∃x y,dK (32::i_++[32]) Ud r12=(x,y):=⟨_,_,rfl⟩;have hc:=me (w:=32::i_++[32]) Uf ee (by simp only[aal,aaw,aay,i_];omega) hs;rw[PA,Ug]at hc;refine nb rfl hc ?_;clear hs hc;rintro g1 _ ag ⟨rfl,Zv,Uh,PB,hs⟩;obtain⟨e_,bV,cU⟩:=eS ag e_ bV cU;dsimp only at PB hs;refine bE<|ah<|Wp 1 rfl ?_;obtain⟨n14,XH,r14,Ui⟩: ∃x y z,eu XG r13=(x,y,z):=⟨_,_,_,rfl⟩;have hc:=gI Uh ee hs;rw[PB,Ui]at hc;refine nb rfl hc ?_;clear hs hc;rintro g1 _ ag ⟨rfl,X0,Uj,PC,hs⟩;obtain⟨e_,bV,cU⟩:=eS ag e_ bV cU;dsimp only at PC hs;unfold qp at hs;refine Wp 1 rfl<|dC 1 hs rfl fun g1 hs ag=>?_;obtain⟨e_,bV,cU⟩:=eS ag e_ bV cU;apply an
   exact fun a ha=>⟨(Zm:Nat),(n14:Nat),XH,r14,X0,g1,by
    unfold zD;rw[if_pos Ua,Ub];dsimp only;rw[Ue];dsimp only;rw[Ug];dsimp only;rw[Ui],Uj,PC,rfl,e_,hs,ha.kp rfl⟩
  |false=>
   exact bI rfl<|ar<|fun a ha=>⟨-1,0,tT,E5,Mw,g1,by unfold zD;rw[if_neg (by rw[Ua];decide)],zT,vi,rfl,e_,hs,ha.kp rfl⟩
 clear hs;rintro a' _ ⟨bk,lm,Me,Vi,I6,g6,XI,Uk,Ul,rfl,ag,hs,dT⟩;obtain⟨bV,cU⟩:=cA ag bV cU;clear e_;revert a';have T7:f_ i line=(⟨(n2:Int),ints l4,(n6:Int),(n8:Int),ints nx,bk,lm⟩,Ay Me Vi):=by unfold f_;rw[←J4,←Ez,MQ];dsimp only;rw[Jf];dsimp only;rw[Px];dsimp only;rw[Py];dsimp only;rw[T8];dsimp only;rw[T9];dsimp only;rw[Zj];dsimp only;rw[Zk];dsimp only;rw[Zl];dsimp only;rw[Gp];dsimp only;rw[XI]
 rw[T7,CS Ul Uk];unfold qp at hs;cases Me with
 |false=>
  refine bT<|ak ?_;apply rZ bJ rfl (Fact.eq _::Fact.eq _::Fact.eq _::Fact.eq _::Fact.eq _::Fact.eq _::Fact.eq _::Fact.eq _::Fact.eq _::Fact.eq _::Fact.eq _::Fact.eq _::Fact.eq _::Fact.eq _::Fact.eq _::Fact.eq _::Fact.eq _::Fact.eq _::(wA g (vO b [.string (bs line),vI I6,.bool false] 255::vO b7 [vI (n2:Nat),.slice ta (ints l4).length tc,vI (n6:Nat),vI (n8:Nat),.slice na (ints nx).length nc,vI bk,vI lm] 91::vO br [vI (n2:Nat),.slice ta (ints l4).length tc,vI (n6:Nat),vI (n8:Nat),.slice na (ints nx).length nc,vI bk,vI lm] 91::[]))::[]) 19 [(17,74)] [] [0,1,2,3,4,5,6,7,8,9,10,11,12,13,14,15,16] 18 rfl (by decide) (by kernel_rfl) (by kernel_rfl)
  case houts=>exact rfl
  case hsoft=>(repeat (first|exact wN|apply wO|refine cX (ml _) ?_|refine cX (cw _) ?_|refine cX (mg _ _) ?_|refine cX (kD _) ?_|refine cX (mh _) ?_|refine cX (jt _) ?_|refine cX (pV _) ?_|refine cX (nK _) ?_|refine wP (by exact rfl) ?_))
  ·refine fh [] (fun gd hf=>az (ay rfl (cJ T.ok 1 rfl (hs.dr.call hf) rfl rfl rfl (cC rfl))))<|fh [] (fun gd hf=>az (bj rfl rfl))<|fh [(1,58)] (fun gd hf=>cj rfl (bj rfl rfl))<|fh [(2,59)] (fun gd hf=>cj rfl (bj rfl rfl))<|fh [(3,60)] (fun gd hf=>cj rfl (ay rfl (cJ T.ok 0 rfl (hs.dr.call hf) rfl rfl rfl (cC rfl))))<|fh [(4,61)] (fun gd hf=>cj rfl (bj rfl rfl))<|fh [(5,62)] (fun gd hf=>cj rfl (jO rfl rfl))<|fh [(6,63),(5,62)] (fun gd hf=>bN rfl (jO rfl rfl))<|fh [(7,64),(5,62)] (fun gd hf=>bN rfl (jO rfl rfl))<|fh [(8,65),(5,62)] (fun gd hf=>bN rfl (jO rfl rfl))<|fh [(5,62)] (fun gd hf=>cj rfl (jO rfl rfl))<|fh [(10,67),(5,62)] (fun gd hf=>bN rfl (jO rfl rfl))<|fh [(9,66),(11,68),(5,62)] (fun gd hf=>dD rfl (jO rfl rfl))<|fh [(5,62),(12,69)] (fun gd hf=>bN rfl (bj rfl rfl))<|fh [(13,70)] (fun gd hf=>cj rfl (bj rfl rfl))<|fh [(14,71)] (fun gd hf=>cj rfl (jO rfl rfl))<|fh [(15,72),(14,71),(14,71)] (fun gd hf=>dD rfl (jO rfl rfl))<|jP (qV (js:=[(14,71),(16,73)]) (by kernel_rfl) (by exact rfl) fun gd hf=>?_) ?_
   ·skip;refine fD rfl<|az ?_;(refine ay rfl ?_;refine bR _ T.ok rfl ?_;refine⟨_,rfl,bW.refl _,?_⟩;exact rfl)
   refine jP (wR (js:=[(0,57),(0,57)]) (by kernel_rfl) fun gd hf=>?_) ?_
   ·have jk:=hs.dr.call hf;refine fD rfl<|az<|⟨rfl,?_⟩;exact eT T.ok 2 rfl jk rfl rfl rfl rfl rfl rfl rfl rfl rfl fun g8 oI nM=>⟨g8,rfl,nM,oI⟩
   exact wQ
  intro g1 aH;rintro⟨_,hE⟩;refine bU rfl<|az ?_;have ag:=(G.a_ _).trans aH;obtain⟨bV,cU⟩:=cA ag bV cU;replace hs:St g g1 (vO b [.string (bs line),vI I6,.bool false] 255::vO b7 [vI (n2:Nat),.slice ta (ints l4).length tc,vI (n6:Nat),vI (n8:Nat),.slice na (ints nx).length nc,vI bk,vI lm] 91::vO br [vI (n2:Nat),.slice ta (ints l4).length tc,vI (n6:Nat),vI (n8:Nat),.slice na (ints nx).length nc,vI bk,vI lm] 91::[]):=hE;exact aF rfl<|au<|BJ T.ok 2 rfl hs rfl rfl rfl rfl (hs.ret ⟨_,rfl,_,rfl,_,_,_,_,_,_,rfl,bV,cU⟩)
 |true=>
  cases e1:decide ((I6:Int)=(line.length:Int))with
  |false=>
   refine bT<|ak ?_;apply rZ bJ rfl (Fact.eq _::Fact.eq _::Fact.eq _::Fact.eq _::Fact.eq _::Fact.eq _::Fact.eq _::Fact.eq _::Fact.eq _::Fact.eq _::Fact.eq _::Fact.eq _::Fact.eq _::Fact.eq _::Fact.eq _::Fact.eq _::Fact.eq _::Fact.eq _::(wA g (vO b [.string (bs line),vI I6,.bool true] 255::vO b7 [vI (n2:Nat),.slice ta (ints l4).length tc,vI (n6:Nat),vI (n8:Nat),.slice na (ints nx).length nc,vI bk,vI lm] 91::vO br [vI (n2:Nat),.slice ta (ints l4).length tc,vI (n6:Nat),vI (n8:Nat),.slice na (ints nx).length nc,vI bk,vI lm] 91::[]))::[]) 19 [(17,74)] [] [0,1,2,3,4,5,6,7,8,9,10,11,12,13,14,15,16] 18 rfl (by decide) (by kernel_rfl) (by kernel_rfl)
   case houts=>exact rfl
   case hsoft=>(repeat (first|exact wN|apply wO|refine cX (ml _) ?_|refine cX (cw _) ?_|refine cX (mg _ _) ?_|refine cX (kD _) ?_|refine cX (mh _) ?_|refine cX (jt _) ?_|refine cX (pV _) ?_|refine cX (nK _) ?_|refine wP (by exact rfl) ?_))
   ·refine fh [] (fun gd hf=>az (ay rfl (cJ T.ok 1 rfl (hs.dr.call hf) rfl rfl rfl (cC rfl))))<|fh [] (fun gd hf=>az (bj rfl rfl))<|fh [(1,58)] (fun gd hf=>cj rfl (bj rfl rfl))<|fh [(2,59)] (fun gd hf=>cj rfl (bj rfl rfl))<|fh [(3,60)] (fun gd hf=>cj rfl (ay rfl (cJ T.ok 0 rfl (hs.dr.call hf) rfl rfl rfl (cC rfl))))<|fh [(4,61)] (fun gd hf=>cj rfl (bj rfl rfl))<|fh [(5,62)] (fun gd hf=>cj rfl (bj rfl rfl))<|fh [(6,63),(5,62)] (fun gd hf=>bN rfl (bj rfl rfl))<|fh [(7,64),(5,62)] (fun gd hf=>bN rfl (bj rfl rfl))<|fh [(8,65),(5,62)] (fun gd hf=>bN rfl (ay rfl (cJ T.ok 0 rfl (hs.dr.call hf) rfl rfl rfl (cC rfl))))<|fh [(5,62)] (fun gd hf=>cj rfl (bj rfl rfl))<|fh [(10,67),(5,62)] (fun gd hf=>bN rfl (bj rfl rfl))<|fh [(9,66),(11,68),(5,62)] (fun gd hf=>dD rfl (bj rfl (congrArg Value.bool (show _=false from by rw[bX];simpa using e1))))<|fh [(5,62),(12,69)] (fun gd hf=>bN rfl (bj rfl rfl))<|fh [(13,70)] (fun gd hf=>cj rfl (bj rfl rfl))<|fh [(14,71)] (fun gd hf=>cj rfl (jO rfl rfl))<|fh [(15,72),(14,71),(14,71)] (fun gd hf=>dD rfl (jO rfl rfl))<|jP (qV (js:=[(14,71),(16,73)]) (by kernel_rfl) (by exact rfl) fun gd hf=>?_) ?_
    ·skip;refine fD rfl<|az ?_;(refine ay rfl ?_;refine bR _ T.ok rfl ?_;refine⟨_,rfl,bW.refl _,?_⟩;exact rfl)
    refine jP (wR (js:=[(0,57),(0,57)]) (by kernel_rfl) fun gd hf=>?_) ?_
    ·have jk:=hs.dr.call hf;refine fD rfl<|az<|⟨rfl,?_⟩;exact eT T.ok 2 rfl jk rfl rfl rfl rfl rfl rfl rfl rfl rfl fun g8 oI nM=>⟨g8,rfl,nM,oI⟩
    exact wQ
   intro g1 aH;rintro⟨_,hE⟩;refine bU rfl<|az ?_;have ag:=(G.a_ _).trans aH;obtain⟨bV,cU⟩:=cA ag bV cU;replace hs:St g g1 (vO b [.string (bs line),vI I6,.bool true] 255::vO b7 [vI (n2:Nat),.slice ta (ints l4).length tc,vI (n6:Nat),vI (n8:Nat),.slice na (ints nx).length nc,vI bk,vI lm] 91::vO br [vI (n2:Nat),.slice ta (ints l4).length tc,vI (n6:Nat),vI (n8:Nat),.slice na (ints nx).length nc,vI bk,vI lm] 91::[]):=hE;exact aF rfl<|au<|BJ T.ok 2 rfl hs rfl rfl rfl rfl (hs.ret ⟨_,rfl,_,rfl,_,_,_,_,_,_,rfl,bV,cU⟩)
  |true=>
   refine bT<|ak ?_;apply rZ bJ rfl (Fact.eq _::Fact.eq _::Fact.eq _::Fact.eq _::Fact.eq _::Fact.eq _::Fact.eq _::Fact.eq _::Fact.eq _::Fact.eq _::Fact.eq _::Fact.eq _::Fact.eq _::Fact.eq _::Fact.eq _::Fact.eq _::Fact.eq _::Fact.eq _::(wA g (vO b [.string (bs line),vI I6,.bool true] 255::vO b7 [vI (n2:Nat),.slice ta (ints l4).length tc,vI (n6:Nat),vI (n8:Nat),.slice na (ints nx).length nc,vI bk,vI lm] 91::vO br [vI (n2:Nat),.slice ta (ints l4).length tc,vI (n6:Nat),vI (n8:Nat),.slice na (ints nx).length nc,vI bk,vI lm] 91::[]))::[]) 19 [(17,74)] [] [0,1,2,3,4,5,6,7,8,9,10,11,12,13,14,15,16] 18 rfl (by decide) (by kernel_rfl) (by kernel_rfl)
   case houts=>exact rfl
   case hsoft=>(repeat (first|exact wN|apply wO|refine cX (ml _) ?_|refine cX (cw _) ?_|refine cX (mg _ _) ?_|refine cX (kD _) ?_|refine cX (mh _) ?_|refine cX (jt _) ?_|refine cX (pV _) ?_|refine cX (nK _) ?_|refine wP (by exact rfl) ?_))
   ·refine fh [] (fun gd hf=>az (ay rfl (cJ T.ok 1 rfl (hs.dr.call hf) rfl rfl rfl (cC rfl))))<|fh [] (fun gd hf=>az (bj rfl rfl))<|fh [(1,58)] (fun gd hf=>cj rfl (bj rfl rfl))<|fh [(2,59)] (fun gd hf=>cj rfl (bj rfl rfl))<|fh [(3,60)] (fun gd hf=>cj rfl (ay rfl (cJ T.ok 0 rfl (hs.dr.call hf) rfl rfl rfl (cC rfl))))<|fh [(4,61)] (fun gd hf=>cj rfl (bj rfl rfl))<|fh [(5,62)] (fun gd hf=>cj rfl (bj rfl rfl))<|fh [(6,63),(5,62)] (fun gd hf=>bN rfl (bj rfl rfl))<|fh [(7,64),(5,62)] (fun gd hf=>bN rfl (bj rfl rfl))<|fh [(8,65),(5,62)] (fun gd hf=>bN rfl (ay rfl (cJ T.ok 0 rfl (hs.dr.call hf) rfl rfl rfl (cC rfl))))<|fh [(5,62)] (fun gd hf=>cj rfl (bj rfl rfl))<|fh [(10,67),(5,62)] (fun gd hf=>bN rfl (bj rfl rfl))<|fh [(9,66),(11,68),(5,62)] (fun gd hf=>dD rfl (bj rfl (congrArg Value.bool (show _=true from by rw[bX];simpa using e1))))<|fh [(5,62),(12,69)] (fun gd hf=>bN rfl (bj rfl rfl))<|fh [(13,70)] (fun gd hf=>cj rfl (bj rfl rfl))<|fh [(14,71)] (fun gd hf=>cj rfl (ay rfl (cJ T.ok 1 rfl (hs.dr.call hf) rfl rfl rfl (cC rfl))))<|fh [(15,72),(14,71),(14,71)] (fun gd hf=>?_) ?_
    ·have eR:=(G.a_ _).trans hf.le;refine lJ rfl<|az<|ay rfl<|bu (cB 111) bJ rfl rfl rfl rfl rfl (Hs _ ⟨(n2:Int),ints l4,(n6:Int),(n8:Int),ints nx,bk,lm⟩ 40 _ ⟨_,rfl,_,_,_,_,_,_,rfl,bV.mono eR,cU.mono eR⟩ (by omega) (by omega)) fun g' v h1 h2=>⟨g',rfl,h1,?_⟩
     exact h2
    refine jP (qV (js:=[(14,71),(16,73)]) (by kernel_rfl) (by exact rfl) fun gd hf=>?_) ?_
    ·skip;refine fD rfl<|az ?_;(refine ay rfl ?_;refine bR _ T.ok rfl ?_;refine⟨_,rfl,bW.refl _,?_⟩;exact rfl)
    refine jP (wR (js:=[(0,57),(0,57)]) (by kernel_rfl) fun gd hf=>?_) ?_
    ·have jk:=hs.dr.call hf;refine fD rfl<|az<|⟨rfl,?_⟩;exact eT T.ok 2 rfl jk rfl rfl rfl rfl rfl rfl rfl rfl rfl fun g8 oI nM=>⟨g8,rfl,nM,oI⟩
    exact wQ
   intro g1 aH;rintro⟨_,hE⟩;refine bU rfl<|az ?_;have ag:=(G.a_ _).trans aH;obtain⟨bV,cU⟩:=cA ag bV cU;replace hs:St g g1 (vO b [.string (bs line),vI I6,.bool true] 255::vO b7 [vI (n2:Nat),.slice ta (ints l4).length tc,vI (n6:Nat),vI (n8:Nat),.slice na (ints nx).length nc,vI bk,vI lm] 91::vO br [vI (n2:Nat),.slice ta (ints l4).length tc,vI (n6:Nat),vI (n8:Nat),.slice na (ints nx).length nc,vI bk,vI lm] 91::[]):=hE;exact aF rfl<|au<|BJ T.ok 2 rfl hs rfl rfl rfl rfl (hs.ret ⟨_,rfl,_,rfl,_,_,_,_,_,_,rfl,bV,cU⟩)
theorem Gk(f:aU)(l:List UInt8):oe true f l=if((et l).2&&dV ⟨(et l).1.1,(et l).1.2,[],[]⟩)=true then some ⟨(et l).1.1,(et l).1.2,[],[]⟩else none:=by
 show(rn l).map _=_;unfold rn;cases hr:et l with
 |mk p ok=>
  obtain⟨a,b⟩:=p;cases ok with
  |true=>
   rw[Bx.2 (s_.1 hr)];dsimp only[Option.bind_some];by_cases h:dV ⟨a,b,[],[]⟩=true
   ·rw[if_pos h,if_pos (by rw[h];rfl)];rfl
   rw[if_neg h,if_neg (by simpa using h)];rfl
  |false=>
   cases hm:s8 l with
   |none=>rfl
   |some q=>
    obtain⟨a',b'⟩:=q;have:=s_.2 (Bx.1 hm);rw[hr]at this;cases this
theorem LZ{w:cz}:(eG w).head? =some 119:=by rw[oE];rfl
theorem IP(f:aU)(l:List UInt8)(h:l.head? =some 115):lD f l=if((f_ f.steps.length l).2&&bO (f_ f.steps.length l).1 40&&decide ((f.steps.length:Int)<40)&&((f.windows.length:Int)==0))=true then some {f with steps:=f.steps++[(f_ f.steps.length l).1]}else none:=by
 unfold lD;cases hr:f_ f.steps.length l with
 |mk s ok=>
  by_cases hp:jc.isPrefixOf l=true
  ·rw[if_pos hp];unfold vh;cases ok with
   |true=>
    rw[Bw.2 (oD.1 hr)];dsimp only[Option.bind_some];have e:decide ((f.windows.length:Int)=0)=((f.windows.length:Int)==0):=by
     by_cases h0:(f.windows.length:Int)=0
     ·rw[decide_eq_true h0];exact(beq_iff_eq.2 h0).symm
     rw[decide_eq_false h0];exact(beq_eq_false_iff_ne.2 h0).symm
    rw[e,abf];split<;>rfl
   |false=>
    cases hm:fN f.steps.length l with
    |none=>rfl
    |some q=>
     have:=oD.2 (Bw.1 hm);rw[hr]at this;cases this
  rw[if_neg hp];have hw:jD l=none:=by
   cases hm:jD l with
   |none=>rfl
   |some w=>
    have:=(ri.1 hm).1;rw[this,LZ]at h;cases h
  unfold jF;rw[hw];cases ok with
  |true=>
   have:=(oD.1 hr).1;rw[this,LY]at hp;exact absurd rfl hp
  |false=>rfl
theorem L0(f:aU)(l:List UInt8)(h:l.head? ≠some 115):lD f l=if((ek l).2&&de (ek l).1 40&&decide ((f.windows.length:Int)<20)&&decide ((f.steps.length:Int)>0)&&follows f.windows (ek l).1)=true then some {f with windows:=f.windows++[(ek l).1]}else none:=by
 have hp: ¬jc.isPrefixOf l=true:=by intro hp;obtain⟨t,rfl⟩:=acm.1 hp;exact h rfl
 unfold lD;rw[if_neg hp];unfold jF;cases hr:ek l with
 |mk w ok=>
  cases ok with
  |true=>
   rw[ri.2 (qg.1 hr)];dsimp only[Option.bind_some];rw[abf];split<;>rfl
  |false=>
   cases hm:jD l with
   |none=>rfl
   |some q=>
    have:=qg.2 (ri.1 hm);rw[hr]at this;cases this
theorem Oo(first:Bool)(f:aU)(k:Nat)(l:List UInt8)(r:List (List UInt8))(h:w8 l=false):eL first f k (l::r)=match oe first f l with
  |some f'=>eL false f' (k+1) r
  |none=> .inr (k+1):=by
 rw[eL,if_neg (by rw[h];decide)];cases oe first f l<;>rfl
theorem En(first:Bool)(f:aU)(k:Nat)(l:List UInt8)(r:List (List UInt8))(h:w8 l=true):eL first f k (l::r)=eL first f (k+1) r:=by rw[eL,if_pos h]
theorem BH(b:UInt8)(t:List UInt8):w8 (b::t)=(b==35):=by unfold w8;rw[show((b::t)==[])=false from rfl,abE];show((35:UInt8)==b&&([]:List UInt8).isPrefixOf t)=_;rw[show([]:List UInt8).isPrefixOf t=true from by cases t<;>rfl,Bool.and_true];exact BEq.comm
theorem JE(s:List UInt8)(g:G)(hlen:s.length≤999999):cN prog 107 #[.string (bs s)] g fun g' r=>kG g' (lW s) r:=by
 have hs:=St.start g;have aj:=G.le.refl g;refine enter func107 rfl ntmps107 rfl<|cO<|fA hs rfl fun b2 g1 hs ag=>?_;replace aj:=G.le.trans aj ag;refine aF rfl<|ck 1 rfl<|d_ rfl (Oq s _ (by omega)) fun g1 _ aH aA=>?_;replace hs:=hs.call aH;have ag:=aH.le;replace aj:=G.le.trans aj ag;have Fv:=pb 10 s;have ud:=mc 10 s
 have Rf: ∀x,eL true nI 0 (bD 10 s)=x→lW s=match x with
  | .inl f=>if valid f=true then .inl f else .inr (bD 10 s).length
  | .inr k=> .inr k:=by rintro x rfl;rfl
 generalize bD 10 s=ps at*;obtain⟨pa,pc,rfl⟩:=aA.isSlice;have MO:(ps.map xU.mk).length=ps.length:=aaS _;rw[MO]at aA⊢;refine aF rfl<|cO<|hZ [] [vI 0,vI 0,.slice none 0 0,.slice none 0 0] [(0,1),(1,1),(2,1),(3,1)] rfl<|fA hs rfl fun b g1 hs ag=>?_;obtain⟨aj,aA⟩:=cA ag aj aA;refine dC 0 hs rfl fun g1 hs ag=>?_;obtain⟨aj,aA⟩:=cA ag aj aA
 have dm:St g g1 (IQ b nI none 0 none 0 []++[vO b2 [vI 0,vI 0,.slice none 0 0,.slice none 0 0] 30]):=
  ((hs.eM 94 3 none).eM 91 7 none).perm (abA (l₁:=[dc.row 91 7 (.slice none 0 0) 0 [],dc.row 94 3 (.slice none 0 0) 0 []]))
 clear hs;have Ze:IS b nI [vO b2 [vI 0,vI 0,.slice none 0 0,.slice none 0 0] 30] g g1:=⟨none,0,none,0,[],dm,rfl⟩;clear dm;have ot:=aA;have Qf:=aj;refine bE<|aD rfl<|ak<|aD rfl<|aw ?_
 refine aZ (fun m a' w=> ∃(k:Nat) (first:Bool) (f:aU) (g':G),w=g'.w∧IS b f [vO b2 [vI 0,vI 0,.slice none 0 0,.slice none 0 0] 30] g g'∧(first=true→f=nI)∧G.le g1 g'∧k≤ps.length∧m=ps.length-k∧f.steps.length≤k∧f.windows.length≤k∧eL first f k (ps.drop k)=eL true nI 0 ps∧
  Fr 126 [] [(2,vP b2),(3,vI 0),(4,vI 0),(5,.slice pa ps.length pc),(6,vP b),(7,.bool first),(8,vI k)] a') ps.length
   (fun a' ha=>⟨0,true,nI,g1,rfl,Ze,fun _=>rfl,G.le.refl _,aar _,rfl,aar _,aar _,rfl,ha.kp rfl⟩) ?_
 clear aj Ze aA;rintro m a' _ ⟨k,first,f,g',rfl,hO,Nn,kS,hk,rfl,Pu,JX,mI,dT⟩;have aA:=ot.mono kS;have aj:=Qf.trans kS;revert a';refine bT<|ak<|aD rfl ?_;by_cases aV:k<ps.length
 ·refine aG (b:=decide ((k:Int)<(ps.length:Int))) (by simp;omega) rfl ?_;rw[aa7 aV]at mI;have HR:dq (ps.map xU.mk) (k:Int)=some ⟨ps[k]⟩:=by simp[dq,aV]
  have HT:=ud _ (aaQ aV);generalize ps[k]=ln at*;refine ar<|ai<|ak<|aw<|ck 2 rfl<|fP (y:=⟨ln⟩) aA HR rfl ?_;rintro bq pq ys aK rfl;refine dE 1 [.e aK 0] rfl<|aF rfl<|ak<|ck 3 rfl ?_;cases ln with
  |nil=>
   refine bd 31 (b':=true) (by rw[cH];simp) rfl ?_;rw[En _ _ _ _ _ rfl]at mI;refine aF rfl<|bZ rfl<|aJ<|aM<|b_<|ai<|ah<|Wp 3 rfl<|an<|fun a ha=>⟨ps.length-(k+1),by omega,k+1,first,f,_,rfl,hO,Nn,kS,by omega,rfl,by omega,by omega,mI,ha.keep ⟨rfl,rfl,rfl,rfl,rfl,rfl,kW rfl,trivial⟩⟩
  |cons c tl=>
  refine bd 31 (b':=false) (by rw[cH];simp) rfl<|Wp 1 rfl<|aN rfl rfl<|fH T.ok rfl rfl rfl rfl rfl (by omega) (by simp)<|aF rfl ?_;by_cases Ve:c=35
  ·refine aG (b:=_) ?_ rfl ?_
   ·simp[Ve]
   rw[En _ _ _ _ _ (by rw[BH,Ve];rfl)]at mI;refine aJ<|aM<|b_<|ai<|ah<|Wp 3 rfl<|an<|fun a ha=>⟨ps.length-(k+1),by omega,k+1,first,f,_,rfl,hO,Nn,kS,by omega,rfl,by omega,by omega,mI,ha.keep ⟨rfl,rfl,rfl,rfl,rfl,rfl,kW rfl,trivial⟩⟩
  refine bg (b:=_) ?_ rfl ?_
  ·simp;intro h;exact Ve (UInt8.toNat_inj.1 (show c.toNat=35 by omega))
  rw[Oo _ _ _ _ _ (by rw[BH];simpa using Ve)]at mI;have xm:(c::tl).length≤1000000:=by omega
  cases first with
  |true=>
   obtain rfl:=Nn rfl;obtain⟨sa,sc,wa,wc,wz,hs,dn⟩:=hO;have Pv:=Gk nI (c::tl);refine ar<|ai<|aD rfl<|ak<|aD rfl<|bZ rfl<|ck 1 rfl<|jN rfl (Eo (c::tl) _ xm) hs fun g1 hs ag=>?_;replace dn:=dn.mono ag;replace kS:=kS.trans ag;generalize(et (c::tl)).1.1=ma at*;generalize(et (c::tl)).1.2=mb at*;generalize(et (c::tl)).2=E6 at*;refine Wp 5 rfl<|dC 0 hs rfl fun g1 hs ag=>?_;replace dn:=dn.mono ag;replace kS:=kS.trans ag;refine Wp 1 rfl<|dC 0 hs rfl fun g1 hs ag=>?_;replace dn:=dn.mono ag;replace kS:=kS.trans ag;refine aF rfl<|ah<|aF rfl<|aD rfl ?_;cases KQ:(E6&&dV ⟨ma,mb,[],[]⟩)with
   |false=>
    rw[Pv,KQ]at mI;refine bZ rfl<|cO<|hZ [] [vI 0,vI 0,.slice none 0 0,.slice none 0 0] [(0,1),(1,1),(2,1),(3,1)] rfl<|Wp 2 rfl<|dC 3 hs rfl fun g1 hs ag=>?_;replace dn:=dn.mono ag;refine aF rfl<|au<|iy<|ec<|ec<|iy<|ec<|w9 (v2:=vI ((k+1:Nat):Int)) T.ok 3 rfl hs rfl rfl rfl (kW rfl) rfl<|hs.ret ?_;rw[Rf _ mI.symm]
    rfl
   |true=>
    rw[Pv,KQ]at mI;refine bI rfl<|ar<|aX<|ai<|ah<|Wp 3 rfl<|an<|fun a ha=>⟨ps.length-(k+1),by omega,k+1,false,⟨ma,mb,[],[]⟩,_,rfl,⟨sa,sc,wa,wc,wz,hs,dn⟩,(fun h=>(by cases h)),kS,by omega,rfl,by exact aar _,by exact aar _,mI,ha.keep ⟨rfl,rfl,rfl,rfl,rfl,rfl,kW rfl,trivial⟩⟩
  |false=>
   obtain⟨sa,sc,wa,wc,wz,hs,dn⟩:=hO;refine ar<|ai<|aD rfl<|ak<|aD rfl<|bI rfl<|ck 1 rfl<|aN rfl rfl<|fH T.ok rfl rfl rfl rfl rfl (by omega) (by simp)<|aF rfl ?_;by_cases Ot:c=115
   ·have Pv:=IP f (c::tl) (by rw[Ot];rfl);refine aG (b:=_) ?_ rfl ?_
    ·simp[Ot]
    refine jd 4 [.o 0] hs rfl<|d_ rfl (Ep (c::tl) f.steps.length _ xm (by omega)) ?_;rintro g3 _ fT ⟨_,rfl,_,rfl,ua,un,uc,xa,xn,xc,rfl,bB,aT⟩;replace hs:=hs.call fT;have ag:=fT.le;replace dn:=dn.mono ag;replace kS:=kS.trans ag;generalize uh:(f_ f.steps.length (c::tl)).1=wM at*;generalize(f_ f.steps.length (c::tl)).2=E6 at*;refine Wp 3 rfl<|fA hs rfl fun zX g1 hs ag=>?_;obtain⟨bB,aT,dn⟩:=eS ag bB aT dn;replace kS:=kS.trans ag;refine dC 0 hs rfl fun g1 hs ag=>?_;obtain⟨bB,aT,dn⟩:=eS ag bB aT dn;replace kS:=kS.trans ag;refine Wp 1 rfl<|an ?_
    with_reducible refine ai ?_
    apply ak;have Je:=G.le.refl g1;refine lR (fun a' w=> ∃(g6:G),w=g6.w∧G.le g1 g6∧St g g6 (vO zX [vI wM.du,.slice ua un uc,vI wM.min,vI wM.max,.slice xa xn xc,vI wM.back,vI wM.dv] 91::(IQ b f sa sc wa wc wz++[vO b2 [vI 0,vI 0,.slice none 0 0,.slice none 0 0] 30]))∧
     Fr 126 [] [(2,vP b2),(3,vI 0),(4,vI 0),(5,.slice pa ps.length pc),(6,vP b),(7,.bool false),(8,vI k),(11,vP zX),(10,.bool (E6&&bO wM 40&&decide ((f.steps.length:Int)<40)&&((f.windows.length:Int)==0)))] a') ?_ ?_
    ·cases d1:(E6&&bO wM 40)with
     |false=>
      rw[aa6,aa6];exact ah<|Wp 14 rfl<|an<|fun a ha=>⟨_,rfl,Je,hs,ha.kp rfl⟩
     |true=>
     rw[abf];cases d2:decide ((f.steps.length:Int)<40)with
     |false=>
      rw[aa6];exact ah<|Wm 8 [.o 1] hs rfl<|bd 63 (b':=false) (by simpa using d2) rfl<|Wp 6 rfl<|an<|fun a ha=>⟨_,rfl,Je,hs,ha.kp rfl⟩
     |true=>
      rw[abf];exact ah<|Wm 8 [.o 1] hs rfl<|bd 63 (b':=true) (by simpa using d2) rfl<|Wm 6 [.o 1] hs rfl<|an<|fun a ha=>⟨_,rfl,Je,hs,ha.kp rfl⟩
    clear hs;rintro a' _ ⟨g6,rfl,ag,hs,dT⟩;obtain⟨bB,aT,dn⟩:=eS ag bB aT dn;replace kS:=kS.trans ag;clear Je;revert a';refine bT<|ah<|Wm 3 [.o 1,.o 0] hs rfl<|iX [(0,.agg #[vI wM.du,.slice ua un uc,vI wM.min,vI wM.max,.slice xa xn xc,vI wM.back,vI wM.dv])] [vI wM.du,.slice ua un uc,vI wM.min,vI wM.max,.slice xa xn xc,vI wM.back,vI wM.dv] hs rfl rfl fun bl gl hs ag=>?_;obtain⟨bB,aT,dn⟩:=eS ag bB aT dn;replace kS:=kS.trans ag;refine aN rfl rfl<|ba T.ok 3 rfl hs rfl rfl rfl rfl rfl rfl rfl (by decide) rfl (Src.dZ (hs.own 0 _ rfl).1).2 (by simp[Value.oneCell']) (by show(f.steps.length+1)*88≤_;omega) (by unfold maxLen;show f.steps.length+1≤_;omega) fun a9 c9 g9 hs ag=>?_;obtain⟨bB,aT,dn⟩:=eS ag bB aT dn;replace kS:=kS.trans ag;refine Wp 1 rfl<|dC 2 hs rfl fun g1 hs ag=>?_;obtain⟨bB,aT,dn⟩:=eS ag bB aT dn;replace kS:=kS.trans ag;replace hs:=(hs.drop 0).drop 0;refine bE<|aD rfl ?_;cases KQ:(E6&&bO wM 40&&decide ((f.steps.length:Int)<40)&&((f.windows.length:Int)==0))with
    |false=>
     rw[show oe false f (c::tl)=lD f (c::tl)from rfl,Pv,KQ]at mI;refine bZ rfl<|cO<|hZ [] [vI 0,vI 0,.slice none 0 0,.slice none 0 0] [(0,1),(1,1),(2,1),(3,1)] rfl<|Wp 2 rfl<|dC 3 hs rfl fun g1 hs ag=>?_;obtain⟨bB,aT,dn⟩:=eS ag bB aT dn;refine aF rfl<|au<|iy<|ec<|ec<|iy<|ec<|w9 (v2:=vI ((k+1:Nat):Int)) T.ok 3 rfl hs rfl rfl rfl (kW rfl) rfl<|hs.ret ?_;rw[Rf _ mI.symm]
     rfl
    |true=>
     rw[show oe false f (c::tl)=lD f (c::tl)from rfl,Pv,KQ]at mI;refine bI rfl ?_;have Xs:IS b ⟨f.bS,f.cd,f.steps++[wM],f.windows⟩ [vO b2 [vI 0,vI 0,.slice none 0 0,.slice none 0 0] 30] g g1:=by refine⟨a9,c9,wa,wc,_,?_,cR.app (α:=Step) (ys:=[wM]) ⟨_,[],(aaI _).symm,(show sR _ _ _ from⟨_,_,_,_,_,_,rfl,bB,aT⟩),rfl⟩ dn⟩;unfold IQ;rw[aal];exact hs
     refine ar<|aX<|ai<|ah<|Wp 3 rfl<|an<|fun a ha=>⟨ps.length-(k+1),by omega,k+1,false,⟨f.bS,f.cd,f.steps++[wM],f.windows⟩,_,rfl,Xs,(fun h=>(by cases h)),kS,by omega,rfl,by show(f.steps++[wM]).length≤_;rw[aal,aaF];omega,by show f.windows.length≤_;omega,mI,ha.keep ⟨rfl,rfl,rfl,rfl,rfl,rfl,kW rfl,trivial⟩⟩
   have Pv:=L0 f (c::tl) (by simpa using Ot);refine bg (b:=_) ?_ rfl ?_
   ·simp;intro h;exact Ot (UInt8.toNat_inj.1 (show c.toNat=115 by omega))
   refine ck 1 rfl<|jN rfl (AB (c::tl) _ xm) hs fun g1 hs ag=>?_;replace dn:=dn.mono ag;replace kS:=kS.trans ag;generalize(ek (c::tl)).1=w0 at*;generalize(ek (c::tl)).2=E6 at*;refine Wp 3 rfl<|fA hs rfl fun Vn g1 hs ag=>?_;replace dn:=dn.mono ag;replace kS:=kS.trans ag;refine dC 0 hs rfl fun g1 hs ag=>?_;replace dn:=dn.mono ag;replace kS:=kS.trans ag;refine aF rfl<|Ja [.o 1] hs rfl<|ak ?_;have hsf:=hs;have Je:=G.le.refl g1;have hX:(E6&&de w0 40&&decide ((f.windows.length:Int)<20)&&decide ((f.steps.length:Int)>0)&&follows f.windows w0)=(E6&&de w0 40&&decide ((f.windows.length:Int)<20)&&decide ((f.steps.length:Int)>0)&&follows f.windows w0):=rfl
   refine lR (fun a' w=> ∃(g6:G),w=g6.w∧G.le g1 g6∧St g g6 (vO Vn (lP w0) 94::(IQ b f sa sc wa wc wz++[vO b2 [vI 0,vI 0,.slice none 0 0,.slice none 0 0] 30]))∧
    Fr 126 [] [(2,vP b2),(3,vI 0),(4,vI 0),(5,.slice pa ps.length pc),(6,vP b),(7,.bool false),(8,vI k),(13,vP Vn),(10,.bool (E6&&de w0 40&&decide ((f.windows.length:Int)<20)&&decide ((f.steps.length:Int)>0)&&follows f.windows w0))] a') ?_ ?_
   ·cases d1:(E6&&de w0 40)with
    |false=>
     rw[aa6,aa6,aa6];apply aO hs (cV (cV (cV (fe [])))) 25 [(24,107)] (by kernel_rfl) rfl
     ·exact qo [[],[0],[1],[2,1],[1,3],[4],[5],[6,5],[7,5],[8,5],[5,9],[10],[11],[12,11],[13,11,11],[14],[15,14],[14],[17,14],[16,18,14],[19,14],[14],[20,21,14,14],[14,22,11],[11,23]] rfl
     clear hs;intro g1 hs ag;replace dn:=dn.mono ag;exact Wp 1 rfl<|an<|fun a ha=>⟨_,rfl,ag,hs,ha.kp rfl⟩
    |true=>
    rw[abf];cases d2:decide ((f.windows.length:Int)<20)with
    |false=>
     rw[aa6,aa6];apply aO hs (cV (cV (cV (fe [])))) 25 [(24,107)] (by kernel_rfl) rfl
     ·exact jV [[],[0],[1]] rfl<|aW [(2,85),(1,84)] (fun gd hf=>bN rfl (bj rfl (congrArg Value.bool (d2))))<|qo [[1,3],[4],[5],[6,5],[7,5],[8,5],[5,9],[10],[11],[12,11],[13,11,11],[14],[15,14],[14],[17,14],[16,18,14],[19,14],[14],[20,21,14,14],[14,22,11],[11,23]] rfl
     clear hs;intro g1 hs ag;replace dn:=dn.mono ag;exact Wp 1 rfl<|an<|fun a ha=>⟨_,rfl,ag,hs,ha.kp rfl⟩
    |true=>
    rw[abf];cases d3:decide ((f.steps.length:Int)>0)with
    |false=>
     rw[aa6];apply aO hs (cV (cV (cV (fe [])))) 25 [(24,107)] (by kernel_rfl) rfl
     ·exact jV [[],[0],[1]] rfl<|aW [(2,85),(1,84)] (fun gd hf=>bN rfl (bj rfl (congrArg Value.bool (d2))))<|cY [[1,3],[4],[5],[6,5],[7,5]] [.o 1] hs rfl<|aW [(8,91),(5,88)] (fun gd hf=>bN rfl (bj rfl (congrArg Value.bool (d3))))<|qo [[5,9],[10],[11],[12,11],[13,11,11],[14],[15,14],[14],[17,14],[16,18,14],[19,14],[14],[20,21,14,14],[14,22,11],[11,23]] rfl
     clear hs;intro g1 hs ag;replace dn:=dn.mono ag;exact Wp 1 rfl<|an<|fun a ha=>⟨_,rfl,ag,hs,ha.kp rfl⟩
    |true=>
    rw[abf];cases d4:((f.windows.length:Int)==0)with
    |true=>
     have Vf:f.windows=[]:=by have:=eq_of_beq d4;exact aa' (by omega)
     have mH:follows f.windows w0=true:=by rw[Vf];rfl
     rw[mH];apply aO hs (cV (cV (cV (fe [])))) 25 [(24,107)] (by kernel_rfl) rfl
     ·exact jV [[],[0],[1]] rfl<|aW [(2,85),(1,84)] (fun gd hf=>bN rfl (bj rfl (congrArg Value.bool (d2))))<|cY [[1,3],[4],[5],[6,5],[7,5]] [.o 1] hs rfl<|aW [(8,91),(5,88)] (fun gd hf=>bN rfl (bj rfl (congrArg Value.bool (d3))))<|jV [[5,9],[10],[11]] rfl<|aW [(12,95),(11,94)] (fun gd hf=>bN rfl (bj rfl (congrArg Value.bool (d4))))<|qo [[13,11,11],[14],[15,14],[14],[17,14],[16,18,14],[19,14],[14],[20,21,14,14],[14,22,11],[11,23]] rfl
     clear hs;intro g1 hs ag;replace dn:=dn.mono ag;exact Wp 1 rfl<|an<|fun a ha=>⟨_,rfl,ag,hs,ha.kp rfl⟩
    |false=>
     have E3:f.windows.length≠0:=by intro h;rw[h]at d4;cases d4
     obtain⟨lw,TX⟩: ∃v,f.windows.getLast? =some v:=by
      cases hg:f.windows.getLast? with
      |none=>rw[List.getLast?_eq_none_iff]at hg;rw[hg]at E3;exact absurd rfl E3
      |some v=>exact⟨v,rfl⟩
     have qn:follows f.windows w0=ng lw w0:=by unfold follows;rw[TX]
     have Lk:=BI TX;obtain⟨wb,wp,rfl⟩:=Er (hs.own 3 _ rfl).1 E3;have I_:((f.windows.length:Int)-1).toNat=f.windows.length-1:=by omega
     rw[←I_]at Lk;rw[qn];apply aO hs (cV (cV (cV (fe [])))) 25 [(24,107)] (by kernel_rfl) rfl
     ·refine jV [[],[0],[1]] rfl<|aW [(2,85),(1,84)] (fun gd hf=>bN rfl (bj rfl (congrArg Value.bool (d2))))<|cY [[1,3],[4],[5],[6,5],[7,5]] [.o 1] hs rfl<|aW [(8,91),(5,88)] (fun gd hf=>bN rfl (bj rfl (congrArg Value.bool (d3))))<|jV [[5,9],[10],[11]] rfl<|aW [(12,95),(11,94)] (fun gd hf=>bN rfl (bj rfl (congrArg Value.bool (d4))))<|cY [[13,11,11],[14],[15,14],[14]] [.o 1] hs rfl<|aW [(17,100),(14,97)] (fun gd hf=>bN rfl (bj rfl (congrArg (Value.int .i64) (show _=(f.windows.length:Int)-1 from wq))))<|aW [(16,99),(18,101),(14,97)] (fun gd hf=>?_) ?_
      ·have jk:=hs.dr.call hf;refine lJ rfl<|az<|ay rfl<|ea T.ok (n:=(f.windows.length:Int)-1) rfl (jk.own 3 _ rfl).1 (by omega) (by omega) rfl rfl rfl rfl rfl rfl fun b p hh=>?_;obtain⟨rfl,rfl⟩:wb=b∧wp=p:=by simpa using hh
       exact⟨_,rfl,bW.refl _,rfl⟩
      refine aW [(19,102),(14,97)] (fun gd hf=>bN rfl (ay rfl (eW T.ok (((f.windows.length:Int)-1).toNat*3) rfl ((hs.dr.call hf).own 3 _ rfl).1 rfl (v:=.agg (lP lw).toArray) Lk (cC rfl))))<|cY [[14]] [.o 0] hs rfl<|aW [(20,103),(21,104),(14,97),(14,97)] (fun gd hf=>?_) ?_
      ·skip;refine lJ rfl<|bU rfl<|az<|ay rfl<|bu (cB 47) bJ rfl rfl rfl rfl rfl (rp lw w0 _) fun g' v h1 h2=>⟨g',rfl,h1,?_⟩
       exact h2
      exact qo [[14,22,11],[11,23]] rfl
     clear hs;intro g1 hs ag;replace dn:=dn.mono ag;exact Wp 1 rfl<|an<|fun a ha=>⟨_,rfl,ag,hs,ha.kp rfl⟩
   clear hs hsf;rintro a' _ ⟨g6,rfl,ag,hs,dT⟩;replace dn:=dn.mono ag;replace kS:=kS.trans ag;clear Je hX;revert a';refine bT<|ah<|Wm 3 [.o 1,.o 0] hs rfl<|iX [(0,.agg (lP w0).toArray)] (lP w0) hs rfl rfl fun bl gl hs ag=>?_;replace dn:=dn.mono ag;replace kS:=kS.trans ag;refine aN rfl rfl<|ba T.ok 4 rfl hs rfl rfl rfl rfl rfl rfl rfl (by decide) rfl (Src.dZ (hs.own 0 _ rfl).1).2 (by simp[lP,Value.oneCell']) (by show(f.windows.length+1)*24≤_;omega) (by unfold maxLen;show f.windows.length+1≤_;omega) fun a9 c9 g9 hs ag=>?_;replace dn:=dn.mono ag;replace kS:=kS.trans ag;refine Wp 1 rfl<|dC 2 hs rfl fun g1 hs ag=>?_;replace dn:=dn.mono ag;replace kS:=kS.trans ag;replace hs:=(hs.drop 0).drop 0;refine bE<|aD rfl ?_;cases KQ:(E6&&de w0 40&&decide ((f.windows.length:Int)<20)&&decide ((f.steps.length:Int)>0)&&follows f.windows w0)with
   |false=>
    rw[show oe false f (c::tl)=lD f (c::tl)from rfl,Pv,KQ]at mI;refine bZ rfl<|cO<|hZ [] [vI 0,vI 0,.slice none 0 0,.slice none 0 0] [(0,1),(1,1),(2,1),(3,1)] rfl<|Wp 2 rfl<|dC 3 hs rfl fun g1 hs ag=>?_;replace dn:=dn.mono ag;refine aF rfl<|au<|iy<|ec<|ec<|iy<|ec<|w9 (v2:=vI ((k+1:Nat):Int)) T.ok 3 rfl hs rfl rfl rfl (kW rfl) rfl<|hs.ret ?_;rw[Rf _ mI.symm]
    rfl
   |true=>
    rw[show oe false f (c::tl)=lD f (c::tl)from rfl,Pv,KQ]at mI;refine bI rfl ?_;have Xs:IS b ⟨f.bS,f.cd,f.steps,f.windows++[w0]⟩ [vO b2 [vI 0,vI 0,.slice none 0 0,.slice none 0 0] 30] g g1:=by refine⟨sa,sc,a9,c9,wz,?_,dn⟩;unfold IQ;rw[rq,aal];exact hs
    refine ar<|aX<|ai<|ah<|Wp 3 rfl<|an<|fun a ha=>⟨ps.length-(k+1),by omega,k+1,false,⟨f.bS,f.cd,f.steps,f.windows++[w0]⟩,_,rfl,Xs,(fun h=>(by cases h)),kS,by omega,rfl,by show f.steps.length≤_;omega,by show(f.windows++[w0]).length≤_;rw[aal,aaF];omega,mI,ha.keep ⟨rfl,rfl,rfl,rfl,rfl,rfl,kW rfl,trivial⟩⟩
 refine bg (b:=decide ((k:Int)<(ps.length:Int))) (by simp;omega) rfl ?_;obtain rfl:k=ps.length:=by omega
 rw[acW]at mI;have L1:=Rf _ mI.symm;obtain⟨sa,sc,wa,wc,wz,hs,dn⟩:=hO;obtain⟨g1',Au,pH,MQ,bB⟩:=hs.cD (α:=Step) (xs:=f.steps) (i:=1) rfl dn;obtain⟨g2,fm,dm,Jf,aT⟩:=pH.cD (α:=cz) (xs:=f.windows) (i:=1) rfl (cR.win _ _);replace hs:St g g2 (vO b [vI f.bS,vI f.cd,.slice sa f.steps.length sc,.slice wa f.windows.length wc] 30::vO b2 [vI 0,vI 0,.slice none 0 0,.slice none 0 0] 30::[]):=dm;clear pH dm;replace bB:=bB.mono Jf;rw[←Au,←fm];have dx:eQ g2 (.agg #[vI f.bS,vI f.cd,.slice sa f.steps.length sc,.slice wa f.windows.length wc]) f:=⟨sa,f.steps.length,sc,wa,f.windows.length,wc,rfl,bB,aT⟩;refine aJ<|aM<|aM<|b_<|ai<|ak<|jd 1 [.o 0] hs rfl<|jN rfl (yy _ f _ dx) hs fun g1 hs ag=>?_;replace dx:=dx.mono ag;refine aF rfl ?_;cases hv:valid f with
 |true=>
  refine bI rfl<|ar<|ai<|jd 1 [.o 0] hs rfl<|dC 1 hs rfl fun g1 hs ag=>?_;replace dx:=dx.mono ag;refine aF rfl<|au<|w9 T.ok 1 rfl hs rfl rfl rfl rfl rfl<|hs.ret ?_;rw[L1];show kG _ (if valid f=true then _ else _) _;rw[if_pos hv];exact⟨_,rfl,dx⟩
 |false=>
  refine bZ rfl<|cO<|hZ [] [vI 0,vI 0,.slice none 0 0,.slice none 0 0] [(0,1),(1,1),(2,1),(3,1)] rfl<|Wp 2 rfl<|dC 1 hs rfl fun g1 hs ag=>aF rfl<|au<|ec<|w9 T.ok 1 rfl hs rfl rfl rfl rfl rfl<|hs.ret ?_;rw[L1];show kG _ (if valid f=true then _ else _) _;rw[if_neg (by rw[hv];decide)]
  rfl
theorem ym(v:Value)(b:ft)(w time:Int)(g:G)(aL:gJ g v b)(hb:xF b):cN prog 42 #[v,vI w,vI time] g fun g' r=>Rs g' r (gi b w time):=by
 have hs:=(St.start g).eM 50 19 none;have aj:=G.le.refl g;have fC:=aL;obtain⟨A,N',C,rfl,ee⟩:=iY aL;have aL:gJ g (.agg ((List.range 11).map fun i=> .slice (A i) (N' i) (C i)).toArray) b:=fC;clear fC;clear ee;refine enter func42 rfl ntmps42 rfl<|cO<|gF hs rfl fun b2 g2 hs ag aq=>?_;obtain⟨aj,aL⟩:=cA ag aj aL;replace hs:St g g2 [rF none 0 []]:=hs;refine aF rfl<|aD rfl<|eO 2 [.z aq] rfl<|d_ rfl (GA _ b w _ aL hb) fun g1 _ aH aA=>?_;replace hs:=hs.call aH;have ag:=aH.le;replace aj:=G.le.trans aj ag;clear aH aq aL;have hl:=oQ hb w;unfold gi;generalize mO b w=l at*;obtain⟨a,c,rfl⟩:=aA.isSlice;refine aF rfl<|ak<|aD rfl<|aw ?_
 refine aZ (fun m a' u=> ∃(i:Nat) (ad:Option Addr) (c8:Nat) (xs:List bc) (g':G),u=g'.w∧St g g' [rF ad c8 xs]∧G.le g g'∧Rs g' (.slice a l.length c) l∧i≤l.length∧((l.take i).filter fun f=> !decide (time<f.time))=xs∧m+i=l.length∧
   Fr 34 [] [(2,vI time),(7,.slice ad xs.length c8),(8,.slice a l.length c),(9,vI (i:Nat))] a') l.length
  (fun a' ha=>⟨0,none,0,[],_,rfl,hs,aj,aA,aar _,rfl,rfl,ha.kp rfl⟩) ?_
 (repeat clear hs);(repeat clear aj);(repeat clear aA);rintro m a' _ ⟨i,ad,c8,xs,g',rfl,hs,aj,aA,hi,mH,hm,dT⟩;have nL:xs.length≤i:=by rw[←mH];exact aaC (abq ..) (by rw[aat];omega)
 revert a';refine bT<|ak<|aD rfl ?_;by_cases aV:i<l.length
 ·refine aG (b:=decide ((i:Int)<(l.length:Int))) (decide_eq_true (by omega)) rfl ?_;have eI:dq l (i:Int)=some l[i]:=bM rfl aV;have ed:((l.take (i+1)).filter fun f=> !decide (time<f.time))=xs++(if !decide (time<l[i].time)then [l[i]]else []):=by rw[aaV,aas aV,abe,mH,acd,abU];split<;>simp[*]
  generalize l[i]=x at*;refine ar<|ai<|ak<|aw<|ck 2 rfl<|fP (y:=x) aA eI rfl ?_;rintro b9 q9 ys aK rfl;have aB:=aK;clear aK;refine BS [.e aB 5] rfl ?_;by_cases h2:x.time≤time
  ·refine aG (b:=decide (x.time≤time)) (decide_eq_true h2) rfl ?_;rw[if_pos (by rw[decide_eq_false (by omega)];rfl)]at ed;clear aB;refine ah<|Wp 3 rfl<|fP (y:=x) aA eI rfl ?_;rintro b9 q9 ys aK rfl;have aB:=aK;clear aK;refine dE 1 [.e aB 0] rfl ?_;clear aB;refine iX [(0,fv x)] (fl [x]) hs rfl rfl ?_;(repeat clear hs);rintro bl gl hs ag;obtain⟨aj,aA⟩:=cA ag aj aA;refine aN rfl rfl<|ba T.ok 1 rfl hs rfl rfl rfl rfl rfl rfl rfl (by decide) rfl (Src.dZ (hs.own 0 _ rfl).1).2 (oj g _) (by show((xs).length+1)*160≤_;omega) (by show(xs).length+1≤maxLen;unfold maxLen;omega) ?_;(repeat clear hs);rintro a6 c6 g10 hs ag;obtain⟨aj,aA⟩:=cA ag aj aA;have e0:(xs).length+1=(xs++[x]).length:=by rw[aal,aaF]<;>omega
   rw[e0]at hs⊢;replace hs:St g g10 [rF a6 c6 (xs++[x])]:=by unfold rF;rw[jM];exact hs.drop 0
   exact Wp 1 rfl<|an<|aX<|ai<|ah<|Wp 3 rfl<|an<|fun a ha=>⟨m-1,by omega,i+1,_,_,_,_,rfl,hs,aj,aA,by omega,ed,by omega,ha.keep ⟨rfl,rfl,rfl,kW rfl,trivial⟩⟩
  refine bg (b:=decide (x.time≤time)) (decide_eq_false h2) rfl ?_;rw[if_neg (by rw[decide_eq_true (by omega)];simp),aaI]at ed;exact ar<|aX<|ai<|ah<|Wp 3 rfl<|an<|fun a ha=>⟨m-1,by omega,i+1,_,_,_,_,rfl,hs,aj,aA,by omega,ed,by omega,ha.keep ⟨rfl,rfl,rfl,kW rfl,trivial⟩⟩
 refine bg (b:=decide ((i:Int)<(l.length:Int))) (decide_eq_false (by omega)) rfl ?_;rw[aaD (by omega)]at mH;refine aJ<|aM<|aM<|b_<|ai<|aD rfl ?_;obtain⟨gz,gX,dk,iw,bV⟩:=hs.cD (α:=bc) (i:=0) rfl (cR.fl _ _);have ag:=iw;rw[←gX];(repeat clear hs);have hs:St g gz []:=dk;clear dk;exact au (cg rfl hs (by rw[mH];exact bV))
theorem MZ(v:Value)(b:ft)(w time:Int)(g:G)(aL:gJ g v b)(hb:xF b):cN prog 14 #[v,vI w,vI time] g fun g' r=> ∃v1 v2,r= .tuple #[v1,v2]∧Rs g' v1 ((gi b w time).map (·.step))∧Rs g' v2 ((gi b w time).map (·.idn)):=by
 have hs:=((St.start g).eM 3 1 none).eM 3 1 none;have aj:=G.le.refl g;have fC:=aL;obtain⟨A,N',C,rfl,ee⟩:=iY aL;have aL:gJ g (.agg ((List.range 11).map fun i=> .slice (A i) (N' i) (C i)).toArray) b:=fC;clear fC;clear ee;refine enter func14 rfl ntmps14 rfl<|cO<|gF hs rfl fun b2 g2 hs ag aq=>?_;obtain⟨aj,aL⟩:=cA ag aj aL;replace hs:St g g2 [rI (.slice none 0 0) [],rI (.slice none 0 0) []]:=hs;refine aF rfl<|eO 3 [.z aq] rfl<|d_ rfl (ym _ b w time _ aL hb) fun g1 _ aH aA=>?_;replace hs:=hs.call aH;have ag:=aH.le;replace aj:=G.le.trans aj ag;clear aH aq aL;have hl:=lV hb w time;generalize gi b w time=l at*;obtain⟨a,c,rfl⟩:=aA.isSlice;refine aF rfl<|aD rfl<|aD rfl<|ak<|aD rfl<|aw ?_
 refine aZ (fun m a' u=> ∃(i:Nat) (xs ys:List Int) (a8 a9:Option Addr) (c8 c9:Nat) (g':G),u=g'.w∧St g g' [rI (.slice a8 xs.length c8) xs,rI (.slice a9 ys.length c9) ys]∧G.le g g'∧Rs g' (.slice a l.length c) l∧i≤l.length∧(l.take i).map (·.step)=xs∧(l.take i).map (·.idn)=ys∧m+i=l.length∧
   Fr 40 [] [(8,.slice a l.length c),(9,.slice a8 xs.length c8),(10,.slice a9 ys.length c9),(11,vI (i:Nat))] a') l.length
  (fun a' ha=>⟨0,[],[],none,none,0,0,_,rfl,hs,aj,aA,aar _,rfl,rfl,rfl,ha.kp rfl⟩) ?_
 (repeat clear hs);(repeat clear aj);(repeat clear aA);rintro m a' _ ⟨i,xs,ys,a8,a9,c8,c9,g',rfl,hs,aj,aA,hi,hx,hy,hm,dT⟩;have h1:xs.length=i:=by rw[←hx,aaS,aat];omega
 have h2:ys.length=i:=by rw[←hy,aaS,aat];omega
 revert a';refine bT<|ak<|aD rfl ?_;by_cases aV:i<l.length
 ·refine aG (b:=decide ((i:Int)<(l.length:Int))) (decide_eq_true (by omega)) rfl ?_;have eI:dq l (i:Int)=some l[i]:=bM rfl aV;have e1:(l.take (i+1)).map (·.step)=xs++[l[i].step]:=by rw[aaV,aas aV,aa3,hx];rfl
  have e2:(l.take (i+1)).map (·.idn)=ys++[l[i].idn]:=by rw[aaV,aas aV,aa3,hy];rfl
  generalize l[i]=x at*;refine ar<|ai<|ak<|aw<|ck 3 rfl<|fP (y:=x) aA eI rfl ?_;rintro b9 q9 OM aK rfl;refine Wp 1 rfl<|dE 1 [.e aK 13] rfl ?_;clear aK;refine iX [(0,vI x.step)] (eB [x.step]) hs rfl rfl ?_;(repeat clear hs);rintro bl gl hs ag;obtain⟨aj,aA⟩:=cA ag aj aA;refine aN rfl rfl<|ba T.ok 1 rfl hs rfl rfl rfl rfl rfl rfl rfl (by decide) rfl (Src.dZ (hs.own 0 _ rfl).1).2 (oN [x.step]) (by show(xs.length+1)*8≤_;omega) (by show xs.length+1≤maxLen;unfold maxLen;omega) ?_;(repeat clear hs);rintro a6 c6 g10 hs ag;obtain⟨aj,aA⟩:=cA ag aj aA
  replace hs:St g g10 [rI (.slice a6 (xs.length+1) c6) (xs++[x.step]),rI (.slice a9 ys.length c9) ys]:=by
   have e:(xs++[x.step]).length=xs.length+1:=by simp
   unfold rI;rw[e,rG];exact hs.drop 0
  refine aF rfl<|ah<|Wp 3 rfl<|fP (y:=x) aA eI rfl ?_;rintro b9 q9 OM aK rfl;refine Wp 1 rfl<|dE 1 [.e aK 1] rfl ?_;clear aK;refine iX [(0,vI x.idn)] (eB [x.idn]) hs rfl rfl ?_;(repeat clear hs);rintro bl gl hs ag;obtain⟨aj,aA⟩:=cA ag aj aA;refine aN rfl rfl<|ba T.ok 2 rfl hs rfl rfl rfl rfl rfl rfl rfl (by decide) rfl (Src.dZ (hs.own 0 _ rfl).1).2 (oN [x.idn]) (by show(ys.length+1)*8≤_;omega) (by show ys.length+1≤maxLen;unfold maxLen;omega) ?_;(repeat clear hs);rintro a7 c7 g10 hs ag;obtain⟨aj,aA⟩:=cA ag aj aA
  replace hs:St g g10 [rI (.slice a6 (xs++[x.step]).length c6) (xs++[x.step]),rI (.slice a7 (ys++[x.idn]).length c7) (ys++[x.idn])]:=by
   have e:(xs++[x.step]).length=xs.length+1:=by simp
   have e':(ys++[x.idn]).length=ys.length+1:=by simp
   unfold rI at hs⊢;rw[e]at hs;rw[e,e',rG ys];exact hs.drop 0
  exact Wp 1 rfl<|an<|aX<|ai<|ah<|Wp 3 rfl<|an<|fun a ha=>⟨m-1,by omega,i+1,_,_,_,_,_,_,_,rfl,hs,aj,aA,by omega,e1,e2,by omega,ha.keep ⟨rfl,kV rfl (by simp),kV rfl (by simp),kW rfl,trivial⟩⟩
 refine bg (b:=decide ((i:Int)<(l.length:Int))) (decide_eq_false (by omega)) rfl ?_;rw[aaD (by omega)]at hx hy;obtain⟨g7,Fe,EM,ag,bV⟩:=hs.cD (α:=Int) (i:=0) rfl (cR.ints _ _);obtain⟨g8,AK,oI,nM,cU⟩:=EM.cD (α:=Int) (i:=0) rfl (cR.ints _ _);rw[←Fe,←AK];(repeat clear hs);have hs:=oI;clear EM oI;replace bV:=bV.mono nM;exact aJ<|aM<|aM<|b_<|ai<|aD rfl<|au (uv rfl rfl rfl (hs.ret ⟨_,_,rfl,by rw[hx];exact bV,by rw[hy];exact cU⟩))
def R3:List Value:=[vI 0,vI 0,.slice none 0 0,.slice none 0 0]
def Vo(g:G)(r:Value)(o:Option aU):Prop:=∃cs,r= .tuple #[.agg cs,.bool o.isSome]∧ ∃a1 n1 c1 a2 n2 c2 m1 m2,cs=#[vI m1,vI m2,.slice a1 n1 c1,.slice a2 n2 c2]∧ ∀f,o=some f→eQ g (.agg cs) f
def PQ(n:Int):Fact:=⟨fun v _=> ∃q,v= .agg #[vI n,q],fun _ _ _ _ h=>h⟩
theorem JC(n:Int):xq (PQ n):=fun _ _ _ _ h=>h
theorem PR{g:G}{v:Value}{p:Int×List Int}(h:AL g v p):(PQ p.1).p v g:=by obtain⟨_,_,_,e,_⟩:=h;exact⟨_,e⟩
theorem ON(v:Value)(b:ft)(w time:Int)(g:G)(aL:gJ g v b)(hb:EN b):cN prog 45 #[v,vI w,vI time] g fun g' r=>Vo g' r (gB b w time):=by
 have hs:=St.start g;have aj:=G.le.refl g;have fC:=aL;obtain⟨A,N',C,rfl,ee⟩:=iY aL;have aL:gJ g (.agg ((List.range 11).map fun i=> .slice (A i) (N' i) (C i)).toArray) b:=fC;clear fC;clear ee;have pY:gB b w time=if((oM b w time).getD fS).prod=0 then none else match b.qt.find? fun f=>f.prod==((oM b w time).getD fS).prod with
  |none=>none
  |some t=>match lW t.text with
   | .inl f=>if(check f).1=0 then some f else none
   | .inr _=>none:=rfl
 refine enter func45 rfl ntmps45 rfl<|cO<|gF hs rfl fun b2 g2 hs ag aq=>?_;replace aL:=aL.mono ag;replace hs:St g g2 []:=hs;refine fA hs rfl fun b6 g1 hs ag=>?_;obtain⟨aq,aL⟩:=cA ag aq aL;refine aF rfl<|eO 3 [.z aq] rfl<|d_ rfl (Jw _ b w time _ aL hb.size) ?_;rintro g1 _ aH rfl;replace hs:=hs.call aH;have ag:=aH.le;obtain⟨aq,aL⟩:=cA ag aq aL;clear aH;generalize((oM b w time).getD fS).prod=pr at*;refine aF rfl<|ak<|aD rfl ?_;by_cases GB:pr=0
 ·rw[if_pos GB]at pY;subst GB;refine bZ rfl<|cO<|hZ [] (R3) [(0,1),(1,1),(2,1),(3,1)] rfl<|dC 0 hs rfl fun g1 hs ag=>?_;obtain⟨aq,aL⟩:=cA ag aq aL;refine aF rfl ?_;rw[pY];exact au (nV T.ok 0 rfl hs rfl rfl rfl rfl (hs.ret ⟨_,rfl,_,_,_,_,_,_,_,_,rfl,fun f h=>by cases h⟩))
 rw[if_neg GB]at pY;refine bg (b:=pr==0) (beq_eq_false_iff_ne.2 GB) rfl<|ar<|ai<|eO 2 [.z aq] rfl<|d_ rfl (MW _ b pr _ aL hb.size) ?_;rintro g1 _ aH rfl;replace hs:=hs.call aH;have ag:=aH.le;clear aH;cases BT:b.qt.find? (fun f=>f.prod==pr)with
 |none=>
  rw[BT]at pY;replace pY:gB b w time=none:=pY;refine Wp 3 rfl<|fA hs rfl fun Mx g1 hs ag=>dC 0 hs rfl fun g1 hs ag=>aF rfl<|ak<|aD rfl<|bZ rfl<|cO<|hZ [] (R3) [(0,1),(1,1),(2,1),(3,1)] rfl<|dC 1 hs rfl fun g1 hs ag=>aF rfl ?_;rw[pY];exact au (nV T.ok 1 rfl hs rfl rfl rfl rfl (hs.ret ⟨_,rfl,_,_,_,_,_,_,_,_,rfl,fun f h=>by cases h⟩))
 |some t=>
  rw[BT]at pY;replace pY:gB b w time=match lW t.text with| .inl f=>if(check f).1=0 then some f else none| .inr _=>none:=pY
  have JD:=hb.text t (List.mem_of_find?_eq_some BT);refine Wp 3 rfl<|fA hs rfl fun Mx g1 hs ag=>om 0 hs rfl fun g2 hs ag aB=>aF rfl<|ak<|aD rfl<|bI rfl<|ar<|ai<|eO 2 [.z aB] rfl<|d_ rfl (JE t.text _ JD) fun g6 v6 pw h6=>?_;replace hs:=hs.call pw;have ag:=pw.le;unfold kG at h6;cases ud:lW t.text with
  |inr k=>
   rw[ud]at h6 pY;replace pY:gB b w time=none:=pY;obtain rfl:=h6;refine Wp 4 rfl<|fA hs rfl fun PH g1 hs ag=>dC 0 hs rfl fun g1 hs ag=>aF rfl<|ak<|aD rfl<|bZ rfl<|cO<|hZ [] (R3) [(0,1),(1,1),(2,1),(3,1)] rfl<|dC 1 hs rfl fun g1 hs ag=>aF rfl ?_;rw[pY];exact au (nV T.ok 1 rfl hs rfl rfl rfl rfl (hs.ret ⟨_,rfl,_,_,_,_,_,_,_,_,rfl,fun f h=>by cases h⟩))
  |inl f=>
   rw[ud]at h6 pY;replace pY:gB b w time=if(check f).1=0 then some f else none:=pY;obtain⟨v7,rfl,a1,n1,c1,a2,n2,c2,rfl,aE,bB⟩:=h6;have eo:eQ g6 (.agg #[vI f.bS,vI f.cd,.slice a1 n1 c1,.slice a2 n2 c2]) f:=⟨a1,n1,c1,a2,n2,c2,rfl,aE,bB⟩;clear aE bB pw;refine Wp 4 rfl<|fA hs rfl fun PH g1 hs ag=>?_;replace eo:=eo.mono ag;refine om 0 hs rfl fun g2 hs ag cF=>?_;replace eo:=eo.mono ag;replace hs:St g _ [vO b6 R3 30]:=hs;refine aF rfl<|ak<|aD rfl<|bI rfl<|ar<|ai<|ak ?_;apply rH (eA (.f (PQ (check f).1)::eA (.f Fact.any::[]))) 6 [(4,48)] [5] [[0,1,2]] (fun s=>match s with|0=>[vO b6 R3 30]|_+1=>[.obj b6 (.cells #[vI f.bS,vI f.cd,.slice a1 n1 c1,.slice a2 n2 c2] 30 (0,0))]) hs (by kernel_rfl) ⟨JC _,dw,trivial⟩
   ·refine Lm [[],[]] [.z cF,.z cF] (by kernel_rfl) rfl<|dA (mZ 0 0 (js:=[(1,45)]) (by kernel_rfl) (by kernel_rfl) ?_) ?_
    ·intro s g' _ _ hf _;exact cj rfl (ay rfl (bu (cB 108) bJ rfl rfl rfl rfl rfl (JF _ f g' (eo.mono ((G.a_ _).trans hf))) fun g3 v h1 h2=>⟨g3,rfl,h1,PR h2⟩))
    refine dA (mZ 0 1 (js:=[(2,46)]) (by kernel_rfl) (by kernel_rfl) ?_) ?_
    ·intro s g' _ _ hf _;refine aI fun v h=>?_;obtain⟨q,rfl⟩:=h;exact az (ay rfl (bR _ T.ok rfl ⟨g',rfl,bW.refl _,rfl⟩))
    exact Lm [[3]] [] (by kernel_rfl) rfl<|dA (yn 0 (js:=[(0,44),(0,44)]) (by kernel_rfl) rfl fun g' hf hJ=>bN rfl (tg rfl (eT T.ok 0 rfl hJ rfl rfl rfl rfl rfl rfl rfl rfl rfl fun g3 hs hle=>⟨g3,rfl,⟨hle,hs⟩,trivial⟩)))<|AM
   clear hs;intro g9 hs ag;replace eo:=eo.mono ag;refine cj rfl<|aF rfl<|au (nV T.ok 0 rfl hs rfl rfl rfl rfl (hs.ret ?_));rw[pY];by_cases xr:(check f).1=0
   ·rw[if_pos xr,xr];exact⟨_,rfl,_,_,_,_,_,_,_,_,rfl,fun f' h=>by obtain rfl:=aax h;exact eo⟩
   rw[if_neg xr,beq_eq_false_iff_ne.2 xr];exact⟨_,rfl,_,_,_,_,_,_,_,_,rfl,fun f h=>by cases h⟩
theorem AN{f:aU}(h:valid f=true):Vp f:=by intro s hs;simp only[valid,aaA]at h;have hr:=aa2.1 h.1.2 s hs;simp only[bO,aaA,decide_eq_true_eq]at hr;have:=hr.1.1.1.1.1.1.2.2;omega
theorem M3(v:Value)(b:ft)(w time:Int)(g:G)(aL:gJ g v b)(hb:EN b):cN prog 16 #[v,vI w,vI time] g fun g' r=>Rs g' r (wG b w time):=by
 have hs:=St.start g;have aj:=G.le.refl g;have fC:=aL;obtain⟨A,N',C,rfl,ee⟩:=iY aL;have aL:gJ g (.agg ((List.range 11).map fun i=> .slice (A i) (N' i) (C i)).toArray) b:=fC;clear fC;clear ee;refine enter func16 rfl ntmps16 rfl<|cO<|gF hs rfl fun b2 g2 hs ag aq=>?_;replace aL:=aL.mono ag;replace hs:St g g2 []:=hs;refine aF rfl<|eO 3 [.z aq] rfl<|d_ rfl (ON _ b w time _ aL hb) fun g1 _ aH hp=>?_;replace hs:=hs.call aH;have ag:=aH.le;obtain⟨aq,aL⟩:=cA ag aq aL;clear aH;obtain⟨_,rfl,a1,n1,c1,a2,n2,c2,m1,m2,rfl,qn⟩:=hp;have qn:=fun f h=>qn f h
 unfold wG;cases pY:gB b w time with
 |none=>
  clear qn;refine Wp 3 rfl<|fA hs rfl fun b7 g1 hs ag=>?_;obtain⟨aq,aL⟩:=cA ag aq aL;refine dC 0 hs rfl fun g1 hs ag=>?_;obtain⟨aq,aL⟩:=cA ag aq aL;exact aF rfl<|ak<|aD rfl<|bZ rfl<|aD rfl<|au (cg rfl hs (Rs.nil _))
 |some f=>
  have eo:=qn f pY;clear qn;have hv:=qF pY;rw[←Gz (AI hv)];refine Wp 3 rfl<|fA hs rfl fun b7 g1 hs ag=>?_;obtain⟨aq,eo,aL⟩:=eS ag aq eo aL;refine om 0 hs rfl fun g2 hs ag aK=>?_;obtain⟨aq,eo,aL⟩:=eS ag aq eo aL;have aB:EP g2 b7 0 [vI m1,vI m2,.slice a1 n1 c1,.slice a2 n2 c2]:=aK;clear aK;replace hs:St g _ []:=hs;refine aF rfl<|ak<|aD rfl<|bI rfl<|ar<|ai<|ak ?_;have R4:=lV hb.size w time;apply dP (gR (.f (Fact.rs (gi b w time)):: .f (Fact.rs (kY f (gi b w time)))::[])) 6 [(5,23)] (by kernel_rfl)
  ·refine cY [[],[],[],[]] [.z aB,.z aq] hs rfl<|aW [(1,19),(2,20),(3,21)] (fun gd hf=>dD rfl (ji rfl (ym _ b w time gd (aL.mono ((G.a_ _).trans hf.le)) hb.size)))<|aW [(0,18),(4,22),(4,22)] (fun gd hf=>bU rfl (aI fun _ _=>aI fun v4 h4=>az ?_)) ?_
   ·have h4:Rs gd v4 (gi b w time):=h4;have hc:=vz (.agg #[vI m1,vI m2,.slice a1 n1 c1,.slice a2 n2 c2]) v4 f (gi b w time) gd (eo.mono ((G.a_ _).trans hf.le)) h4 R4 (AN hv);exact ji rfl hc
   exact fk
  intro g9 EO;refine aI fun v5 h5=>az ?_;have hs:=hs.dr.call EO;exact aF rfl<|au (cg rfl hs h5)
theorem PS(v:Value)(b:ft)(x:bc)(g:G)(aL:gJ g v b)(hb:xF b):cN prog 37 #[v,fv x] g fun _ r=>r=EL (lg b x):=by
 have hs:=St.start g;have aj:=G.le.refl g;have fC:=aL;obtain⟨A,N',C,rfl,ee⟩:=iY aL;have aL:gJ g (.agg ((List.range 11).map fun i=> .slice (A i) (N' i) (C i)).toArray) b:=fC;clear fC;clear ee;refine enter func37 rfl ntmps37 rfl<|cO<|gF hs rfl fun b2 g2 hs ag aq=>?_;replace aL:=aL.mono ag;refine gF hs rfl fun b3 g2 hs ag aB=>?_;obtain⟨aq,aL⟩:=cA ag aq aL;replace hs:St g g2 []:=hs;refine fA hs rfl fun b4 g1 hs ag=>?_;obtain⟨aq,aB,aL⟩:=eS ag aq aB aL;refine bE<|ak ?_;apply aO hs (gR (fe (.e (vI (qj b x.waf x.time))::cV (gR (.e (EL (lg b x))::[]))))) 19 [(18,23)] (by kernel_rfl) rfl
 ·exact cY [[],[],[1],[],[3],[0,2,4],[],[6],[],[8],[],[10],[],[12],[],[14],[],[16]] [.z aq,.z aB,.z aB,.c (cB 89) fun g' h=>Jv _ b x.waf x.time g' (aL.mono h) hb,.z aB,.z aB,.z aB,.z aB,.z aB,.z aB] hs rfl<|aW [(5,10),(7,12),(9,14),(11,16),(13,18),(15,20),(17,22)] (fun gd hf=>lJ rfl (su rfl (ay rfl (iS T.ok rfl (vs:=[(0,vI (qj b x.waf x.time)),(1,vI x.step),(2,vI x.tool),(3,vI x.cham),(4,vI x.rcp),(5,vI x.rvn),(6,vI x.time)]) (cells:=oo (lg b x)) rfl rfl rfl rfl [(0,1),(1,1),(2,1),(3,1),(4,1),(5,1),(6,1)] rfl (by kernel_rfl) (cC rfl)))))<|fk
 (repeat clear hs);intro g6 hs ag;exact dC 0 hs rfl fun g1 hs ag=>bE<|au (my T.ok 0 rfl hs rfl rfl rfl (hs.ret rfl))
end Go.Proofs.YtkpojaffabjibaaGreatDoor
namespace Go.Proofs.YtkpojaffabjibaaGreatDoor
open Go Go.K Tryz
set_option maxRecDepth 100000
set_option maxHeartbeats 1000000
def YK:List UInt8:=[109,111,118,101,32,49,46,46,50,10,115,116,101,112,32,48,32,114,101,99,105,112,101,32,49,32,116,111,111,108,115,32,50,32,116,105,109,101,32,51,46,46,51,32,110,101,120,116,32,49,10,115,116,101,112,32,49,32,114,101,99,105,112,101,32,51,32,116,111,111,108,115,32,50,32,116,105,109,101,32,51,46,46,51,32,110,101,120,116,32,45,32,98,97,99,107,32,48,32,108,105,109,105,116,32,49,10]
def Qz:bc:={fS with kind:=5,ver:=1,prod:=5,text:=YK}
def RL:bc:={fS with kind:=4,ver:=1,waf:=4,lot:=7,prod:=5}
def Jc(n _tool _step rcp:Int):bc:={fS with kind:=6,idn:=n,ver:=1,til:=900,tool:=2,rcp:=rcp,rvn:=1}
def MI(n t til:Int):bc:={fS with kind:=1,idn:=n,ver:=1,time:=t,til:=til,waf:=4,tool:=2,rcp:=1,rvn:=1}
def RM:bc:={fS with kind:=7,idn:=1,ver:=1,til:=900,waf:=4,par:=1}
def wL(p h:List bc):ft:=⟨fun i=>if i=0 then p else if i=3 then [RL]else if i=4 then [Qz]else if i=5 then [Jc 1 2 0 1,Jc 2 2 0 3]else if i=6 then h else []⟩
def uP(waf step tool rcp:Int):gW:=⟨waf,step,tool,0,rcp,1,50⟩
def Ci:List bc:=[MI 11 10 15,MI 12 20 25]
theorem qR{g:G}{s0 s3 s4 s5 s6:Value}{p h:List bc}(h0:Rs g s0 p)(h3:Rs g s3 [RL])(h4:Rs g s4 [Qz])(h5:Rs g s5 [Jc 1 2 0 1,Jc 2 2 0 3])(h6:Rs g s6 h):gJ g (.agg #[s0,.slice none 0 0,.slice none 0 0,s3,s4,s5,s6,.slice none 0 0,.slice none 0 0,.slice none 0 0,.slice none 0 0]) (wL p h):=
 ⟨fun i=>match i with|0=>s0|3=>s3|4=>s4|5=>s5|6=>s6|_=> .slice none 0 0,rfl,fun i hi=>match i,hi with
  |0,_=>h0|1,_=>Rs.nil _|2,_=>Rs.nil _|3,_=>h3|4,_=>h4|5,_=>h5|6,_=>h6|7,_=>Rs.nil _|8,_=>Rs.nil _|9,_=>Rs.nil _|10,_=>Rs.nil _⟩
theorem KX{p h:List bc}(hp:p.length≤2)(hh:h.length≤2):EN (wL p h):=by
 refine⟨fun i=>?_,fun f hf=>?_⟩
 ·unfold wL;show(if i=0 then p else _).length≤_;split
  ·omega
  split
  ·decide
  split
  ·decide
  split
  ·decide
  split
  ·omega
  decide
 obtain rfl:f=Qz:=aaL.1 hf;decide
theorem yY{v:Value}{b:ft}{a:gW}{g:G}{z:Int}(aL:gJ g v b)(hb:EN b)(cr:kr g)(e:yu b a=z):cN prog 17 #[v,EL a] g fun _ r=>r=vI z:=by subst e;exact OV v b a g aL hb cr
abbrev oA(b:Nat)(a:gW):dc:=vO b (oo a) 41
abbrev oB(b:Nat)(s0 s3 s4 s5 s6:Value):dc:=.obj b (.cells #[s0,.slice none 0 0,.slice none 0 0,s3,s4,s5,s6,.slice none 0 0,.slice none 0 0,.slice none 0 0,.slice none 0 0] 35 (0,0))
theorem P7(g:G)(cr:kr g):cN prog 4 #[] g fun _ r=>r= .bool true:=by
 have hs:=St.start g;have aj:=G.le.refl g;refine enter func4 rfl ntmps4 rfl ?_
 (iterate 3 refine ck 1 rfl ?_)
 refine hZ [(0,vI 5),(2,vI 1),(10,vI 5),(18,.string (bs YK))] (bK (Qz)) [(0,1),(1,1),(2,1),(3,1),(4,1),(5,1),(6,1),(7,1),(8,1),(9,1),(10,1),(11,1),(12,1),(13,1),(14,1),(15,1),(16,1),(17,1),(18,1)] rfl<|iX [(0,fv (Qz))] (fl [Qz]) hs rfl rfl fun bF gl hs ag=>?_;replace cr:=cr.mono ag;obtain⟨gz,gX,dk,iw,bV⟩:=hs.cD (α:=bc) (xs:=[Qz]) (i:=0) rfl (cR.fl _ _);clear ag;have ag:=iw;rw[←gX];(repeat clear hs);have hs:St g gz []:=dk;clear dk;replace cr:=cr.mono ag;refine hZ [(0,vI 4),(2,vI 1),(7,vI 4),(9,vI 7),(10,vI 5)] (bK (RL)) [(0,1),(1,1),(2,1),(3,1),(4,1),(5,1),(6,1),(7,1),(8,1),(9,1),(10,1),(11,1),(12,1),(13,1),(14,1),(15,1),(16,1),(17,1),(18,1)] rfl<|iX [(0,fv (RL))] (fl [RL]) hs rfl rfl fun bL gl hs ag=>?_;obtain⟨bV,cr⟩:=cA ag bV cr;obtain⟨gz,gX,dk,iw,aT⟩:=hs.cD (α:=bc) (xs:=[RL]) (i:=0) rfl (cR.fl _ _);clear ag;have ag:=iw;rw[←gX];(repeat clear hs);have hs:St g gz []:=dk;clear dk;obtain⟨bV,cr⟩:=cA ag bV cr;refine hZ [(0,vI 6),(2,vI 1),(1,vI 1),(11,vI 2),(14,vI 1),(15,vI 1),(6,vI 900)] (bK (Jc 1 2 0 1)) [(0,1),(1,1),(2,1),(3,1),(4,1),(5,1),(6,1),(7,1),(8,1),(9,1),(10,1),(11,1),(12,1),(13,1),(14,1),(15,1),(16,1),(17,1),(18,1)] rfl<|hZ [(0,vI 6),(2,vI 1),(1,vI 2),(11,vI 2),(14,vI 3),(15,vI 1),(6,vI 900)] (bK (Jc 2 2 0 3)) [(0,1),(1,1),(2,1),(3,1),(4,1),(5,1),(6,1),(7,1),(8,1),(9,1),(10,1),(11,1),(12,1),(13,1),(14,1),(15,1),(16,1),(17,1),(18,1)] rfl<|iX [(0,fv (Jc 1 2 0 1)),(1,fv (Jc 2 2 0 3))] (fl [Jc 1 2 0 1,Jc 2 2 0 3]) hs rfl rfl fun bQ gl hs ag=>?_;obtain⟨aT,bV,cr⟩:=eS ag aT bV cr;obtain⟨gz,gX,dk,iw,cU⟩:=hs.cD (α:=bc) (xs:=[Jc 1 2 0 1,Jc 2 2 0 3]) (i:=0) rfl (cR.fl _ _);clear ag;have ag:=iw;rw[←gX];(repeat clear hs);have hs:St g gz []:=dk;clear dk;obtain⟨aT,bV,cr⟩:=eS ag aT bV cr;refine hZ [(4,.slice (vA bF) 1 1),(3,.slice (vA bL) 1 1),(5,.slice (vA bQ) 2 2)] [.slice none 0 0,.slice none 0 0,.slice none 0 0,.slice (vA bL) 1 1,.slice (vA bF) 1 1,.slice (vA bQ) 2 2,.slice none 0 0,.slice none 0 0,.slice none 0 0,.slice none 0 0,.slice none 0 0] [(0,1),(1,1),(2,1),(3,1),(4,1),(5,1),(6,1),(7,1),(8,1),(9,1),(10,1)] rfl<|fA hs rfl fun b2 g1 hs ag=>?_;obtain⟨aT,bV,cU,cr⟩:=dU ag aT bV cU cr;refine dC 0 hs rfl fun g1 hs ag=>?_;obtain⟨aT,bV,cU,cr⟩:=dU ag aT bV cU cr;replace hs:St g g1 [oB b2 (.slice none 0 0) (.slice (vA bL) 1 1) (.slice (vA bF) 1 1) (.slice (vA bQ) 2 2) (.slice none 0 0)]:=hs;refine cO<|hZ [(0,vI 4),(2,vI 2),(4,vI 1),(5,vI 1),(6,vI 50)] (oo (uP 4 0 2 1)) [(0,1),(1,1),(2,1),(3,1),(4,1),(5,1),(6,1)] rfl<|fA hs rfl fun b3 g1 hs ag=>?_;obtain⟨aT,bV,cU,cr⟩:=dU ag aT bV cU cr;refine dC 0 hs rfl fun g1 hs ag=>?_;obtain⟨aT,bV,cU,cr⟩:=dU ag aT bV cU cr;replace hs:St g g1 [oA b3 (uP 4 0 2 1),oB b2 (.slice none 0 0) (.slice (vA bL) 1 1) (.slice (vA bF) 1 1) (.slice (vA bQ) 2 2) (.slice none 0 0)]:=hs;refine jd 2 [.o 1,.o 0] hs rfl<|d_ rfl (yY (b:=wL [] []) (a:=uP 4 0 2 1) (qR (Rs.nil _) aT bV cU (Rs.nil _)) (KX (by decide) (by decide)) cr (show yu (wL [] []) (uP 4 0 2 1)=0 from by decide+kernel)) ?_;rintro g1 _ aH rfl;replace hs:=hs.call aH;have ag:=aH.le;obtain⟨aT,bV,cU,cr⟩:=dU ag aT bV cU cr;clear aH;refine Wp 1 rfl<|ck 1 rfl<|dC 0 hs rfl fun g1 hs ag=>?_;obtain⟨aT,bV,cU,cr⟩:=dU ag aT bV cU cr;(repeat clear sT);replace hs:St g g1 [oA b3 (uP 4 0 2 3),oB b2 (.slice none 0 0) (.slice (vA bL) 1 1) (.slice (vA bF) 1 1) (.slice (vA bQ) 2 2) (.slice none 0 0)]:=hs;refine jd 2 [.o 1,.o 0] hs rfl<|d_ rfl (yY (b:=wL [] []) (a:=uP 4 0 2 3) (qR (Rs.nil _) aT bV cU (Rs.nil _)) (KX (by decide) (by decide)) cr (show yu (wL [] []) (uP 4 0 2 3)=8 from by decide+kernel)) ?_;rintro g1 _ aH rfl;replace hs:=hs.call aH;have ag:=aH.le;obtain⟨aT,bV,cU,cr⟩:=dU ag aT bV cU cr;clear aH;refine Wp 1 rfl<|ck 1 rfl<|dC 0 hs rfl fun g1 hs ag=>?_;obtain⟨aT,bV,cU,cr⟩:=dU ag aT bV cU cr;(repeat clear sT);replace hs:St g g1 [oA b3 (uP 4 0 2 1),oB b2 (.slice none 0 0) (.slice (vA bL) 1 1) (.slice (vA bF) 1 1) (.slice (vA bQ) 2 2) (.slice none 0 0)]:=hs;refine ck 1 rfl<|dC 0 hs rfl fun g1 hs ag=>?_;obtain⟨aT,bV,cU,cr⟩:=dU ag aT bV cU cr;(repeat clear sT);replace hs:St g g1 [oA b3 (uP 4 0 3 1),oB b2 (.slice none 0 0) (.slice (vA bL) 1 1) (.slice (vA bF) 1 1) (.slice (vA bQ) 2 2) (.slice none 0 0)]:=hs;refine jd 2 [.o 1,.o 0] hs rfl<|d_ rfl (yY (b:=wL [] []) (a:=uP 4 0 3 1) (qR (Rs.nil _) aT bV cU (Rs.nil _)) (KX (by decide) (by decide)) cr (show yu (wL [] []) (uP 4 0 3 1)=20 from by decide+kernel)) ?_;rintro g1 _ aH rfl;replace hs:=hs.call aH;have ag:=aH.le;obtain⟨aT,bV,cU,cr⟩:=dU ag aT bV cU cr;clear aH;refine Wp 1 rfl<|ck 1 rfl<|dC 0 hs rfl fun g1 hs ag=>?_;obtain⟨aT,bV,cU,cr⟩:=dU ag aT bV cU cr;(repeat clear sT);replace hs:St g g1 [oA b3 (uP 4 0 2 1),oB b2 (.slice none 0 0) (.slice (vA bL) 1 1) (.slice (vA bF) 1 1) (.slice (vA bQ) 2 2) (.slice none 0 0)]:=hs;refine ck 1 rfl<|dC 0 hs rfl fun g1 hs ag=>?_;obtain⟨aT,bV,cU,cr⟩:=dU ag aT bV cU cr;(repeat clear sT);replace hs:St g g1 [oA b3 (uP 4 1 2 1),oB b2 (.slice none 0 0) (.slice (vA bL) 1 1) (.slice (vA bF) 1 1) (.slice (vA bQ) 2 2) (.slice none 0 0)]:=hs;refine jd 2 [.o 1,.o 0] hs rfl<|d_ rfl (yY (b:=wL [] []) (a:=uP 4 1 2 1) (qR (Rs.nil _) aT bV cU (Rs.nil _)) (KX (by decide) (by decide)) cr (show yu (wL [] []) (uP 4 1 2 1)=10 from by decide+kernel)) ?_;rintro g1 _ aH rfl;replace hs:=hs.call aH;have ag:=aH.le;obtain⟨aT,bV,cU,cr⟩:=dU ag aT bV cU cr;clear aH;refine Wp 1 rfl<|ck 1 rfl<|dC 0 hs rfl fun g1 hs ag=>?_;obtain⟨aT,bV,cU,cr⟩:=dU ag aT bV cU cr;(repeat clear sT);replace hs:St g g1 [oA b3 (uP 4 7 2 1),oB b2 (.slice none 0 0) (.slice (vA bL) 1 1) (.slice (vA bF) 1 1) (.slice (vA bQ) 2 2) (.slice none 0 0)]:=hs;refine jd 2 [.o 1,.o 0] hs rfl<|d_ rfl (yY (b:=wL [] []) (a:=uP 4 7 2 1) (qR (Rs.nil _) aT bV cU (Rs.nil _)) (KX (by decide) (by decide)) cr (show yu (wL [] []) (uP 4 7 2 1)=2 from by decide+kernel)) ?_;rintro g1 _ aH rfl;replace hs:=hs.call aH;have ag:=aH.le;obtain⟨aT,bV,cU,cr⟩:=dU ag aT bV cU cr;clear aH;refine Wp 1 rfl<|ck 1 rfl<|dC 0 hs rfl fun g1 hs ag=>?_;obtain⟨aT,bV,cU,cr⟩:=dU ag aT bV cU cr;(repeat clear sT);replace hs:St g g1 [oA b3 (uP 4 0 2 1),oB b2 (.slice none 0 0) (.slice (vA bL) 1 1) (.slice (vA bF) 1 1) (.slice (vA bQ) 2 2) (.slice none 0 0)]:=hs;refine ck 1 rfl<|dC 0 hs rfl fun g1 hs ag=>?_;obtain⟨aT,bV,cU,cr⟩:=dU ag aT bV cU cr;(repeat clear sT);replace hs:St g g1 [oA b3 (uP 9 0 2 1),oB b2 (.slice none 0 0) (.slice (vA bL) 1 1) (.slice (vA bF) 1 1) (.slice (vA bQ) 2 2) (.slice none 0 0)]:=hs;refine jd 2 [.o 1,.o 0] hs rfl<|d_ rfl (yY (b:=wL [] []) (a:=uP 9 0 2 1) (qR (Rs.nil _) aT bV cU (Rs.nil _)) (KX (by decide) (by decide)) cr (show yu (wL [] []) (uP 9 0 2 1)=1 from by decide+kernel)) ?_;rintro g1 _ aH rfl;replace hs:=hs.call aH;have ag:=aH.le;obtain⟨aT,bV,cU,cr⟩:=dU ag aT bV cU cr;clear aH;refine Wp 1 rfl<|ck 1 rfl<|dC 0 hs rfl fun g1 hs ag=>?_;obtain⟨aT,bV,cU,cr⟩:=dU ag aT bV cU cr;(repeat clear sT);replace hs:St g g1 [oA b3 (uP 4 0 2 1),oB b2 (.slice none 0 0) (.slice (vA bL) 1 1) (.slice (vA bF) 1 1) (.slice (vA bQ) 2 2) (.slice none 0 0)]:=hs;refine jd 1 [.o 1] hs rfl<|fA hs rfl fun PG g1 hs ag=>?_;obtain⟨aT,bV,cU,cr⟩:=dU ag aT bV cU cr;refine dC 0 hs rfl fun g1 hs ag=>?_;obtain⟨aT,bV,cU,cr⟩:=dU ag aT bV cU cr;refine cO<|hZ [(0,vI 7),(2,vI 1),(1,vI 1),(7,vI 4),(6,vI 900),(17,vI 1)] (bK (RM)) [(0,1),(1,1),(2,1),(3,1),(4,1),(5,1),(6,1),(7,1),(8,1),(9,1),(10,1),(11,1),(12,1),(13,1),(14,1),(15,1),(16,1),(17,1),(18,1)] rfl<|iX [(0,fv (RM))] (fl [RM]) hs rfl rfl fun bH gl hs ag=>?_;obtain⟨aT,bV,cU,cr⟩:=dU ag aT bV cU cr;obtain⟨gz,gX,dk,iw,sx⟩:=hs.cD (α:=bc) (xs:=[RM]) (i:=0) rfl (cR.fl _ _);clear ag;have ag:=iw;rw[←gX];(repeat clear hs);have hs:St g gz [oB PG (.slice none 0 0) (.slice (vA bL) 1 1) (.slice (vA bF) 1 1) (.slice (vA bQ) 2 2) (.slice none 0 0),oA b3 (uP 4 0 2 1),oB b2 (.slice none 0 0) (.slice (vA bL) 1 1) (.slice (vA bF) 1 1) (.slice (vA bQ) 2 2) (.slice none 0 0)]:=dk;clear dk;obtain⟨aT,bV,cU,cr⟩:=dU ag aT bV cU cr;refine Wp 1 rfl<|dC 0 hs rfl fun g1 hs ag=>?_;obtain⟨aT,bV,cU,sx,cr⟩:=mY ag aT bV cU sx cr;(repeat clear sT);replace hs:St g g1 [oB PG (.slice none 0 0) (.slice (vA bL) 1 1) (.slice (vA bF) 1 1) (.slice (vA bQ) 2 2) (.slice (vA bH) 1 1),oA b3 (uP 4 0 2 1),oB b2 (.slice none 0 0) (.slice (vA bL) 1 1) (.slice (vA bF) 1 1) (.slice (vA bQ) 2 2) (.slice none 0 0)]:=hs;refine jd 2 [.o 0,.o 1] hs rfl<|d_ rfl (yY (b:=wL [] [RM]) (a:=uP 4 0 2 1) (qR (Rs.nil _) aT bV cU sx) (KX (by decide) (by decide)) cr (show yu (wL [] [RM]) (uP 4 0 2 1)=32 from by decide+kernel)) ?_;rintro g1 _ aH rfl;replace hs:=hs.call aH;have ag:=aH.le;obtain⟨aT,bV,cU,cr⟩:=dU ag aT bV cU cr;clear aH;refine Wp 1 rfl<|cO<|hZ [(0,vI 1),(2,vI 1),(1,vI 11),(7,vI 4),(11,vI 2),(14,vI 1),(15,vI 1),(5,vI 10),(6,vI 15)] (bK (MI 11 10 15)) [(0,1),(1,1),(2,1),(3,1),(4,1),(5,1),(6,1),(7,1),(8,1),(9,1),(10,1),(11,1),(12,1),(13,1),(14,1),(15,1),(16,1),(17,1),(18,1)] rfl<|hZ [(0,vI 1),(2,vI 1),(1,vI 12),(7,vI 4),(11,vI 2),(14,vI 1),(15,vI 1),(5,vI 20),(6,vI 25)] (bK (MI 12 20 25)) [(0,1),(1,1),(2,1),(3,1),(4,1),(5,1),(6,1),(7,1),(8,1),(9,1),(10,1),(11,1),(12,1),(13,1),(14,1),(15,1),(16,1),(17,1),(18,1)] rfl<|iX [(0,fv (MI 11 10 15)),(1,fv (MI 12 20 25))] (fl [MI 11 10 15,MI 12 20 25]) hs rfl rfl fun bP gl hs ag=>?_;obtain⟨aT,bV,cU,cr⟩:=dU ag aT bV cU cr;obtain⟨gz,gX,dk,iw,aA⟩:=hs.cD (α:=bc) (xs:=[MI 11 10 15,MI 12 20 25]) (i:=0) rfl (cR.fl _ _);clear ag;have ag:=iw;rw[←gX];(repeat clear hs);have hs:St g gz [oB PG (.slice none 0 0) (.slice (vA bL) 1 1) (.slice (vA bF) 1 1) (.slice (vA bQ) 2 2) (.slice (vA bH) 1 1),oA b3 (uP 4 0 2 1),oB b2 (.slice none 0 0) (.slice (vA bL) 1 1) (.slice (vA bF) 1 1) (.slice (vA bQ) 2 2) (.slice none 0 0)]:=dk;clear dk;obtain⟨aT,bV,cU,cr⟩:=dU ag aT bV cU cr;refine Wp 1 rfl<|dC 2 hs rfl fun g1 hs ag=>?_;obtain⟨aA,aT,bV,cU,cr⟩:=mY ag aA aT bV cU cr;(repeat clear sT);replace hs:St g g1 [oB PG (.slice none 0 0) (.slice (vA bL) 1 1) (.slice (vA bF) 1 1) (.slice (vA bQ) 2 2) (.slice (vA bH) 1 1),oA b3 (uP 4 0 2 1),oB b2 (.slice (vA bP) 2 2) (.slice (vA bL) 1 1) (.slice (vA bF) 1 1) (.slice (vA bQ) 2 2) (.slice none 0 0)]:=hs;refine jd 1 [.o 2] hs rfl<|d_ rfl (JY _ (wL Ci []) 4 20 _ (qR aA aT bV cU (Rs.nil _)) (KX (by decide) (by decide))) ?_;rintro g1 _ aH ⟨v1,v2,rfl,aE,bB⟩;replace hs:=hs.call aH;have ag:=aH.le;obtain⟨aA,aT,bV,cU,cr⟩:=mY ag aA aT bV cU cr;clear aH;rw[show(gi (wL Ci []) 4 20).map (·.step)=[0,0]from by decide+kernel]at aE;rw[show(gi (wL Ci []) 4 20).map (·.idn)=[11,12]from by decide+kernel]at bB;refine Wp 5 rfl<|jd 28 [.o 2] hs rfl<|d_ rfl (B1 _ (wL Ci []) 4 15 _ (qR aA aT bV cU (Rs.nil _)) (KX (by decide) (by decide)) cr) fun g1 _ aH fg=>?_;replace hs:=hs.call aH;have ag:=aH.le;obtain⟨aA,aE,bB,aT,bV,cU⟩:=iB ag aA aE bB aT bV cU;replace cr:=cr.mono ag;clear aH;rw[show wG (wL Ci []) 4 15=[1]from by decide+kernel]at fg;refine iX [(0,vI (1))] [vI (1)] hs rfl rfl fun bl gl hs ag=>?_;obtain⟨aA,aE,bB,aT,bV,cU⟩:=iB ag aA aE bB aT bV cU;obtain⟨fg,cr⟩:=cA ag fg cr;obtain⟨gz,gX,dk,iw,ij⟩:=hs.cD (α:=Int) (xs:=[1]) (i:=0) rfl (cR.ints _ [1]);clear ag;have ag:=iw;rw[←gX];replace hs:=dk;clear dk;obtain⟨aA,aE,bB,aT,bV,cU⟩:=iB ag aA aE bB aT bV cU;obtain⟨fg,cr⟩:=cA ag fg cr;refine d_ rfl (rO _ _ _ _ _ fg ij) ?_;rintro g1 _ aH rfl;replace hs:=hs.call aH;have ag:=aH.le;obtain⟨aA,aE,bB,aT,bV,cU⟩:=iB ag aA aE bB aT bV cU;obtain⟨fg,ij,cr⟩:=eS ag fg ij cr;clear aH;refine cT (.bool true) (t:=97) rfl (congrArg Value.bool (by decide))<|Wm 3 [.o 2] hs rfl ?_;clear fg ij;refine d_ rfl (B1 _ (wL Ci []) 4 5 _ (qR aA aT bV cU (Rs.nil _)) (KX (by decide) (by decide)) cr) fun g1 _ aH fg=>?_;replace hs:=hs.call aH;have ag:=aH.le;obtain⟨aA,aE,bB,aT,bV,cU⟩:=iB ag aA aE bB aT bV cU;replace cr:=cr.mono ag;clear aH;rw[show wG (wL Ci []) 4 5=[0]from by decide+kernel]at fg;refine iX [(0,vI (0))] [vI (0)] hs rfl rfl fun bl gl hs ag=>?_;obtain⟨aA,aE,bB,aT,bV,cU⟩:=iB ag aA aE bB aT bV cU;obtain⟨fg,cr⟩:=cA ag fg cr;obtain⟨gz,gX,dk,iw,ij⟩:=hs.cD (α:=Int) (xs:=[0]) (i:=0) rfl (cR.ints _ [0]);clear ag;have ag:=iw;rw[←gX];replace hs:=dk;clear dk;obtain⟨aA,aE,bB,aT,bV,cU⟩:=iB ag aA aE bB aT bV cU;obtain⟨fg,cr⟩:=cA ag fg cr;refine d_ rfl (rO _ _ _ _ _ fg ij) ?_;rintro g1 _ aH rfl;replace hs:=hs.call aH;have ag:=aH.le;obtain⟨aA,aE,bB,aT,bV,cU⟩:=iB ag aA aE bB aT bV cU;obtain⟨fg,ij,cr⟩:=eS ag fg ij cr;clear aH;refine cT (.bool true) (t:=103) rfl (congrArg Value.bool (by decide))<|Wp 3 rfl ?_;clear fg ij;refine iX [(0,vI (0)),(1,vI (0))] [vI (0),vI (0)] hs rfl rfl fun bl gl hs ag=>?_;obtain⟨aA,aE,bB,aT,bV,cU⟩:=iB ag aA aE bB aT bV cU;replace cr:=cr.mono ag;obtain⟨gz,gX,dk,iw,ij⟩:=hs.cD (α:=Int) (xs:=[0,0]) (i:=0) rfl (cR.ints _ [0,0]);clear ag;have ag:=iw;rw[←gX];replace hs:=dk;clear dk;obtain⟨aA,aE,bB,aT,bV,cU⟩:=iB ag aA aE bB aT bV cU;replace cr:=cr.mono ag;refine d_ rfl (rO _ _ _ _ _ aE ij) ?_;rintro g1 _ aH rfl;replace hs:=hs.call aH;have ag:=aH.le;obtain⟨aA,bB,aT,bV,cU,ij⟩:=iB ag aA bB aT bV cU ij;replace cr:=cr.mono ag;clear aH;refine cT (.bool true) (t:=108) rfl (congrArg Value.bool (by decide))<|Wp 3 rfl ?_;clear ij;refine iX [(0,vI (11)),(1,vI (12))] [vI (11),vI (12)] hs rfl rfl fun bl gl hs ag=>?_;obtain⟨aA,bB,aT,bV,cU,cr⟩:=iB ag aA bB aT bV cU cr;obtain⟨gz,gX,dk,iw,ij⟩:=hs.cD (α:=Int) (xs:=[11,12]) (i:=0) rfl (cR.ints _ [11,12]);clear ag;have ag:=iw;rw[←gX];replace hs:=dk;clear dk;obtain⟨aA,bB,aT,bV,cU,cr⟩:=iB ag aA bB aT bV cU cr;refine d_ rfl (rO _ _ _ _ _ bB ij) ?_;rintro g1 _ aH rfl;replace hs:=hs.call aH;have ag:=aH.le;obtain⟨aA,aT,bV,cU,ij,cr⟩:=iB ag aA aT bV cU ij cr;clear aH;refine cT (.bool true) (t:=113) rfl (congrArg Value.bool (by decide))<|Wm 3 [.o 2] hs rfl ?_;clear ij;refine d_ rfl (GK _ (wL Ci []) _ (qR aA aT bV cU (Rs.nil _)) (KX (by decide) (by decide)) cr) fun g1 _ aH fg=>?_;replace hs:=hs.call aH;have ag:=aH.le;clear aH;rw[show qC (wL Ci [])=[12]from by decide+kernel]at fg;refine iX [(0,vI (12))] [vI (12)] hs rfl rfl fun bl gl hs ag=>?_;replace fg:=fg.mono ag;obtain⟨gz,gX,dk,iw,ij⟩:=hs.cD (α:=Int) (xs:=[12]) (i:=0) rfl (cR.ints _ [12]);clear ag;have ag:=iw;rw[←gX];replace hs:=dk;clear dk;replace fg:=fg.mono ag;refine d_ rfl (rO _ _ _ _ _ fg ij) ?_;rintro g1 _ aH rfl;replace hs:=hs.call aH;have ag:=aH.le;clear aH;exact cT (.bool true) (t:=119) rfl (congrArg Value.bool (by decide))<|aF rfl<|au (cg rfl hs rfl)
attribute [local irreducible] W WL cQ aP bG aR aQ aS cK ct
theorem FO{f:bc}(h:gE f≠[]):gD f=true:=by
 unfold gE at h;cases hv:gD f with
 |true=>rfl
 |false=>rw[hv]at h;exact absurd rfl h
theorem DE{f:bc}(h:gD f=true):f.text.length≤8192:=by
 unfold gD at h;split at h
 ·cases h
 split at h
 ·cases h
 rename_i hc;simp only[abz,decide_eq_true_eq,not_or]at hc;omega
theorem NQ{l:List bc}{day:Int}{i:Nat}{f:bc}(h:f∈(ofM l day).ls i):gD f=true:=by have h1:f∈jg (mu day l) i:=(jv _).mem_iff.1 h;obtain⟨k,hk,_⟩:=uu h1;obtain⟨_,h2⟩:=Gv day l;obtain⟨e,fL⟩:=h2 _ hk;exact FO (by rw[←e];exact fL)
theorem Sk{l:List bc}(day:Int)(hl:l.length≤1000000):EN (ofM l day):=by
 refine⟨fun i=>?_,fun f hf=>?_⟩
 ·show(dI (oh i) (jg (mu day l) i)).length≤_;rw[gh];exact aaC (yc _ _) (aaC (CZ day l) hl)
 have:=DE (NQ (i:=4) hf);omega
theorem P8(x:List Y6):UQ (mk x []):=by
 have hn:=A9 x;have hlen:(mk x []).steps.length=fU x:=DF x (fU x);have kO: ∀s∈(mk x []).steps,∃i y,i<fU x∧s=tH y (fU x) i:=by intro s hs;obtain⟨i,hi,rfl⟩:=aaU.1 (show s∈(List.range (fU x)).map fun i=>tH (x.getD i DG) (fU x) i from hs);exact⟨i,_,aa9.1 hi,rfl⟩
 have wK: ∀s∈(mk x []).steps,(∀m∈s.next,0≤m∧m<(fU x:Int))∧s.next.length≤100000:=by
  intro s hs;obtain⟨i,y,hi,rfl⟩:=kO s hs;show(∀m∈jm y (fU x) i,_)∧(jm y (fU x) i).length≤_;have h3:=(dM (c:=y.y3.tdiv 12) (n:=3) (by decide)).1;unfold jm;split
  ·rename_i h;split
   ·rename_i h2;refine⟨fun m hm=>?_,by simp⟩;rcases aav.1 hm with rfl|hm
    ·omega
    obtain rfl:=aaL.1 hm;omega
   refine⟨fun m hm=>?_,by simp⟩;obtain rfl:=aaL.1 hm;omega
  exact⟨fun m hm=>absurd hm abi,by simp⟩
 refine⟨fun e=>?_,fun s hs=>?_,fun s hs m hm=>?_,fun s hs=>?_,fun s hs=>(wK s hs).2⟩
 ·rw[e]at hlen;simp at hlen;omega
 ·obtain⟨i,y,hi,rfl⟩:=kO s hs;show h_ y≠[];unfold h_;simp
 ·rw[hlen];exact(wK s hs).1 m hm
 obtain⟨i,y,hi,rfl⟩:=kO s hs;rw[hlen];show(if aC y.y4 4=0 then aC (y.y4.tdiv 4) (i+1)else -1)<_;split
 ·have:=(dM (c:=y.y4.tdiv 4) (n:=(i:Int)+1) (by omega)).2;omega
 omega
theorem yE(f:aU)(waf idn time:Int): ∀(cs:List Int) (n:Nat) (out:List bc),(tr f waf idn time cs n out).length≤out.length+n
 |[],_,out=>Nat.le_add_right ..
 |_::_,0,out=>aaz _
 |c::cs,n+1,out=>by
  rw[tr];split
  ·omega
  have:=yE f waf idn time cs n (out++[KR f waf idn time c out]);simp only[aal,aaw,aay]at this;omega
theorem JW(t:List UInt8):(Fm t).length=124:=by simp[Fm,Fo]
def bn(c:Bool)(k:Int):Int:=bif c then k else 0
theorem R5(c1 c2 c3 c4 c5 c6:Bool):H' (H8 [c1,c2,c3,c4,c5,c6])=bn c1 1+bn c2 2+bn c3 4+bn c4 8+bn c5 16+bn c6 32:=by cases c1<;>cases c2<;>cases c3<;>cases c4<;>cases c5<;>cases c6<;>rfl
end Go.Proofs.YtkpojaffabjibaaGreatDoor
