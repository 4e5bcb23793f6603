/- Parts of the proof, from: Reading the line of a step. -/
import Derived.Test.YtbfjdfecgiegpaaGreatDoorYa
import Derived.Test.YtbfjdfecgiegpaaGreatDoorYc
import Derived.Test.YtbfjdfecgiegpaaGreatDoorYf
import Derived.Test.YtbfjdfecgiegpaaGreatDoorYe
import Derived.Test.YtbfjdfecgiegpaaGreatDoorYd
import Derived.Test.YtbfjdfecgiegpaaGreatDoorShelfP
import Derived.Test.YtbfjdfecgiegpaaGreatDoorYb
namespace Go.Proofs.YtbfjdfecgiegpaaGreatDoor
open Go Go.K Tryz
set_option maxRecDepth 10000
attribute [local irreducible] W WL cS bh bY bB bA bC cL cD
set_option maxHeartbeats 8000000
def UK(x:List UInt8):Fact:=⟨fun v g=> ∃ns,nH x=some ns∧Rs g v (ints ns),fun _ _ _ hf ⟨ns,h1,h2⟩=>⟨ns,h1,h2.mono hf.le⟩⟩
def Yu(x y:List UInt8):Fact:=⟨fun v g=> ∃(r:Nat) (tl:List Nat) (a:Option Addr) (c:Nat),gh x=some r∧nH y=some tl∧v= .agg #[vI r,.slice a tl.length c,vI 0,vI 0,.slice none 0 0,vI (-1),vI 0]∧Rs g (.slice a tl.length c) (ints tl),
 fun _ _ _ hf ⟨r,tl,a,c,h1,h2,h3,h4⟩=>⟨r,tl,a,c,h1,h2,h3,h4.mono hf.le⟩⟩
theorem UL:(⟨#[45]⟩:ByteArray).toList=[45]:=cM [45]
theorem qs(l:List Nat):(ints l).length=l.length:=by simp[ints]
theorem PT{b:Nat}(f:bG)(line:List UInt8)(hlen:line.length≤1000000)(NH:f.steps.length≤1000000){g0 g:G}{L:List df}(hF:jo g)(hO:GQ b f L g0 g):
  CallsIn Wd 0 prog 204 #[vP b,.string (bs line)] g.w fun e w'=>
   db g (fun g' r=>r= .tuple #[]∧ ∃s,tF f line=some s∧GQ b {f with steps:=f.steps++[s]} L g0 g') e w'∨
   (tF f line=none∧fJ g mZ (fun g'=> ∃cs,St g0 g' (Mm b cs::L)) e w'):=by
 have ar:=G.le.refl g;obtain⟨sa,sc,wa,wc,uR,hs,dc⟩:=hO;unfold GP at hs;unfold Mm;replace hs:St g0 g (vO b [vI f.dm,vI f.dv,.slice sa f.steps.length sc,.slice wa f.windows.length wc] 67::
  .row 115 7 (.slice sa f.steps.length sc) f.steps.length uR::
  .row 194 3 (.slice wa f.windows.length wc) f.windows.length (oJ f.windows)::L):=hs
 refine enter func204 rfl ntmps204 rfl<|c_ 6 [.o 0] hs rfl<|sO rfl (J1 f.steps.length _ (by unfold mq;omega) hF) fun g1 _ aP WJ=>?_;rw[xU]at WJ;subst WJ;replace hs:=hs.call aP;have ai:=aP.le;obtain⟨ar,dc⟩:=cr ai ar dc
 refine ak rfl rfl (bE T.ok rfl hs (vs:=[(0,.string (bs iY)),(1,.string (bs (dec f.steps.length))),(2,.string (bs gE)),(3,.string (bs [])),(4,.string (bs aaA)),(5,.string (bs [])),(6,.string (bs mG)),(7,.string (bs [])),(8,.string (bs mH)),(9,.string (bs []))])
  (cells:=[.string (bs iY),.string (bs (dec f.steps.length)),.string (bs gE),.string (bs []),.string (bs aaA),.string (bs []),.string (bs mG),.string (bs []),.string (bs mH),.string (bs [])]) rfl rfl rfl rfl rfl rfl (by decide) (by decide) (by kernel_rfl) rfl ?_)
 clear hs;rintro bl gl hs ai;obtain⟨ar,dc⟩:=cr ai ar dc;obtain⟨gz,gF,cK,gW,aW⟩:=hs.cP (α:=wh) (xs:=(PR f.steps.length).map wh.mk) (i:=0) rfl (cY.strs _ (PR f.steps.length));have ai:=gW;rw[←gF];replace hs:=cK;clear cK;obtain⟨ar,dc⟩:=cr ai ar dc;refine HL rfl (wo line (PR f.steps.length) _ _ hlen (by unfold PR;simp) (hF.mono ar) aW) ?_ ?_;rotate_left
 ·intro hn g5 rk;replace hs:=hs.call rk;replace ar:=ar.trans rk.le;(repeat (first|with_reducible refine gY ?_|with_reducible refine gZ ?_|with_reducible refine g_ ?_));exact dH (.inr ⟨hQ (J0 hn),fJ.intro ar ⟨_,(hs.drop 1).drop 1⟩⟩)
 rintro g4 v mg ⟨lg,aH⟩;replace hs:=hs.call mg;have ai:=mg.le;obtain⟨ar,dc⟩:=cr ai ar dc;obtain⟨pa,pc,rfl⟩:=aH.isSlice;rw[List.length_map]at aH⊢;have sq:=kF 32 line;have Dq:=nM 32 line;generalize sw:bW 32 line=ps at*;obtain⟨a0,a1,a2,a3,a4,a5,a6,a7,a8,a9,rest,rfl⟩:=PS lg.1;have w6:=GZ lg;have FC: ∀{n},(∀bk,jj a3 a5 a7 a9 bk=none)→fm n line=none:=fun hb=>GY sw hb;have vz:(a0::a1::a2::a3::a4::a5::a6::a7::a8::a9::rest).length=rest.length+10:=rfl;rw[vz]at aH⊢;refine aX rfl<|az ?_;have yH:=hs;apply ea (fe (.f (sh a3)::(fe (.f (GW a3)::(fe (.f (sh a5)::(fe (.f (UK a5)::(.f (Yu a3 a5)::(.f (OV g4.dr.w.heap.size [vI 0,.slice none 0 0,vI 0,vI 0,.slice none 0 0,vI 0,vI 0] 115)::[])))))))))) 10 [(8,23),(9,5)] (by kernel_rfl)
 ·refine EF [[]] rfl<|fR [(0,15)] (fun gd hf=>?_) ?_
  ·have eT:=(G.bI _).trans hf.le;exact ah rfl<|aj<|ay rfl<|aR T.ok rfl (aH.mono eT) (y:=⟨a3⟩) rfl rfl rfl rfl rfl rfl rfl fun b p ys aL gw=>⟨_,rfl,a_.refl _,b,p,rfl,by rw[←show ys=[Value.string (bs a3)]from gw];exact aL⟩
  refine fR [(1,16)] (fun gd hf=>?_) ?_
  ·skip;refine ba fun v1 h1=>?_;apply aj;obtain⟨b,p,rfl,aL⟩:=h1;refine ay rfl<|cI T.ok 0 rfl aL rfl rfl<|⟨_,rfl,a_.refl _,?_⟩;exact rfl
  refine fR [(2,17)] (fun gd hf=>?_) ?_
  ·have eJ:=hs.dr.call hf;have eT:=(G.bI _).trans hf.le;refine ah rfl<|aj<|ay rfl<|cC (Wc 250) aK rfl rfl rfl rfl rfl (j6 a3 _ (Nat.le_trans (sq a3 (by simp)) hlen) (hF.mono (ar.trans eT))) (fun g' v eR h=>⟨g',rfl,eR,h⟩) fun hn g' eR=>?_
   replace eJ:=eJ.call eR;(repeat (first|with_reducible refine gY ?_|with_reducible refine gZ ?_|with_reducible refine g_ ?_));exact dH (.inr ⟨hQ (FC fun _=>Mo hn),fJ.intro ((ar.trans eT).trans eR.le) ⟨_,(eJ.drop 1).drop 1⟩⟩)
  refine EF [[]] rfl<|fR [(4,19)] (fun gd hf=>?_) ?_
  ·have eT:=(G.bI _).trans hf.le;exact ah rfl<|aj<|ay rfl<|aR T.ok rfl (aH.mono eT) (y:=⟨a5⟩) rfl rfl rfl rfl rfl rfl rfl fun b p ys aL gw=>⟨_,rfl,a_.refl _,b,p,rfl,by rw[←show ys=[Value.string (bs a5)]from gw];exact aL⟩
  refine fR [(5,20)] (fun gd hf=>?_) ?_
  ·skip;refine ba fun v5 h5=>?_;apply aj;obtain⟨b,p,rfl,aL⟩:=h5;refine ay rfl<|cI T.ok 0 rfl aL rfl rfl<|⟨_,rfl,a_.refl _,?_⟩;exact rfl
  refine fR [(6,21)] (fun gd hf=>?_) ?_
  ·have eJ:=hs.dr.call hf;have eT:=(G.bI _).trans hf.le;refine ah rfl<|aj<|ay rfl<|cC (Wc 251) aK rfl rfl rfl rfl rfl (J2 a5 _ (Nat.le_trans (sq a5 (by simp)) hlen) (hF.mono (ar.trans eT))) (fun g' v eR h=>⟨g',rfl,eR,h⟩) fun hn g' eR=>?_
   replace eJ:=eJ.call eR;(repeat (first|with_reducible refine gY ?_|with_reducible refine gZ ?_|with_reducible refine g_ ?_));exact dH (.inr ⟨hQ (FC fun _=>Mp hn),fJ.intro ((ar.trans eT).trans eR.le) ⟨_,(eJ.drop 1).drop 1⟩⟩)
  refine fR [(3,18),(7,22)] (fun gd hf=>?_) ?_
  ·skip;refine ba fun v3 h3=>?_;refine ba fun v7 h7=>?_;apply aj;obtain⟨r,hr,rfl⟩:=h3;obtain⟨tl,ht,Yv⟩:=h7;obtain⟨ta,tc,rfl⟩:=Yv.isSlice;rw[qs]at Yv⊢;exact ay rfl<|aS T.ok rfl (vs:=[(0,vI r),(1,.slice ta tl.length tc),(5,vI (-1))]) (cells:=[vI r,.slice ta tl.length tc,vI 0,vI 0,.slice none 0 0,vI (-1),vI 0]) rfl rfl rfl rfl [(0,1),(1,1),(2,1),(3,1),(4,1),(5,1),(6,1)] rfl (by kernel_rfl)<|⟨_,rfl,a_.refl _,r,tl,ta,tc,hr,ht,rfl,Yv⟩
  refine fR [] (fun gd hf=>?_) ?_
  ·skip;refine aj<|ay rfl<|aN T.ok rfl (St.start gd) rfl rfl fun b g' lB hle=>?_;have ho:=lB.own 0 _ rfl;exact⟨g',rfl,lB.rh,b,rfl,Nat.le_trans hf.below.size ho.1,ho.2⟩
  exact gG
 intro g1 aP;refine ba fun v8 h8=>?_;refine ba fun v9 h9=>?_;apply aj;replace hs:=hs.dr.call aP;have ai:=(G.bI _).trans aP.le;obtain⟨ar,aH,dc⟩:=dR ai ar aH dc;obtain⟨r,tl,ta,tc,hr,ht,rfl,cd⟩:=h8;obtain⟨bx,rfl,EY⟩:=h9;replace hs:=yH.dr.lr aP EY;clear yH;refine sN 0 hs rfl fun g1 hs ai=>?_;obtain⟨ar,aH,cd,dc⟩:=dK ai ar aH cd dc;refine b_<|cG 1 rfl<|zc (y:=⟨a7⟩) aH rfl rfl ?_;rintro bq pq ys aL rfl;refine q5 1 [.e aL 0] rfl<|HL rfl (J3 a7 _ (Nat.le_trans (sq a7 (by simp)) hlen) (hF.mono ar)) ?_ ?_
 rotate_left
 ·intro hn g5 rk;replace hs:=hs.call rk;replace ar:=ar.trans rk.le;(repeat (first|with_reducible refine gY ?_|with_reducible refine gZ ?_|with_reducible refine g_ ?_));exact dH (.inr ⟨hQ (FC fun _=>Mq hn),fJ.intro ar ⟨_,((hs.drop 0).drop 1).drop 1⟩⟩)
 rintro g6 _ nY ⟨m,n,Gz,rfl⟩;replace hs:=hs.call nY;have ai:=nY.le;obtain⟨ar,aH,cd,dc⟩:=dK ai ar aH cd dc;refine Wp 4 rfl<|sN 0 hs rfl fun g1 hs ai=>?_;obtain⟨ar,aH,cd,dc⟩:=dK ai ar aH cd dc;refine Wp 1 rfl<|sN 0 hs rfl fun g1 hs ai=>?_;obtain⟨ar,aH,cd,dc⟩:=dK ai ar aH cd dc;refine b_<|az<|cG 1 rfl<|zc (y:=⟨a9⟩) aH rfl rfl ?_;rintro bq pq ys aL rfl;refine q5 1 [.e aL 0] rfl<|aX rfl ?_;refine mu (fun a' w=> ∃(na:Option Addr) (nc:Nat) (nx:List Nat) (g':G),w=g'.w∧g1.le g'∧rv a9=some nx∧Rs g' (.slice na nx.length nc) (ints nx)∧
  St g0 g' (vO bx [vI r,.slice ta tl.length tc,vI m,vI n,.slice na nx.length nc,vI (-1),vI (0)] 115::
   vO b [vI f.dm,vI f.dv,.slice sa f.steps.length sc,.slice wa f.windows.length wc] 67::
   .row 115 7 (.slice sa f.steps.length sc) f.steps.length uR::
   .row 194 3 (.slice wa f.windows.length wc) f.windows.length (oJ f.windows)::L)∧
  Fr 91 [] [(0,vP b),(1,.string (bs line)),(4,.slice pa (rest.length+10) pc),(5,vP bx)] a') ?_ ?_
 ·by_cases h9:a9=[45]
  ·refine aQ (b:=_) ?_ rfl ?_
   ·rw[cM,UL];simp[h9]
   exact aF<|fun a ha=>⟨none,0,[],g1,rfl,G.le.refl _,by unfold rv;rw[if_pos h9],Rs.nil _,hs,ha.kp rfl⟩
  refine aJ (b:=_) ?_ rfl ?_
  ·rw[cM,UL];simp[h9]
  have vX:=G.le.refl g1;refine an<|Wp 1 rfl<|zc (y:=⟨a9⟩) aH rfl rfl ?_;rintro bq pq ys aL rfl;refine q5 1 [.e aL 0] rfl ?_;have EA:rv a9=nH a9:=by unfold rv;rw[if_neg h9]
  refine HL rfl (J2 a9 _ (Nat.le_trans (sq a9 (by simp)) hlen) (hF.mono ar)) ?_ ?_;rotate_left
  ·intro hn g5 rk;replace hs:=hs.call rk;replace ar:=ar.trans rk.le;(repeat (first|with_reducible refine gY ?_|with_reducible refine gZ ?_|with_reducible refine g_ ?_));exact dH (.inr ⟨hQ (FC fun _=>Mr (by rw[EA];exact hn)),fJ.intro ar ⟨_,((hs.drop 0).drop 1).drop 1⟩⟩)
  rintro g7 v C2 ⟨nx,j_,bR⟩;obtain⟨na,nc,rfl⟩:=bR.isSlice;rw[qs]at bR⊢;replace hs:=hs.call C2;have ai:=C2.le;obtain⟨ar,vX,cd,dc⟩:=dK ai ar vX cd dc;refine Wp 1 rfl<|sN 0 hs rfl fun g8 hs ai=>?_;obtain⟨ar,vX,cd,bR,dc⟩:=nX ai ar vX cd bR dc;exact aA<|fun a ha=>⟨na,nc,nx,g8,rfl,vX,by rw[EA,j_],bR,hs,ha.kp rfl⟩
 clear hs;rintro a' _ ⟨na,nc,nx,g7,rfl,ai,j_,bR,hs,dW⟩;obtain⟨ar,cd,dc⟩:=dR ai ar cd dc;revert a';refine ct<|az<|aZ rfl ?_
 refine mu (fun a' w=> ∃(bk lm:Int) (g':G),w=g'.w∧g7.le g'∧fm f.steps.length line=some ⟨r,ints tl,m,n,ints nx,bk,lm⟩∧
  St g0 g' (vO bx [vI r,.slice ta tl.length tc,vI m,vI n,.slice na nx.length nc,vI (bk),vI (lm)] 115::
   vO b [vI f.dm,vI f.dv,.slice sa f.steps.length sc,.slice wa f.windows.length wc] 67::
   .row 115 7 (.slice sa f.steps.length sc) f.steps.length uR::
   .row 194 3 (.slice wa f.windows.length wc) f.windows.length (oJ f.windows)::L)∧
  Fr 91 [] [(0,vP b),(5,vP bx)] a') ?_ ?_
 ·by_cases FZ:rest.length=0
  ·obtain rfl:=List.length_eq_zero_iff.1 FZ;refine aQ (b:=_) ?_ rfl ?_
   ·simp
   exact aF<|fun a ha=>⟨-1,0,g7,rfl,G.le.refl _,by rw[Ej sw w6,FB hr ht Gz j_],hs,ha.kp rfl⟩
  refine aJ (b:=_) ?_ rfl ?_
  ·simp;omega
  have vX:=G.le.refl g7;have UM:10<(bW 32 line).length:=by rw[sw,vz];omega
  refine cG 1 rfl ?_;refine ak rfl rfl (bE T.ok rfl hs (vs:=[(0,.string (bs [])),(1,.string (bs [])),(2,.string (bs [])),(3,.string (bs [])),(4,.string (bs [])),(5,.string (bs [])),(6,.string (bs [])),(7,.string (bs [])),(8,.string (bs [])),(9,.string (bs [])),(10,.string (bs lX)),(11,.string (bs [])),(12,.string (bs iF)),(13,.string (bs []))])
   (cells:=[.string (bs []),.string (bs []),.string (bs []),.string (bs []),.string (bs []),.string (bs []),.string (bs []),.string (bs []),.string (bs []),.string (bs []),.string (bs lX),.string (bs []),.string (bs iF),.string (bs [])]) rfl rfl rfl rfl rfl rfl (by decide) (by decide) (by kernel_rfl) rfl ?_)
  clear hs;rintro bl gl hs ai;obtain⟨ar,vX,cd,bR,dc⟩:=nX ai ar vX cd bR dc;obtain⟨gz,gF,cK,gW,cj⟩:=hs.cP (α:=wh) (xs:=Qv.map wh.mk) (i:=0) rfl (cY.strs _ Qv);have ai:=gW;rw[←gF];replace hs:=cK;clear cK;obtain⟨ar,vX,cd,bR,dc⟩:=nX ai ar vX cd bR dc;refine HL rfl (wo line Qv _ _ hlen (by decide) (hF.mono ar) cj) ?_ ?_;rotate_left
  ·intro hn g5 rk;replace hs:=hs.call rk;replace ar:=ar.trans rk.le;(repeat (first|with_reducible refine gY ?_|with_reducible refine gZ ?_|with_reducible refine g_ ?_));exact dH (.inr ⟨hQ (G2 UM hn),fJ.intro ar ⟨_,((hs.drop 0).drop 1).drop 1⟩⟩)
  clear cj;rintro g4 v mg ⟨ZV,cj⟩;replace hs:=hs.call mg;have ai:=mg.le;obtain⟨ar,vX,cd,bR,dc⟩:=nX ai ar vX cd bR dc;obtain⟨qa,qc,rfl⟩:=cj.isSlice;rw[List.length_map]at cj⊢;rw[sw]at ZV cj⊢;rw[vz]at cj⊢;refine aX rfl<|cG 3 rfl ?_;by_cases h4:rest.length=4
  ·obtain⟨b0,b1,b2,b3,rfl⟩:=Fz h4;refine bM 50 (b':=true) (by simp) rfl ?_;have tg:=G1 sw w6 ZV;refine HL rfl (eA true _) ?_ fun h=>(by cases h);rintro g3 _ fD ⟨rfl,_⟩;replace hs:=hs.call fD;have ai:=fD.le;obtain⟨ar,vX,cd,bR,cj,dc⟩:=hZ ai ar vX cd bR cj dc;apply b_;apply ea (fe (.f (sh b1)::(fe (.f (GW b1)::(fe (.f (sh b3)::(fe (.f (GW b3)::(fe []))))))))) 9 [(3,55),(7,59),(8,60)] (by kernel_rfl)
   ·refine EF [[]] rfl<|fR [(0,52)] (fun gd hf=>?_) ?_
    ·have eT:=(G.bI _).trans hf.le;exact ah rfl<|aj<|ay rfl<|aR T.ok rfl (cj.mono eT) (y:=⟨b1⟩) rfl rfl rfl rfl rfl rfl rfl fun b p ys aL gw=>⟨_,rfl,a_.refl _,b,p,rfl,by rw[←show ys=[Value.string (bs b1)]from gw];exact aL⟩
    refine fR [(1,53)] (fun gd hf=>?_) ?_
    ·skip;refine ba fun v1 h1=>?_;apply aj;obtain⟨b,p,rfl,aL⟩:=h1;refine ay rfl<|cI T.ok 0 rfl aL rfl rfl<|⟨_,rfl,a_.refl _,?_⟩;exact rfl
    refine fR [(2,54)] (fun gd hf=>?_) ?_
    ·have eJ:=hs.dr.call hf;have eT:=(G.bI _).trans hf.le;refine ah rfl<|aj<|ay rfl<|cC (Wc 250) aK rfl rfl rfl rfl rfl (j6 b1 _ (Nat.le_trans (sq b1 (by simp)) hlen) (hF.mono (ar.trans eT))) (fun g' v eR h=>⟨g',rfl,eR,h⟩) fun hn g' eR=>?_
     replace eJ:=eJ.call eR;(repeat (first|with_reducible refine gY ?_|with_reducible refine gZ ?_|with_reducible refine g_ ?_));exact dH (.inr ⟨hQ (by rw[tg];unfold vj;rw[hn];exact FA),fJ.intro ((ar.trans eT).trans eR.le) ⟨_,((eJ.drop 0).drop 1).drop 1⟩⟩)
    refine EF [[]] rfl<|fR [(4,56)] (fun gd hf=>?_) ?_
    ·have eT:=(G.bI _).trans hf.le;exact ah rfl<|aj<|ay rfl<|aR T.ok rfl (cj.mono eT) (y:=⟨b3⟩) rfl rfl rfl rfl rfl rfl rfl fun b p ys aL gw=>⟨_,rfl,a_.refl _,b,p,rfl,by rw[←show ys=[Value.string (bs b3)]from gw];exact aL⟩
    refine fR [(5,57)] (fun gd hf=>?_) ?_
    ·skip;refine ba fun v5 h5=>?_;apply aj;obtain⟨b,p,rfl,aL⟩:=h5;refine ay rfl<|cI T.ok 0 rfl aL rfl rfl<|⟨_,rfl,a_.refl _,?_⟩;exact rfl
    refine fR [(6,58)] (fun gd hf=>?_) ?_
    ·have eJ:=hs.dr.call hf;have eT:=(G.bI _).trans hf.le;refine ah rfl<|aj<|ay rfl<|cC (Wc 250) aK rfl rfl rfl rfl rfl (j6 b3 _ (Nat.le_trans (sq b3 (by simp)) hlen) (hF.mono (ar.trans eT))) (fun g' v eR h=>⟨g',rfl,eR,h⟩) fun hn g' eR=>?_
     replace eJ:=eJ.call eR;(repeat (first|with_reducible refine gY ?_|with_reducible refine gZ ?_|with_reducible refine g_ ?_));exact dH (.inr ⟨hQ (by rw[tg];unfold vj;rw[hn];(cases gh b1<;>exact FA)),fJ.intro ((ar.trans eT).trans eR.le) ⟨_,((eJ.drop 0).drop 1).drop 1⟩⟩)
    exact HW [[]] rfl
   intro g1 aP;refine ba fun v3 h3=>?_;refine ba fun v7 h7=>?_;refine ah rfl ?_;apply aj;replace hs:=hs.dr.call aP;have ai:=(G.bI _).trans aP.le;obtain⟨ar,vX,cd,bR,dc⟩:=nX ai ar vX cd bR dc;obtain⟨bk,Qf,rfl⟩:=h3;obtain⟨lm,Kf,rfl⟩:=h7;refine sN 0 hs rfl fun g8 hs ai=>?_;obtain⟨ar,vX,cd,bR,dc⟩:=nX ai ar vX cd bR dc;refine Wp 1 rfl<|sN 0 hs rfl fun g9 hs ai=>?_;obtain⟨ar,vX,cd,bR,dc⟩:=nX ai ar vX cd bR dc;exact aA<|fun a ha=>⟨bk,lm,g9,rfl,vX,by rw[tg];unfold vj;rw[Qf,Kf];exact FB hr ht Gz j_,hs,ha.kp rfl⟩
  refine bM 50 (b':=false) (by simp;omega) rfl<|HL rfl (eA false _) ?_ ?_
  ·rintro g3 _ fD ⟨_,hc⟩;cases hc
  intro _ g3 fD;replace hs:=hs.call fD;replace ar:=ar.trans fD.le;(repeat (first|with_reducible refine gY ?_|with_reducible refine gZ ?_|with_reducible refine g_ ?_));exact dH (.inr ⟨hQ (G3 UM (by rw[sw,vz];omega)),fJ.intro ar ⟨_,((hs.drop 0).drop 1).drop 1⟩⟩)
 clear hs;rintro a' _ ⟨bk,lm,g8,rfl,ai,dI,hs,dW⟩;obtain⟨ar,cd,bR,dc⟩:=dK ai ar cd bR dc;revert a';refine ct<|c_ 1 [.o 0] hs rfl<|sO rfl (vu _ ⟨r,ints tl,m,n,ints nx,bk,lm⟩ 40 _ ⟨[vI r,.slice ta tl.length tc,vI m,vI n,.slice na nx.length nc,vI bk,vI lm],rfl,ta,tl.length,tc,na,nx.length,nc,rfl,cd,bR⟩ (by decide) (by decide)) ?_;rintro g9 _ FM rfl;replace hs:=hs.call FM;have ai:=FM.le;obtain⟨ar,cd,bR,dc⟩:=dK ai ar cd bR dc;have Qw:tF f line=if(cf ⟨r,ints tl,m,n,ints nx,bk,lm⟩ 40&&decide ((f.steps.length:Int)<40)&&decide ((f.windows.length:Int)=0))=true then some ⟨r,ints tl,m,n,ints nx,bk,lm⟩else none:=by unfold tF;rw[dI];rfl
 cases yP:cf ⟨r,ints tl,m,n,ints nx,bk,lm⟩ 40 with
 |false=>
  refine Wp 16 rfl<|HL rfl (eA false _) ?_ ?_
  ·rintro g3 _ fD ⟨_,hc⟩;cases hc
  intro _ g3 fD;replace hs:=hs.call fD;replace ar:=ar.trans fD.le;(repeat (first|with_reducible refine gY ?_|with_reducible refine gZ ?_|with_reducible refine g_ ?_));exact dH (.inr ⟨by rw[Qw,yP];rfl,fJ.intro ar ⟨_,((hs.drop 0).drop 1).drop 1⟩⟩)
 |true=>
 refine Wm 9 [.o 1] hs rfl ?_;by_cases YW:f.steps.length<40
 ·refine bM 72 (b':=true) (by simp;omega) rfl<|Wm 7 [.o 1] hs rfl ?_;by_cases Vn:f.windows.length=0
  ·refine bM 79 (b':=true) (by simp[Vn]) rfl<|HL rfl (eA true _) ?_ fun h=>(by cases h)
   rintro g3 _ fD ⟨rfl,_⟩;replace hs:=hs.call fD;have ai:=fD.le;obtain⟨ar,cd,bR,dc⟩:=dK ai ar cd bR dc;replace Qw:tF f line=some ⟨r,ints tl,m,n,ints nx,bk,lm⟩:=by rw[Qw,yP,decide_eq_true (by omega:(f.steps.length:Int)<40),decide_eq_true (by omega:(f.windows.length:Int)=0)];rfl
   apply b_;apply E6 aK rfl (Fact.eq _::Fact.eq _::Fact.eq _::Fact.eq _::Fact.eq _::Fact.eq _::(Fact.rs [(⟨r,ints tl,m,n,ints nx,bk,lm⟩:Step)])::(TV g0 (fun v Vr=>vO bx [vI r,.slice ta tl.length tc,vI m,vI n,.slice na nx.length nc,vI bk,vI lm] 115::vO b [vI f.dm,vI f.dv,.slice sa f.steps.length sc,.slice wa f.windows.length wc] 67:: .row 115 7 v (f.steps.length+1) Vr:: .row 194 3 (.slice wa f.windows.length wc) f.windows.length (oJ f.windows)::L) (f.steps.length+1) (f.steps++[(⟨r,ints tl,m,n,ints nx,bk,lm⟩:Step)]))::[]) 8 [(0,81),(7,88)] [] [1,2,3,4,5,6] 7 rfl (by kernel_rfl) (by kernel_rfl)
   case houts=>exact rfl
   case hsoft=>(repeat (first|exact u7|apply u9|refine cU (kL _) ?_|refine cU (cz _) ?_|refine cU (kH _ _) ?_|refine cU (jv _) ?_|refine cU (aaF _) ?_|refine cU (iH _) ?_|refine cU (oI _) ?_|refine cU (l7 _) ?_|refine u_ (by exact rfl) ?_))
   ·refine aY (p9 (js:=[]) (by kernel_rfl) (by exact rfl) fun gd hf=>?_) ?_
    ·skip;apply aj;(refine ay rfl ?_;refine aE _ T.ok rfl ?_;refine⟨_,rfl,a_.refl _,?_⟩;exact rfl)
    refine w3 [] (fun gd hf=>aj (aaL rfl rfl))<|w3 [(1,82)] (fun gd hf=>aax rfl (aaL rfl rfl))<|w3 [(2,83)] (fun gd hf=>aax rfl (aaL rfl rfl))<|w3 [(3,84)] (fun gd hf=>aax rfl (ay rfl (cJ T.ok 1 rfl (hs.dr.call hf) rfl rfl rfl (aav rfl))))<|w3 [] (fun gd hf=>aj (ay rfl (cJ T.ok 0 rfl (hs.dr.call hf) rfl rfl rfl (aav rfl))))<|w3 [(5,86)] (fun gd hf=>?_) ?_
    ·have eT:=(G.bI _).trans hf.le;refine ah rfl<|aj<|ay rfl<|bE T.ok rfl (St.start gd) (vs:=[(0,.agg #[vI r,.slice ta tl.length tc,vI m,vI n,.slice na nx.length nc,vI bk,vI lm])]) (cells:=[vI r,.slice ta tl.length tc,vI m,vI n,.slice na nx.length nc,vI bk,vI lm]) rfl rfl rfl rfl rfl rfl (by decide) (by decide) (by kernel_rfl) rfl fun b2 g2 tK PQ=>?_;obtain⟨g3,vT,ED,Ak,oZ⟩:=tK.cP (α:=Step) (xs:=[⟨r,ints tl,m,n,ints nx,bk,lm⟩]) (i:=0) rfl ⟨_,[],by rw[List.append_nil],⟨ta,tl.length,tc,na,nx.length,nc,rfl,cd.mono (eT.trans PQ),bR.mono (eT.trans PQ)⟩,rfl⟩;exact⟨g3,vT,ED.rh,oZ⟩
    refine aY (vc (js:=[(4,85),(6,87)]) (by kernel_rfl) fun gd hf=>?_) ?_
    ·have eJ:=hs.dr.call hf;have eT:=(G.bI _).trans hf.le;refine ah rfl<|ba fun v6 h6=>?_
     apply aj;obtain⟨ax,cx,rfl⟩:=Rs.isSlice h6;obtain⟨_,news,JP,iu⟩:=Src.jx h6;refine⟨rfl,?_⟩;exact bU T.ok 2 rfl eJ rfl rfl rfl rfl rfl rfl rfl (by decide) rfl iu JP.one (by show(f.steps.length+1)*88≤_;omega) (by unfold maxLen;show f.steps.length+1≤_;omega) fun a' c' g8 tW mc=>⟨g8,rfl,mc,a',c',_,rfl,tW,cY.app (JP.mono mc) (dc.mono (eT.trans mc))⟩
    exact vb
   intro g1 aP;refine ah rfl<|ba fun v7 h7=>?_;apply aj
   have ai:=(G.bI _).trans aP;replace ar:=G.le.trans ar ai;obtain⟨ZW,ZX,Yw,rfl,hs,Yx⟩:=h7;refine Wp 2 rfl<|sN 1 hs rfl fun g9 hs ai=>?_;replace ar:=G.le.trans ar ai;refine aA<|lC rfl (.inl (db.intro ar ⟨rfl,_,Qw,ZW,ZX,wa,wc,Yw,?_,Yx.mono ai⟩));have aV:=hs.drop 0;show St g0 _ (.obj b _:: .row _ 7 (.slice ZW (f.steps++[_]).length ZX) (f.steps++[_]).length _:: .row _ 3 _ _ _::L);rw[List.length_append];exact aV
  refine bM 79 (b':=false) (by simp[Vn]) rfl<|HL rfl (eA false _) ?_ ?_
  ·rintro g3 _ fD ⟨_,hc⟩;cases hc
  intro _ g3 fD;replace hs:=hs.call fD;replace ar:=ar.trans fD.le;(repeat (first|with_reducible refine gY ?_|with_reducible refine gZ ?_|with_reducible refine g_ ?_));exact dH (.inr ⟨by rw[Qw,decide_eq_false (by omega: ¬(f.windows.length:Int)=0),Bool.and_false];rfl,fJ.intro ar ⟨_,((hs.drop 0).drop 1).drop 1⟩⟩)
 refine bM 72 (b':=false) (by simp;omega) rfl<|Wp 7 rfl<|HL rfl (eA false _) ?_ ?_
 ·rintro g3 _ fD ⟨_,hc⟩;cases hc
 intro _ g3 fD;replace hs:=hs.call fD;replace ar:=ar.trans fD.le;(repeat (first|with_reducible refine gY ?_|with_reducible refine gZ ?_|with_reducible refine g_ ?_));exact dH (.inr ⟨by rw[Qw,decide_eq_false (by omega: ¬(f.steps.length:Int)<40),Bool.and_false,Bool.false_and];rfl,fJ.intro ar ⟨_,((hs.drop 0).drop 1).drop 1⟩⟩)
end Go.Proofs.YtbfjdfecgiegpaaGreatDoor
namespace Go.Proofs.YtbfjdfecgiegpaaGreatDoor
open Go Go.K Tryz
set_option maxRecDepth 10000
attribute [local irreducible] W WL cS bh bY bB bA bC cL cD
set_option maxHeartbeats 4000000
theorem ik{fn:Func}{tb:Tb}{P:Program}{g0 g:G}{L:List df}(dE:tb.ok P){tmps:Array Value}{t tt b:Nat}{v:Value}{cs:List Value}{E:TypeId}{fz:Nat×Nat}(i:Nat)(hr:fn.results=#[.cell t tt])(hs:St g0 g L)
  (h1:tmps[t]? =some (vP b)) (hi:L[i]? =some (.obj b (.cells cs.toArray E fz))) (hv:Ar tb tt cs 0=some v):
  (results fn tmps).run P g.w= .ok v g.w:=by
 have e1:=jD (P:=P) (w:=g.w) (off:=0) (o:=0) dE hv (lI (hs.own i _ hi).2.1);simp only[Nat.add_zero]at e1;simp[results,hr,h1,asAddr,e1]
theorem sj{b6:Nat}{v6:Bool}{g0 g:G}{e0:df}{L:List df}(hs:St g0 g (e0::vO b6 [Value.bool v6] 4::L)):
  CallsDIn Wd 0 prog 202 #[vP b6] (.panicking mZ) g.w fun en u' w'=>en= .returned (.tuple #[])∧u'= .panicking [{v:=.iface 273 (.agg #[]),recovered:=true}]∧
   ∃g',g'.w=w'∧g.le g'∧St g0 g' (e0::vO b6 [Value.bool false] 4::L):=by
 refine callsDIn_of_wpSIn func202 rfl trivial fun c₀ cs hu=>?_;apply wpSIn_seq;apply wpSIn_region;simp[wpOpsSIn,go_sem,recoverD,hu,mZ,ntmps202,Exit.thenS];refine Fa (N:=5) (l:=[(0,vP b6),(1,.iface 273 (.agg #[])),(2,.iface 273 (.agg #[]))]) rfl (by simp) (by simp[r_]) ?_;have ar:=G.le.refl g;refine cG 1 rfl<|ak rfl rfl<|qe (neg:=true) rfl rfl rfl rfl rfl<|b_<|aas rfl<|an<|sN 1 hs rfl fun g1 hs ai=>?_;replace ar:=G.le.trans ar ai;exact aA<|T5 _ rfl rfl ⟨rfl,rfl,g1,rfl,ar,hs⟩
theorem sk{b6:Nat}(w:World):CallsDIn Wd 0 prog 202 #[vP b6] .returning w fun en u' w'=>en= .returned (.tuple #[])∧u'= .returning∧w'=w:=by refine callsDIn_of_wpSIn func202 rfl trivial fun c₀ cs hu=>?_;apply wpSIn_seq;apply wpSIn_region;simp[wpOpsSIn,go_sem,recoverD,hu,ntmps202,Exit.thenS];exact Fa (N:=5) (l:=[(0,vP b6),(1,.nilIface),(2,.nilIface)]) rfl (by simp) (by simp[r_])<|cG 1 rfl<|ak rfl rfl<|qe (neg:=true) rfl rfl rfl rfl rfl<|b_<|aar rfl<|aF<|T5 _ rfl (by cases c₀;simp_all) ⟨rfl,rfl,rfl⟩
def aaD(f:bG)(line:List UInt8):Option bG:=
 if iY.isPrefixOf line=true then(tF f line).map fun s=>{f with steps:=f.steps++[s]}
 else(iT f line).map fun w=>{f with windows:=f.windows++[w]}
def uU(b:Nat)(L:List df)(g0 g':G)(res:Option bG)(r:Value):Prop:=
 match res with
 |some f'=>r= .bool true∧GQ b f' L g0 g'
 |none=>r= .bool false∧ ∃cs,St g0 g' (Mm b cs::L)
theorem Ms{b:Nat}(f:bG)(line:List UInt8)(hlen:line.length≤1000000)(NH:f.steps.length≤1000000)(NI:f.windows.length≤1000000){g0 g:G}{L:List df}(hF:jo g)(hO:GQ b f L g0 g):
  CallsIn Wd 0 prog 160 #[vP b,.string (bs line),.bool false] g.w (db g fun g' r=>uU b L g0 g' (aaD f line) r):=by
 have ar:=G.le.refl g;obtain⟨sa,sc,wa,wc,uR,hs,dc⟩:=hO;refine Jg func160 rfl ntmps160 rfl<|cR<|w4 hs rfl fun b6 g1 hs ai=>?_;obtain⟨ar,dc⟩:=cr ai ar dc;have aV:St g0 g1 (GP b f sa sc wa wc uR++vO b6 [Value.bool false] 4::L):=hs.perm List.perm_middle.symm;replace hs:=aV;clear aV;refine b_<|cG 1 rfl<|Cq rfl aK rfl rfl rfl rfl<|b_<|az<|aI<|aZ rfl<|aar rfl<|cG 1 rfl<|sO rfl (CO line iY _) ?_;rintro g2 _ B2 rfl;replace hs:=hs.call B2;have ai:=B2.le;obtain⟨ar,dc⟩:=cr ai ar dc;have hO:GQ b f (vO b6 [Value.bool false] 4::L) g0 g2:=⟨sa,sc,wa,wc,uR,hs,dc⟩;have ZY:=hF.mono ar;clear hs dc;refine aX rfl ?_;cases gM:iY.isPrefixOf line with
 |true=>
  refine aas rfl<|an<|Wp 2 rfl ?_;have dI:=PT f line hlen NH ZY hO;refine ak rfl rfl (qM (Wc 204) aK rfl rfl rfl rfl rfl (dI.mono fun e w' h=>?_));rcases h with⟨g3,v,rfl,rfl,ai,rfl,s,lB,Yy⟩|⟨hn,g3,rfl,rfl,ai,cs,hs⟩
  ·refine .inl ⟨_,rfl,?_⟩;obtain⟨sa,sc,wa,wc,uR,hs,dc⟩:=Yy;replace ar:=G.le.trans ar ai;refine aA<|bJ<|aq<|cR<|sN 3 hs rfl fun g1 hs ai=>?_;obtain⟨ar,dc⟩:=cr ai ar dc;refine b_<|aG (Pm (Wc 202) fun tmps uE=>(sk _).mono ?_);rintro e u' O9 ⟨rfl,rfl,rfl⟩;refine⟨_,ik T.ok 3 rfl hs (uE _ _ rfl) rfl rfl,?_⟩;refine db.intro ar ?_;rw[show aaD f line=some {f with steps:=f.steps++[s]}from by unfold aaD;rw[if_pos gM,lB];rfl];exact⟨rfl,sa,sc,wa,wc,uR,hs.drop 3,dc⟩
  refine .inr ⟨_,rfl,?_⟩;replace ar:=ar.trans ai;(repeat (first|with_reducible refine gY ?_|with_reducible refine gZ ?_|with_reducible refine g_ ?_));refine DX (Wc 202) fun tmps uE=>(sj hs).mono ?_;rintro e u' O9 ⟨rfl,rfl,g4,rfl,J4,Ko⟩;refine⟨_,ik T.ok 1 rfl Ko (uE _ _ rfl) rfl rfl,?_⟩;refine db.intro (ar.trans J4) ?_;rw[show aaD f line=none from by unfold aaD;rw[if_pos gM,hn];rfl];exact⟨rfl,cs,Ko.drop 1⟩
 |false=>
  refine aar rfl<|an<|Wp 2 rfl ?_;have dI:=JZ f line hlen NI ZY hO;refine ak rfl rfl (qM (Wc 205) aK rfl rfl rfl rfl rfl (dI.mono fun e w' h=>?_));rcases h with⟨g3,v,rfl,rfl,ai,rfl,s,lB,Yy⟩|⟨hn,g3,rfl,rfl,ai,cs,hs⟩
  ·refine .inl ⟨_,rfl,?_⟩;obtain⟨sa,sc,wa,wc,uR,hs,dc⟩:=Yy;replace ar:=G.le.trans ar ai;refine aA<|bJ<|aq<|cR<|sN 3 hs rfl fun g1 hs ai=>?_;obtain⟨ar,dc⟩:=cr ai ar dc;refine b_<|aG (Pm (Wc 202) fun tmps uE=>(sk _).mono ?_);rintro e u' O9 ⟨rfl,rfl,rfl⟩;refine⟨_,ik T.ok 3 rfl hs (uE _ _ rfl) rfl rfl,?_⟩;refine db.intro ar ?_;rw[show aaD f line=some {f with windows:=f.windows++[s]}from by unfold aaD;rw[if_neg (by rw[gM];simp),lB];rfl];exact⟨rfl,sa,sc,wa,wc,uR,hs.drop 3,dc⟩
  refine .inr ⟨_,rfl,?_⟩;replace ar:=ar.trans ai;(repeat (first|with_reducible refine gY ?_|with_reducible refine gZ ?_|with_reducible refine g_ ?_));refine DX (Wc 202) fun tmps uE=>(sj hs).mono ?_;rintro e u' O9 ⟨rfl,rfl,g4,rfl,J4,Ko⟩;refine⟨_,ik T.ok 1 rfl Ko (uE _ _ rfl) rfl rfl,?_⟩;refine db.intro (ar.trans J4) ?_;rw[show aaD f line=none from by unfold aaD;rw[if_neg (by rw[gM];simp),hn];rfl];exact⟨rfl,cs,Ko.drop 1⟩
theorem CP{b:Nat}(line:List UInt8)(hlen:line.length≤1000000){g0 g:G}{L:List df}(hF:jo g)(hs:St g0 g (GP b ⟨0,0,[],[]⟩ none 0 none 0 []++L)):
  CallsIn Wd 0 prog 160 #[vP b,.string (bs line),.bool true] g.w (db g fun g' r=>uU b L g0 g' ((qp line).map fun p=>⟨p.1,p.2,[],[]⟩) r):=by
 have ar:=G.le.refl g;refine Jg func160 rfl ntmps160 rfl<|cR<|w4 hs rfl fun b6 g1 hs ai=>?_;replace ar:=G.le.trans ar ai;have aV:St g0 g1 (GP b ⟨0,0,[],[]⟩ none 0 none 0 []++vO b6 [Value.bool false] 4::L):=hs.perm List.perm_middle.symm;replace hs:=aV;clear aV;refine b_<|cG 1 rfl<|Cq rfl aK rfl rfl rfl rfl<|b_<|az<|aI<|aZ rfl<|aas rfl<|an<|Wp 2 rfl ?_;have dI:=PU line hlen (hF.mono ar) hs;clear hs;refine ak rfl rfl (qM (Wc 203) aK rfl rfl rfl rfl rfl (dI.mono fun e w' h=>?_));rcases h with⟨g3,v,rfl,rfl,ai,rfl,m,n,Gz,hs⟩|⟨hn,g3,rfl,rfl,ai,cs,hs⟩
 ·refine .inl ⟨_,rfl,?_⟩;replace ar:=G.le.trans ar ai;refine aA<|bJ<|aq<|cR<|sN 3 hs rfl fun g1 hs ai=>?_;replace ar:=G.le.trans ar ai;refine b_<|aG (Pm (Wc 202) fun tmps uE=>(sk _).mono ?_);rintro e u' O9 ⟨rfl,rfl,rfl⟩;refine⟨_,ik T.ok 3 rfl hs (uE _ _ rfl) rfl rfl,?_⟩;refine db.intro ar ?_;rw[Gz];exact⟨rfl,none,0,none,0,[],hs.drop 3,rfl⟩
 refine .inr ⟨_,rfl,?_⟩;replace hs:=(hs.drop 1).drop 1;replace ar:=ar.trans ai;(repeat (first|with_reducible refine gY ?_|with_reducible refine gZ ?_|with_reducible refine g_ ?_));refine DX (Wc 202) fun tmps uE=>(sj hs).mono ?_;rintro e u' O9 ⟨rfl,rfl,g4,rfl,J4,Ko⟩;refine⟨_,ik T.ok 1 rfl Ko (uE _ _ rfl) rfl rfl,?_⟩;refine db.intro (ar.trans J4) ?_;rw[hn];exact⟨rfl,cs,Ko.drop 1⟩
end Go.Proofs.YtbfjdfecgiegpaaGreatDoor
namespace Go.Proofs.YtbfjdfecgiegpaaGreatDoor
open Go Go.K Tryz
set_option maxRecDepth 10000
attribute [local irreducible] W WL cS bh bY bB bA bC cL cD
set_option maxHeartbeats 4000000
def lY:bG:=⟨0,0,[],[]⟩
def vp(l:List UInt8):Bool:=l==[]||[35].isPrefixOf l
def mI(first:Bool)(f:bG)(l:List UInt8):Option bG:=if first=true then(qp l).map fun p=>⟨p.1,p.2,[],[]⟩else aaD f l
def ez(first:Bool)(f:bG)(i:Nat):List (List UInt8)→bG⊕Nat
 |[]=> .inl f
 |l::r=>if vp l=true then ez first f (i+1) r else
  match mI first f l with
  |some f'=>ez false f' (i+1) r
  |none=> .inr (i+1)
def kx(s:List UInt8):bG⊕Nat:=
 match ez true lY 0 (bW 10 s)with
 | .inl f=>if valid f=true then .inl f else .inr (bW 10 s).length
 | .inr k=> .inr k
def PV:Value:=.agg #[vI 0,vI 0,.slice none 0 0,.slice none 0 0]
def jy(g':G)(res:bG⊕Nat)(r:Value):Prop:=
 match res with
 | .inl f=> ∃v,r= .tuple #[v,vI 0,vI 0]∧fP g' v f
 | .inr k=>r= .tuple #[PV,vI k,vI 40]
theorem vq{fn:Func}{tb:Tb}{P:Program}{N:Nat}{l:Env}{g0 g:G}{L:List df}{R:Ending→World→Prop}(dE:tb.ok P)(i:Nat){t tt u x b:Nat}{cs:List Value}{E:TypeId}{fz:Nat×Nat}{v v2 v3:Value}(hr:fn.results=#[.cell t tt,.tmp u,.tmp x])(hs:St g0 g L)(hi:L[i]? =some (.obj b (.cells cs.toArray E fz)))
  (hl:lk l t=some (vP b)) (hv:Ar tb tt cs 0=some v) (tP:lk l u=some v2) (Qm:lk l x=some v3) (hR:R (.returned (.tuple #[v,v2,v3])) g.w) (a:Act) (ha:Fr N [] l a):bodyPost P fn R .ret a g.w:=by
 refine⟨ha.defers,_,?_,hR⟩;have:=jD (P:=P) (w:=g.w) (off:=0) (o:=0) dE hv (lI (hs.own i _ hi).2.1);simp only[Nat.add_zero]at this;simp[results,hr,ha.get t _ hl,ha.get u _ tP,ha.get x _ Qm,asAddr,this]
def CQ(b b2:Nat)(first:Bool)(f:bG)(g0 g:G):Prop:=
 match first with
 |true=>f=lY∧St g0 g (GP b lY none 0 none 0 []++[vO b2 [vI 0,vI 0,.slice none 0 0,.slice none 0 0] 67])
 |false=>GQ b f [vO b2 [vI 0,vI 0,.slice none 0 0,.slice none 0 0] 67] g0 g
theorem CQ.o{b b2:Nat}{first:Bool}{f:bG}{g0 g:G}(h:CQ b b2 first f g0 g):GQ b f [vO b2 [vI 0,vI 0,.slice none 0 0,.slice none 0 0] 67] g0 g:=by
 cases first with
 |true=>obtain⟨rfl,h⟩:=h;exact⟨none,0,none,0,[],h,rfl⟩
 |false=>exact h
theorem CQ.call{b b2:Nat}{first:Bool}{f:bG}{g0 g g':G}(h:CQ b b2 first f g0 g)(hf:a_ g g'):CQ b b2 first f g0 g':=by
 cases first with
 |true=>exact⟨h.1,h.2.call hf⟩
 |false=>obtain⟨a,c,d,e,k,h1,h2⟩:=h;exact⟨a,c,d,e,k,h1.call hf,h2.mono hf.le⟩
theorem G4{b b2:Nat}{first:Bool}(f:bG)(line:List UInt8)(hlen:line.length≤1000000)(NH:f.steps.length≤1000000)(NI:f.windows.length≤1000000){g0 g:G}(hF:jo g)(h:CQ b b2 first f g0 g):
  CallsIn Wd 0 prog 160 #[vP b,.string (bs line),.bool first] g.w (db g fun g' r=>uU b [vO b2 [vI 0,vI 0,.slice none 0 0,.slice none 0 0] 67] g0 g' (mI first f line) r):=by
 cases first with
 |true=>obtain⟨rfl,h⟩:=h;exact CP line hlen hF h
 |false=>exact Ms f line hlen NH NI hF h
theorem J5{first:Bool}{f f':bG}{line:List UInt8}(h:mI first f line=some f'):f'.steps.length≤f.steps.length+1∧f'.windows.length≤f.windows.length+1:=by
 unfold mI aaD at h;split at h
 ·obtain⟨p,_,rfl⟩:=Option.map_eq_some_iff.1 h;exact⟨Nat.zero_le _,Nat.zero_le _⟩
 split at h
 ·obtain⟨p,_,rfl⟩:=Option.map_eq_some_iff.1 h;exact⟨by simp,by simp⟩
 obtain⟨p,_,rfl⟩:=Option.map_eq_some_iff.1 h;exact⟨by simp,by simp⟩
theorem Lp(s:List UInt8)(g:G)(hlen:s.length≤999999)(hF:jo g):cN prog 84 #[.string (bs s)] g fun g' r=>jy g' (kx s) r:=by
 have hs:=St.start g;have ar:=G.le.refl g;refine enter func84 rfl ntmps84 rfl<|cR<|w4 hs rfl fun b2 g1 hs ai=>?_;replace ar:=G.le.trans ar ai;refine aX rfl<|cR<|w4 hs rfl fun b g1 hs ai=>?_;replace ar:=G.le.trans ar ai;refine b_<|cG 1 rfl<|sO rfl (Bi s 10 _ (by omega) (hF.mono ar)) fun g1 vo aP wW=>?_;obtain⟨gz,gF,cK,gW,aH⟩:=hs.jO aP wW;have ai:=aP.le.trans gW;rw[←gF];replace hs:=cK;clear cK wW;replace ar:=G.le.trans ar ai;have Dq:=nM 10 s;have sq:=kF 10 s
 have PH: ∀x,ez true lY 0 (bW 10 s)=x→kx s=match x with
  | .inl f=>if valid f=true then .inl f else .inr (bW 10 s).length
  | .inr k=> .inr k:=by rintro x rfl;rfl
 generalize bW 10 s=ps at*;obtain⟨pa,pc,rfl⟩:=aH.isSlice;have Hb:=ar;have Kt:(ps.map wh.mk).length=ps.length:=List.length_map _;have J6:Rs gz (.slice pa ps.length pc) (ps.map wh.mk):=by have h:=aH;rw[Kt]at h;exact h
 clear aH;rw[Kt];have aV:St g gz (GP b lY none 0 none 0 []++[vO b2 [vI 0,vI 0,.slice none 0 0,.slice none 0 0] 67]):=
  ((hs.eP 194 3 none).eP 115 7 none).perm (List.perm_middle (l₁:=[df.row 115 7 (.slice none 0 0) 0 [],df.row 194 3 (.slice none 0 0) 0 []]))
 clear hs;have ZZ:CQ b b2 true lY g gz:=⟨rfl,aV⟩;clear aV;refine aX rfl<|aZ rfl<|az<|aZ rfl<|aI ?_
 refine bK (fun m a' w=> ∃(k:Nat) (first:Bool) (f:bG) (g':G),w=g'.w∧CQ b b2 first f g g'∧G.le gz g'∧k≤ps.length∧m=ps.length-k∧f.steps.length≤k∧f.windows.length≤k∧ez first f k (ps.drop k)=ez true lY 0 ps∧
  Fr 40 [] [(2,vP b2),(5,vP b),(6,.slice pa ps.length pc),(7,.bool first),(12,.slice pa ps.length pc),(13,vI ps.length),(14,vI k)] a') ps.length
   (fun a' ha=>⟨0,true,lY,gz,rfl,ZZ,G.le.refl _,Nat.zero_le _,rfl,Nat.zero_le _,Nat.zero_le _,rfl,ha.kp rfl⟩) ?_
 clear ar ZZ;rintro m a' _ ⟨k,first,f,g',rfl,hP,jF,hk,rfl,NH,NI,lh,dW⟩;have aH:=J6.mono jF;have ar:=Hb.trans jF;revert a';refine ct<|aZ rfl<|az ?_;by_cases bt:k<ps.length
 ·refine aJ (b:=decide ((k:Int)<(ps.length:Int))) (by simp;omega) rfl ?_;rw[List.drop_eq_getElem_cons bt]at lh;refine aF<|aq<|az<|aI<|cG 1 rfl<|zc (y:=⟨ps[k]⟩) aH (by simp[dJ,bt]) rfl ?_;rintro bq pq ys aL rfl;refine q5 1 [.e aL 0] rfl<|aX rfl<|az<|cG 3 rfl ?_;by_cases h0:ps[k]=[]
  ·refine bM 21 (b':=true) (by rw[cM,aaI];simp[h0]) rfl ?_;rw[show ez first f k (ps[k]::ps.drop (k+1))=ez first f (k+1) (ps.drop (k+1))from by rw[ez,if_pos (by unfold vp;rw[h0];rfl)]]at lh;refine aX rfl<|aas rfl<|bc<|bg<|cA<|aq<|an<|Wp 2 rfl<|aA<|fun a ha=>⟨ps.length-(k+1),by omega,k+1,first,f,g',rfl,hP,jF,by omega,rfl,by have:=NH;omega,by have:=NI;omega,lh,ha.keep ⟨rfl,rfl,rfl,rfl,rfl,rfl,kW rfl,trivial⟩⟩
  refine bM 21 (b':=false) (by rw[cM,aaI];simp[h0]) rfl<|Wp 1 rfl<|sO rfl (CO ps[k] [35] _) ?_;rintro g2 _ B2 rfl;replace hP:=hP.call B2;have ai:=B2.le;replace ar:=G.le.trans ar ai;replace jF:=jF.trans ai;cases gM:[35].isPrefixOf ps[k]with
  |true=>
   rw[show ez first f k (ps[k]::ps.drop (k+1))=ez first f (k+1) (ps.drop (k+1))from by rw[ez,if_pos (by unfold vp;rw[gM,Bool.or_true])]]at lh;refine aX rfl<|aas rfl<|bc<|bg<|cA<|aq<|an<|Wp 2 rfl<|aA<|fun a ha=>⟨ps.length-(k+1),by omega,k+1,first,f,g2,rfl,hP,jF,by omega,rfl,by have:=NH;omega,by have:=NI;omega,lh,ha.keep ⟨rfl,rfl,rfl,rfl,rfl,rfl,kW rfl,trivial⟩⟩
  |false=>
   rw[show ez first f k (ps[k]::ps.drop (k+1))=(match mI first f ps[k]with
    |some f'=>ez false f' (k+1) (ps.drop (k+1))
    |none=> .inr (k+1))from by rw[ez,if_neg (by unfold vp;rw[gM,Bool.or_false];simpa using h0)]]at lh
   refine aX rfl<|aar rfl<|aF<|aq<|az<|cG 2 rfl<|Dj rfl (G4 f ps[k] (Nat.le_trans (sq _ (List.getElem_mem bt)) (by omega)) (by omega) (by omega) (hF.mono ar) hP) fun g3 r ai FD=>?_;replace jF:=jF.trans ai;cases Jb:mI first f ps[k]with
   |some f'=>
    rw[Jb]at FD lh;obtain⟨rfl,hO⟩:=FD;have tP:=J5 Jb;refine aX rfl<|aar rfl<|aF<|aq<|an<|Wp 1 rfl<|aA<|bJ<|aq<|an<|Wp 2 rfl<|aA<|fun a ha=>⟨ps.length-(k+1),by omega,k+1,false,f',g3,rfl,hO,jF,by omega,rfl,by have:=tP.1;omega,by have:=tP.2;omega,lh,ha.keep ⟨rfl,rfl,rfl,rfl,rfl,rfl,kW rfl,trivial⟩⟩
   |none=>
    rw[Jb]at FD lh;obtain⟨rfl,cs,hs⟩:=FD;refine aX rfl<|aas rfl<|cR<|BO [] [vI 0,vI 0,.slice none 0 0,.slice none 0 0] [(0,1),(1,1),(2,1),(3,1)] rfl<|Wp 2 rfl<|sN 1 hs rfl fun g1 hs ai=>aX rfl<|aG<|dO<|gQ<|dO<|dO<|gQ<|dO<|vq (v2:=vI ((k+1:Nat):Int)) T.ok 1 rfl hs rfl rfl rfl (kW rfl) rfl<|hs.ret ?_;rw[PH _ lh.symm]
    rfl
 refine aQ (b:=decide ((k:Int)<(ps.length:Int))) (by simp;omega) rfl ?_;obtain rfl:k=ps.length:=by omega
 rw[List.drop_length]at lh;have JL:=PH _ lh.symm;obtain⟨sa,sc,wa,wc,uR,hs,dc⟩:=hP.o;obtain⟨g1,yP,tK,Ku,cd⟩:=hs.cP (α:=Step) (xs:=f.steps) (i:=1) rfl dc;obtain⟨g2,bS,aV,Hc,bR⟩:=tK.cP (α:=cQ) (xs:=f.windows) (i:=1) rfl (cY.win _ _);replace hs:St g g2 (vO b [vI f.dm,vI f.dv,.slice sa f.steps.length sc,.slice wa f.windows.length wc] 67::vO b2 [vI 0,vI 0,.slice none 0 0,.slice none 0 0] 67::[]):=aV;clear tK aV;replace cd:=cd.mono Hc;rw[←yP,←bS];have dt:fP g2 (.agg #[vI f.dm,vI f.dv,.slice sa f.steps.length sc,.slice wa f.windows.length wc]) f:=⟨sa,f.steps.length,sc,wa,f.windows.length,wc,rfl,cd,bR⟩;refine bc<|bg<|bg<|cA<|aq<|az<|c_ 1 [.o 0] hs rfl<|Ev rfl (EZ _ f _ dt) hs fun g1 hs ai=>?_;replace dt:=dt.mono ai;refine aX rfl ?_;cases hv:valid f with
 |true=>
  refine aar rfl<|aF<|aq<|c_ 1 [.o 0] hs rfl<|sN 1 hs rfl fun g1 hs ai=>?_;replace dt:=dt.mono ai;refine aX rfl<|aG<|vq T.ok 1 rfl hs rfl rfl rfl rfl rfl<|hs.ret ?_;rw[JL];show jy _ (if valid f=true then _ else _) _;rw[if_pos hv];exact⟨_,rfl,dt⟩
 |false=>
  refine aas rfl<|cR<|BO [] [vI 0,vI 0,.slice none 0 0,.slice none 0 0] [(0,1),(1,1),(2,1),(3,1)] rfl<|Wp 2 rfl<|sN 1 hs rfl fun g1 hs ai=>aX rfl<|aG<|dO<|vq T.ok 1 rfl hs rfl rfl rfl rfl rfl<|hs.ret ?_;rw[JL];show jy _ (if valid f=true then _ else _) _;rw[if_neg (by rw[hv];simp)]
  rfl
end Go.Proofs.YtbfjdfecgiegpaaGreatDoor
namespace Go.Proofs.YtbfjdfecgiegpaaGreatDoor
open Go Go.K Tryz
set_option maxRecDepth 10000
attribute [local irreducible] W WL cS bh bY bB bA bC cL cD
set_option maxHeartbeats 2000000
def Mt(E:TypeId):Prop:=liesAt prog prog.depth E (2/prog.cellsOf E) 0 79 1=true
theorem H8:Mt 81:=by unfold Mt;kernel_rfl
theorem CR{b:Nat}{p v:Value}(hp:p= .pointer none∨p=vP b){E:TypeId}(hE:Mt E){g0 g:G}{L:List df}(hs:St g0 g (vO b [p,v] E::L)):
  CallsIn Wd 0 prog 178 #[vP b] g.w
   (db g fun g' r=>r= .tuple #[]∧St g0 g' (vO b [vP b,v] E::L)):=by
 have ar:=G.le.refl g;have hh:g.w.heap[b]? =some (.cells [p,v].toArray E (0,0)):=(hs.own 0 _ rfl).2.1;have pQ:g.w.shape? b=some (E,2):=by simp[World.shape?,hh]
 obtain⟨j,hj,I9⟩:=Option.map_eq_some_iff.1 Tryz.Builder_Extra_169.sizeBuilder;refine enter func178 rfl ntmps178 rfl<|c_ 4 [.o 0] hs rfl ?_;rcases hp with rfl|rfl
 ·refine ak rfl rfl<|iL T.ok (neg:=false) rfl rfl rfl rfl rfl<|aA<|aq<|aas rfl<|an<|Wp 2 rfl<|ak rfl rfl<|Cp rfl rfl (Lib.run_to_unsafe g.w ⟨b,0,none⟩ Tryz.underlying76 Tryz.underlying246 hj (by rw[I9];decide) pQ (Nat.zero_lt_succ 1))<|ak rfl rfl<|DW func232 (by kernel_rfl) (by kernel_rfl) (by kernel_rfl) (e:=Extern.AbiNoEscape.same) (by kernel_rfl) aK rfl rfl rfl rfl<|ak rfl rfl<|Cp rfl rfl (Lib.run_from_unsafe g.w ⟨b,0,none⟩ Tryz.underlying246 Tryz.underlying76 hj pQ hE)<|Wp 2 rfl<|sN 0 hs rfl fun g1 hs ai=>?_;replace ar:=G.le.trans ar ai;exact aA<|lC rfl (db.intro ar ⟨rfl,hs⟩)
 exact ak rfl rfl<|iL T.ok (neg:=false) rfl rfl rfl rfl rfl<|aA<|aq<|aar rfl<|c_ 5 [.o 0] hs rfl<|ak rfl rfl<|xD rfl rfl rfl Tryz.underlying76 hj<|b_<|aar rfl<|aF<|lC rfl (db.intro ar ⟨rfl,hs⟩)
theorem H7{b:Nat}{p v:Value}{xs:List UInt8}{Lr:List df}(hp:p= .pointer none∨p=vP b)(hb:nz 5 v xs Lr)(ys:List UInt8)(hl:xs.length+ys.length≤140737488355328)
  {E:TypeId} (hE:Mt E) {g0 g:G} {L:List df} (hs:St g0 g (vO b [p,v] E::(Lr++L))):
  CallsIn Wd 0 prog 95 #[vP b,.string (bs ys)] g.w
   (db g fun g' _=> ∃v' yD,nz 5 v' (xs++ys) yD∧St g0 g' (vO b [vP b,v'] E::(yD++L))):=by
 have ar:=G.le.refl g;refine enter func95 rfl ntmps95 rfl<|aZ rfl<|cG 1 rfl<|Dj rfl (CR hp hE hs) ?_;clear hs;rintro g1 _ ai ⟨rfl,hs⟩;replace ar:=G.le.trans ar ai;refine b_<|c_ 6 [.o 0] hs rfl<|ak rfl rfl<|Co T.ok rfl hb hs.RL rfl rfl rfl rfl rfl rfl rfl rfl rfl rfl hl fun v' yD g2 UU aV ai=>?_;replace ar:=G.le.trans ar ai
 obtain⟨ao,no,co,rfl⟩: ∃ao no co,v'= .slice ao no co:=by rcases UU with⟨rfl,_⟩|⟨_,_,_,rfl,_⟩<;>exact⟨_,_,_,rfl⟩
 replace hs:=aV.XD;refine Wp 2 rfl<|sN 0 hs rfl fun g1 hs ai=>?_;replace ar:=G.le.trans ar ai;exact b_<|aZ rfl<|aG (HX rfl rfl rfl (db.intro ar ⟨_,yD,UU,hs⟩))
theorem Du{b:Nat}{p v:Value}{xs:List UInt8}{Lr:List df}(hx:xs≠[])(hb:nz 5 v xs Lr){E:TypeId}{g0 g:G}{L:List df}(hs:St g0 g (vO b [p,v] E::(Lr++L))):
  CallsIn Wd 0 prog 42 #[vP b] g.w (db g fun g' r=>r= .string (bs xs)∧St g0 g' L):=by
 rcases hb with⟨_,h,_⟩|⟨br,cap,cur,rfl,rfl,pU,tJ,ph,dP⟩
 ·exact absurd h hx
 have Ql:xs.length≠0:=by simpa using hx
 have ar:=G.le.refl g;refine enter func42 rfl ntmps42 rfl<|aZ rfl<|az ?_;apply bD hs (dn (eF [])) 10 [(4,7),(9,12)] (by kernel_rfl) rfl
 ·exact pO [[],[0],[1],[2]] [.o 0] hs rfl<|fR [(3,6)] (fun gd hf=>aax rfl (ay rfl (yQ rfl rfl (by omega) ⟨gd,rfl,a_.refl gd,rfl⟩)))<|EG [[],[5],[6],[7],[8]] [.o 0] hs rfl
 clear hs;intro g1 hs ai;replace ar:=G.le.trans ar ai;refine ak rfl rfl<|yR 1 hs rfl rfl rfl rfl hx rfl rfl pU tJ ph dP fun g2 hs ai=>?_;replace ar:=G.le.trans ar ai;exact aX rfl<|aG (aaq rfl (db.intro ar ⟨rfl,hs.drop 0⟩))
end Go.Proofs.YtbfjdfecgiegpaaGreatDoor
namespace Go.Proofs.YtbfjdfecgiegpaaGreatDoor
open Go Go.K Tryz
set_option maxRecDepth 10000
attribute [local irreducible] W WL cS bh bY bB bA bC cL cD
set_option maxHeartbeats 2000000
def LP(b:Nat)(z:Int):df:=vO b [.int .u64 z] 174
theorem Cb(b:Nat)(k0:Nat)(z0:Int)(g:G)(MH:0≤z0∧z0<128^(k0+1)):
  TK prog 231 #[vP b] (fun x:Int×Bool=>[.int .u8 x.1,.bool x.2]) (mA (k0+1) z0) (LP b z0) g:=by
 intro g1 hle yv J Jx TL hy Ds;have ar:=G.le.refl g1;refine enter func231 rfl ntmps231 rfl<|aI ?_
 refine bK (fun m a' w=> ∃(k:Nat) (z:Int) (pre:List (Int×Bool)) (g2:G),w=g2.w∧G.le g1 g2∧k≤k0∧m=k∧(0≤z∧z<128^(k+1))∧J pre (LP b z) g2∧mA (k0+1) z0=pre++mA (k+1) z∧
   Fr 18 [] [(0,yv),(1,vP b)] a') k0
  (fun a' ha=>⟨k0,z0,[],g1,rfl,ar,Nat.le_refl _,rfl,MH,Ds,rfl,ha.kp rfl⟩) ?_
 clear ar;rintro k a' _ ⟨_,z,pre,g2,rfl,ar,hk,rfl,hz,sR,hx,dW⟩;obtain⟨g0,L,i,hs,hi,EU⟩:=TL _ _ _ sR;revert a';have lh:mA (k+1) z=(IntKind.u8.wrap (bh .u64 z 127),decide (z<128))::if z<128 then []else mA k (cD .u64 z 7):=rfl;rw[lh]at hx;refine ct<|aI<|cR<|ak rfl rfl<|cJ T.ok i rfl hs hi rfl rfl<|aX rfl<|az<|cG 1 rfl<|ak rfl rfl<|cJ T.ok i rfl hs hi rfl rfl<|Wp 3 rfl<|ak rfl rfl (fC rfl rfl rfl rfl rfl rfl ((hy pre _ _ _ _ hx ar sR).mono ?_));rintro _ _ ⟨g3,bb,rfl,rfl,ai,ht,hf⟩;refine⟨_,rfl,?_⟩;replace ar:=ar.trans ai;have gM:pre++[(IntKind.u8.wrap (bh .u64 z 127),decide (z<128))]<+:mA (k0+1) z0:=⟨if z<128 then []else mA k (cD .u64 z 7),by rw[hx];simp⟩;cases bb with
 |false=>
  exact aX rfl<|aas rfl<|aG<|dO<|gQ<|dO<|gQ<|rO rfl<|⟨g3,_,rfl,rfl,ar,.inr ⟨_,_,gM,hf rfl⟩⟩
 |true=>
  have Kj:=ht rfl;by_cases bt:z<128
  ·rw[if_pos bt]at hx;exact aX rfl<|aJ (b:=decide (z<128)) (decide_eq_true bt) rfl<|aG<|dO<|gQ<|dO<|gQ<|rO rfl<|⟨g3,_,rfl,rfl,ar,.inl ⟨_,by rw[hx];exact Kj⟩⟩
  rw[if_neg bt]at hx;obtain⟨k,rfl⟩: ∃k',k=k'+1:=⟨k-1,by
   rcases k with _|k
   ·simp at hz;omega
   rfl⟩
  obtain⟨g4,L',i',lB,hi',O6⟩:=TL _ _ _ Kj;refine aX rfl<|aQ (b:=decide (z<128)) (decide_eq_false bt) rfl<|aF<|aq<|an<|ak rfl rfl<|cJ T.ok i' rfl lB hi' rfl rfl<|Wp 1 rfl<|bu rfl<|aw T.ok i' rfl lB hi' rfl rfl rfl rfl rfl rfl rfl rfl fun g5 IX ai=>?_;have Rx:=O6 (LP b (cD .u64 z 7)) g5 IX ai;refine aA<|bJ ?_;exact fun a ha=>⟨k,by omega,k,cD .u64 z 7,_,g5,rfl,ar.trans ai,by omega,rfl,by
   rw[Xq hz.1];have h:=hz.2;rw[Int.pow_succ]at h;exact⟨by omega,by omega⟩,Rx,by rw[hx];simp,ha.kp rfl⟩
theorem I4(z:Int)(g:G):CallsIn Wd 0 prog 177 #[.int .u64 z] g.w
  (cO g fun g' r=> ∃b,r= .func (.func 231) #[] #[vP b]∧(LP b z).holds g.w.heap.size g'):=by
 have hs:=St.start g;have ar:=G.le.refl g;exact enter func177 rfl ntmps177 rfl<|cR<|EH hs rfl fun b1 g1 hs ai=>aX rfl<|aZ rfl<|aG (nw rfl hs ⟨_,rfl,hs.own 0 _ rfl⟩)
theorem BU(n:Int)(g:G)(hn:sF n):cN prog 94 #[vI n] g fun _ r=>r= .tuple #[.string (bs (gD n)),vI 0]:=by
 have hs:=St.start g;have ar:=G.le.refl g;have Ew:=hn.1;have Ha:=hn.2;refine uj func94 rfl ntmps94 rfl<|aZ rfl<|az<|cG 3 rfl<|bM 9 (b':=false) (decide_eq_false (by omega)) rfl<|aX rfl<|aQ (b:=decide (4611686018427387903<n)) (decide_eq_false (by omega)) rfl<|aF<|aq<|cR<|w4 hs rfl fun bo g1 hs ai=>?_;replace hs:=hs.eP 5 1 none;refine b_<|az<|cG 7 rfl ?_;have Ry:=I5 n;have G8:=zu 10 (zz n);unfold gD;refine nE (.int .u64 (zz n)) (t:=19) rfl rfl ?_;generalize zz n=z at*;refine sO rfl (I4 z _) ?_;rintro g4 _ mg ⟨bz,rfl,hh⟩;replace hs:=hs.lr mg hh;have ai:=mg.le;clear hh;refine b_<|aI ?_
 refine I6 (N:=33) hs rfl (Wc 231) (Cb bz 9 z g4 Ry) rfl (fun _=>rfl)
  (fun pre L _=> ∃v,L=[.row 5 1 v pre.length (pre.map fun x=>Value.int .u8 (Gm x)),.obj bo (.cells #[v] 77 (0,0))]) (fun _ _ _ _=>False)
  (fun _ _ _ _ _ h=>h) (fun _ _ _ _ _ _ h=>h) ⟨_,rfl⟩ (fun x=>[(5,.int .u8 x.1),(6,.bool x.2),(4,vP bo)]) ?_ ?_ ?_ ?_
 ·intro x ro w;exact aZ rfl<|an<|Wp 1 rfl<|aA<|fun a ha=>⟨rfl,ha.kp rfl⟩
 ·rintro lp D ro pre x rest e gr Lr nv hle hs ⟨v,rfl⟩;have dL:=G.le.refl gr;have Dq:pre.length<10:=by have:=congrArg List.length nv;simp at this;omega
  obtain⟨xb,xl⟩:=x;refine aI<|az<|aZ rfl<|mu (fun a' w'=>w'=gr.w∧Fr 33 [] [(5,.int .u8 (Gm (xb,xl))),(4,vP bo)] a') ?_ ?_
  ·cases xl with
   |true=>
    exact aar rfl<|aF<|fun a ha=>⟨rfl,ha.kp rfl⟩
   |false=>
    exact aas rfl<|an<|Wp 3 rfl<|aA<|fun a ha=>⟨rfl,ha.kp rfl⟩
  rintro a' _ ⟨rfl,dW⟩;revert a';refine ct<|an<|Wm 2 [.o 4] hs rfl<|BP [(0,.int .u8 (Gm (xb,xl)))] [.int .u8 (Gm (xb,xl))] hs rfl rfl fun b2 g2 hs ai=>?_;replace dL:=G.le.trans dL ai;refine ak rfl rfl<|bU T.ok 4 rfl hs rfl rfl rfl rfl rfl rfl rfl (by decide) rfl (Src.eI (hs.own 0 _ rfl).1).2 (by simp[Value.oneCell']) (by show(pre.length+1)*1≤_;omega) (by unfold maxLen;omega) fun a9 c9 g3 hs ai=>?_;replace dL:=G.le.trans dL ai;refine sN 5 hs rfl fun g1 hs ai=>?_;replace dL:=G.le.trans dL ai;exact aA<|bJ<|fun a ha=>⟨_,_,rfl,hs.drop 0,dL,_,rfl,.slice a9 (pre.length+1) c9,by simp[nr]⟩
 ·rintro lp D o e Lr ge hle hs ⟨v,rfl⟩;obtain⟨av,cv,rfl⟩:=(hs.own 3 _ rfl).1.form;have iu:=(Src.eI (hs.own 3 _ rfl).1).2;refine bJ<|aq<|c_ 1 [.o 4] hs rfl<|ak rfl rfl<|oe T.ok (ns:=(mA (9+1) z).map Gm) rfl rfl rfl rfl rfl rfl rfl rfl (by rw[List.map_map];exact iu)<|aX rfl<|aG<|TM 1 rfl hs rfl rfl rfl (fun g' lB gB=>?_);exact lB.ret rfl
 rintro c lp D o pre e Lr ge _ _ _ h;exact h.elim
end Go.Proofs.YtbfjdfecgiegpaaGreatDoor
namespace Go.Proofs.YtbfjdfecgiegpaaGreatDoor
open Go Go.K Tryz
set_option maxRecDepth 10000
attribute [local irreducible] W WL cS bh bY bB bA bC cL cD
set_option maxHeartbeats 2000000
theorem H'(s:List UInt8)(g:G)(hl:s.length≤1099511627776):cN prog 118 #[.string (bs s)] g fun _ r=>r= .tuple #[.string (bs (nV s).1),vI (nV s).2]:=by
 have hs:=St.start g;have ar:=G.le.refl g;refine enter func118 rfl ntmps118 rfl ?_;unfold nV;refine aZ rfl<|az<|aZ rfl ?_;by_cases bt:65536<s.length
 ·rw[if_pos bt];exact aJ (b:=decide ((65536:Int)<((bs s).size:Int))) (decide_eq_true (by rw[cg];omega)) rfl<|aZ rfl<|aG (HX rfl rfl rfl (hs.ret rfl))
 rw[if_neg bt];refine aQ (b:=decide ((65536:Int)<((bs s).size:Int))) (decide_eq_false (by rw[cg];omega)) rfl ?_;have Dq:=mz (s.length:Int);exact aF<|aq<|cG 2 rfl<|nE (vI (s.length:Int)) (t:=11) rfl (by rw[cg])<|Ev rfl (BU (s.length:Int) _ ⟨by omega,by omega⟩) hs fun g1 hs ai=>aX rfl<|cG 2 rfl<|ak rfl rfl<|p6 (p:=gD s.length) (q:=s) rfl rfl rfl (by omega)<|aX rfl<|aG (HX rfl rfl rfl (hs.ret rfl))
end Go.Proofs.YtbfjdfecgiegpaaGreatDoor
namespace Go.Proofs.YtbfjdfecgiegpaaGreatDoor
open Go Go.K Tryz
set_option maxRecDepth 10000
attribute [local irreducible] W WL cS bh bY bB bA bC cL cD
theorem xu(v fv:Value)(l:List Int)(p:Int→Bool)(g:G)(hl:Rs g v l)
  (hp: ∀(g':G) (x:Int),x∈l→g.le g'→jd prog fv [vI x] g'.w (cO g' fun _ r=>r= .bool (p x))):
  cN prog 256 #[v,fv] g fun _ r=>r=vI (mT p l):=by
 obtain⟨a,c,rfl⟩:=hl.isSlice;have hlen:=hl.ef;unfold maxLen at hlen;have hs:=St.start g;refine enter func256 rfl ntmps256 rfl<|aZ rfl<|az<|aZ rfl<|aI ?_;refine bK (fun m a' w=> ∃(k:Nat) (g':G),w=g'.w∧St g g' []∧G.le g g'∧k≤l.length∧m=l.length-k∧(∀j (h:j<l.length),j<k→p l[j]=false)∧
  Fr 19 [] [(0,.slice a l.length c),(1,fv),(7,vI l.length),(8,vI k)] a') l.length (fun a' ha=>⟨0,g,rfl,hs,G.le.refl g,Nat.zero_le _,rfl,by simp,ha.kp rfl⟩) ?_
 clear hs;rintro m a' _ ⟨k,g',rfl,hs,ar,hk,rfl,de,dW⟩;revert a';refine ct<|aZ rfl<|az ?_;by_cases bt:k<l.length
 ·refine aJ (b:=decide ((k:Int)<(l.length:Int))) (by simp;omega) rfl<|aF<|aq<|az<|aI<|aZ rfl<|cG 3 rfl<|zc (y:=l[k]) (hl.mono ar) (by simp[dJ,bt]) rfl ?_;rintro b q ys aL rfl;refine q5 1 [.e aL 0] rfl<|ak rfl rfl<|fb rfl rfl rfl rfl rfl rfl (hp _ _ (List.getElem_mem bt) ar) ?_;rintro g1 _ aP rfl;replace hs:=hs.call aP;have ai:=aP.le;replace ar:=G.le.trans ar ai;apply b_;cases AB:p l[k]with
  |true=>
   exact aas rfl<|aZ rfl<|aG (nw rfl hs (by rw[vZ bt AB de]))
  |false=>
   refine aar rfl<|aF<|bJ<|aq<|an<|Wp 2 rfl<|aA<|fun a ha=>⟨l.length-(k+1),by omega,k+1,_,rfl,hs,ar,by omega,rfl,?_,ha.keep ⟨rfl,rfl,rfl,kW rfl,trivial⟩⟩
   intro j hj Ey;by_cases e:j=k
   ·subst e;exact AB
   exact de j hj (by omega)
 refine aQ (b:=decide ((k:Int)<(l.length:Int))) (by simp;omega) rfl<|bc<|bg<|bg<|cA<|aq<|aZ rfl ?_;obtain rfl:k=l.length:=by omega
 exact aG (nw rfl hs (by rw[v_ fun j h=>de j h h]))
theorem yJ(v fv:Value)(l:List Int)(p:Int→Bool)(g:G)(hl:Rs g v l)
  (hp: ∀(g':G) (x:Int),x∈l→g.le g'→jd prog fv [vI x] g'.w (cO g' fun _ r=>r= .bool (p x))):
  cN prog 254 #[v,fv] g fun _ r=>r= .bool (l.any p):=by
 have hs:=St.start g;exact enter func254 rfl ntmps254 rfl<|aZ rfl<|cG 2 rfl<|Ev rfl (xu _ _ l p g hl hp) hs fun g1 hs ai=>aX rfl<|aG (nw rfl hs (by rw[←pV]))
end Go.Proofs.YtbfjdfecgiegpaaGreatDoor
namespace Go.Proofs.YtbfjdfecgiegpaaGreatDoor
def qH(f:bG)(n:Int):Bool:=decide (n<0)||decide ((f.steps.length:Int)≤n)
def given(f:bG)(l:List Int):Bool:=valid f&& !l.any (qH f)
def dG:Int→List Int→List Int
 |back,[]=>if 0≤back then [back]else []
 |back,n::r=>(if 0≤back∧back<n then [back]else [])++n::dG (if back≤n then -1 else back) r
def eB(s:Step):List Int:=dG s.back s.next
def oV(s:Step):Bool:=(s.next.length:Int)==0
def bj(f:bG)(n:Int):Step:=f.steps.getD n.toNat ⟨0,[],0,0,[],0,0⟩
def follow(f:bG)(n:Int):List Int:=if given f [n]then eB (bj f n)else []
theorem kz{f:bG}(h:valid f=true){n:Int}(h0:0≤n)(h1:n<f.steps.length):cf (bj f n) f.steps.length=true:=by unfold valid at h;simp only[Bool.and_eq_true,List.all_eq_true]at h;refine h.1.2 _ ?_;unfold bj;rw[List.getD_eq_getElem?_getD,List.getElem?_eq_getElem (by omega)];exact List.getElem_mem _
theorem xg{s:Step}{n:Int}(h:cf s n=true):s.next.length≤4:=by unfold cf at h;simp only[Bool.and_eq_true,decide_eq_true_eq]at h;omega
end Go.Proofs.YtbfjdfecgiegpaaGreatDoor
namespace Go.Proofs.YtbfjdfecgiegpaaGreatDoor
open Go Go.K Tryz
set_option maxRecDepth 10000
attribute [local irreducible] W WL cS bh bY bB bA bC cL cD
set_option maxHeartbeats 1000000
theorem LF(v:Value)(s:Step)(g:G)(u5:jS g v s):
  cN prog 216 #[v] g fun _ r=>r= .bool (oV s):=by
 obtain⟨cs,rfl,a1,n1,c1,a2,n2,c2,rfl,aH,aW⟩:=u5;obtain⟨_,_,e⟩:=aW.isSlice;obtain⟨rfl,rfl,rfl⟩:=Value.slice.inj e;clear e;have hs:=St.start g;exact enter func216 rfl ntmps216 rfl<|cR<|EH hs rfl fun b1 g1 hs ai=>aX rfl<|lJ [.o 0] hs rfl<|aG (nw rfl hs rfl)
def uv(g:G)(cs:List Value)(f:bG):Prop:=
 ∃a1 n1 c1 a2 n2 c2,cs=[vI f.dm,vI f.dv,.slice a1 n1 c1,.slice a2 n2 c2]∧Rs g (.slice a1 n1 c1) f.steps∧Rs g (.slice a2 n2 c2) f.windows
theorem uv.mono{g g':G}{cs:List Value}{f:bG}(h:uv g cs f)(hle:g.le g'):uv g' cs f:=by obtain⟨a1,n1,c1,a2,n2,c2,e,h1,h2⟩:=h;exact⟨a1,n1,c1,a2,n2,c2,e,h1.mono hle,h2.mono hle⟩
theorem IV(n:Int)(f:bG)(b:Nat)(cs:List Value)(g:G)(aD:EP g b 0 cs)(hc:uv g cs f):
  cN prog 255 #[vI n,vP b] g fun _ r=>r= .bool (qH f n):=by
 obtain⟨a1,n1,c1,a2,n2,c2,rfl,aH,aW⟩:=hc;obtain⟨_,_,e⟩:=aH.isSlice;obtain⟨rfl,rfl,rfl⟩:=Value.slice.inj e;clear e;have hs:=St.start g;refine enter func255 rfl ntmps255 rfl<|aZ rfl<|cG 3 rfl<|cH (want:=false) (x:=decide ((f.steps.length:Int)≤n)) 5 aK rfl rfl rfl rfl (.inr ⟨rfl,rfl,rfl⟩) rfl rfl rfl rfl (fun hb Q' eS=>?_) (fun g' hf=>?_)
 ·exact q5 5 [.z aD] rfl<|aA<|fun a ha=>eS _ a (a_.refl _) (ha.kp rfl)
 replace hs:=hs.call hf;have ai:=hf.le;exact aX rfl<|aG (nw rfl hs rfl)
theorem LG(v lv:Value)(f:bG)(l:List Int)(g:G)(dt:fP g v f)(cd:Rs g lv l):
  cN prog 213 #[v,lv] g fun _ r=>r= .bool (given f l):=by
 obtain⟨a1,n1,c1,a2,n2,c2,rfl,aH,aW⟩:=id dt;have hs:=St.start g;refine enter func213 rfl ntmps213 rfl<|cR<|An hs rfl fun b1 g2 hs ai aL=>?_;obtain⟨aH,aW,cd,dt⟩:=dK ai aH aW cd dt;have aD:=aL;refine aX rfl<|sP 1 [.z aD] rfl<|Ev rfl (EZ _ f _ dt) hs fun g1 hs ai=>?_;obtain⟨aD,aH,aW,cd⟩:=dK ai aD aH aW cd;refine Wp 1 rfl<|cH (want:=true) (x:=!l.any (qH f)) 4 aK rfl rfl rfl rfl (.inl ⟨rfl,rfl,rfl⟩) rfl rfl rfl rfl (fun hb Q' eS=>?_) (fun g' hf=>?_)
 ·refine Wp 2 rfl<|sO rfl (yJ _ _ l (qH f) _ cd (fun g' x _ hle=>dy (Wc 255) rfl (IV x f _ _ g' (aD.mono hle) ⟨_,_,_,_,_,_,rfl,aH.mono hle,aW.mono hle⟩))) ?_;rintro g1 _ aP rfl;replace hs:=hs.call aP;have ai:=aP.le;exact Wp 1 rfl<|aA<|fun a ha=>eS _ a aP (ha.kp rfl)
 replace hs:=hs.call hf;have ai:=hf.le;exact aX rfl<|aG (nw rfl hs rfl)
end Go.Proofs.YtbfjdfecgiegpaaGreatDoor
namespace Go.Proofs.YtbfjdfecgiegpaaGreatDoor
open Go Go.K Tryz
set_option maxRecDepth 10000
attribute [local irreducible] W WL cS bh bY bB bA bC cL cD
set_option maxHeartbeats 1000000
theorem IW(s:Step)(b:Nat)(cs:List Value)(g:G)(ep:EP g b 0 cs)(hc:sW g cs s):
  w7 prog 257 #[vP b] (fun n:Int=>[vI n]) (eB s) g:=by
 obtain⟨a1,n1,c1,a2,n2,c2,rfl,aH,aW⟩:=hc;obtain⟨_,_,e⟩:=aW.isSlice;obtain⟨rfl,rfl,rfl⟩:=Value.slice.inj e;clear e;intro g1 hle yv J Jx hJ WD hy Ds;have hlen:=aW.ef;unfold maxLen at hlen;have ar:=G.le.refl g1;have UY:=ep.mono hle;have Nb:=aW.mono hle;have aD:=UY;refine enter func257 rfl ntmps257 rfl<|Hw [.z aD] rfl<|az<|Hw [.z aD] rfl<|aI ?_;refine bK (fun m a' w=> ∃(k:Nat) (pre:List Int) (back:Int) (g':G),w=g'.w∧G.le g1 g'∧k≤s.next.length∧m=s.next.length-k∧J pre g'∧eB s=pre++dG back (s.next.drop k)∧
  Fr 41 [] [(0,yv),(1,vP b),(3,vI back),(9,.slice a2 s.next.length c2),(10,vI s.next.length),(11,vI k)] a') s.next.length
  (fun a' ha=>⟨0,[],s.back,g1,rfl,ar,Nat.zero_le _,rfl,Ds,rfl,ha.kp rfl⟩) ?_
 clear aD ar;rintro m a' _ ⟨k,pre,back,g',rfl,ar,hk,rfl,sR,hx,dW⟩;have aD:=UY.mono ar;have aW:=Nb.mono ar;revert a';refine ct<|aZ rfl<|az ?_;by_cases bt:k<s.next.length
 ·refine aJ (b:=decide ((k:Int)<(s.next.length:Int))) (by simp;omega) rfl<|aF<|aq<|az<|aI<|cR<|zc (y:=s.next[k]) aW (by simp[dJ,bt]) rfl ?_;rintro b p ys aL rfl;refine q5 1 [.e aL 0] rfl<|aX rfl<|az<|cG 3 rfl ?_;rw[List.drop_eq_getElem_cons bt,dG]at hx;refine cH (want:=true) (x:=decide (back<s.next[k])) 3 aK rfl rfl rfl rfl (.inl ⟨rfl,rfl,rfl⟩) rfl rfl rfl rfl (fun hb Q' eS=>?_) (fun g' hf=>?_)
  ·exact Wp 3 rfl<|aA<|fun a ha=>eS _ a (a_.refl _) (ha.kp rfl)
  have ai:=hf.le;replace sR:=hJ _ _ _ hf sR;replace ar:=G.le.trans ar ai;refine Wp 1 rfl ?_;by_cases hc:0≤back∧back<s.next[k]
  ·refine nE (t:=22) (.bool true) rfl (by simp[hc]) ?_;rw[if_pos hc,if_pos (by omega:back≤s.next[k])]at hx;refine Wp 2 rfl<|ak rfl rfl (fC rfl rfl rfl rfl rfl rfl ((hy pre back (s.next[k]::dG (-1) (s.next.drop (k+1))) _ (by rw[hx];rfl) ar sR).mono ?_));rintro _ _ ⟨g3,bb,rfl,rfl,ai,ht,hf⟩;refine⟨_,rfl,?_⟩;replace ar:=G.le.trans ar ai;cases bb with
   |false=>
    exact aX rfl<|aas rfl<|aG<|dO<|gQ<|dO<|dO<|gQ<|dO<|rO rfl<|⟨g3,_,rfl,rfl,ar,.inr ⟨_,⟨s.next[k]::dG (-1) (s.next.drop (k+1)),by rw[hx];simp⟩,hf rfl⟩⟩
   |true=>
    refine aX rfl<|aar rfl<|aF<|aq<|az<|aZ rfl<|aJ (b:=decide (back≤s.next[k])) (by simp;omega) rfl<|an<|aX rfl<|cG 2 rfl ?_;have Df:eB s=(pre++[back])++s.next[k]::dG (-1) (s.next.drop (k+1)):=by rw[hx];simp
    refine ak rfl rfl (fC rfl rfl rfl rfl rfl rfl ((hy ((pre++[back])) s.next[k] (dG (-1) (s.next.drop (k+1))) _ (Df) ar (ht rfl)).mono ?_));rintro _ _ ⟨g4,bb,rfl,rfl,ai,ht,hf⟩;refine⟨_,rfl,?_⟩;replace ar:=G.le.trans ar ai;cases bb with
    |false=>
     exact aX rfl<|aas rfl<|aG<|gQ<|dO<|dO<|gQ<|dO<|rO rfl<|⟨g4,_,rfl,rfl,ar,.inr ⟨_,⟨dG (-1) (s.next.drop (k+1)),by rw[Df];simp⟩,hf rfl⟩⟩
    |true=>
     exact aX rfl<|aar rfl<|aF<|bJ<|aq<|an<|Wp 2 rfl<|aA<|fun a ha=>⟨s.next.length-(k+1),by omega,k+1,(pre++[back])++[s.next[k]],-1,_,rfl,ar,by omega,rfl,ht rfl,by rw[Df];simp,ha.keep ⟨rfl,rfl,rfl,rfl,rfl,kW rfl,trivial⟩⟩
  refine nE (t:=22) (.bool false) rfl (congrArg Value.bool (by simp only[cond_true,Bool.and_eq_false_iff,decide_eq_false_iff_not];omega))<|aX rfl<|aar rfl ?_;rw[if_neg hc]at hx;refine aF<|aq<|az<|aZ rfl ?_;by_cases U6:back≤s.next[k]
  ·refine aJ (b:=decide (back≤s.next[k])) (by simp;omega) rfl ?_;rw[if_pos U6]at hx;refine an<|aX rfl<|cG 2 rfl ?_;have Df:eB s=pre++s.next[k]::dG (-1) (s.next.drop (k+1)):=by rw[hx];simp
   refine ak rfl rfl (fC rfl rfl rfl rfl rfl rfl ((hy (pre) s.next[k] (dG (-1) (s.next.drop (k+1))) _ (Df) ar (sR)).mono ?_));rintro _ _ ⟨g4,bb,rfl,rfl,ai,ht,hf⟩;refine⟨_,rfl,?_⟩;replace ar:=G.le.trans ar ai;cases bb with
   |false=>
    exact aX rfl<|aas rfl<|aG<|gQ<|dO<|dO<|gQ<|dO<|rO rfl<|⟨g4,_,rfl,rfl,ar,.inr ⟨_,⟨dG (-1) (s.next.drop (k+1)),by rw[Df];simp⟩,hf rfl⟩⟩
   |true=>
    exact aX rfl<|aar rfl<|aF<|bJ<|aq<|an<|Wp 2 rfl<|aA<|fun a ha=>⟨s.next.length-(k+1),by omega,k+1,pre++[s.next[k]],-1,_,rfl,ar,by omega,rfl,ht rfl,by rw[Df];simp,ha.keep ⟨rfl,rfl,rfl,rfl,rfl,kW rfl,trivial⟩⟩
  refine aQ (b:=decide (back≤s.next[k])) (by simp;omega) rfl ?_;rw[if_neg U6]at hx;refine aF<|aq<|cG 2 rfl ?_;have Df:eB s=pre++s.next[k]::dG back (s.next.drop (k+1)):=by rw[hx];simp
  refine ak rfl rfl (fC rfl rfl rfl rfl rfl rfl ((hy (pre) s.next[k] (dG (back) (s.next.drop (k+1))) _ (Df) ar (sR)).mono ?_));rintro _ _ ⟨g4,bb,rfl,rfl,ai,ht,hf⟩;refine⟨_,rfl,?_⟩;replace ar:=G.le.trans ar ai;cases bb with
  |false=>
   exact aX rfl<|aas rfl<|aG<|gQ<|dO<|dO<|gQ<|dO<|rO rfl<|⟨g4,_,rfl,rfl,ar,.inr ⟨_,⟨dG (back) (s.next.drop (k+1)),by rw[Df];simp⟩,hf rfl⟩⟩
  |true=>
   exact aX rfl<|aar rfl<|aF<|bJ<|aq<|an<|Wp 2 rfl<|aA<|fun a ha=>⟨s.next.length-(k+1),by omega,k+1,pre++[s.next[k]],back,_,rfl,ar,by omega,rfl,ht rfl,by rw[Df];simp,ha.keep ⟨rfl,rfl,rfl,rfl,rfl,kW rfl,trivial⟩⟩
 refine aQ (b:=decide ((k:Int)<(s.next.length:Int))) (by simp;omega) rfl<|bc<|bg<|bg<|cA<|aq<|aZ rfl ?_;obtain rfl:k=s.next.length:=by omega
 rw[List.drop_length,dG]at hx;by_cases hb:0≤back
 ·refine aJ (b:=decide (0≤back)) (by simp;omega) rfl ?_;rw[if_pos hb]at hx;refine an<|Wp 2 rfl<|ak rfl rfl (fC rfl rfl rfl rfl rfl rfl ((hy pre back [] _ hx ar sR).mono ?_));rintro _ _ ⟨g3,bb,rfl,rfl,ai,ht,hf⟩;refine⟨_,rfl,?_⟩;replace ar:=G.le.trans ar ai;refine aA<|lC rfl ?_;cases bb with
  |true=>exact⟨g3,_,rfl,rfl,ar,.inl (by rw[hx];exact ht rfl)⟩
  |false=>exact⟨g3,_,rfl,rfl,ar,.inr ⟨_,⟨[],by rw[hx];simp⟩,hf rfl⟩⟩
 refine aQ (b:=decide (0≤back)) (by simp;omega) rfl ?_;rw[if_neg hb,List.append_nil]at hx;exact aF<|lC rfl<|⟨_,_,rfl,rfl,ar,.inl (by rw[hx];exact sR)⟩
end Go.Proofs.YtbfjdfecgiegpaaGreatDoor
namespace Go.Proofs.YtbfjdfecgiegpaaGreatDoor
open Go Go.K Tryz
set_option maxRecDepth 10000
attribute [local irreducible] W WL cS bh bY bB bA bC cL cD
set_option maxHeartbeats 1000000
def Dt(g:G)(v:Value)(xs:List Int):Prop:=
 ∃lj fp,v= .func (.func lj) #[] fp∧ag prog lj∧w7 prog lj fp (fun n:Int=>[vI n]) xs g
theorem Dt.mono{g g':G}{v:Value}{xs:List Int}(h:Dt g v xs)(hle:g.le g'):Dt g' v xs:=by obtain⟨lj,fp,e,h1,h2⟩:=h;exact⟨lj,fp,e,h1,h2.mono hle⟩
theorem LK(v:Value)(s:Step)(g:G)(u5:jS g v s):
  cN prog 218 #[v] g fun g' r=>Dt g' r (eB s):=by
 obtain⟨cs,rfl,a1,n1,c1,a2,n2,c2,rfl,aH,aW⟩:=u5;have hs:=St.start g;refine enter func218 rfl ntmps218 rfl<|cR<|EH hs rfl fun b1 g1 hs ai=>?_;obtain⟨aH,aW⟩:=cr ai aH aW;refine aX rfl<|aZ rfl ?_;obtain⟨g2,bS,aV,ai,aL⟩:=hs.bd (i:=0) rfl;replace hs:=aV;clear aV;rw[←bS];obtain⟨aH,aW⟩:=cr ai aH aW;exact aG (nw rfl hs ⟨257,_,rfl,(Wc 257),IW s _ _ _ aL ⟨_,_,_,_,_,_,rfl,aH,aW⟩⟩)
end Go.Proofs.YtbfjdfecgiegpaaGreatDoor
namespace Go.Proofs.YtbfjdfecgiegpaaGreatDoor
open Go Go.K Tryz
set_option maxRecDepth 10000
attribute [local irreducible] W WL cS bh bY bB bA bC cL cD
set_option maxHeartbeats 4000000
def BT(b:Nat)(xs:List UInt8)(Lw:List df):Prop:=∃p v Lr,(p= .pointer none∨p=vP b)∧nz 5 v xs Lr∧Lw=vO b [p,v] 81::Lr
def jR(l:List Int):List UInt8:=l.flatMap gD
theorem lH: ∀l:List Int,(jR l).length≤10*l.length
 |[]=>by simp[jR]
 |n::l=>by have:=lH l;have h:=mz n;unfold jR at this⊢;simp only[List.flatMap_cons,List.length_append,List.length_cons];omega
theorem Dn{b:Nat}{xs:List UInt8}{Lw L:List df}{sv:Value}(l:List Int){g0 g:G}(hw:BT b xs Lw)(hl: ∀n∈l,sF n)(hlen:xs.length+10*l.length≤1000000)(aH:Rs g sv l)(hs:St g0 g (Lw++L)):
  CallsIn Wd 0 prog 38 #[vP b,sv] g.w (db g fun g' r=>r= .tuple #[]∧ ∃Dp,BT b (xs++jR l) Dp∧St g0 g' (Dp++L)):=by
 obtain⟨a,c,rfl⟩:=aH.isSlice;have ar:=G.le.refl g;refine enter func38 rfl ntmps38 rfl<|aZ rfl<|aI ?_;have pL:=aH;refine bK (fun m a' w=> ∃(k:Nat) (Dp:List df) (g':G),w=g'.w∧BT b (xs++jR (l.take k)) Dp∧St g0 g' (Dp++L)∧G.le g g'∧k≤l.length∧m=l.length-k∧
   Fr 25 [] [(0,vP b),(8,.slice a l.length c),(9,vI l.length),(10,vI k)] a') l.length
  (fun a' ha=>⟨0,Lw,g,rfl,by simpa [jR]using hw,hs,ar,Nat.zero_le _,rfl,ha.kp rfl⟩) ?_
 clear hs ar aH hw;rintro m a' _ ⟨k,Dp,g',rfl,⟨p,v,Lr,hp,hb,rfl⟩,hs,ar,hk,rfl,dW⟩;have aH:=pL.mono ar;revert a';refine ct<|aZ rfl<|az ?_;by_cases bt:k<l.length
 ·refine aJ (b:=decide ((k:Int)<(l.length:Int))) (by simp;omega) rfl<|aF<|aq<|az<|aI<|cR<|zc (y:=l[k]) aH (bZ rfl bt) rfl ?_;rintro b1 p1 ys aL rfl;refine q5 1 [.e aL 0] rfl<|aX rfl<|cG 1 rfl<|Ev rfl (BU l[k] _ (hl _ (List.getElem_mem bt))) hs fun g1 hs ai=>?_;obtain⟨ar,aH⟩:=cr ai ar aH;refine aX rfl<|an<|Wp 4 rfl ?_;have Dq:=lH (l.take k);have SY:=mz l[k];rw[List.length_take]at Dq;refine Dj rfl (H7 hp hb (gD l[k]) (by rw[List.length_append];omega) H8 hs) ?_;clear hs;rintro g5 _ ai ⟨v',yD,vH,hs⟩;obtain⟨ar,aH⟩:=cr ai ar aH;refine aA<|bJ<|aq<|an<|Wp 2 rfl<|aA<|fun a ha=>⟨l.length-(k+1),by omega,k+1,_,_,rfl,⟨_,v',yD,.inr rfl,?_,rfl⟩,hs,ar,by omega,rfl,ha.keep ⟨rfl,rfl,rfl,kI rfl (by have:=aH.ef;unfold maxLen at this;rw[wq];omega),trivial⟩⟩
  rw[List.take_succ_eq_append_getElem bt];unfold jR at vH⊢;rw[List.flatMap_append];simpa using vH
 refine aQ (b:=decide ((k:Int)<(l.length:Int))) (by simp;omega) rfl<|bc<|bg<|bg<|cA<|lC rfl (db.intro ar ⟨rfl,_,⟨p,v,Lr,hp,?_,rfl⟩,hs⟩);rw[List.take_of_length_le (by omega)]at hb;exact hb
theorem Dr(f:bO)(fs:List kK)(K6: ∀x∈fs,mi x.at_)(bl bf:Nat)(u:Value)(g:G)(QL:EP g bl 0 [u])(rs:Rs g u fs)(SZ:EP g bf 0 (cB f)):
  w7 prog 96 #[vP bl,vP bf] (fun n:Int=>[vI n]) (fs.map fun x=>f.num x.at_) g:=by
 obtain⟨a,c,rfl⟩:=rs.isSlice;intro g1 hle yv J Jx hJ WD hy Ds;have hlen:=rs.ef;unfold maxLen at hlen;have ar:=G.le.refl g1;have mP:=QL.mono hle;have Nb:=rs.mono hle;have OE:=SZ.mono hle;have aD:=mP;refine enter func96 rfl ntmps96 rfl<|Hw [.z aD] rfl<|aI ?_;refine bK (fun m a' w=> ∃(k:Nat) (g':G),w=g'.w∧G.le g1 g'∧k≤fs.length∧m=fs.length-k∧J ((fs.map fun x=>f.num x.at_).take k) g'∧
   Fr 21 [] [(0,yv),(1,vP bl),(2,vP bf),(6,.slice a fs.length c),(7,vI fs.length),(8,vI k)] a') fs.length
  (fun a' ha=>⟨0,g1,rfl,ar,Nat.zero_le _,rfl,Ds,ha.kp rfl⟩) ?_
 clear aD ar;rintro m a' _ ⟨k,g',rfl,ar,hk,rfl,sR,dW⟩;have aD:=OE.mono ar;have fh:=Nb.mono ar;have hs:=St.start g';revert a';refine ct<|aZ rfl<|az ?_;by_cases bt:k<fs.length
 ·refine aJ (b:=decide ((k:Int)<(fs.length:Int))) (by simp;omega) rfl ?_;have w6:=K6 _ (List.getElem_mem bt);have eH:=bZ (n:=((k:Nat):Int)) rfl bt;have rG:(fs.map fun x=>f.num x.at_)=(fs.map fun x=>f.num x.at_).take k++f.num fs[k].at_::(fs.map fun x=>f.num x.at_).drop (k+1):=by
   conv=>lhs;rw[←List.take_append_drop k (fs.map fun x=>f.num x.at_)]
   rw[List.drop_eq_getElem_cons (by simpa using bt)];simp
  have dP:(fs.map fun x=>f.num x.at_).take (k+1)=(fs.map fun x=>f.num x.at_).take k++[f.num fs[k].at_]:=by rw[List.take_succ_eq_append_getElem (by simpa using bt)];simp
  generalize fs[k]=x at*;refine aF<|aq<|az<|aI<|cR<|zc (y:=x) fh eH rfl ?_;rintro bq pq ys aL rfl;refine q5 1 [.e aL 0] rfl<|w4 hs rfl fun bx g1 hs ai=>?_;obtain⟨ar,aD⟩:=cr ai ar aD;refine sN 0 hs rfl fun g1 hs ai=>?_;obtain⟨ar,aD⟩:=cr ai ar aD;refine b_<|c_ 3 [.o 0] hs rfl<|ak rfl rfl<|fb rfl rfl rfl rfl rfl rfl (dy (first:=#[]) (captured:=#[]) (args:=[vP bf]) (HZ w6) rfl (M8 w6 bf _)) ?_;rintro g4 _ mg rfl;replace hs:=hs.call mg;have ai:=mg.le;obtain⟨ar,aD⟩:=cr ai ar aD;refine Wp 1 rfl<|ak rfl rfl<|w8 T.ok rfl aD rfl (Aq w6 f) ?_;have Kj:=hJ _ _ _ hs.rh sR;refine ak rfl rfl (fC rfl rfl rfl rfl rfl rfl ((hy _ _ _ _ rG ar Kj).mono ?_));rintro _ _ ⟨g5,bb,rfl,rfl,ai,ht,hf⟩;refine⟨_,rfl,?_⟩;clear hs Kj;replace ar:=G.le.trans ar ai;cases bb with
  |false=>
   exact aX rfl<|aas rfl<|aG<|gQ<|dO<|dO<|gQ<|rO rfl<|⟨g5,_,rfl,rfl,ar,.inr ⟨_,⟨_,by rw[List.append_assoc];exact rG.symm⟩,hf rfl⟩⟩
  |true=>
   exact aX rfl<|aar rfl<|aF<|bJ<|aq<|an<|Wp 2 rfl<|aA<|fun a ha=>⟨fs.length-(k+1),by omega,k+1,_,rfl,ar,by omega,rfl,dP▸ht rfl,ha.keep ⟨rfl,rfl,rfl,rfl,rfl,kW rfl,trivial⟩⟩
 refine aQ (b:=decide ((k:Int)<(fs.length:Int))) (by simp;omega) rfl<|bc<|bg<|bg<|cA<|lC rfl ⟨g',_,rfl,rfl,ar,.inl ?_⟩;rw[List.take_of_length_le (by simp;omega)]at sR;exact sR
theorem zh(f:bO)(fs:List kK)(K6: ∀x∈fs,mi x.at_)(u:Value)(g:G)(aH:Rs g u fs):
  cN prog 40 #[fv f,u] g fun g' r=>Dt g' r (fs.map fun x=>f.num x.at_):=by
 obtain⟨a,c,rfl⟩:=aH.isSlice;have hs:=St.start g;refine enter func40 rfl ntmps40 rfl<|cR<|EH hs rfl fun bf g1 hs ai=>?_;replace aH:=aH.mono ai;refine An hs rfl fun bl g2 hs ai aD=>?_;replace aH:=aH.mono ai;obtain⟨g2,bS,aV,ai,aL⟩:=hs.bd (i:=0) rfl;replace hs:=aV;clear aV;rw[←bS];obtain⟨aD,aH⟩:=cr ai aD aH;have aM:=aL;clear aL;exact aX rfl<|aZ rfl<|aG (nw rfl hs ⟨96,_,rfl,(Wc 96),Dr f fs K6 _ _ _ _ aD aH aM⟩)
end Go.Proofs.YtbfjdfecgiegpaaGreatDoor
namespace Go.Proofs.YtbfjdfecgiegpaaGreatDoor
open Go Go.K Tryz
set_option maxRecDepth 10000
attribute [local irreducible] W WL cS bh bY bB bA bC cL cD
set_option maxHeartbeats 4000000
theorem Nc{α:Type}{a b:α}{A C:List α}:List.Perm (a::b::(A++C)) (A++(a::b::C)):=(List.perm_middle.symm.cons a).trans List.perm_middle.symm
theorem zi{b:Nat}{xs:List UInt8}{Lw L:List df}{YX:Value}(l:List Int){g0 g:G}(hw:BT b xs Lw)(hl: ∀n∈l,sF n)(hlen:xs.length+10*l.length≤1000000)(hx:Dt g YX l)(hs:St g0 g (Lw++L)):
  CallsIn Wd 0 prog 39 #[vP b,YX] g.w (db g fun g' r=>r= .tuple #[]∧ ∃Dp,BT b (xs++jR l) Dp∧St g0 g' (Dp++L)):=by
 obtain⟨lj,fp,rfl,fw,uh⟩:=hx;have ar:=G.le.refl g;refine uj func39 rfl ntmps39 rfl<|cR<|EH hs rfl fun bx g1 hs ai=>?_;replace ar:=G.le.trans ar ai;obtain⟨g2,bS,aV,ai,aL⟩:=hs.bd (i:=0) rfl;replace hs:=aV;clear aV;rw[←bS];replace ar:=G.le.trans ar ai;have aD:=aL;clear aL;have hs:St g0 g2 (Lw++L):=hs;refine b_<|aZ rfl<|aI ?_;refine EL (N:=11) hs rfl fw (uh.mono ar) rfl (fun _=>rfl)
  (fun pre L' g'=>EP g' bx 0 [vP b]∧G.le g g'∧ ∃Dp,L'=Dp++L∧BT b (xs++jR pre) Dp) (fun _ _ _ _=>False)
  (fun _ _ _ _ hle h=>⟨h.1.mono hle,h.2.1.trans hle,h.2.2⟩) (fun _ _ _ _ _ _ h=>h) ⟨aD,ar,Lw,rfl,by simpa [jR]using hw⟩ (fun n=>[(4,vI n),(2,vP bx)]) ?_ ?_ ?_ ?_
 ·intro x ro w;exact an<|Wp 1 rfl<|aA<|fun a ha=>⟨rfl,ha.kp rfl⟩
 ·rintro lp D ro pre x rest gr Lr nv hle hs ⟨aD,mQ,Dp,rfl,hw⟩;have dL:=G.le.refl gr;have Dq:=lH pre;have SY:pre.length+1≤l.length:=by rw[nv];simp
  have so:x∈l:=by rw[nv];simp
  refine aI<|an<|q5 2 [.z aD] rfl<|BP [(0,vI (x))] [vI (x)] hs rfl rfl fun bl gl hs ai=>?_;obtain⟨dL,mQ,aD⟩:=dR ai dL mQ aD;obtain⟨gz,gF,cK,gW,G9⟩:=hs.cP (α:=Int) (xs:=[x]) (i:=0) rfl (cY.ints _ [x]);clear ai;have ai:=gW;rw[←gF];replace hs:=cK;clear cK;obtain⟨dL,mQ,aD⟩:=dR ai dL mQ aD;have aV:=hs.perm Nc;refine ak rfl rfl<|cp (Wc 38) (fun _=>trivial) rfl rfl rfl rfl rfl (CallsIn.lQ rfl rfl rfl (Dn [x] hw (by simpa using hl x so) (by rw[List.length_append];simp only[List.length_cons,List.length_nil];omega) G9 aV)) ?_;clear hs aV;rintro g5 _ ai ⟨rfl,WE,bS,hs⟩;obtain⟨dL,mQ,aD⟩:=dR ai dL mQ aD;replace hs:=hs.perm Nc.symm;refine aA<|bJ<|fun a ha=>⟨_,_,rfl,hs,dL,aD,mQ,WE,rfl,?_⟩
  unfold jR at bS⊢;rw[List.flatMap_append,←List.append_assoc];exact bS
 ·rintro lp D o Lr ge hle hs ⟨aD,mQ,Dp,rfl,hw⟩;refine bJ<|Nd 1 rfl hs rfl (fun g' lB gB=>?_);exact db.intro (mQ.trans gB) ⟨rfl,Dp,hw,lB.drop 0⟩
 rintro c lp D o pre Lr ge _ _ _ h;exact h.elim
end Go.Proofs.YtbfjdfecgiegpaaGreatDoor
namespace Go.Proofs.YtbfjdfecgiegpaaGreatDoor
open Go Go.K Tryz
set_option maxRecDepth 10000
attribute [local irreducible] W WL cS bh bY bB bA bC cL cD
set_option maxHeartbeats 8000000
def WG(xs:List Int):Fact:=⟨fun v g=>Dt g v xs,fun _ _ _ hf h=>h.mono hf.le⟩
def sS(f:bO)(l:List kK):List Int:=l.map fun x=>f.num x.at_
theorem uk(f:bO)(l:List kK):jR (sS f l)=wv f l:=by unfold jR sS wv;rw[List.flatMap_map]
theorem rP(n:Int):gD n≠[]:=by unfold gD mA;simp
theorem H9(f:bO)(g:G):cN prog 16 #[fv f] g fun _ r=>r= .string (bs (fU f)):=by
 have hs:=St.start g;have ar:=G.le.refl g;refine enter func16 rfl ntmps16 rfl<|cR<|An hs rfl fun bf g2 hs ai aD=>aX rfl<|az<|sP 1 [.z aD] rfl<|Ev rfl (BR f _) hs fun g1 hs ai=>?_;replace aD:=aD.mono ai;refine aX rfl ?_;cases hv:fT f with
 |false=>
  refine aas rfl<|aZ rfl<|aG<|dO<|nw rfl hs ?_;unfold fU;rw[hv];rfl
 |true=>
  refine aar rfl ?_;obtain⟨s,pQ,WH,YY,H_,_⟩:=mj hv;obtain⟨_,_,_,jG,De,_,rH,WI⟩:=pz pQ;refine aF<|aq<|cR<|BO [] [.pointer none,.slice none 0 0] [(0,2)] rfl<|EH hs rfl fun bw g1 hs ai=>?_;replace aD:=aD.mono ai;have hw:BT bw [] [vO bw [.pointer none,.slice none 0 0] 81]:=⟨_,_,[],.inl rfl,.inl ⟨rfl,rfl,rfl⟩,rfl⟩;refine aX rfl<|sP 3 [.z aD] rfl<|BP [(0,vI (f.kind))] [vI (f.kind)] hs rfl rfl fun bl gl hs ai=>?_;replace aD:=aD.mono ai;obtain⟨gz,gF,cK,gW,G9⟩:=hs.cP (α:=Int) (xs:=[f.kind]) (i:=0) rfl (cY.ints _ [f.kind]);clear ai;have ai:=gW;rw[←gF];replace hs:=cK;clear cK;replace aD:=aD.mono ai;refine Dj rfl (Dn (L:=[]) [f.kind] hw (by intro n hn;obtain rfl:n=f.kind:=(by simpa using hn);unfold sF;omega) (by simp) G9 hs) ?_;clear hs hw G9;rintro g5 _ ai ⟨rfl,WE,hw,hs⟩;replace aD:=aD.mono ai;refine b_<|az ?_;apply ea (eF (.f K4::eF (.f (F0 (ee f.kind) id):: .f (Fact.rs s.key):: .f (WG (sS f s.key))::[]))) 8 [(0,14),(7,21)] (by kernel_rfl)
  ·refine pO [[],[]] [.z aD] hs rfl<|fR [] (fun gd hf=>aj (ay rfl (aC (Wc 41) aK rfl rfl rfl rfl rfl (w5 gd) fun g' v hf ⟨b,oW,e,h1,h2⟩=>⟨g',rfl,hf,b,oW,e,h1,h2⟩)))<|pO [[],[3]] [.z aD] hs rfl<|fR [(2,16),(4,18)] (fun gd hf=>ba fun v2 h2=>aax rfl ?_) ?_
   ·obtain⟨b,oW,rfl,h1,h2⟩:=h2;exact ay rfl (Ap rfl h1 h2 rfl rfl fun cs h=>⟨gd,rfl,a_.refl _,cs,rfl,h⟩)
   refine fR [(5,19)] (fun gd hf=>ba fun v5 h5=>aj ?_) ?_
   ·obtain⟨cs,rfl,h⟩:=h5;rw[pQ]at h;obtain⟨a,b,rfl,h1,h2⟩:=h;exact aaL rfl (h2)
   exact fR [(1,15),(6,20)] (fun gd hf=>ah rfl (ba fun v6 h6=>aj (ay rfl (aC (Wc 40) aK rfl rfl rfl rfl rfl (zh f s.key (nW pQ).2 v6 gd h6) fun g' v hf hv=>⟨g',rfl,hf,hv⟩))))<|gG
  intro g1 aP;refine ah rfl (ba fun v7 h7=>aj ?_);replace hs:=hs.dr.call aP;have ai:=(G.bI _).trans aP.le;refine Dj rfl (zi (L:=[]) (sS f s.key) hw (by intro n hn;obtain⟨x,hx,rfl⟩:=List.mem_map.1 hn;exact H_ x hx) (by have:=lH [f.kind];simp only[List.nil_append,sS,List.length_map,List.length_cons,List.length_nil]at this⊢;omega) h7 hs) ?_;clear hs hw h7;rintro g5 _ ai ⟨rfl,QN,⟨p,v,Lr,hp,hb,rfl⟩,hs⟩;refine b_<|cG 3 rfl<|Dj rfl (Du (L:=[]) (by simp[jR,rP]) hb hs) ?_;clear hs hb;rintro g6 _ ai ⟨rfl,hs⟩;refine aX rfl<|aG<|nw rfl hs ?_;rw[uk];unfold fU;rw[hv,pQ];simp[jR]
end Go.Proofs.YtbfjdfecgiegpaaGreatDoor
namespace Go.Proofs.YtbfjdfecgiegpaaGreatDoor
open Go Go.K Tryz
set_option maxRecDepth 10000
attribute [local irreducible] W WL cS bh bY bB bA bC cL cD
set_option maxHeartbeats 8000000
theorem BV(f:bO)(g:G):cN prog 43 #[fv f] g fun _ r=>r= .tuple #[.string (bs (mJ f).1),vI (mJ f).2]:=by
 have hs:=St.start g;have ar:=G.le.refl g;refine enter func43 rfl ntmps43 rfl<|cR<|An hs rfl fun bf g2 hs ai aD=>aX rfl<|az<|sP 1 [.z aD] rfl<|Ev rfl (BR f _) hs fun g1 hs ai=>?_;replace aD:=aD.mono ai;refine aX rfl ?_;cases hv:fT f with
 |false=>
  refine aas rfl<|aZ rfl<|aG<|dO<|HX rfl rfl rfl<|hs.ret ?_;unfold mJ;rw[hv];rfl
 |true=>
  refine aar rfl ?_;obtain⟨s,pQ,WH,YY,H_,WJ,YZ,Z_,QP,SR,_⟩:=mj hv;obtain⟨_,_,_,jG,De,pg,rH,WI⟩:=pz pQ;refine aF<|aq<|az ?_;apply ny (.f K4::(eF (.f (F0 (ee f.kind) id)::(.f Fact.any:: .f Fact.any::[])))) 6 [(4,4)] [4,5] [[],[4]] (C0 g [] 89 H5 (rN (ee f.kind)) 4 5) (BS rN.mono) (M' hs.dr) (by kernel_rfl) ⟨ze,qF _ _,dq,dq,trivial⟩
  ·refine bV (cT (js:=[]) (by kernel_rfl) rfl fun _ g2 _ _ _ _=>bN (ay rfl (aC (Wc 41) aK rfl rfl rfl rfl rfl (w5 g2) fun g' v hf ⟨b,oW,e,h1,h2⟩=>⟨g',rfl,hf,b,oW,e,h1,h2⟩)))<|Um [[],[1]] [.z aD] (by kernel_rfl) rfl<|bV (cT (js:=[(0,11),(2,13)]) (by kernel_rfl) rfl fun _ g2 _ _ _ _=>cW fun v0 h0=>cV rfl (bN ?_)) ?_
   ·obtain⟨b,oW,rfl,h1,h2⟩:=h0;exact ay rfl (Ap rfl h1 h2 rfl rfl fun cs h=>⟨g2,rfl,a_.refl _,cs,rfl,h⟩)
   refine bV (jc (js:=[]) (by kernel_rfl) rfl fun ρ g2 h1 _ h3 _ hJ=>bN ⟨rfl,zf rfl h3 (h1 1 [4] 5 rfl rfl (by simp)) hJ rfl rfl rfl⟩)<|bV (jc (js:=[(4,4),(3,14),(3,14),(4,4)]) (by kernel_rfl) rfl fun ρ g2 _ _ h3 _ hJ=>cW fun _ _=>cW fun _ _=>cW fun v5 h5=>gk rfl fun v7 _ r7=>bN ⟨rfl,?_⟩) ?_
   ·obtain⟨cs,rfl,h⟩:=h5;exact zg rN.mono rfl r7 h3 hJ rfl rfl rfl rfl cs rfl h.len.1 rfl h.len.2 h
   exact zd
  intro ρ g3 hle hJ dj;refine gk rfl fun v7 _ r7=>bN ?_;obtain⟨b3,cs,rfl,hs,hO⟩:=EK r7 (dj 5 rfl) hJ;clear hJ dj r7;have ai:=(G.bI _).trans hle;replace aD:=aD.mono ai;clear hle ρ;rw[pQ]at hO;obtain⟨ka,kb,rfl,fh,gn⟩:=hO;obtain⟨g2,bS,aV,ai,aL⟩:=hs.bd (i:=0) rfl;replace hs:=aV;clear aV;rw[←bS];obtain⟨aD,fh⟩:=cr ai aD fh;have aM:=aL;clear aL;refine b_<|cR<|BO [] [.pointer none,.slice none 0 0] [(0,2)] rfl<|EH hs rfl fun bw g1 hs ai=>?_;obtain⟨aD,aM,fh⟩:=dR ai aD aM fh;have hw:BT bw [] [vO bw [.pointer none,.slice none 0 0] 81]:=⟨_,_,[],.inl rfl,.inl ⟨rfl,rfl,rfl⟩,rfl⟩;refine aX rfl<|az ?_;have aaf:pv f.gone=0∨pv f.gone=1:=by unfold pv;split<;>simp
  apply ea (dn (eF (.f (Fact.rs [f.kind,f.ver,f.day,pv f.gone])::[]))) 11 [(0,17),(10,27)] (by kernel_rfl)
  ·refine pO [[],[],[1],[],[3],[],[5],[],[7],[8]] [.z aD,.z aD,.z aD,.z aD,.c (Wc 117) fun g _=>OB f.gone g] hs rfl<|fR [(2,19),(4,21),(6,23),(9,26)] (fun gd hf=>aaH rfl (ay rfl (bE T.ok rfl (St.start gd) (vs:=[(0,vI f.kind),(1,vI f.ver),(2,vI f.day),(3,vI (pv f.gone))]) (cells:=[f.kind,f.ver,f.day,pv f.gone].map (Value.int .i64)) rfl rfl rfl rfl rfl rfl (by decide) (by decide) (by kernel_rfl) rfl fun b g' lB _=>?_))) ?_
   ·obtain⟨g2,e1,e2,e3⟩:=lO (α:=Int) lB (cY.ints g' [f.kind,f.ver,f.day,pv f.gone]);exact⟨g2,e1,e2,e3⟩
   exact gG
  intro g1 aP;refine ah rfl (ba fun v10 vG=>aj ?_);replace hs:=hs.dr.call aP;have ai:=(G.bI _).trans aP.le;obtain⟨aD,aM,fh⟩:=dR ai aD aM fh;refine Dj rfl (Dn (L:=[]) [f.kind,f.ver,f.day,pv f.gone] hw (by intro n hn;simp only[List.mem_cons,List.not_mem_nil,or_false]at hn;unfold sF;rcases hn with rfl|rfl|rfl|rfl<;>omega) (by simp) vG hs) ?_;clear hs hw vG;rintro g5 _ ai ⟨rfl,WE,hw,hs⟩;obtain⟨aD,aM,fh⟩:=dR ai aD aM fh;refine b_<|sP 4 [.z aD,.z aM] rfl<|sO rfl (zh f s.fields (nW pQ).1 ka _ fh) fun g1 v9 aP h9=>?_;replace hs:=hs.call aP;have ai:=aP.le;obtain⟨aD,aM⟩:=cr ai aD aM;have Dq:=lH [f.kind,f.ver,f.day,pv f.gone];have aag:=lH (sS f s.fields);have EA:(sS f s.fields).length≤11:=by unfold sS;simpa using pg
  simp only[List.length_cons,List.length_nil]at Dq;refine Dj rfl (zi (L:=[]) (sS f s.fields) hw (by intro n hn;obtain⟨x,hx,rfl⟩:=List.mem_map.1 hn;exact YY x hx) (by simp only[List.nil_append];omega) h9 hs) ?_;clear hs hw h9;rintro g5 _ ai ⟨rfl,QN,⟨p,v,Lr,hp,hb,rfl⟩,hs⟩;obtain⟨aD,aM⟩:=cr ai aD aM;refine b_<|az<|Hw [.z aM] rfl ?_
  cases ht:s.jI with
  |true=>
   refine aas rfl<|sP 2 [.z aD] rfl<|Ev rfl (H' f.text _ (by omega)) hs fun g1 hs ai=>aX rfl<|an<|Wp 4 rfl ?_
   have sw:(nV f.text).1.length≤f.text.length+10:=by
    unfold nV;split
    ·simp
    have:=mz f.text.length;simp only[List.length_append];omega
   refine Dj rfl (H7 (L:=[]) hp hb (nV f.text).1 (by simp only[List.nil_append,List.length_append];omega) H8 hs) ?_;clear hs hp;rintro g5 _ ai ⟨v',yD,hb,hs⟩;refine b_<|cG 3 rfl<|Dj rfl (Du (L:=[]) (by simp[jR,rP]) hb hs) ?_;clear hs hb;rintro g6 _ ai ⟨rfl,hs⟩;refine aX rfl<|aG (HX rfl rfl rfl (hs.ret ?_));rw[uk];unfold mJ;rw[hv,pQ];simp[jR,ht]
  |false=>
   refine aar rfl<|aF<|aq<|cG 3 rfl<|Dj rfl (Du (L:=[]) (by simp[jR,rP]) hb hs) ?_;clear hs hb;rintro g6 _ ai ⟨rfl,hs⟩;refine aX rfl<|aG (HX rfl rfl rfl (hs.ret ?_));rw[uk];unfold mJ;rw[hv,pQ];simp[jR,ht]
end Go.Proofs.YtbfjdfecgiegpaaGreatDoor
namespace Go.Proofs.YtbfjdfecgiegpaaGreatDoor
open Go Go.K Tryz
set_option maxRecDepth 10000
attribute [local irreducible] W WL cS bh bY bB bA bC cL cD
set_option maxHeartbeats 8000000
theorem F1(x y:List UInt8)(g:G):cN prog 44 #[.string (bs x),.string (bs y)] g fun _ r=>r=vI (Lib.compareBytes x y):=by refine lD ((Tryz.strings_Compare (bs x) (bs y) g.w).mono ?_) fun _ _=>rfl;rintro e w' ⟨rfl,rfl⟩;exact⟨rfl,RowKit.Below.refl _ _⟩
theorem Dv(f h:bO)(g:G):cN prog 17 #[fv f,fv h] g fun _ r=>r= .bool (rb f h):=by
 have hs:=St.start g;have ar:=G.le.refl g;refine enter func17 rfl ntmps17 rfl<|cR<|EH hs rfl fun b1 g1 hs ai=>An hs rfl fun b2 g2 hs ai aM=>?_;obtain⟨g2,bS,aV,ai,aL⟩:=hs.bd (i:=0) rfl;replace hs:=aV;clear aV;rw[←bS];replace aM:=aM.mono ai;have aD:=aL;clear aL;refine aX rfl<|sP 1 [.z aD] rfl<|Ev rfl (BV f _) hs fun g1 hs ai=>?_;obtain⟨aD,aM⟩:=cr ai aD aM;refine aX rfl<|sP 1 [.z aM] rfl<|Ev rfl (BV h _) hs fun g1 hs ai=>?_;obtain⟨aD,aM⟩:=cr ai aD aM;refine aX rfl<|az<|aI<|az<|aZ rfl ?_
 by_cases h1:(mJ f).2=0
 ·refine aQ (b:=(mJ f).2 !=0) (by simp[h1]) rfl<|aZ rfl ?_;by_cases h2:(mJ h).2=0
  ·refine aQ (b:=(mJ h).2 !=0) (by simp[h2]) rfl ?_;apply bD hs (gU (fe [])) 5 [(4,28)] (by kernel_rfl) rfl
   ·exact EG [[],[0],[],[2],[1,3]] [.z aD,.c (Wc 16) fun g _=>H9 f g,.z aM,.c (Wc 16) fun g _=>H9 h g] hs rfl
   clear hs;intro g5 hs ai;obtain⟨aD,aM⟩:=cr ai aD aM;refine aX rfl ?_;by_cases h3:fU f=fU h
   ·refine aQ (b:=!((bs (fU f)).toList==(bs (fU h)).toList)) (by rw[h3];simp) rfl ?_;have hp:rb f h=if f.ver≠h.ver then decide (h.ver<f.ver)else decide (0<Lib.compareBytes (mJ f).1 (mJ h).1):=by unfold rb;rw[if_neg (by simp[h1,h2,h3])]
    refine Hw [.z aD,.z aM] rfl ?_;by_cases h4:f.ver=h.ver
    ·refine aQ (b:=f.ver !=h.ver) (by simp[h4]) rfl<|aF<|bJ<|aq<|cG 2 rfl<|Ev rfl (F1 (mJ f).1 (mJ h).1 _) hs fun g1 hs ai=>?_;obtain⟨aD,aM⟩:=cr ai aD aM;refine aX rfl<|aG<|nw rfl hs ?_;rw[hp,if_neg (by simp[h4])]
    refine aJ (b:=f.ver !=h.ver) (by simp[h4]) rfl<|Hw [.z aD,.z aM] rfl<|aG<|gQ<|dO<|nw rfl hs ?_;rw[hp,if_pos h4]
   refine aJ (b:=!((bs (fU f)).toList==(bs (fU h)).toList)) (by rw[cM,cM];simp[h3]) rfl<|aZ rfl<|aG<|gQ<|dO<|nw rfl hs ?_;unfold rb;rw[if_pos (by simp[h3])]
  refine aJ (b:=(mJ h).2 !=0) (by simp[h2]) rfl<|aF<|aq<|aJ (b:=(mJ h).2 !=0) (by simp[h2]) rfl<|aZ rfl<|aG<|gQ<|dO<|nw rfl hs ?_;unfold rb;rw[if_pos (by simp[h2])]
 refine aJ (b:=(mJ f).2 !=0) (by simp[h1]) rfl<|aF<|aq<|aJ (b:=(mJ f).2 !=0) (by simp[h1]) rfl<|aZ rfl<|aG<|gQ<|dO<|nw rfl hs ?_;unfold rb;rw[if_pos (by simp[h1])]
end Go.Proofs.YtbfjdfecgiegpaaGreatDoor
namespace Go.Proofs.YtbfjdfecgiegpaaGreatDoor
open Go Go.K Tryz
set_option maxRecDepth 10000
attribute [local irreducible] W WL cS bh bY bB bA bC cL cD
set_option maxHeartbeats 4000000
def HY:Nat→Nat
 |0=>45
 |1=>47
 |2=>48
 |3=>49
 |4=>51
 |5=>53
 |6=>54
 |7=>55
 |8=>57
 |9=>58
 |10=>60
 |_=>0
def u0:Nat→Nat
 |0=>46
 |1=>46
 |2=>46
 |3=>50
 |4=>52
 |5=>46
 |6=>46
 |7=>56
 |8=>46
 |9=>59
 |10=>46
 |_=>0
def mK:Nat→bO→Int×Int
 |3,f=>(f.waf,f.time)
 |4,f=>(f.prod,0)
 |7,f=>(f.oth,f.par)
 |9,f=>(f.rcp,f.time)
 |_,f=>(f.idn,0)
abbrev Ia(p:Int×Int):Value:=.agg #[vI p.1,vI p.2]
def zj(i:Nat):Prop:=i=0∨i=1∨i=2∨i=3∨i=4∨i=5∨i=6∨i=7∨i=8∨i=9∨i=10
theorem lR{i:Nat}(h:i<11):zj i:=by unfold zj;omega
theorem Nf{i:Nat}(hi:zj i)(b:Nat)(g:G):cN prog (HY i) #[vP b] g fun _ r=>r= .pointer (some ⟨b,i,none⟩):=by
 rcases hi with rfl|rfl|rfl|rfl|rfl|rfl|rfl|rfl|rfl|rfl|rfl
 ·have hs:=St.start g;exact enter func45 rfl ntmps45 rfl<|aZ rfl<|aZ rfl<|aG (nw rfl hs rfl)
 ·have hs:=St.start g;exact enter func47 rfl ntmps47 rfl<|aZ rfl<|aZ rfl<|aG (nw rfl hs rfl)
 ·have hs:=St.start g;exact enter func48 rfl ntmps48 rfl<|aZ rfl<|aZ rfl<|aG (nw rfl hs rfl)
 ·have hs:=St.start g;exact enter func49 rfl ntmps49 rfl<|aZ rfl<|aZ rfl<|aG (nw rfl hs rfl)
 ·have hs:=St.start g;exact enter func51 rfl ntmps51 rfl<|aZ rfl<|aZ rfl<|aG (nw rfl hs rfl)
 ·have hs:=St.start g;exact enter func53 rfl ntmps53 rfl<|aZ rfl<|aZ rfl<|aG (nw rfl hs rfl)
 ·have hs:=St.start g;exact enter func54 rfl ntmps54 rfl<|aZ rfl<|aZ rfl<|aG (nw rfl hs rfl)
 ·have hs:=St.start g;exact enter func55 rfl ntmps55 rfl<|aZ rfl<|aZ rfl<|aG (nw rfl hs rfl)
 ·have hs:=St.start g;exact enter func57 rfl ntmps57 rfl<|aZ rfl<|aZ rfl<|aG (nw rfl hs rfl)
 ·have hs:=St.start g;exact enter func58 rfl ntmps58 rfl<|aZ rfl<|aZ rfl<|aG (nw rfl hs rfl)
 have hs:=St.start g;exact enter func60 rfl ntmps60 rfl<|aZ rfl<|aZ rfl<|aG (nw rfl hs rfl)
theorem Ib{i:Nat}(hi:zj i):ag prog (HY i):=by
 rcases hi with rfl|rfl|rfl|rfl|rfl|rfl|rfl|rfl|rfl|rfl|rfl
 ·exact(Wc 45)
 ·exact(Wc 47)
 ·exact(Wc 48)
 ·exact(Wc 49)
 ·exact(Wc 51)
 ·exact(Wc 53)
 ·exact(Wc 54)
 ·exact(Wc 55)
 ·exact(Wc 57)
 ·exact(Wc 58)
 exact(Wc 60)
theorem rQ(f:bO)(g:G):cN prog 46 #[fv f] g fun _ r=>r=Ia (f.idn,0):=by have hs:=St.start g;exact enter func46 rfl ntmps46 rfl<|cR<|EH hs rfl fun b1 g1 hs ai=>w4 hs rfl fun b1 g1 hs ai=>b_<|c_ 2 [.o 1] hs rfl<|ak rfl rfl<|jt T.ok rfl (vs:=[(0,vI (f.idn)),(1,vI (0))]) (cells:=[vI (f.idn),vI (0)]) rfl rfl rfl rfl rfl (by kernel_rfl)<|sN 0 hs rfl fun g1 hs ai=>b_<|aG (me T.ok 0 rfl hs rfl rfl rfl (hs.ret rfl))
theorem S0{i:Nat}(hi:zj i)(f:bO)(g:G):cN prog (u0 i) #[fv f] g fun _ r=>r=Ia (mK i f):=by
 rcases hi with rfl|rfl|rfl|rfl|rfl|rfl|rfl|rfl|rfl|rfl|rfl
 ·exact rQ f g
 ·exact rQ f g
 ·exact rQ f g
 ·have hs:=St.start g;exact enter func50 rfl ntmps50 rfl<|cR<|EH hs rfl fun b1 g1 hs ai=>w4 hs rfl fun b1 g1 hs ai=>b_<|c_ 4 [.o 1,.o 1] hs rfl<|ak rfl rfl<|jt T.ok rfl (vs:=[(0,vI (f.waf)),(1,vI (f.time))]) (cells:=[vI (f.waf),vI (f.time)]) rfl rfl rfl rfl rfl (by kernel_rfl)<|sN 0 hs rfl fun g1 hs ai=>b_<|aG (me T.ok 0 rfl hs rfl rfl rfl (hs.ret rfl))
 ·have hs:=St.start g;exact enter func52 rfl ntmps52 rfl<|cR<|EH hs rfl fun b1 g1 hs ai=>w4 hs rfl fun b1 g1 hs ai=>b_<|c_ 2 [.o 1] hs rfl<|ak rfl rfl<|jt T.ok rfl (vs:=[(0,vI (f.prod)),(1,vI (0))]) (cells:=[vI (f.prod),vI (0)]) rfl rfl rfl rfl rfl (by kernel_rfl)<|sN 0 hs rfl fun g1 hs ai=>b_<|aG (me T.ok 0 rfl hs rfl rfl rfl (hs.ret rfl))
 ·exact rQ f g
 ·exact rQ f g
 ·have hs:=St.start g;exact enter func56 rfl ntmps56 rfl<|cR<|EH hs rfl fun b1 g1 hs ai=>w4 hs rfl fun b1 g1 hs ai=>b_<|c_ 4 [.o 1,.o 1] hs rfl<|ak rfl rfl<|jt T.ok rfl (vs:=[(0,vI (f.oth)),(1,vI (f.par))]) (cells:=[vI (f.oth),vI (f.par)]) rfl rfl rfl rfl rfl (by kernel_rfl)<|sN 0 hs rfl fun g1 hs ai=>b_<|aG (me T.ok 0 rfl hs rfl rfl rfl (hs.ret rfl))
 ·exact rQ f g
 ·have hs:=St.start g;exact enter func59 rfl ntmps59 rfl<|cR<|EH hs rfl fun b1 g1 hs ai=>w4 hs rfl fun b1 g1 hs ai=>b_<|c_ 4 [.o 1,.o 1] hs rfl<|ak rfl rfl<|jt T.ok rfl (vs:=[(0,vI (f.rcp)),(1,vI (f.time))]) (cells:=[vI (f.rcp),vI (f.time)]) rfl rfl rfl rfl rfl (by kernel_rfl)<|sN 0 hs rfl fun g1 hs ai=>b_<|aG (me T.ok 0 rfl hs rfl rfl rfl (hs.ret rfl))
 exact rQ f g
theorem OF{i:Nat}(hi:zj i):ag prog (u0 i):=by
 rcases hi with rfl|rfl|rfl|rfl|rfl|rfl|rfl|rfl|rfl|rfl|rfl
 ·exact(Wc 46)
 ·exact(Wc 46)
 ·exact(Wc 46)
 ·exact(Wc 50)
 ·exact(Wc 52)
 ·exact(Wc 46)
 ·exact(Wc 46)
 ·exact(Wc 56)
 ·exact(Wc 46)
 ·exact(Wc 59)
 exact(Wc 46)
def sT(i:Nat):Value:=.agg #[.func (.func (HY i)) #[] #[],.func (.func (u0 i)) #[] #[]]
def lS:List (Int×Value):=[(1,sT 0),(2,sT 1),(3,sT 2),(4,sT 3),(5,sT 4),(6,sT 5),(7,sT 6),(8,sT 7),(9,sT 8),(10,sT 9),(11,sT 10)]
theorem F2{k:Int}(h1:1≤k)(h2:k≤11):jb k lS=some (sT (k-1).toNat):=by
 have:k=1∨k=2∨k=3∨k=4∨k=5∨k=6∨k=7∨k=8∨k=9∨k=10∨k=11:=by omega
 rcases this with rfl|rfl|rfl|rfl|rfl|rfl|rfl|rfl|rfl|rfl|rfl<;>rfl
theorem K7(g:G):cN prog 18 #[] g fun g' r=> ∃b,r= .map (some b)∧g'.im b∧g'.w.heap[b]? =some (eV lS):=by have hs:=St.start g;have hT:um Int prog 45 _:=Dk T.ok rfl rfl rfl rfl rfl;refine enter func18 rfl ntmps18 rfl<|aZ rfl<|cR<|ak rfl rfl<|kS (κ:=Int) rfl hs fun bm g1 hs ai=>BO [(0,.func (.func (HY 0)) #[] #[]),(1,.func (.func (u0 0)) #[] #[])] [.func (.func (HY 0)) #[] #[],.func (.func (u0 0)) #[] #[]] [(0,1),(1,1)] rfl<|bu rfl<|dQ (κ:=Int) hT 0 (.inr rfl) hs rfl rfl (a:=1) rfl rfl fun g1 hs ai=>BO [(0,.func (.func (HY 1)) #[] #[]),(1,.func (.func (u0 1)) #[] #[])] [.func (.func (HY 1)) #[] #[],.func (.func (u0 1)) #[] #[]] [(0,1),(1,1)] rfl<|bu rfl<|dQ (κ:=Int) hT 0 (.inr rfl) hs rfl rfl (a:=2) rfl rfl fun g1 hs ai=>BO [(0,.func (.func (HY 2)) #[] #[]),(1,.func (.func (u0 2)) #[] #[])] [.func (.func (HY 2)) #[] #[],.func (.func (u0 2)) #[] #[]] [(0,1),(1,1)] rfl<|bu rfl<|dQ (κ:=Int) hT 0 (.inr rfl) hs rfl rfl (a:=3) rfl rfl fun g1 hs ai=>BO [(0,.func (.func (HY 3)) #[] #[]),(1,.func (.func (u0 3)) #[] #[])] [.func (.func (HY 3)) #[] #[],.func (.func (u0 3)) #[] #[]] [(0,1),(1,1)] rfl<|bu rfl<|dQ (κ:=Int) hT 0 (.inr rfl) hs rfl rfl (a:=4) rfl rfl fun g1 hs ai=>BO [(0,.func (.func (HY 4)) #[] #[]),(1,.func (.func (u0 4)) #[] #[])] [.func (.func (HY 4)) #[] #[],.func (.func (u0 4)) #[] #[]] [(0,1),(1,1)] rfl<|bu rfl<|dQ (κ:=Int) hT 0 (.inr rfl) hs rfl rfl (a:=5) rfl rfl fun g1 hs ai=>BO [(0,.func (.func (HY 5)) #[] #[]),(1,.func (.func (u0 5)) #[] #[])] [.func (.func (HY 5)) #[] #[],.func (.func (u0 5)) #[] #[]] [(0,1),(1,1)] rfl<|bu rfl<|dQ (κ:=Int) hT 0 (.inr rfl) hs rfl rfl (a:=6) rfl rfl fun g1 hs ai=>BO [(0,.func (.func (HY 6)) #[] #[]),(1,.func (.func (u0 6)) #[] #[])] [.func (.func (HY 6)) #[] #[],.func (.func (u0 6)) #[] #[]] [(0,1),(1,1)] rfl<|bu rfl<|dQ (κ:=Int) hT 0 (.inr rfl) hs rfl rfl (a:=7) rfl rfl fun g1 hs ai=>BO [(0,.func (.func (HY 7)) #[] #[]),(1,.func (.func (u0 7)) #[] #[])] [.func (.func (HY 7)) #[] #[],.func (.func (u0 7)) #[] #[]] [(0,1),(1,1)] rfl<|bu rfl<|dQ (κ:=Int) hT 0 (.inr rfl) hs rfl rfl (a:=8) rfl rfl fun g1 hs ai=>BO [(0,.func (.func (HY 8)) #[] #[]),(1,.func (.func (u0 8)) #[] #[])] [.func (.func (HY 8)) #[] #[],.func (.func (u0 8)) #[] #[]] [(0,1),(1,1)] rfl<|bu rfl<|dQ (κ:=Int) hT 0 (.inr rfl) hs rfl rfl (a:=9) rfl rfl fun g1 hs ai=>BO [(0,.func (.func (HY 9)) #[] #[]),(1,.func (.func (u0 9)) #[] #[])] [.func (.func (HY 9)) #[] #[],.func (.func (u0 9)) #[] #[]] [(0,1),(1,1)] rfl<|bu rfl<|dQ (κ:=Int) hT 0 (.inr rfl) hs rfl rfl (a:=10) rfl rfl fun g1 hs ai=>BO [(0,.func (.func (HY 10)) #[] #[]),(1,.func (.func (u0 10)) #[] #[])] [.func (.func (HY 10)) #[] #[],.func (.func (u0 10)) #[] #[]] [(0,1),(1,1)] rfl<|bu rfl<|dQ (κ:=Int) hT 0 (.inr rfl) hs rfl rfl (a:=11) rfl rfl fun g1 hs ai=>aX rfl ?_;have aV:=hs.fz (i:=0) rfl;have hh:=(hs.own 0 _ rfl).2.1;refine aG (aaq rfl (aV.ret ⟨bm,rfl,.inr rfl,hh⟩))
end Go.Proofs.YtbfjdfecgiegpaaGreatDoor
namespace Go.Proofs.YtbfjdfecgiegpaaGreatDoor
variable {α:Type}
def kl(k:α→Int×Int)(x y:α):Bool:=decide ((k x).1<(k y).1∨((k x).1=(k y).1∧(k x).2<(k y).2))
variable {k:α→Int×Int}
theorem tN{x y:α}:kl k x y=true↔(k x).1<(k y).1∨((k x).1=(k y).1∧(k x).2<(k y).2):=by unfold kl;simp
theorem iZ{x y:α}:kl k x y=false↔ ¬((k x).1<(k y).1∨((k x).1=(k y).1∧(k x).2<(k y).2)):=by unfold kl;simp
theorem He{x y z:α}(h1:kl k x y=true)(h2:kl k y z=true):kl k x z=true:=by rw[tN]at*;omega
theorem qu{x y z:α}(h1:kl k x y=false)(h2:kl k y z=false):kl k x z=false:=by rw[iZ]at*;omega
def Hf(k:α→Int×Int)(x:α)(f:List α→List α)(xl:List α):List α→List α
 |[]=>xl
 |y::r=>if kl k y x=true then y::Hf k x f xl r else x::f (y::r)
def nb(k:α→Int×Int):List α→List α→List α
 |[],r=>r
 |x::l,r=>Hf k x (nb k l) (x::l) r
theorem ir(l:List α):nb k l []=l:=by cases l<;>rfl
theorem ek(x y:α)(l r:List α):nb k (x::l) (y::r)=if kl k y x=true then y::nb k (x::l) r else x::nb k l (y::r):=rfl
theorem FG: ∀(n:Nat) (a b c:List α),a.length+b.length+c.length=n→nb k (nb k a b) c=nb k a (nb k b c):=by
 intro n
 induction n using Nat.strongRecOn with
 |_ n ih=>
  intro a b c hn
  match a,b,c with
  |[],b,c=>rfl
  |x::a,[],c=>rw[ir];rfl
  |x::a,y::b,[]=>rw[ir,ir]
  |x::a,y::b,z::c=>
   simp only[List.length_cons]at hn;rw[ek x y,ek y z];by_cases h1:kl k y x=true
   ·rw[if_pos h1];by_cases h2:kl k z y=true
    ·rw[if_pos h2,ek,if_pos h2,ek,if_pos (He h2 h1)];congr 1;have e:y::nb k (x::a) b=nb k (x::a) (y::b):=by rw[ek,if_pos h1]
     rw[e];exact ih (n-1) (by omega) (x::a) (y::b) c (by simp only[List.length_cons];omega)
    rw[if_neg h2,ek,if_neg h2,ek,if_pos h1];congr 1;exact ih (n-1) (by omega) (x::a) b (z::c) (by simp only[List.length_cons];omega)
   rw[if_neg h1];by_cases h2:kl k z y=true
   ·rw[if_pos h2,ek,ek];by_cases h3:kl k z x=true
    ·rw[if_pos h3,if_pos h3];congr 1;have e:x::nb k a (y::b)=nb k (x::a) (y::b):=by rw[ek,if_neg h1]
     rw[e];exact ih (n-1) (by omega) (x::a) (y::b) c (by simp only[List.length_cons];omega)
    rw[if_neg h3,if_neg h3];congr 1;have e:z::nb k (y::b) c=nb k (y::b) (z::c):=by rw[ek,if_pos h2]
    rw[e];exact ih (n-1) (by omega) a (y::b) (z::c) (by simp only[List.length_cons];omega)
   have h3: ¬kl k z x=true:=by have:=qu (Bool.eq_false_iff.2 h2) (Bool.eq_false_iff.2 h1);rw[this];simp
   rw[if_neg h2,ek,if_neg h3,ek,if_neg h1];congr 1;have e:y::nb k b (z::c)=nb k (y::b) (z::c):=by rw[ek,if_neg h2]
   rw[e];exact ih (n-1) (by omega) a (y::b) (z::c) (by simp only[List.length_cons];omega)
theorem iI: ∀(a1 b1:List α) {a2 b2:List α},(∀x∈a1,∀y∈b2,kl k y x=false)→(∀y∈b1,∀x∈a2,kl k y x=true)→nb k (a1++a2) (b1++b2)=nb k a1 b1++nb k a2 b2
 |[],[],_,_,_,_=>rfl
 |[],y::b1,a2,b2,h1,h2=>by
  have ih:=iI [] b1 (a2:=a2) (b2:=b2) (by simp) (fun z hz=>h2 z (List.mem_cons_of_mem _ hz));cases a2 with
  |nil=>rfl
  |cons x a2=>
   simp only[List.nil_append,List.cons_append]at ih⊢;rw[ek,if_pos (h2 y (List.mem_cons_self ..) x (List.mem_cons_self ..)),ih];rfl
 |x::a1,[],a2,b2,h1,h2=>by
  have ih:=iI a1 [] (a2:=a2) (b2:=b2) (fun z hz=>h1 z (List.mem_cons_of_mem _ hz)) (by simp);rw[ir]at ih⊢;cases b2 with
  |nil=>rw[List.append_nil,ir,ir]
  |cons y b2=>
   simp only[List.nil_append,List.cons_append]at ih⊢;rw[ek,if_neg (by rw[h1 x (List.mem_cons_self ..) y (List.mem_cons_self ..)];simp),ih]
 |x::a1,y::b1,a2,b2,h1,h2=>by
  have YD:=iI (x::a1) b1 (a2:=a2) (b2:=b2) h1 (fun z hz=>h2 z (List.mem_cons_of_mem _ hz));have YE:=iI a1 (y::b1) (a2:=a2) (b2:=b2) (fun z hz=>h1 z (List.mem_cons_of_mem _ hz)) h2;simp only[List.cons_append]at YD YE⊢;rw[ek,ek];split
  ·rw[YD];rfl
  rw[YE];rfl
def dC(k:α→Int×Int):List α→List α
 |[]=>[]
 |x::l=>nb k [x] (dC k l)
theorem pA: ∀(l r:List α),dC k (l++r)=nb k (dC k l) (dC k r)
 |[],r=>rfl
 |x::l,r=>by show nb k [x] (dC k (l++r))=nb k (nb k [x] (dC k l)) (dC k r);rw[pA l r,FG _ _ _ _ rfl]
theorem pB: ∀(l r:List α),(nb k l r).Perm (l++r)
 |[],r=>List.Perm.refl _
 |x::l,r=>by
  have aux: ∀r:List α,(nb k (x::l) r).Perm (x::l++r):=by
   intro r
   induction r with
   |nil=>rw[ir,List.append_nil]
   |cons y r ih=>
    rw[ek];split
    ·exact(ih.cons y).trans List.perm_middle.symm
    exact((pB l (y::r)).cons x)
  exact aux r
theorem iJ: ∀l:List α,(dC k l).Perm l
 |[]=>List.Perm.refl _
 |x::l=>(pB [x] (dC k l)).trans ((iJ l).cons x)
def Bs(k:α→Int×Int)(l:List α):Prop:=l.Pairwise fun x y=>kl k y x=false
theorem Em: ∀(l r:List α),Bs k l→Bs k r→Bs k (nb k l r)
 |[],r,_,h=>h
 |x::l,r,hl,hr=>by
  have aux: ∀r:List α,Bs k r→Bs k (nb k (x::l) r):=by
   intro r
   induction r with
   |nil=>intro _;rw[ir];exact hl
   |cons y r ih=>
    intro hr;rw[ek];have z7:=List.pairwise_cons.1 hl;have G6:=List.pairwise_cons.1 hr;split
    ·rename_i h;refine List.pairwise_cons.2 ⟨fun z hz=>?_,ih G6.2⟩;have hz:=(pB (x::l) r).mem_iff.1 hz;simp only[List.cons_append,List.mem_cons,List.mem_append]at hz;rcases hz with rfl|hz|hz
     ·rw[tN]at h;rw[iZ];omega
     ·have:=z7.1 z hz;rw[tN]at h;rw[iZ]at this⊢;omega
     exact G6.1 z hz
    rename_i h;have h:=Bool.eq_false_iff.2 h;refine List.pairwise_cons.2 ⟨fun z hz=>?_,Em l (y::r) z7.2 hr⟩;have hz:=(pB l (y::r)).mem_iff.1 hz;simp only[List.mem_append,List.mem_cons]at hz;rcases hz with hz|rfl|hz
    ·exact z7.1 z hz
    ·exact h
    exact qu (G6.1 z hz) h
  exact aux r hr
theorem jJ: ∀l:List α,Bs k (dC k l)
 |[]=>List.Pairwise.nil
 |x::l=>Em [x] _ (List.pairwise_singleton _ _) (jJ l)
theorem rC: ∀{l r:List α},l.Perm r→Bs k l→Bs k r→(∀x∈l,∀y∈l,k x=k y→x=y)→l=r
 |[],r,hp,_,_,_=>(List.nil_perm.1 hp).symm
 |x::l,[],hp,_,_,_=>(List.Perm.nil_eq hp.symm).symm
 |x::l,y::r,hp,hl,hr,hd=>by
  have z7:=List.pairwise_cons.1 hl;have G6:=List.pairwise_cons.1 hr;have Mu:x=y:=by
   have hx:=hp.mem_iff.1 (List.mem_cons_self (a:=x) (l:=l));have hy:=hp.mem_iff.2 (List.mem_cons_self (a:=y) (l:=r));rcases List.mem_cons.1 hx with h|h
   ·exact h
   rcases List.mem_cons.1 hy with h2|h2
   ·exact h2.symm
   have e1:=G6.1 x h;have e2:=z7.1 y h2;refine hd x (List.mem_cons_self ..) y (List.mem_cons_of_mem _ h2) (Prod.ext ?_ ?_)<;>(rw[iZ]at e1 e2;omega)
  subst Mu;rw[rC (hp.cons_inv) z7.2 G6.2 fun a ha b hb=>hd a (List.mem_cons_of_mem _ ha) b (List.mem_cons_of_mem _ hb)]
end Go.Proofs.YtbfjdfecgiegpaaGreatDoor
