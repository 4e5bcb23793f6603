/- Parts of the proof, from: Reading the line of a step. -/
import Derived.Test.YtebobfdheanknaaGreatDoorYf
import Derived.Test.YtebobfdheanknaaGreatDoorYc
import Derived.Test.YtebobfdheanknaaGreatDoorYd
import Derived.Test.YtebobfdheanknaaGreatDoorYe
import Derived.Test.YtebobfdheanknaaGreatDoorShelfP
import Derived.Test.YtebobfdheanknaaGreatDoorYb
namespace Go.Proofs.YtebobfdheanknaaGreatDoor
open Go Go.K
set_option maxRecDepth 10000
attribute [local irreducible] W WL cT cn bX bA bB bD cW cG
set_option maxHeartbeats 8000000
def OH(x:List UInt8):Fact:=⟨fun v g=> ∃ns,ou x=some ns∧Rs g v (ints ns),fun _ _ _ hf ⟨ns,h1,h2⟩=>⟨ns,h1,h2.mono hf.le⟩⟩
def RX(x y:List UInt8):Fact:=⟨fun v g=> ∃(r:Nat) (tl:List Nat) (a:Option Addr) (c:Nat),fN x=some r∧ou y=some tl∧v= .agg #[.int .i64 r,.slice a tl.length c,.int .i64 0,.int .i64 0,.slice none 0 0,.int .i64 (-1),.int .i64 0]∧Rs g (.slice a tl.length c) (ints tl),
 fun _ _ _ hf ⟨r,tl,a,c,h1,h2,h3,h4⟩=>⟨r,tl,a,c,h1,h2,h3,h4.mono hf.le⟩⟩
theorem OI:(⟨#[45]⟩:ByteArray).toList=[45]:=cD [45]
theorem y9(l:List Nat):(ints l).length=l.length:=by simp[ints]
theorem Kd{b:Nat}(f:bV)(line:List UInt8)(hlen:line.length≤1000000)(Ke:f.steps.length≤1000000){g0 g:G}{L:List cV}(hF:iw g)(hO:Hn b f L g0 g):
  CallsIn Wd 0 Tryz.prog 141 #[.pointer (some ⟨b,0,none⟩),.string (bs line)] g.w fun e w'=>
   eu g (fun g' r=>r= .tuple #[]∧ ∃s,rJ f line=some s∧Hn b {f with steps:=f.steps++[s]} L g0 g') e w'∨
   (rJ f line=none∧eW g lD (fun g'=> ∃cs,St g0 g' (Hr b cs::L)) e w'):=by
 have aq:=G.le.refl g
 obtain⟨sa,sc,wa,wc,vY,hs,dL⟩:=hO
 unfold IF at hs
 unfold Hr
 replace hs:St g0 g (.obj b (.cells [.int .i64 f.ck,.int .i64 f.cu,.slice sa f.steps.length sc,.slice wa f.windows.length wc].toArray 30 (0,0))::
  .row 65 7 (.slice sa f.steps.length sc) f.steps.length vY::
  .row 141 3 (.slice wa f.windows.length wc) f.windows.length (j7 f.windows)::L):=hs
 refine enter Tryz.func141 rfl Tryz.ntmps141 rfl ?_
 refine dx 6 [.o 0] hs rfl ?_
 refine an rfl rfl (ay HO aI rfl rfl rfl rfl rfl (Fl f.steps.length _ (by unfold mH;omega) hF) ?_)
 rintro g1 _ aN Qk
 rw[um]at Qk
 subst Qk
 replace hs:=hs.call aN
 have ah:=aN.le;obtain⟨aq,dL⟩:=cC ah aq dL
 skip
 refine an rfl rfl (bj T.ok rfl hs (vs:=[(0,.string (bs nB)),(1,.string (bs (dec f.steps.length))),(2,.string (bs lf)),(3,.string (bs [])),(4,.string (bs nC)),(5,.string (bs [])),(6,.string (bs rA)),(7,.string (bs [])),(8,.string (bs rB)),(9,.string (bs []))])
  (cells:=[.string (bs nB),.string (bs (dec f.steps.length)),.string (bs lf),.string (bs []),.string (bs nC),.string (bs []),.string (bs rA),.string (bs []),.string (bs rB),.string (bs [])]) rfl rfl rfl rfl rfl rfl (by decide) (by decide) (by kernel_rfl) rfl ?_)
 clear hs
 rintro bl gl hs ah;obtain⟨aq,dL⟩:=cC ah aq dL
 obtain⟨gz,ik,cS,iT,aT⟩:=hs.cL (α:=w_) (xs:=(Kb f.steps.length).map w_.mk) (i:=0) rfl (cO.strs _ (Kb f.steps.length))
 have ah:=iT;rw[←ik];replace hs:=cS;clear cS;obtain⟨aq,dL⟩:=cC ah aq dL
 skip
 refine an rfl rfl (cd AT aI rfl rfl rfl rfl rfl (sB line (Kb f.steps.length) _ _ hlen (by unfold Kb;simp) (hF.mono aq) aT) ?_ ?_)
 rotate_left
 ·intro hn g5 oe
  replace hs:=hs.call oe
  replace aq:=aq.trans oe.le
  (repeat (first|with_reducible refine f_ ?_|with_reducible refine gg ?_|with_reducible refine gh ?_))
  exact dt (.inr ⟨gk (Fk hn),eW.intro aq ⟨_,(hs.drop 1).drop 1⟩⟩)
 rintro g4 v kL ⟨ly,aH⟩
 replace hs:=hs.call kL
 have ah:=kL.le;obtain⟨aq,dL⟩:=cC ah aq dL
 obtain⟨pa,pc,rfl⟩:=aH.isSlice
 rw[List.length_map]at aH⊢
 have rX:=kh 32 line
 have AX:=nZ 32 line
 generalize sO:cz 32 line=ps at*
 obtain⟨a0,a1,a2,a3,a4,a5,a6,a7,a8,a9,rest,rfl⟩:=Kc ly.1
 have qD:=CO ly
 have BK: ∀{n},(∀bk,ji a3 a5 a7 a9 bk=none)→eZ n line=none:=fun hb=>CN sO hb
 have x_:(a0::a1::a2::a3::a4::a5::a6::a7::a8::a9::rest).length=rest.length+10:=rfl
 rw[x_]at aH⊢
 refine ba rfl ?_;apply aB
 have oh:=hs
 apply ed (fe (.f (o0 a3)::(fe (.f (CJ a3)::(fe (.f (o0 a5)::(fe (.f (OH a5)::(.f (RX a3 a5)::(.f (B_ g4.dr.w.heap.size [.int .i64 0,.slice none 0 0,.int .i64 0,.int .i64 0,.slice none 0 0,.int .i64 0,.int .i64 0] 65)::[])))))))))) 10 [(8,23),(9,5)] (by kernel_rfl)
 ·refine Dx [[]] (by kernel_rfl) rfl ?_
  refine aw (ak (js:=[(0,15)]) (by kernel_rfl) fun gd hf=>?_) ?_
  ·have eH:=(G.bJ _).trans hf.le
   refine ai rfl ?_
   apply aj
   refine az rfl ?_
   refine aW T.ok rfl (aH.mono eH) (y:=⟨a3⟩) rfl rfl rfl rfl rfl rfl rfl ?_
   intro b p ys aL eK
   exact⟨_,rfl,aZ.refl _,b,p,rfl,by rw[←show ys=[Value.string (bs a3)]from eK];exact aL⟩
  refine aw (ak (js:=[(1,16)]) (by kernel_rfl) fun gd hf=>?_) ?_
  ·skip
   refine aY fun v1 h1=>?_
   apply aj
   obtain⟨b,p,rfl,aL⟩:=h1
   refine az rfl ?_
   refine cp T.ok 0 rfl aL rfl rfl ?_
   refine⟨_,rfl,aZ.refl _,?_⟩
   exact rfl
  refine aw (ak (js:=[(2,17)]) (by kernel_rfl) fun gd hf=>?_) ?_
  ·have ib:=hs.dr.call hf;have eH:=(G.bJ _).trans hf.le
   refine ai rfl ?_
   apply aj
   refine az rfl ?_
   refine cd pg aI rfl rfl rfl rfl rfl (jl a3 _ (Nat.le_trans (rX a3 (by simp)) hlen) (hF.mono (aq.trans eH))) (fun g' v eO h=>⟨g',rfl,eO,h⟩) fun hn g' eO=>?_
   replace ib:=ib.call eO
   (repeat (first|with_reducible refine f_ ?_|with_reducible refine gg ?_|with_reducible refine gh ?_))
   exact dt (.inr ⟨gk (BK fun _=>Hu hn),eW.intro ((aq.trans eH).trans eO.le) ⟨_,(ib.drop 1).drop 1⟩⟩)
  refine Dx [[]] (by kernel_rfl) rfl ?_
  refine aw (ak (js:=[(4,19)]) (by kernel_rfl) fun gd hf=>?_) ?_
  ·have eH:=(G.bJ _).trans hf.le
   refine ai rfl ?_
   apply aj
   refine az rfl ?_
   refine aW T.ok rfl (aH.mono eH) (y:=⟨a5⟩) rfl rfl rfl rfl rfl rfl rfl ?_
   intro b p ys aL eK
   exact⟨_,rfl,aZ.refl _,b,p,rfl,by rw[←show ys=[Value.string (bs a5)]from eK];exact aL⟩
  refine aw (ak (js:=[(5,20)]) (by kernel_rfl) fun gd hf=>?_) ?_
  ·skip
   refine aY fun v5 h5=>?_
   apply aj
   obtain⟨b,p,rfl,aL⟩:=h5
   refine az rfl ?_
   refine cp T.ok 0 rfl aL rfl rfl ?_
   refine⟨_,rfl,aZ.refl _,?_⟩
   exact rfl
  refine aw (ak (js:=[(6,21)]) (by kernel_rfl) fun gd hf=>?_) ?_
  ·have ib:=hs.dr.call hf;have eH:=(G.bJ _).trans hf.le
   refine ai rfl ?_
   apply aj
   refine az rfl ?_
   refine cd HP aI rfl rfl rfl rfl rfl (Fm a5 _ (Nat.le_trans (rX a5 (by simp)) hlen) (hF.mono (aq.trans eH))) (fun g' v eO h=>⟨g',rfl,eO,h⟩) fun hn g' eO=>?_
   replace ib:=ib.call eO
   (repeat (first|with_reducible refine f_ ?_|with_reducible refine gg ?_|with_reducible refine gh ?_))
   exact dt (.inr ⟨gk (BK fun _=>Hv hn),eW.intro ((aq.trans eH).trans eO.le) ⟨_,(ib.drop 1).drop 1⟩⟩)
  refine aw (ak (js:=[(3,18),(7,22)]) (by kernel_rfl) fun gd hf=>?_) ?_
  ·skip
   refine aY fun v3 h3=>?_;refine aY fun v7 h7=>?_
   apply aj
   obtain⟨r,hr,rfl⟩:=h3
   obtain⟨tl,ht,RY⟩:=h7
   obtain⟨ta,tc,rfl⟩:=RY.isSlice
   rw[y9]at RY⊢
   refine az rfl ?_
   refine aQ T.ok rfl (vs:=[(0,.int .i64 r),(1,.slice ta tl.length tc),(5,.int .i64 (-1))]) (cells:=[.int .i64 r,.slice ta tl.length tc,.int .i64 0,.int .i64 0,.slice none 0 0,.int .i64 (-1),.int .i64 0]) rfl rfl rfl rfl [(0,1),(1,1),(2,1),(3,1),(4,1),(5,1),(6,1)] rfl (by kernel_rfl) ?_
   exact⟨_,rfl,aZ.refl _,r,tl,ta,tc,hr,ht,rfl,RY⟩
  refine aw (ak (js:=[]) (by kernel_rfl) fun gd hf=>?_) ?_
  ·skip
   apply aj
   refine az rfl ?_
   refine aK T.ok rfl (St.start gd) rfl rfl ?_
   intro b g' iS hle
   have ho:=iS.own 0 _ rfl
   exact⟨g',rfl,iS.mS,b,rfl,Nat.le_trans hf.below.size ho.1,ho.2⟩
  exact fJ
 intro g1 aN;refine aY fun v8 h8=>?_;refine aY fun v9 h9=>?_;apply aj
 replace hs:=hs.dr.call aN;have ah:=(G.bJ _).trans aN.le;obtain⟨aq,aH,dL⟩:=ef ah aq aH dL
 obtain⟨r,tl,ta,tc,hr,ht,rfl,bT⟩:=h8
 obtain⟨bx,rfl,uS⟩:=h9
 replace hs:=oh.dr.gJ aN uS;clear oh
 skip
 refine bg rfl (aA T.ok 0 rfl hs rfl rfl rfl rfl rfl rfl rfl rfl rfl ?_);replace hs:=hs;rintro g1 hs ah;obtain⟨aq,aH,bT,dL⟩:=dE ah aq aH bT dL
 apply cf;refine cP 1 rfl ?_
 refine an rfl rfl (aW T.ok rfl aH (y:=⟨a7⟩) rfl rfl rfl rfl rfl rfl rfl ?_)
 rintro bq pq ys aL rfl
 refine Wm 1 [.e aL 0] (St.start _) rfl ?_
 skip
 refine an rfl rfl (cd HN aI rfl rfl rfl rfl rfl (Fo a7 _ (Nat.le_trans (rX a7 (by simp)) hlen) (hF.mono aq)) ?_ ?_)
 rotate_left
 ·intro hn g5 oe
  replace hs:=hs.call oe
  replace aq:=aq.trans oe.le
  (repeat (first|with_reducible refine f_ ?_|with_reducible refine gg ?_|with_reducible refine gh ?_))
  exact dt (.inr ⟨gk (BK fun _=>Hw hn),eW.intro aq ⟨_,((hs.drop 0).drop 1).drop 1⟩⟩)
 rintro g6 _ mY ⟨m,n,KO,rfl⟩
 replace hs:=hs.call mY
 have ah:=mY.le;obtain⟨aq,aH,bT,dL⟩:=dE ah aq aH bT dL
 refine Wp 4 rfl ?_
 refine bg rfl (aA T.ok 0 rfl hs rfl rfl rfl rfl rfl rfl rfl rfl rfl ?_);replace hs:=hs;rintro g1 hs ah;obtain⟨aq,aH,bT,dL⟩:=dE ah aq aH bT dL
 refine Wp 1 rfl ?_
 refine bg rfl (aA T.ok 0 rfl hs rfl rfl rfl rfl rfl rfl rfl rfl rfl ?_);replace hs:=hs;rintro g1 hs ah;obtain⟨aq,aH,bT,dL⟩:=dE ah aq aH bT dL
 apply cf;apply aB;refine cP 1 rfl ?_
 refine an rfl rfl (aW T.ok rfl aH (y:=⟨a9⟩) rfl rfl rfl rfl rfl rfl rfl ?_)
 rintro bq pq ys aL rfl
 refine Wm 1 [.e aL 0] (St.start _) rfl ?_
 refine ba rfl ?_
 refine lL (fun a' w=> ∃(na:Option Addr) (nc:Nat) (nx:List Nat) (g':G),w=g'.w∧g1.le g'∧uo a9=some nx∧Rs g' (.slice na nx.length nc) (ints nx)∧
  St g0 g' (.obj bx (.cells [.int .i64 r,.slice ta tl.length tc,.int .i64 m,.int .i64 n,.slice na nx.length nc,.int .i64 (-1),.int .i64 (0)].toArray 65 (0,0))::
   .obj b (.cells [.int .i64 f.ck,.int .i64 f.cu,.slice sa f.steps.length sc,.slice wa f.windows.length wc].toArray 30 (0,0))::
   .row 65 7 (.slice sa f.steps.length sc) f.steps.length vY::
   .row 141 3 (.slice wa f.windows.length wc) f.windows.length (j7 f.windows)::L)∧
  Fr 91 [] [(0,.pointer (some ⟨b,0,none⟩)),(1,.string (bs line)),(4,.slice pa (rest.length+10) pc),(5,.pointer (some ⟨bx,0,none⟩))] a') ?_ ?_
 ·by_cases h9:a9=[45]
  ·refine aS (b:=_) ?_ rfl ?_
   ·rw[cD,OI];simp[h9]
   apply aE
   exact fun a ha=>⟨none,0,[],g1,rfl,G.le.refl _,by unfold uo;rw[if_pos h9],Rs.nil _,hs,ha.keep (by(repeat (first|exact trivial|refine⟨rfl,?_⟩)))⟩
  ·refine aJ (b:=_) ?_ rfl ?_
   ·rw[cD,OI];simp[h9]
   have sj:=G.le.refl g1
   apply ar;refine Wp 1 rfl ?_
   refine an rfl rfl (aW T.ok rfl aH (y:=⟨a9⟩) rfl rfl rfl rfl rfl rfl rfl ?_)
   rintro bq pq ys aL rfl
   refine Wm 1 [.e aL 0] (St.start _) rfl ?_
   skip
   have FJ:uo a9=ou a9:=by unfold uo;rw[if_neg h9]
   refine an rfl rfl (cd HP aI rfl rfl rfl rfl rfl (Fm a9 _ (Nat.le_trans (rX a9 (by simp)) hlen) (hF.mono aq)) ?_ ?_)
   rotate_left
   ·intro hn g5 oe
    replace hs:=hs.call oe
    replace aq:=aq.trans oe.le
    (repeat (first|with_reducible refine f_ ?_|with_reducible refine gg ?_|with_reducible refine gh ?_))
    exact dt (.inr ⟨gk (BK fun _=>Hx (by rw[FJ];exact hn)),eW.intro aq ⟨_,((hs.drop 0).drop 1).drop 1⟩⟩)
   rintro g7 v uM ⟨nx,jn,bN⟩
   obtain⟨na,nc,rfl⟩:=bN.isSlice
   rw[y9]at bN⊢
   replace hs:=hs.call uM
   have ah:=uM.le;obtain⟨aq,sj,bT,dL⟩:=dE ah aq sj bT dL
   refine Wp 1 rfl ?_
   refine bg rfl (aA T.ok 0 rfl hs rfl rfl rfl rfl rfl rfl rfl rfl rfl ?_);replace hs:=hs;rintro g8 hs ah;obtain⟨aq,sj,bT,bN,dL⟩:=kN ah aq sj bT bN dL
   apply aD
   exact fun a ha=>⟨na,nc,nx,g8,rfl,sj,by rw[FJ,jn],bN,hs,ha.keep (by(repeat (first|exact trivial|refine⟨rfl,?_⟩)))⟩
 clear hs
 rintro a' _ ⟨na,nc,nx,g7,rfl,ah,jn,bN,hs,eI⟩
 obtain⟨aq,bT,dL⟩:=ef ah aq bT dL
 revert a'
 apply cQ;apply aB;refine aX rfl ?_
 refine lL (fun a' w=> ∃(bk lm:Int) (g':G),w=g'.w∧g7.le g'∧eZ f.steps.length line=some ⟨r,ints tl,m,n,ints nx,bk,lm⟩∧
  St g0 g' (.obj bx (.cells [.int .i64 r,.slice ta tl.length tc,.int .i64 m,.int .i64 n,.slice na nx.length nc,.int .i64 (bk),.int .i64 (lm)].toArray 65 (0,0))::
   .obj b (.cells [.int .i64 f.ck,.int .i64 f.cu,.slice sa f.steps.length sc,.slice wa f.windows.length wc].toArray 30 (0,0))::
   .row 65 7 (.slice sa f.steps.length sc) f.steps.length vY::
   .row 141 3 (.slice wa f.windows.length wc) f.windows.length (j7 f.windows)::L)∧
  Fr 91 [] [(0,.pointer (some ⟨b,0,none⟩)),(5,.pointer (some ⟨bx,0,none⟩))] a') ?_ ?_
 ·by_cases MS:rest.length=0
  ·obtain rfl:=List.length_eq_zero_iff.1 MS
   refine aS (b:=_) ?_ rfl ?_
   ·simp
   apply aE
   exact fun a ha=>⟨-1,0,g7,rfl,G.le.refl _,by rw[Az sO qD,BJ hr ht KO jn],hs,ha.keep (by(repeat (first|exact trivial|refine⟨rfl,?_⟩)))⟩
  ·refine aJ (b:=_) ?_ rfl ?_
   ·simp;omega
   have sj:=G.le.refl g7
   have OJ:10<(cz 32 line).length:=by rw[sO,x_];omega
   refine cP 1 rfl ?_
   refine an rfl rfl (bj T.ok rfl hs (vs:=[(0,.string (bs [])),(1,.string (bs [])),(2,.string (bs [])),(3,.string (bs [])),(4,.string (bs [])),(5,.string (bs [])),(6,.string (bs [])),(7,.string (bs [])),(8,.string (bs [])),(9,.string (bs [])),(10,.string (bs qg)),(11,.string (bs [])),(12,.string (bs mx)),(13,.string (bs []))])
    (cells:=[.string (bs []),.string (bs []),.string (bs []),.string (bs []),.string (bs []),.string (bs []),.string (bs []),.string (bs []),.string (bs []),.string (bs []),.string (bs qg),.string (bs []),.string (bs mx),.string (bs [])]) rfl rfl rfl rfl rfl rfl (by decide) (by decide) (by kernel_rfl) rfl ?_)
   clear hs
   rintro bl gl hs ah;obtain⟨aq,sj,bT,bN,dL⟩:=kN ah aq sj bT bN dL
   obtain⟨gz,ik,cS,iT,dz⟩:=hs.cL (α:=w_) (xs:=KN.map w_.mk) (i:=0) rfl (cO.strs _ KN)
   have ah:=iT;rw[←ik];replace hs:=cS;clear cS;obtain⟨aq,sj,bT,bN,dL⟩:=kN ah aq sj bT bN dL
   skip
   refine an rfl rfl (cd AT aI rfl rfl rfl rfl rfl (sB line KN _ _ hlen (by decide) (hF.mono aq) dz) ?_ ?_)
   rotate_left
   ·intro hn g5 oe
    replace hs:=hs.call oe
    replace aq:=aq.trans oe.le
    (repeat (first|with_reducible refine f_ ?_|with_reducible refine gg ?_|with_reducible refine gh ?_))
    exact dt (.inr ⟨gk (CR OJ hn),eW.intro aq ⟨_,((hs.drop 0).drop 1).drop 1⟩⟩)
   clear dz
   rintro g4 v kL ⟨Ti,dz⟩
   replace hs:=hs.call kL
   have ah:=kL.le;obtain⟨aq,sj,bT,bN,dL⟩:=kN ah aq sj bT bN dL
   obtain⟨qa,qc,rfl⟩:=dz.isSlice
   rw[List.length_map]at dz⊢
   rw[sO]at Ti dz⊢
   rw[x_]at dz⊢
   refine ba rfl ?_;refine cP 3 rfl ?_
   by_cases h4:rest.length=4
   ·obtain⟨b0,b1,b2,b3,rfl⟩:=BH h4
    refine cM 50 (b':=true) (by simp) rfl ?_
    have pV:=CQ sO qD Ti
    refine an rfl rfl (cd fh aI rfl rfl rfl rfl rfl (dV true _) ?_ fun h=>(by cases h))
    rintro g3 _ ff ⟨rfl,_⟩
    replace hs:=hs.call ff
    have ah:=ff.le;obtain⟨aq,sj,bT,bN,dz,dL⟩:=iu ah aq sj bT bN dz dL
    apply cf
    apply ed (fe (.f (o0 b1)::(fe (.f (CJ b1)::(fe (.f (o0 b3)::(fe (.f (CJ b3)::(fe []))))))))) 9 [(3,55),(7,59),(8,60)] (by kernel_rfl)
    ·refine Dx [[]] (by kernel_rfl) rfl ?_
     refine aw (ak (js:=[(0,52)]) (by kernel_rfl) fun gd hf=>?_) ?_
     ·have eH:=(G.bJ _).trans hf.le
      refine ai rfl ?_
      apply aj
      refine az rfl ?_
      refine aW T.ok rfl (dz.mono eH) (y:=⟨b1⟩) rfl rfl rfl rfl rfl rfl rfl ?_
      intro b p ys aL eK
      exact⟨_,rfl,aZ.refl _,b,p,rfl,by rw[←show ys=[Value.string (bs b1)]from eK];exact aL⟩
     refine aw (ak (js:=[(1,53)]) (by kernel_rfl) fun gd hf=>?_) ?_
     ·skip
      refine aY fun v1 h1=>?_
      apply aj
      obtain⟨b,p,rfl,aL⟩:=h1
      refine az rfl ?_
      refine cp T.ok 0 rfl aL rfl rfl ?_
      refine⟨_,rfl,aZ.refl _,?_⟩
      exact rfl
     refine aw (ak (js:=[(2,54)]) (by kernel_rfl) fun gd hf=>?_) ?_
     ·have ib:=hs.dr.call hf;have eH:=(G.bJ _).trans hf.le
      refine ai rfl ?_
      apply aj
      refine az rfl ?_
      refine cd pg aI rfl rfl rfl rfl rfl (jl b1 _ (Nat.le_trans (rX b1 (by simp)) hlen) (hF.mono (aq.trans eH))) (fun g' v eO h=>⟨g',rfl,eO,h⟩) fun hn g' eO=>?_
      replace ib:=ib.call eO
      (repeat (first|with_reducible refine f_ ?_|with_reducible refine gg ?_|with_reducible refine gh ?_))
      exact dt (.inr ⟨gk (by rw[pV];unfold vR;rw[hn];exact BI),eW.intro ((aq.trans eH).trans eO.le) ⟨_,((ib.drop 0).drop 1).drop 1⟩⟩)
     refine Dx [[]] (by kernel_rfl) rfl ?_
     refine aw (ak (js:=[(4,56)]) (by kernel_rfl) fun gd hf=>?_) ?_
     ·have eH:=(G.bJ _).trans hf.le
      refine ai rfl ?_
      apply aj
      refine az rfl ?_
      refine aW T.ok rfl (dz.mono eH) (y:=⟨b3⟩) rfl rfl rfl rfl rfl rfl rfl ?_
      intro b p ys aL eK
      exact⟨_,rfl,aZ.refl _,b,p,rfl,by rw[←show ys=[Value.string (bs b3)]from eK];exact aL⟩
     refine aw (ak (js:=[(5,57)]) (by kernel_rfl) fun gd hf=>?_) ?_
     ·skip
      refine aY fun v5 h5=>?_
      apply aj
      obtain⟨b,p,rfl,aL⟩:=h5
      refine az rfl ?_
      refine cp T.ok 0 rfl aL rfl rfl ?_
      refine⟨_,rfl,aZ.refl _,?_⟩
      exact rfl
     refine aw (ak (js:=[(6,58)]) (by kernel_rfl) fun gd hf=>?_) ?_
     ·have ib:=hs.dr.call hf;have eH:=(G.bJ _).trans hf.le
      refine ai rfl ?_
      apply aj
      refine az rfl ?_
      refine cd pg aI rfl rfl rfl rfl rfl (jl b3 _ (Nat.le_trans (rX b3 (by simp)) hlen) (hF.mono (aq.trans eH))) (fun g' v eO h=>⟨g',rfl,eO,h⟩) fun hn g' eO=>?_
      replace ib:=ib.call eO
      (repeat (first|with_reducible refine f_ ?_|with_reducible refine gg ?_|with_reducible refine gh ?_))
      exact dt (.inr ⟨gk (by rw[pV];unfold vR;rw[hn];(cases fN b1<;>exact BI)),eW.intro ((aq.trans eH).trans eO.le) ⟨_,((ib.drop 0).drop 1).drop 1⟩⟩)
     exact Dy [[]] (by kernel_rfl) rfl
    intro g1 aN;refine aY fun v3 h3=>?_;refine aY fun v7 h7=>?_;refine ai rfl ?_;apply aj
    replace hs:=hs.dr.call aN;have ah:=(G.bJ _).trans aN.le;obtain⟨aq,sj,bT,bN,dL⟩:=kN ah aq sj bT bN dL
    obtain⟨bk,Bc,rfl⟩:=h3
    obtain⟨lm,Pk,rfl⟩:=h7
    skip
    refine bg rfl (aA T.ok 0 rfl hs rfl rfl rfl rfl rfl rfl rfl rfl rfl ?_);replace hs:=hs;rintro g8 hs ah;obtain⟨aq,sj,bT,bN,dL⟩:=kN ah aq sj bT bN dL
    refine Wp 1 rfl ?_
    refine bg rfl (aA T.ok 0 rfl hs rfl rfl rfl rfl rfl rfl rfl rfl rfl ?_);replace hs:=hs;rintro g9 hs ah;obtain⟨aq,sj,bT,bN,dL⟩:=kN ah aq sj bT bN dL
    apply aD
    exact fun a ha=>⟨bk,lm,g9,rfl,sj,by rw[pV];unfold vR;rw[Bc,Pk];exact BJ hr ht KO jn,hs,ha.keep (by(repeat (first|exact trivial|refine⟨rfl,?_⟩)))⟩
   ·refine cM 50 (b':=false) (by simp;omega) rfl ?_
    refine an rfl rfl (cd fh aI rfl rfl rfl rfl rfl (dV false _) ?_ ?_)
    ·rintro g3 _ ff ⟨_,hc⟩
     cases hc
    ·intro _ g3 ff
     replace hs:=hs.call ff
     replace aq:=aq.trans ff.le
     (repeat (first|with_reducible refine f_ ?_|with_reducible refine gg ?_|with_reducible refine gh ?_))
     exact dt (.inr ⟨gk (CS OJ (by rw[sO,x_];omega)),eW.intro aq ⟨_,((hs.drop 0).drop 1).drop 1⟩⟩)
 clear hs
 rintro a' _ ⟨bk,lm,g8,rfl,ah,dm,hs,eI⟩
 obtain⟨aq,bT,bN,dL⟩:=dE ah aq bT bN dL
 revert a'
 apply cQ;refine dx 1 [.o 0] hs rfl ?_
 refine an rfl rfl (ay HF aI rfl rfl rfl rfl rfl (rK _ ⟨r,ints tl,m,n,ints nx,bk,lm⟩ 40 _ ⟨[.int .i64 r,.slice ta tl.length tc,.int .i64 m,.int .i64 n,.slice na nx.length nc,.int .i64 bk,.int .i64 lm],rfl,ta,tl.length,tc,na,nx.length,nc,rfl,bT,bN⟩ (by decide) (by decide)) ?_)
 rintro g9 _ H9 rfl
 replace hs:=hs.call H9
 have ah:=H9.le;obtain⟨aq,bT,bN,dL⟩:=dE ah aq bT bN dL
 have KP:rJ f line=if(cg ⟨r,ints tl,m,n,ints nx,bk,lm⟩ 40&&decide ((f.steps.length:Int)<40)&&decide ((f.windows.length:Int)=0))=true then some ⟨r,ints tl,m,n,ints nx,bk,lm⟩else none:=by unfold rJ;rw[dm];rfl
 cases yQ:cg ⟨r,ints tl,m,n,ints nx,bk,lm⟩ 40 with
 |false=>
  refine Wp 16 rfl ?_
  refine an rfl rfl (cd fh aI rfl rfl rfl rfl rfl (dV false _) ?_ ?_)
  ·rintro g3 _ ff ⟨_,hc⟩
   cases hc
  ·intro _ g3 ff
   replace hs:=hs.call ff
   replace aq:=aq.trans ff.le
   (repeat (first|with_reducible refine f_ ?_|with_reducible refine gg ?_|with_reducible refine gh ?_))
   exact dt (.inr ⟨by rw[KP,yQ];rfl,eW.intro aq ⟨_,((hs.drop 0).drop 1).drop 1⟩⟩)
 |true=>
 refine Wm 9 [.o 1] hs rfl ?_
 by_cases P_:f.steps.length<40
 ·refine cM 72 (b':=true) (by simp;omega) rfl ?_
  refine Wm 7 [.o 1] hs rfl ?_
  by_cases Tj:f.windows.length=0
  ·refine cM 79 (b':=true) (by simp[Tj]) rfl ?_
   refine an rfl rfl (cd fh aI rfl rfl rfl rfl rfl (dV true _) ?_ fun h=>(by cases h))
   rintro g3 _ ff ⟨rfl,_⟩
   replace hs:=hs.call ff
   have ah:=ff.le;obtain⟨aq,bT,bN,dL⟩:=dE ah aq bT bN dL
   replace KP:rJ f line=some ⟨r,ints tl,m,n,ints nx,bk,lm⟩:=by rw[KP,yQ,decide_eq_true (by omega:(f.steps.length:Int)<40),decide_eq_true (by omega:(f.windows.length:Int)=0)];rfl
   apply cf
   apply Bn aI rfl (Fact.eq _::Fact.eq _::Fact.eq _::Fact.eq _::Fact.eq _::Fact.eq _::(Fact.rs [(⟨r,ints tl,m,n,ints nx,bk,lm⟩:Step)])::(N' g0 (fun v Pj=> .obj bx (.cells [.int .i64 r,.slice ta tl.length tc,.int .i64 m,.int .i64 n,.slice na nx.length nc,.int .i64 bk,.int .i64 lm].toArray 65 (0,0)):: .obj b (.cells [.int .i64 f.ck,.int .i64 f.cu,.slice sa f.steps.length sc,.slice wa f.windows.length wc].toArray 30 (0,0)):: .row 65 7 v (f.steps.length+1) Pj:: .row 141 3 (.slice wa f.windows.length wc) f.windows.length (j7 f.windows)::L) (f.steps.length+1) (f.steps++[(⟨r,ints tl,m,n,ints nx,bk,lm⟩:Step)]))::[]) 8 [(0,81),(7,88)] [] [1,2,3,4,5,6] 7 rfl (by kernel_rfl) (by kernel_rfl)
   case houts=>exact rfl
   case hsoft=>(repeat (first|exact Io|apply Ip|refine jX (sy _) ?_|refine jX (cr _) ?_|refine jX (CK _ _) ?_|refine jX (Ay _) ?_|refine jX (CL _) ?_|refine jX (y8 _) ?_|refine jX (Hs _) ?_|refine jX (Fj _) ?_|refine Iq (by exact rfl) ?_))
   ·refine h_ (ET (js:=[]) (by kernel_rfl) (by exact rfl) fun gd hf=>?_) ?_
    ·skip
     apply aj
     (refine az rfl ?_;refine aM _ T.ok rfl ?_;refine⟨_,rfl,aZ.refl _,?_⟩;exact rfl)
    refine h_ (mC (js:=[]) (by kernel_rfl) (by exact rfl) (by exact rfl) fun gd hf=>?_) ?_
    ·skip
     apply aj
     (refine az rfl ?_;refine aM _ T.ok rfl ?_;refine⟨_,rfl,aZ.refl _,?_⟩;exact rfl)
    refine h_ (mC (js:=[(1,82)]) (by kernel_rfl) (by exact rfl) (by exact rfl) fun gd hf=>?_) ?_
    ·skip
     refine ai rfl ?_
     apply aj
     (refine az rfl ?_;refine aM _ T.ok rfl ?_;refine⟨_,rfl,aZ.refl _,?_⟩;exact rfl)
    refine h_ (mC (js:=[(2,83)]) (by kernel_rfl) (by exact rfl) (by exact rfl) fun gd hf=>?_) ?_
    ·skip
     refine ai rfl ?_
     apply aj
     (refine az rfl ?_;refine aM _ T.ok rfl ?_;refine⟨_,rfl,aZ.refl _,?_⟩;exact rfl)
    refine h_ (mC (js:=[(3,84)]) (by kernel_rfl) (by exact rfl) (by exact rfl) fun gd hf=>?_) ?_
    ·have ib:=hs.dr.call hf
     refine ai rfl ?_
     apply aj
     (refine az rfl ?_;refine eS T.ok 1 rfl ib rfl rfl rfl ?_;refine⟨_,rfl,aZ.refl _,?_⟩;exact rfl)
    refine h_ (mC (js:=[]) (by kernel_rfl) (by exact rfl) (by exact rfl) fun gd hf=>?_) ?_
    ·have ib:=hs.dr.call hf
     apply aj
     (refine az rfl ?_;refine eS T.ok 0 rfl ib rfl rfl rfl ?_;refine⟨_,rfl,aZ.refl _,?_⟩;exact rfl)
    refine h_ (mC (js:=[(5,86)]) (by kernel_rfl) (by exact rfl) (by exact rfl) fun gd hf=>?_) ?_
    ·have eH:=(G.bJ _).trans hf.le
     refine ai rfl ?_
     apply aj
     refine az rfl ?_
     refine bj T.ok rfl (St.start gd) (vs:=[(0,.agg #[.int .i64 r,.slice ta tl.length tc,.int .i64 m,.int .i64 n,.slice na nx.length nc,.int .i64 bk,.int .i64 lm])]) (cells:=[.int .i64 r,.slice ta tl.length tc,.int .i64 m,.int .i64 n,.slice na nx.length nc,.int .i64 bk,.int .i64 lm]) rfl rfl rfl rfl rfl rfl (by decide) (by decide) (by kernel_rfl) rfl ?_
     intro b2 g2 mK Ht
     obtain⟨g3,sq,Bh,yq,pP⟩:=mK.cL (α:=Step) (xs:=[⟨r,ints tl,m,n,ints nx,bk,lm⟩]) (i:=0) rfl ⟨_,[],by rw[List.append_nil],⟨ta,tl.length,tc,na,nx.length,nc,rfl,bT.mono (eH.trans Ht),bN.mono (eH.trans Ht)⟩,rfl⟩
     exact⟨g3,sq,Bh.mS,pP⟩
    refine h_ (Iu (js:=[(4,85),(6,87)]) (by kernel_rfl) fun gd hf=>?_) ?_
    ·have ib:=hs.dr.call hf;have eH:=(G.bJ _).trans hf.le
     refine ai rfl ?_;refine aY fun v6 h6=>?_
     apply aj
     obtain⟨ax,cx,rfl⟩:=Rs.isSlice h6
     obtain⟨_,news,Fh,gn⟩:=Src.jq h6
     refine⟨rfl,?_⟩
     refine b_ T.ok 2 rfl ib rfl rfl rfl rfl rfl rfl rfl (by decide) rfl gn Fh.one (by show(f.steps.length+1)*88≤_;omega) (by unfold maxLen;show f.steps.length+1≤_;omega) ?_
     intro a' c' g8 qO yc
     exact⟨g8,rfl,yc,a',c',_,rfl,qO,cO.app (Fh.mono yc) (dL.mono (eH.trans yc))⟩
    exact It
   intro g1 aN;refine ai rfl ?_;refine aY fun v7 h7=>?_;apply aj
   have ah:=(G.bJ _).trans aN;replace aq:=G.le.trans aq ah
   obtain⟨Tk,Tl,RZ,rfl,hs,R0⟩:=h7
   refine Wp 2 rfl ?_
   refine bg rfl (aA T.ok 1 rfl hs rfl rfl rfl rfl rfl rfl rfl rfl rfl ?_);replace hs:=hs;rintro g9 hs ah;replace aq:=G.le.trans aq ah
   apply aD
   refine mv rfl (.inl (eu.intro aq ⟨rfl,_,KP,Tk,Tl,wa,wc,RZ,?_,R0.mono ah⟩))
   have aU:=hs.drop 0
   show St g0 _ (.obj b _:: .row _ 7 (.slice Tk (f.steps++[_]).length Tl) (f.steps++[_]).length _:: .row _ 3 _ _ _::L)
   rw[List.length_append]
   exact aU
  ·refine cM 79 (b':=false) (by simp[Tj]) rfl ?_
   refine an rfl rfl (cd fh aI rfl rfl rfl rfl rfl (dV false _) ?_ ?_)
   ·rintro g3 _ ff ⟨_,hc⟩
    cases hc
   ·intro _ g3 ff
    replace hs:=hs.call ff
    replace aq:=aq.trans ff.le
    (repeat (first|with_reducible refine f_ ?_|with_reducible refine gg ?_|with_reducible refine gh ?_))
    exact dt (.inr ⟨by rw[KP,decide_eq_false (by omega: ¬(f.windows.length:Int)=0),Bool.and_false];rfl,eW.intro aq ⟨_,((hs.drop 0).drop 1).drop 1⟩⟩)
 ·refine cM 72 (b':=false) (by simp;omega) rfl ?_
  refine Wp 7 rfl ?_
  refine an rfl rfl (cd fh aI rfl rfl rfl rfl rfl (dV false _) ?_ ?_)
  ·rintro g3 _ ff ⟨_,hc⟩
   cases hc
  ·intro _ g3 ff
   replace hs:=hs.call ff
   replace aq:=aq.trans ff.le
   (repeat (first|with_reducible refine f_ ?_|with_reducible refine gg ?_|with_reducible refine gh ?_))
   exact dt (.inr ⟨by rw[KP,decide_eq_false (by omega: ¬(f.steps.length:Int)<40),Bool.and_false,Bool.false_and];rfl,eW.intro aq ⟨_,((hs.drop 0).drop 1).drop 1⟩⟩)
end Go.Proofs.YtebobfdheanknaaGreatDoor
namespace Go.Proofs.YtebobfdheanknaaGreatDoor
open Go Go.K
set_option maxRecDepth 10000
attribute [local irreducible] W WL cT cn bX bA bB bD cW cG
set_option maxHeartbeats 4000000
theorem gA{fn:Func}{tb:Tb}{P:Program}{g0 g:G}{L:List cV}(dn:tb.ok P){tmps:Array Value}{t tt b:Nat}{v:Value}{cs:List Value}{E:TypeId}{fz:Nat×Nat}(i:Nat)(hr:fn.results=#[.cell t tt])(hs:St g0 g L)
  (h1:tmps[t]? =some (.pointer (some ⟨b,0,none⟩))) (hi:L[i]? =some (.obj b (.cells cs.toArray E fz))) (hv:ve tb tt cs 0=some v):
  (results fn tmps).run P g.w= .ok v g.w:=by
 have e1:=iR (P:=P) (w:=g.w) (off:=0) (o:=0) dn hv (kg (hs.own i _ hi).2.1)
 simp only[Nat.add_zero]at e1
 simp[results,hr,h1,asAddr,e1]
theorem o3{b6:Nat}{v6:Bool}{g0 g:G}{e0:cV}{L:List cV}(hs:St g0 g (e0:: .obj b6 (.cells [Value.bool v6].toArray 4 (0,0))::L)):
  CallsDIn Wd 0 Tryz.prog 139 #[.pointer (some ⟨b6,0,none⟩)] (.panicking lD) g.w fun en u' w'=>en= .returned (.tuple #[])∧u'= .panicking [{v:=.iface 291 (.agg #[]),recovered:=true}]∧
   ∃g',g'.w=w'∧g.le g'∧St g0 g' (e0:: .obj b6 (.cells [Value.bool false].toArray 4 (0,0))::L):=by
 refine callsDIn_of_wpSIn Tryz.func139 rfl trivial fun c₀ cs hu=>?_
 apply wpSIn_seq
 apply wpSIn_region
 simp[wpOpsSIn,go_sem,recoverD,hu,lD,Tryz.ntmps139,Exit.thenS]
 refine Bs (N:=5) (l:=[(0,.pointer (some ⟨b6,0,none⟩)),(1,.iface 291 (.agg #[])),(2,.iface 291 (.agg #[]))]) rfl (by simp) (by simp[oW]) ?_
 have aq:=G.le.refl g
 refine cP 1 rfl ?_
 refine an rfl rfl (nt (neg:=true) rfl rfl rfl rfl rfl ?_)
 apply cf
 refine aJ rfl rfl ?_
 apply ar
 refine bg rfl (aA T.ok 1 rfl hs rfl rfl rfl rfl rfl rfl rfl rfl rfl ?_);replace hs:=hs;rintro g1 hs ah;replace aq:=G.le.trans aq ah
 apply aD
 exact Oj _ rfl rfl ⟨rfl,rfl,g1,rfl,aq,hs⟩
theorem o4{b6:Nat}(w:World):CallsDIn Wd 0 Tryz.prog 139 #[.pointer (some ⟨b6,0,none⟩)] .returning w fun en u' w'=>en= .returned (.tuple #[])∧u'= .returning∧w'=w:=by
 refine callsDIn_of_wpSIn Tryz.func139 rfl trivial fun c₀ cs hu=>?_
 apply wpSIn_seq
 apply wpSIn_region
 simp[wpOpsSIn,go_sem,recoverD,hu,Tryz.ntmps139,Exit.thenS]
 refine Bs (N:=5) (l:=[(0,.pointer (some ⟨b6,0,none⟩)),(1,.nilIface),(2,.nilIface)]) rfl (by simp) (by simp[oW]) ?_
 refine cP 1 rfl ?_
 refine an rfl rfl (nt (neg:=true) rfl rfl rfl rfl rfl ?_)
 apply cf
 refine aS rfl rfl ?_
 apply aE
 exact Oj _ rfl (by cases c₀;simp_all) ⟨rfl,rfl,rfl⟩
def nI(f:bV)(line:List UInt8):Option bV:=
 if nB.isPrefixOf line=true then(rJ f line).map fun s=>{f with steps:=f.steps++[s]}
 else(jk f line).map fun w=>{f with windows:=f.windows++[w]}
def k9(b:Nat)(L:List cV)(g0 g':G)(res:Option bV)(r:Value):Prop:=
 match res with
 |some f'=>r= .bool true∧Hn b f' L g0 g'
 |none=>r= .bool false∧ ∃cs,St g0 g' (Hr b cs::L)
theorem Hy{b:Nat}(f:bV)(line:List UInt8)(hlen:line.length≤1000000)(Ke:f.steps.length≤1000000)(GC:f.windows.length≤1000000){g0 g:G}{L:List cV}(hF:iw g)(hO:Hn b f L g0 g):
  CallsIn Wd 0 Tryz.prog 65 #[.pointer (some ⟨b,0,none⟩),.string (bs line),.bool false] g.w (eu g fun g' r=>k9 b L g0 g' (nI f line) r):=by
 have aq:=G.le.refl g
 obtain⟨sa,sc,wa,wc,vY,hs,dL⟩:=hO
 refine EZ Tryz.func65 rfl Tryz.ntmps65 rfl ?_
 apply c_
 refine an rfl rfl (aK T.ok rfl hs rfl rfl ?_);clear hs;rintro b6 g1 hs ah;obtain⟨aq,dL⟩:=cC ah aq dL
 have aU:St g0 g1 (IF b f sa sc wa wc vY++ .obj b6 (.cells [Value.bool false].toArray 4 (0,0))::L):=hs.perm List.perm_middle.symm
 replace hs:=aU
 clear aU
 apply cf;refine cP 1 rfl ?_
 refine yM rfl aI rfl rfl rfl rfl ?_
 apply cf;apply aB;apply aG;refine aX rfl ?_
 refine aS rfl rfl ?_
 refine cP 1 rfl ?_
 refine an rfl rfl (ay K2 aI rfl rfl rfl rfl rfl (y_ line nB _) ?_)
 rintro g2 _ wF rfl
 replace hs:=hs.call wF
 have ah:=wF.le;obtain⟨aq,dL⟩:=cC ah aq dL
 have hO:Hn b f (.obj b6 (.cells [Value.bool false].toArray 4 (0,0))::L) g0 g2:=⟨sa,sc,wa,wc,vY,hs,dL⟩
 have Tm:=hF.mono aq
 clear hs dL
 refine ba rfl ?_
 cases gD:nB.isPrefixOf line with
 |true=>
  refine aJ rfl rfl ?_
  apply ar;refine Wp 2 rfl ?_
  have dm:=Kd f line hlen Ke Tm hO
  refine an rfl rfl (nT Lx aI rfl rfl rfl rfl rfl (dm.mono fun e w' h=>?_))
  rcases h with⟨g3,v,rfl,rfl,ah,rfl,s,iS,R1⟩|⟨hn,g3,rfl,rfl,ah,cs,hs⟩
  ·refine .inl ⟨_,rfl,?_⟩
   obtain⟨sa,sc,wa,wc,vY,hs,dL⟩:=R1
   replace aq:=G.le.trans aq ah
   apply aD;apply bU;apply au;apply c_
   refine bg rfl (aA T.ok 3 rfl hs rfl rfl rfl rfl rfl rfl rfl rfl rfl ?_);replace hs:=hs;rintro g1 hs ah;obtain⟨aq,dL⟩:=cC ah aq dL
   apply cf
   refine aF (JZ vb fun tmps q8=>(o4 _).mono ?_)
   rintro e u' G2 ⟨rfl,rfl,rfl⟩
   refine⟨_,gA T.ok 3 rfl hs (q8 _ _ rfl) rfl rfl,?_⟩
   refine eu.intro aq ?_
   rw[show nI f line=some {f with steps:=f.steps++[s]}from by unfold nI;rw[if_pos gD,iS];rfl]
   exact⟨rfl,sa,sc,wa,wc,vY,hs.drop 3,dL⟩
  ·refine .inr ⟨_,rfl,?_⟩
   replace aq:=aq.trans ah
   (repeat (first|with_reducible refine f_ ?_|with_reducible refine gg ?_|with_reducible refine gh ?_))
   refine Al vb fun tmps q8=>(o3 hs).mono ?_
   rintro e u' G2 ⟨rfl,rfl,g4,rfl,Fp,FT⟩
   refine⟨_,gA T.ok 1 rfl FT (q8 _ _ rfl) rfl rfl,?_⟩
   refine eu.intro (aq.trans Fp) ?_
   rw[show nI f line=none from by unfold nI;rw[if_pos gD,hn];rfl]
   exact⟨rfl,cs,FT.drop 1⟩
 |false=>
  refine aS rfl rfl ?_
  apply ar;refine Wp 2 rfl ?_
  have dm:=Fi f line hlen GC Tm hO
  refine an rfl rfl (nT Ly aI rfl rfl rfl rfl rfl (dm.mono fun e w' h=>?_))
  rcases h with⟨g3,v,rfl,rfl,ah,rfl,s,iS,R1⟩|⟨hn,g3,rfl,rfl,ah,cs,hs⟩
  ·refine .inl ⟨_,rfl,?_⟩
   obtain⟨sa,sc,wa,wc,vY,hs,dL⟩:=R1
   replace aq:=G.le.trans aq ah
   apply aD;apply bU;apply au;apply c_
   refine bg rfl (aA T.ok 3 rfl hs rfl rfl rfl rfl rfl rfl rfl rfl rfl ?_);replace hs:=hs;rintro g1 hs ah;obtain⟨aq,dL⟩:=cC ah aq dL
   apply cf
   refine aF (JZ vb fun tmps q8=>(o4 _).mono ?_)
   rintro e u' G2 ⟨rfl,rfl,rfl⟩
   refine⟨_,gA T.ok 3 rfl hs (q8 _ _ rfl) rfl rfl,?_⟩
   refine eu.intro aq ?_
   rw[show nI f line=some {f with windows:=f.windows++[s]}from by unfold nI;rw[if_neg (by rw[gD];simp),iS];rfl]
   exact⟨rfl,sa,sc,wa,wc,vY,hs.drop 3,dL⟩
  ·refine .inr ⟨_,rfl,?_⟩
   replace aq:=aq.trans ah
   (repeat (first|with_reducible refine f_ ?_|with_reducible refine gg ?_|with_reducible refine gh ?_))
   refine Al vb fun tmps q8=>(o3 hs).mono ?_
   rintro e u' G2 ⟨rfl,rfl,g4,rfl,Fp,FT⟩
   refine⟨_,gA T.ok 1 rfl FT (q8 _ _ rfl) rfl rfl,?_⟩
   refine eu.intro (aq.trans Fp) ?_
   rw[show nI f line=none from by unfold nI;rw[if_neg (by rw[gD];simp),hn];rfl]
   exact⟨rfl,cs,FT.drop 1⟩
theorem za{b:Nat}(line:List UInt8)(hlen:line.length≤1000000){g0 g:G}{L:List cV}(hF:iw g)(hs:St g0 g (IF b ⟨0,0,[],[]⟩ none 0 none 0 []++L)):
  CallsIn Wd 0 Tryz.prog 65 #[.pointer (some ⟨b,0,none⟩),.string (bs line),.bool true] g.w (eu g fun g' r=>k9 b L g0 g' ((qm line).map fun p=>⟨p.1,p.2,[],[]⟩) r):=by
 have aq:=G.le.refl g
 refine EZ Tryz.func65 rfl Tryz.ntmps65 rfl ?_
 apply c_
 refine an rfl rfl (aK T.ok rfl hs rfl rfl ?_);clear hs;rintro b6 g1 hs ah;replace aq:=G.le.trans aq ah
 have aU:St g0 g1 (IF b ⟨0,0,[],[]⟩ none 0 none 0 []++ .obj b6 (.cells [Value.bool false].toArray 4 (0,0))::L):=hs.perm List.perm_middle.symm
 replace hs:=aU
 clear aU
 apply cf;refine cP 1 rfl ?_
 refine yM rfl aI rfl rfl rfl rfl ?_
 apply cf;apply aB;apply aG;refine aX rfl ?_
 refine aJ rfl rfl ?_
 apply ar;refine Wp 2 rfl ?_
 have dm:=Kf line hlen (hF.mono aq) hs
 clear hs
 refine an rfl rfl (nT Lv aI rfl rfl rfl rfl rfl (dm.mono fun e w' h=>?_))
 rcases h with⟨g3,v,rfl,rfl,ah,rfl,m,n,KO,hs⟩|⟨hn,g3,rfl,rfl,ah,cs,hs⟩
 ·refine .inl ⟨_,rfl,?_⟩
  replace aq:=G.le.trans aq ah
  apply aD;apply bU;apply au;apply c_
  refine bg rfl (aA T.ok 3 rfl hs rfl rfl rfl rfl rfl rfl rfl rfl rfl ?_);replace hs:=hs;rintro g1 hs ah;replace aq:=G.le.trans aq ah
  apply cf
  refine aF (JZ vb fun tmps q8=>(o4 _).mono ?_)
  rintro e u' G2 ⟨rfl,rfl,rfl⟩
  refine⟨_,gA T.ok 3 rfl hs (q8 _ _ rfl) rfl rfl,?_⟩
  refine eu.intro aq ?_
  rw[KO]
  exact⟨rfl,none,0,none,0,[],hs.drop 3,rfl⟩
 ·refine .inr ⟨_,rfl,?_⟩
  replace hs:=(hs.drop 1).drop 1
  replace aq:=aq.trans ah
  (repeat (first|with_reducible refine f_ ?_|with_reducible refine gg ?_|with_reducible refine gh ?_))
  refine Al vb fun tmps q8=>(o3 hs).mono ?_
  rintro e u' G2 ⟨rfl,rfl,g4,rfl,Fp,FT⟩
  refine⟨_,gA T.ok 1 rfl FT (q8 _ _ rfl) rfl rfl,?_⟩
  refine eu.intro (aq.trans Fp) ?_
  rw[hn]
  exact⟨rfl,cs,FT.drop 1⟩
end Go.Proofs.YtebobfdheanknaaGreatDoor
namespace Go.Proofs.YtebobfdheanknaaGreatDoor
open Go Go.K
set_option maxRecDepth 10000
attribute [local irreducible] W WL cT cn bX bA bB bD cW cG
set_option maxHeartbeats 4000000
def rL:bV:=⟨0,0,[],[]⟩
def BL(l:List UInt8):Bool:=l==[]||[35].isPrefixOf l
def uz(first:Bool)(f:bV)(l:List UInt8):Option bV:=if first=true then(qm l).map fun p=>⟨p.1,p.2,[],[]⟩else nI f l
def gm(first:Bool)(f:bV)(i:Nat):List (List UInt8)→bV⊕Nat
 |[]=> .inl f
 |l::r=>if BL l=true then gm first f (i+1) r else
  match uz first f l with
  |some f'=>gm false f' (i+1) r
  |none=> .inr (i+1)
def lx(s:List UInt8):bV⊕Nat:=
 match gm true rL 0 (cz 10 s)with
 | .inl f=>if valid f=true then .inl f else .inr (cz 10 s).length
 | .inr k=> .inr k
def Ep:Value:=.agg #[.int .i64 0,.int .i64 0,.slice none 0 0,.slice none 0 0]
def ke(g':G)(res:bV⊕Nat)(r:Value):Prop:=
 match res with
 | .inl f=> ∃v,r= .tuple #[v,.int .i64 0,.int .i64 0]∧fA g' v f
 | .inr k=>r= .tuple #[Ep,.int .i64 k,.int .i64 40]
theorem Fq{fn:Func}{tb:Tb}{P:Program}{N:Nat}{l:Env}{g0 g:G}{L:List cV}{R:Ending→World→Prop}(dn:tb.ok P)(i:Nat){t tt u x b:Nat}{cs:List Value}{E:TypeId}{fz:Nat×Nat}{v v2 v3:Value}(hr:fn.results=#[.cell t tt,.tmp u,.tmp x])(hs:St g0 g L)(hi:L[i]? =some (.obj b (.cells cs.toArray E fz)))
  (hl:lk l t=some (.pointer (some ⟨b,0,none⟩))) (hv:ve tb tt cs 0=some v) (sP:lk l u=some v2) (O5:lk l x=some v3) (hR:R (.returned (.tuple #[v,v2,v3])) g.w) (a:Act) (ha:Fr N [] l a):bodyPost P fn R .ret a g.w:=by
 refine⟨ha.defers,_,?_,hR⟩
 have:=iR (P:=P) (w:=g.w) (off:=0) (o:=0) dn hv (kg (hs.own i _ hi).2.1)
 simp only[Nat.add_zero]at this
 simp[results,hr,ha.get t _ hl,ha.get u _ sP,ha.get x _ O5,asAddr,this]
def zb(b b2:Nat)(first:Bool)(f:bV)(g0 g:G):Prop:=
 match first with
 |true=>f=rL∧St g0 g (IF b rL none 0 none 0 []++[.obj b2 (.cells [.int .i64 0,.int .i64 0,.slice none 0 0,.slice none 0 0].toArray 30 (0,0))])
 |false=>Hn b f [.obj b2 (.cells [.int .i64 0,.int .i64 0,.slice none 0 0,.slice none 0 0].toArray 30 (0,0))] g0 g
theorem zb.o{b b2:Nat}{first:Bool}{f:bV}{g0 g:G}(h:zb b b2 first f g0 g):Hn b f [.obj b2 (.cells [.int .i64 0,.int .i64 0,.slice none 0 0,.slice none 0 0].toArray 30 (0,0))] g0 g:=by
 cases first with
 |true=>obtain⟨rfl,h⟩:=h;exact⟨none,0,none,0,[],h,rfl⟩
 |false=>exact h
theorem zb.call{b b2:Nat}{first:Bool}{f:bV}{g0 g g':G}(h:zb b b2 first f g0 g)(hf:aZ g g'):zb b b2 first f g0 g':=by
 cases first with
 |true=>exact⟨h.1,h.2.call hf⟩
 |false=>obtain⟨a,c,d,e,k,h1,h2⟩:=h;exact⟨a,c,d,e,k,h1.call hf,h2.mono hf.le⟩
theorem CT{b b2:Nat}{first:Bool}(f:bV)(line:List UInt8)(hlen:line.length≤1000000)(Ke:f.steps.length≤1000000)(GC:f.windows.length≤1000000){g0 g:G}(hF:iw g)(h:zb b b2 first f g0 g):
  CallsIn Wd 0 Tryz.prog 65 #[.pointer (some ⟨b,0,none⟩),.string (bs line),.bool first] g.w (eu g fun g' r=>k9 b [.obj b2 (.cells [.int .i64 0,.int .i64 0,.slice none 0 0,.slice none 0 0].toArray 30 (0,0))] g0 g' (uz first f line) r):=by
 cases first with
 |true=>obtain⟨rfl,h⟩:=h;exact za line hlen hF h
 |false=>exact Hy f line hlen Ke GC hF h
theorem Fs{first:Bool}{f f':bV}{line:List UInt8}(h:uz first f line=some f'):f'.steps.length≤f.steps.length+1∧f'.windows.length≤f.windows.length+1:=by
 unfold uz nI at h
 split at h
 ·obtain⟨p,_,rfl⟩:=Option.map_eq_some_iff.1 h;exact⟨Nat.zero_le _,Nat.zero_le _⟩
 ·split at h
  ·obtain⟨p,_,rfl⟩:=Option.map_eq_some_iff.1 h;exact⟨by simp,by simp⟩
  ·obtain⟨p,_,rfl⟩:=Option.map_eq_some_iff.1 h;exact⟨by simp,by simp⟩
theorem A9(s:List UInt8)(g:G)(hlen:s.length≤999999)(hF:iw g):CallsIn Wd 0 Tryz.prog 28 #[.string (bs s)] g.w (cR g fun g' r=>ke g' (lx s) r):=by
 have hs:=St.start g
 have aq:=G.le.refl g
 refine enter Tryz.func28 rfl Tryz.ntmps28 rfl ?_
 apply c_
 refine an rfl rfl (aK T.ok rfl hs rfl rfl ?_);clear hs;rintro b2 g1 hs ah;replace aq:=G.le.trans aq ah
 refine ba rfl ?_;apply c_
 refine an rfl rfl (aK T.ok rfl hs rfl rfl ?_);clear hs;rintro b g1 hs ah;replace aq:=G.le.trans aq ah
 apply cf;refine cP 1 rfl ?_
 refine an rfl rfl (ay IW aI rfl rfl rfl rfl rfl (xz s 10 _ (by omega) (hF.mono aq)) ?_);rintro g1 vo aN IG;obtain⟨gz,ik,cS,iT,aH⟩:=hs.mZ aN IG;have ah:=aN.le.trans iT;rw[←ik];replace hs:=cS;clear cS IG;replace aq:=G.le.trans aq ah
 have AX:=nZ 10 s
 have rX:=kh 10 s
 have Tn: ∀x,gm true rL 0 (cz 10 s)=x→lx s=match x with
  | .inl f=>if valid f=true then .inl f else .inr (cz 10 s).length
  | .inr k=> .inr k:=by rintro x rfl;rfl
 generalize cz 10 s=ps at*
 obtain⟨pa,pc,rfl⟩:=aH.isSlice
 have OK:=aq
 have IH:(ps.map w_.mk).length=ps.length:=List.length_map _
 have Ft:Rs gz (.slice pa ps.length pc) (ps.map w_.mk):=by have h:=aH;rw[IH]at h;exact h
 clear aH
 rw[IH]
 have aU:St g gz (IF b rL none 0 none 0 []++[.obj b2 (.cells [.int .i64 0,.int .i64 0,.slice none 0 0,.slice none 0 0].toArray 30 (0,0))]):=
  ((hs.gI 141 3 none).gI 65 7 none).perm (List.perm_middle (l₁:=[cV.row 65 7 (.slice none 0 0) 0 [],cV.row 141 3 (.slice none 0 0) 0 []]))
 clear hs
 have To:zb b b2 true rL g gz:=⟨rfl,aU⟩
 clear aU
 refine ba rfl ?_;refine aX rfl ?_;apply aB;refine aX rfl ?_;apply aG
 refine bS (fun m a' w=> ∃(k:Nat) (first:Bool) (f:bV) (g':G),w=g'.w∧zb b b2 first f g g'∧G.le gz g'∧k≤ps.length∧m=ps.length-k∧f.steps.length≤k∧f.windows.length≤k∧gm first f k (ps.drop k)=gm true rL 0 ps∧
  Fr 40 [] [(2,.pointer (some ⟨b2,0,none⟩)),(5,.pointer (some ⟨b,0,none⟩)),(6,.slice pa ps.length pc),(7,.bool first),(12,.slice pa ps.length pc),(13,.int .i64 ps.length),(14,.int .i64 k)] a') ps.length
   (fun a' ha=>⟨0,true,rL,gz,rfl,To,G.le.refl _,Nat.zero_le _,rfl,Nat.zero_le _,Nat.zero_le _,rfl,ha.keep (by(repeat (first|exact trivial|refine⟨rfl,?_⟩)))⟩) ?_
 clear aq To
 rintro m a' _ ⟨k,first,f,g',rfl,hP,xA,hk,rfl,Ke,GC,tA,eI⟩
 have aH:=Ft.mono xA
 have aq:=OK.trans xA
 revert a'
 apply cQ;refine aX rfl ?_;apply aB
 by_cases bh:k<ps.length
 ·refine aJ (b:=decide ((k:Int)<(ps.length:Int))) (by simp;omega) rfl ?_
  rw[List.drop_eq_getElem_cons bh]at tA
  apply aE;apply au;apply aB;apply aG;refine cP 1 rfl ?_
  refine an rfl rfl (aW T.ok rfl aH (y:=⟨ps[k]⟩) (by simp[dA,bh]) rfl rfl rfl rfl rfl rfl ?_)
  rintro bq pq ys aL rfl
  refine Wm 1 [.e aL 0] (St.start _) rfl ?_
  refine ba rfl ?_;apply aB;refine cP 3 rfl ?_
  by_cases h0:ps[k]=[]
  ·refine cM 21 (b':=true) (by rw[cD,nY];simp[h0]) rfl ?_
   rw[show gm first f k (ps[k]::ps.drop (k+1))=gm first f (k+1) (ps.drop (k+1))from by rw[gm,if_pos (by unfold BL;rw[h0];rfl)]]at tA
   refine ba rfl ?_
   refine aJ rfl rfl ?_
   apply bE;apply bK;apply dc;apply au;apply ar;refine Wp 2 rfl ?_;apply aD
   refine fun a ha=>⟨ps.length-(k+1),by omega,k+1,first,f,g',rfl,hP,xA,by omega,rfl,by have:=Ke;omega,by have:=GC;omega,tA,ha.keep ⟨rfl,rfl,rfl,rfl,rfl,rfl,kI rfl (by rw[wr (by omega) (by omega)];omega),trivial⟩⟩
  ·refine cM 21 (b':=false) (by rw[cD,nY];simp[h0]) rfl ?_
   refine Wp 1 rfl ?_
   refine an rfl rfl (ay K2 aI rfl rfl rfl rfl rfl (y_ ps[k] [35] _) ?_)
   rintro g2 _ wF rfl
   replace hP:=hP.call wF
   have ah:=wF.le;replace aq:=G.le.trans aq ah
   replace xA:=xA.trans ah
   cases gD:[35].isPrefixOf ps[k]with
   |true=>
    rw[show gm first f k (ps[k]::ps.drop (k+1))=gm first f (k+1) (ps.drop (k+1))from by rw[gm,if_pos (by unfold BL;rw[gD,Bool.or_true])]]at tA
    refine ba rfl ?_
    refine aJ rfl rfl ?_
    apply bE;apply bK;apply dc;apply au;apply ar;refine Wp 2 rfl ?_;apply aD
    refine fun a ha=>⟨ps.length-(k+1),by omega,k+1,first,f,g2,rfl,hP,xA,by omega,rfl,by have:=Ke;omega,by have:=GC;omega,tA,ha.keep ⟨rfl,rfl,rfl,rfl,rfl,rfl,kI rfl (by rw[wr (by omega) (by omega)];omega),trivial⟩⟩
   |false=>
    rw[show gm first f k (ps[k]::ps.drop (k+1))=(match uz first f ps[k]with
     |some f'=>gm false f' (k+1) (ps.drop (k+1))
     |none=> .inr (k+1))from by rw[gm,if_neg (by unfold BL;rw[gD,Bool.or_false];simpa using h0)]]at tA
    refine ba rfl ?_
    refine aS rfl rfl ?_
    apply aE;apply au;apply aB;refine cP 2 rfl ?_
    refine an rfl rfl (dv PM aI rfl rfl rfl rfl rfl (CT f ps[k] (Nat.le_trans (rX _ (List.getElem_mem bh)) (by omega)) (by omega) (by omega) (hF.mono aq) hP) ?_)
    rintro g3 r ah BM
    replace xA:=xA.trans ah
    cases EV:uz first f ps[k]with
    |some f'=>
     rw[EV]at BM tA
     obtain⟨rfl,hO⟩:=BM
     have sP:=Fs EV
     refine ba rfl ?_
     refine aS rfl rfl ?_
     apply aE;apply au;apply ar;refine Wp 1 rfl ?_;apply aD;apply bU;apply au;apply ar;refine Wp 2 rfl ?_;apply aD
     refine fun a ha=>⟨ps.length-(k+1),by omega,k+1,false,f',g3,rfl,hO,xA,by omega,rfl,by have:=sP.1;omega,by have:=sP.2;omega,tA,ha.keep ⟨rfl,rfl,rfl,rfl,rfl,rfl,kI rfl (by rw[wr (by omega) (by omega)];omega),trivial⟩⟩
    |none=>
     rw[EV]at BM tA
     obtain⟨rfl,cs,hs⟩:=BM
     refine ba rfl ?_
     refine aJ rfl rfl ?_
     apply c_
     refine an rfl rfl (aQ T.ok rfl (vs:=[]) (cells:=[.int .i64 0,.int .i64 0,.slice none 0 0,.slice none 0 0]) rfl rfl rfl rfl [(0,1),(1,1),(2,1),(3,1)] rfl (by kernel_rfl) ?_)
     refine Wp 2 rfl ?_
     refine bg rfl (aA T.ok 1 rfl hs rfl rfl rfl rfl rfl rfl rfl rfl rfl ?_);replace hs:=hs;rintro g1 hs ah
     refine ba rfl ?_
     refine aF ?_
     apply eF;apply iq;apply eF;apply eF;apply iq;apply eF
     refine Fq (v2:=.int .i64 ((k+1:Nat):Int)) T.ok 1 rfl hs rfl rfl rfl (kI rfl (by rw[wr (by omega) (by omega)];omega)) rfl (hs.ret ?_)
     rw[Tn _ tA.symm]
     rfl
 ·refine aS (b:=decide ((k:Int)<(ps.length:Int))) (by simp;omega) rfl ?_
  obtain rfl:k=ps.length:=by omega
  rw[List.drop_length]at tA
  have OL:=Tn _ tA.symm
  obtain⟨sa,sc,wa,wc,vY,hs,dL⟩:=hP.o
  obtain⟨g1,yQ,mK,W4,bT⟩:=hs.cL (α:=Step) (xs:=f.steps) (i:=1) rfl dL
  obtain⟨g2,bR,aU,VI,bN⟩:=mK.cL (α:=cj) (xs:=f.windows) (i:=1) rfl (cO.win _ _)
  replace hs:St g g2 (.obj b (.cells [.int .i64 f.ck,.int .i64 f.cu,.slice sa f.steps.length sc,.slice wa f.windows.length wc].toArray 30 (0,0)):: .obj b2 (.cells [.int .i64 0,.int .i64 0,.slice none 0 0,.slice none 0 0].toArray 30 (0,0))::[]):=aU
  clear mK aU
  replace bT:=bT.mono VI
  rw[←yQ,←bR]
  have fk:fA g2 (.agg #[.int .i64 f.ck,.int .i64 f.cu,.slice sa f.steps.length sc,.slice wa f.windows.length wc]) f:=⟨sa,f.steps.length,sc,wa,f.windows.length,wc,rfl,bT,bN⟩
  apply bE;apply bK;apply bK;apply dc;apply au;apply aB;refine dx 1 [.o 0] hs rfl ?_
  refine an rfl rfl (ay K3 aI rfl rfl rfl rfl rfl (Be _ f _ fk) ?_);rintro g1 _ aN rfl;replace hs:=hs.call aN;have ah:=aN.le;replace fk:=fk.mono ah
  refine ba rfl ?_
  cases hv:valid f with
  |true=>
   refine aS rfl rfl ?_
   apply aE;apply au;refine dx 1 [.o 0] hs rfl ?_
   refine bg rfl (aA T.ok 1 rfl hs rfl rfl rfl rfl rfl rfl rfl rfl rfl ?_);replace hs:=hs;rintro g1 hs ah;replace fk:=fk.mono ah
   refine ba rfl ?_
   refine aF ?_
   skip
   refine Fq T.ok 1 rfl hs rfl rfl rfl rfl rfl (hs.ret ?_)
   rw[OL]
   show ke _ (if valid f=true then _ else _) _
   rw[if_pos hv]
   exact⟨_,rfl,fk⟩
  |false=>
   refine aJ rfl rfl ?_
   apply c_
   refine an rfl rfl (aQ T.ok rfl (vs:=[]) (cells:=[.int .i64 0,.int .i64 0,.slice none 0 0,.slice none 0 0]) rfl rfl rfl rfl [(0,1),(1,1),(2,1),(3,1)] rfl (by kernel_rfl) ?_)
   refine Wp 2 rfl ?_
   refine bg rfl (aA T.ok 1 rfl hs rfl rfl rfl rfl rfl rfl rfl rfl rfl ?_);replace hs:=hs;rintro g1 hs ah
   refine ba rfl ?_
   refine aF ?_
   apply eF
   refine Fq T.ok 1 rfl hs rfl rfl rfl rfl rfl (hs.ret ?_)
   rw[OL]
   show ke _ (if valid f=true then _ else _) _
   rw[if_neg (by rw[hv];simp)]
   rfl
end Go.Proofs.YtebobfdheanknaaGreatDoor
namespace Go.Proofs.YtebobfdheanknaaGreatDoor
open Go Go.K
set_option maxRecDepth 10000
attribute [local irreducible] W WL cT cn bX bA bB bD cW cG
set_option maxHeartbeats 2000000
def Hz(E:TypeId):Prop:=liesAt Tryz.prog Tryz.prog.depth E (2/Tryz.prog.cellsOf E) 0 151 1=true
theorem Dr:Hz 153:=by unfold Hz;kernel_rfl
theorem zc{b:Nat}{p v:Value}(hp:p= .pointer none∨p= .pointer (some ⟨b,0,none⟩)){E:TypeId}(hE:Hz E){g0 g:G}{L:List cV}(hs:St g0 g (.obj b (.cells [p,v].toArray E (0,0))::L)):
  CallsIn Wd 0 Tryz.prog 258 #[.pointer (some ⟨b,0,none⟩)] g.w
   (eu g fun g' r=>r= .tuple #[]∧St g0 g' (.obj b (.cells [.pointer (some ⟨b,0,none⟩),v].toArray E (0,0))::L)):=by
 have aq:=G.le.refl g
 have hh:g.w.heap[b]? =some (.cells [p,v].toArray E (0,0)):=(hs.own 0 _ rfl).2.1
 have mU:g.w.shape? b=some (E,2):=by simp[World.shape?,hh]
 obtain⟨j,hj,G3⟩:=Option.map_eq_some_iff.1 Tryz.Builder_Extra_169.sizeBuilder
 refine enter Tryz.func258 rfl Tryz.ntmps258 rfl ?_
 refine dx 4 [.o 0] hs rfl ?_
 rcases hp with rfl|rfl
 ·refine an rfl rfl (gS T.ok (neg:=false) rfl rfl rfl rfl rfl ?_)
  apply aD
  apply au
  refine aJ rfl rfl ?_
  apply ar;refine Wp 2 rfl ?_
  refine an rfl rfl (yL rfl rfl (Lib.run_to_unsafe g.w ⟨b,0,none⟩ Tryz.underlying148 Tryz.underlying296 hj (by rw[G3];decide) mU (Nat.zero_lt_succ 1)) ?_)
  refine an rfl rfl (Ak Tryz.func290 (by kernel_rfl) (by kernel_rfl) (by kernel_rfl) (e:=Extern.AbiNoEscape.same) (by kernel_rfl) aI rfl rfl rfl rfl ?_)
  refine an rfl rfl (yL rfl rfl (Lib.run_from_unsafe g.w ⟨b,0,none⟩ Tryz.underlying296 Tryz.underlying148 hj mU hE) ?_)
  refine Wp 2 rfl ?_
  refine bg rfl (aA T.ok 0 rfl hs rfl rfl rfl rfl rfl rfl rfl rfl rfl ?_);replace hs:=hs;rintro g1 hs ah;replace aq:=G.le.trans aq ah
  apply aD
  exact mv rfl (eu.intro aq ⟨rfl,hs⟩)
 ·refine an rfl rfl (gS T.ok (neg:=false) rfl rfl rfl rfl rfl ?_)
  apply aD
  apply au
  refine aS rfl rfl ?_
  refine dx 5 [.o 0] hs rfl ?_
  refine an rfl rfl (tU rfl rfl rfl Tryz.underlying148 hj ?_)
  apply cf
  refine aS rfl rfl ?_
  apply aE
  exact mv rfl (eu.intro aq ⟨rfl,hs⟩)
theorem Dq{b:Nat}{p v:Value}{xs:List UInt8}{Lr:List cV}(hp:p= .pointer none∨p= .pointer (some ⟨b,0,none⟩))(hb:lK 5 v xs Lr)(ys:List UInt8)(hl:xs.length+ys.length≤140737488355328)
  {E:TypeId} (hE:Hz E) {g0 g:G} {L:List cV} (hs:St g0 g (.obj b (.cells [p,v].toArray E (0,0))::(Lr++L))):
  CallsIn Wd 0 Tryz.prog 168 #[.pointer (some ⟨b,0,none⟩),.string (bs ys)] g.w
   (eu g fun g' _=> ∃v' uL,lK 5 v' (xs++ys) uL∧St g0 g' (.obj b (.cells [.pointer (some ⟨b,0,none⟩),v'].toArray E (0,0))::(uL++L))):=by
 have aq:=G.le.refl g
 refine enter Tryz.func168 rfl Tryz.ntmps168 rfl ?_
 refine aX rfl ?_;refine cP 1 rfl ?_
 refine an rfl rfl (dv Mz aI rfl rfl rfl rfl rfl (zc hp hE hs) ?_)
 clear hs
 rintro g1 _ ah ⟨rfl,hs⟩;replace aq:=G.le.trans aq ah
 apply cf;refine dx 6 [.o 0] hs rfl ?_
 refine an rfl rfl (yK T.ok rfl hb hs.Vc rfl rfl rfl rfl rfl rfl rfl rfl rfl rfl hl ?_)
 rintro v' uL g2 Tp aU ah;replace aq:=G.le.trans aq ah
 obtain⟨ao,no,co,rfl⟩: ∃ao no co,v'= .slice ao no co:=by
  rcases Tp with⟨rfl,_⟩|⟨_,_,_,rfl,_⟩<;>exact⟨_,_,_,rfl⟩
 replace hs:=aU.Rr
 refine Wp 2 rfl ?_
 refine bg rfl (aA T.ok 0 rfl hs rfl rfl rfl rfl rfl rfl rfl rfl rfl ?_);replace hs:=hs;rintro g1 hs ah;replace aq:=G.le.trans aq ah
 apply cf;refine aX rfl ?_
 exact aF (rT rfl rfl rfl (eu.intro aq ⟨_,uL,Tp,hs⟩))
theorem zE{b:Nat}{p v:Value}{xs:List UInt8}{Lr:List cV}(hx:xs≠[])(hb:lK 5 v xs Lr){E:TypeId}{g0 g:G}{L:List cV}(hs:St g0 g (.obj b (.cells [p,v].toArray E (0,0))::(Lr++L))):
  CallsIn Wd 0 Tryz.prog 91 #[.pointer (some ⟨b,0,none⟩)] g.w (eu g fun g' r=>r= .string (bs xs)∧St g0 g' L):=by
 rcases hb with⟨_,h,_⟩|⟨br,cap,cur,rfl,rfl,nd,oJ,mG,cB⟩
 ·exact absurd h hx
 have C2:xs.length≠0:=by simpa using hx
 have aq:=G.le.refl g
 refine enter Tryz.func91 rfl Tryz.ntmps91 rfl ?_
 refine aX rfl ?_;apply aB
 apply bO hs (fj (eJ [])) 10 [(4,7),(9,12)] (by kernel_rfl) rfl
 ·refine Dm [[],[0],[1],[2]] [.o 0] hs (by kernel_rfl) rfl ?_
  refine aw (ak (js:=[(3,6)]) (by kernel_rfl) fun gd hf=>?_) ?_
  ·exact ai rfl (aj (az rfl (u4 rfl rfl (by omega) ⟨gd,rfl,aZ.refl gd,rfl⟩)))
  exact Dz [[],[5],[6],[7],[8]] [.o 0] hs (by kernel_rfl) rfl
 clear hs;intro g1 hs ah;replace aq:=G.le.trans aq ah
 skip
 refine an rfl rfl (u5 1 hs rfl rfl rfl rfl hx rfl rfl nd oJ mG cB ?_)
 clear hs;intro g2 hs ah;replace aq:=G.le.trans aq ah
 refine ba rfl ?_
 exact aF (aV rfl rfl (eu.intro aq ⟨rfl,hs.drop 0⟩))
end Go.Proofs.YtebobfdheanknaaGreatDoor
namespace Go.Proofs.YtebobfdheanknaaGreatDoor
open Go Go.K
set_option maxRecDepth 10000
attribute [local irreducible] W WL cT cn bX bA bB bD cW cG
set_option maxHeartbeats 2000000
def GZ(b:Nat)(z:Int):cV:=.obj b (.cells [.int .u64 z].toArray 245 (0,0))
theorem yz(b:Nat)(k0:Nat)(z0:Int)(g:G)(N3:0≤z0∧z0<128^(k0+1)):
  N4 Tryz.prog 289 #[.pointer (some ⟨b,0,none⟩)] (fun x:Int×Bool=>[.int .u8 x.1,.bool x.2]) (kS (k0+1) z0) (GZ b z0) g:=by
 intro g1 hle yv J Jx N5 hy zC
 have aq:=G.le.refl g1
 refine enter Tryz.func289 rfl Tryz.ntmps289 rfl ?_
 apply aG
 refine bS (fun m a' w=> ∃(k:Nat) (z:Int) (pre:List (Int×Bool)) (g2:G),w=g2.w∧G.le g1 g2∧k≤k0∧m=k∧(0≤z∧z<128^(k+1))∧J pre (GZ b z) g2∧kS (k0+1) z0=pre++kS (k+1) z∧
   Fr 18 [] [(0,yv),(1,.pointer (some ⟨b,0,none⟩))] a') k0
  (fun a' ha=>⟨k0,z0,[],g1,rfl,aq,Nat.le_refl _,rfl,N3,zC,rfl,ha.keep (by(repeat (first|exact trivial|refine⟨rfl,?_⟩)))⟩) ?_
 clear aq
 rintro k a' _ ⟨_,z,pre,g2,rfl,aq,hk,rfl,hz,pj,hx,eI⟩
 obtain⟨g0,L,i,hs,hi,td⟩:=N5 _ _ _ pj
 revert a'
 have tA:kS (k+1) z=(IntKind.u8.wrap (cn .u64 z 127),decide (z<128))::if z<128 then []else kS k (cG .u64 z 7):=rfl
 rw[tA]at hx
 apply cQ;apply aG;apply c_
 refine an rfl rfl (eS T.ok i rfl hs hi rfl rfl ?_)
 refine ba rfl ?_;apply aB;refine cP 1 rfl ?_
 refine an rfl rfl (eS T.ok i rfl hs hi rfl rfl ?_)
 refine Wp 3 rfl ?_
 refine an rfl rfl (eT rfl rfl rfl rfl rfl rfl ((hy pre _ _ _ _ hx aq pj).mono ?_))
 rintro _ _ ⟨g3,bb,rfl,rfl,ah,ht,hf⟩
 refine⟨_,rfl,?_⟩
 replace aq:=aq.trans ah
 have gD:pre++[(IntKind.u8.wrap (cn .u64 z 127),decide (z<128))]<+:kS (k0+1) z0:=⟨if z<128 then []else kS k (cG .u64 z 7),by rw[hx];simp⟩
 cases bb with
 |false=>
  refine ba rfl ?_
  refine aJ rfl rfl ?_
  skip
  refine aF ?_;apply eF;apply iq;apply eF;apply iq;refine rR rfl ?_
  exact⟨g3,_,rfl,rfl,aq,.inr ⟨_,_,gD,hf rfl⟩⟩
 |true=>
  have FI:=ht rfl
  by_cases bh:z<128
  ·rw[if_pos bh]at hx
   refine ba rfl ?_
   refine aJ (b:=decide (z<128)) (decide_eq_true bh) rfl ?_
   skip
   refine aF ?_;apply eF;apply iq;apply eF;apply iq;refine rR rfl ?_
   exact⟨g3,_,rfl,rfl,aq,.inl ⟨_,by rw[hx];exact FI⟩⟩
  ·rw[if_neg bh]at hx
   obtain⟨k,rfl⟩: ∃k',k=k'+1:=⟨k-1,by
    rcases k with _|k
    ·simp at hz;omega
    ·rfl⟩
   obtain⟨g4,L',i',iS,hi',JJ⟩:=N5 _ _ _ FI
   refine ba rfl ?_
   refine aS (b:=decide (z<128)) (decide_eq_false bh) rfl ?_
   apply aE;apply au;apply ar
   refine an rfl rfl (eS T.ok i' rfl iS hi' rfl rfl ?_)
   refine Wp 1 rfl ?_
   refine bg rfl (aA T.ok i' rfl iS hi' rfl rfl rfl rfl rfl rfl rfl rfl ?_)
   rintro g5 ED ah
   have UX:=JJ (GZ b (cG .u64 z 7)) g5 ED ah
   apply aD;apply bU
   exact fun a ha=>⟨k,by omega,k,cG .u64 z 7,_,g5,rfl,aq.trans ah,by omega,rfl,by
    rw[Q9 hz.1]
    have h:=hz.2
    rw[Int.pow_succ]at h
    exact⟨by omega,by omega⟩,UX,by rw[hx];simp,ha.keep (by(repeat (first|exact trivial|refine⟨rfl,?_⟩)))⟩
theorem EJ(z:Int)(g:G):CallsIn Wd 0 Tryz.prog 257 #[.int .u64 z] g.w
  (cR g fun g' r=> ∃b,r= .func (.func 289) #[] #[.pointer (some ⟨b,0,none⟩)]∧(GZ b z).holds g.w.heap.size g'):=by
 have hs:=St.start g
 have aq:=G.le.refl g
 refine enter Tryz.func257 rfl Tryz.ntmps257 rfl ?_
 apply c_
 refine an rfl rfl (aR rfl hs rfl rfl ?_);clear hs;rintro b1 g1 hs ah
 refine ba rfl ?_;refine aX rfl ?_
 exact aF (aV rfl rfl (hs.ret ⟨_,rfl,hs.own 0 _ rfl⟩))
theorem xP(n:Int)(g:G)(hn:o_ n):CallsIn Wd 0 Tryz.prog 167 #[.int .i64 n] g.w (cR g fun _ r=>r= .tuple #[.string (bs (fO n)),.int .i64 0]):=by
 have hs:=St.start g
 have aq:=G.le.refl g
 have C1:=hn.1;have C3:=hn.2
 refine qH Tryz.func167 rfl Tryz.ntmps167 rfl ?_
 refine aX rfl ?_;apply aB;refine cP 3 rfl ?_
 refine cM 9 (b':=false) (decide_eq_false (by omega)) rfl ?_
 refine ba rfl ?_
 refine aS (b:=decide (4611686018427387903<n)) (decide_eq_false (by omega)) rfl ?_
 apply aE;apply au;apply c_
 refine an rfl rfl (aK T.ok rfl hs rfl rfl ?_);clear hs;rintro bo g1 hs ah
 replace hs:=hs.gI 5 1 none
 apply cf;apply aB;refine cP 7 rfl ?_
 have UY:=EK n
 have KG:=vE 10 (zz n)
 unfold fO
 refine kC (.int .u64 (zz n)) (t:=19) rfl rfl ?_
 generalize zz n=z at*
 refine an rfl rfl (ay My aI rfl rfl rfl rfl rfl (EJ z _) ?_);rintro g4 _ kL ⟨bz,rfl,hh⟩;replace hs:=hs.gJ kL hh;have ah:=kL.le
 clear hh
 apply cf;apply aG
 refine EL (N:=33) hs rfl MJ (yz bz 9 z g4 UY) rfl (fun _=>rfl)
  (fun pre L _=> ∃v,L=[.row 5 1 v pre.length (pre.map fun x=>Value.int .u8 (Cr x)),.obj bo (.cells #[v] 149 (0,0))]) (fun _ _ _ _=>False)
  (fun _ _ _ _ _ h=>h) (fun _ _ _ _ _ _ h=>h) ⟨_,rfl⟩ (fun x=>[(5,.int .u8 x.1),(6,.bool x.2),(4,.pointer (some ⟨bo,0,none⟩))]) ?_ ?_ ?_ ?_
 ·intro x ro w
  refine aX rfl ?_;apply ar;refine Wp 1 rfl ?_;apply aD
  exact fun a ha=>⟨rfl,ha.keep (by(repeat (first|exact trivial|refine⟨rfl,?_⟩)))⟩
 ·rintro lp D ro pre x rest e gr Lr jm hle hs ⟨v,rfl⟩
  have cN:=G.le.refl gr
  have AX:pre.length<10:=by have:=congrArg List.length jm;simp at this;omega
  obtain⟨xb,xl⟩:=x
  apply aG;apply aB;refine aX rfl ?_
  refine lL (fun a' w'=>w'=gr.w∧Fr 33 [] [(5,.int .u8 (Cr (xb,xl))),(4,.pointer (some ⟨bo,0,none⟩))] a') ?_ ?_
  ·cases xl with
   |true=>
    skip
    refine aS rfl rfl ?_
    apply aE
    exact fun a ha=>⟨rfl,ha.keep (by(repeat (first|exact trivial|refine⟨rfl,?_⟩)))⟩
   |false=>
    skip
    refine aJ rfl rfl ?_
    apply ar;refine Wp 3 rfl ?_;apply aD
    exact fun a ha=>⟨rfl,ha.keep (by(repeat (first|exact trivial|refine⟨rfl,?_⟩)))⟩
  ·rintro a' _ ⟨rfl,eI⟩
   revert a'
   apply cQ;apply ar;refine Wm 2 [.o 4] hs rfl ?_
   refine an rfl rfl (bj T.ok rfl hs (vs:=[(0,.int .u8 (Cr (xb,xl)))]) (cells:=[.int .u8 (Cr (xb,xl))]) rfl rfl rfl rfl rfl rfl (by decide) (by decide) (by kernel_rfl) rfl ?_);rintro b2 g2 hs ah;replace cN:=G.le.trans cN ah
   skip
   refine an rfl rfl (b_ T.ok 4 rfl hs rfl rfl rfl rfl rfl rfl rfl (by decide) rfl (Src.gK (hs.own 0 _ rfl).1).2 (by simp[Value.oneCell']) (by show(pre.length+1)*1≤_;omega) (by unfold maxLen;omega) ?_);rintro a9 c9 g3 hs ah;replace cN:=G.le.trans cN ah
   skip
   refine bg rfl (aA T.ok 5 rfl hs rfl rfl rfl rfl rfl rfl rfl rfl rfl ?_);replace hs:=hs;rintro g1 hs ah;replace cN:=G.le.trans cN ah
   apply aD;apply bU
   exact fun a ha=>⟨_,_,rfl,hs.drop 0,cN,_,rfl,.slice a9 (pre.length+1) c9,by simp[lF]⟩
 ·rintro lp D o e Lr ge hle hs ⟨v,rfl⟩
  obtain⟨av,cv,rfl⟩:=(hs.own 3 _ rfl).1.form
  have gn:=(Src.gK (hs.own 3 _ rfl).1).2
  apply bU;apply au;refine dx 1 [.o 4] hs rfl ?_
  refine an rfl rfl (mh T.ok (ns:=(kS (9+1) z).map Cr) rfl rfl rfl rfl rfl rfl rfl rfl (by rw[List.map_map];exact gn) ?_)
  refine ba rfl ?_
  refine aF ?_;skip
  refine N6 1 rfl hs rfl rfl rfl (fun g' iS fL=>?_)
  exact iS.ret rfl
 ·rintro c lp D o pre e Lr ge _ _ _ h
  exact h.elim
end Go.Proofs.YtebobfdheanknaaGreatDoor
namespace Go.Proofs.YtebobfdheanknaaGreatDoor
open Go Go.K
set_option maxRecDepth 10000
attribute [local irreducible] W WL cT cn bX bA bB bD cW cG
set_option maxHeartbeats 2000000
theorem Du(s:List UInt8)(g:G)(hl:s.length≤1099511627776):CallsIn Wd 0 Tryz.prog 191 #[.string (bs s)] g.w (cR g fun _ r=>r= .tuple #[.string (bs (lW s).1),.int .i64 (lW s).2]):=by
 have hs:=St.start g
 have aq:=G.le.refl g
 refine enter Tryz.func191 rfl Tryz.ntmps191 rfl ?_
 unfold lW
 refine aX rfl ?_;apply aB;refine aX rfl ?_
 by_cases bh:65536<s.length
 ·rw[if_pos bh]
  refine aJ (b:=decide ((65536:Int)<((bs s).size:Int))) (decide_eq_true (by rw[ec];omega)) rfl ?_
  refine aX rfl ?_
  exact aF (rT rfl rfl rfl (hs.ret rfl))
 ·rw[if_neg bh]
  refine aS (b:=decide ((65536:Int)<((bs s).size:Int))) (decide_eq_false (by rw[ec];omega)) rfl ?_
  have AX:=kR (s.length:Int)
  apply aE;apply au;refine cP 2 rfl ?_
  refine kC (.int .i64 (s.length:Int)) (t:=11) rfl (by rw[ec]) ?_
  refine an rfl rfl (ay HJ aI rfl rfl rfl rfl rfl (xP (s.length:Int) _ ⟨by omega,by omega⟩) ?_);rintro g1 _ aN rfl;replace hs:=hs.call aN;have ah:=aN.le
  refine ba rfl ?_;refine cP 2 rfl ?_
  refine an rfl rfl (cA (p:=fO s.length) (q:=s) rfl rfl rfl (by omega) ?_)
  refine ba rfl ?_
  exact aF (rT rfl rfl rfl (hs.ret rfl))
end Go.Proofs.YtebobfdheanknaaGreatDoor
namespace Go.Proofs.YtebobfdheanknaaGreatDoor
open Go Go.K
set_option maxRecDepth 10000
attribute [local irreducible] W WL cT cn bX bA bB bD cW cG
theorem tF(v fv:Value)(l:List Int)(p:Int→Bool)(g:G)(hl:Rs g v l)
  (hp: ∀(g':G) (x:Int),x∈l→g.le g'→ir Tryz.prog fv [.int .i64 x] g'.w (cR g' fun _ r=>r= .bool (p x))):
  CallsIn Wd 0 Tryz.prog 249 #[v,fv] g.w (cR g fun _ r=>r= .int .i64 (lu p l)):=by
 obtain⟨a,c,rfl⟩:=hl.isSlice
 have hlen:=hl.dU
 unfold maxLen at hlen
 have hs:=St.start g
 refine enter Tryz.func249 rfl Tryz.ntmps249 rfl ?_
 refine aX rfl ?_;apply aB;refine aX rfl ?_;apply aG
 refine bS (fun m a' w=> ∃(k:Nat) (g':G),w=g'.w∧St g g' []∧G.le g g'∧k≤l.length∧m=l.length-k∧(∀j (h:j<l.length),j<k→p l[j]=false)∧
  Fr 19 [] [(0,.slice a l.length c),(1,fv),(7,.int .i64 l.length),(8,.int .i64 k)] a') l.length (fun a' ha=>⟨0,g,rfl,hs,G.le.refl g,Nat.zero_le _,rfl,by simp,ha.keep (by(repeat (first|exact trivial|refine⟨rfl,?_⟩)))⟩) ?_
 clear hs
 rintro m a' _ ⟨k,g',rfl,hs,aq,hk,rfl,dy,eI⟩
 revert a'
 apply cQ;refine aX rfl ?_;apply aB
 by_cases bh:k<l.length
 ·refine aJ (b:=decide ((k:Int)<(l.length:Int))) (by simp;omega) rfl ?_
  apply aE;apply au;apply aB;apply aG;refine aX rfl ?_;refine cP 3 rfl ?_
  refine an rfl rfl (aW T.ok rfl (hl.mono aq) (y:=l[k]) (by simp[dA,bh]) rfl rfl rfl rfl rfl rfl ?_)
  rintro b q ys aL rfl
  refine Wm 1 [.e aL 0] (St.start _) rfl ?_
  skip
  refine an rfl rfl (eA rfl rfl rfl rfl rfl rfl (hp _ _ (List.getElem_mem bh) aq) ?_);rintro g1 _ aN rfl;replace hs:=hs.call aN;have ah:=aN.le;replace aq:=G.le.trans aq ah
  apply cf
  cases wE:p l[k]with
  |true=>
   refine aJ rfl rfl ?_
   refine aX rfl ?_
   exact aF (aV rfl rfl (hs.ret (by rw[oj bh wE dy])))
  |false=>
   refine aS rfl rfl ?_
   apply aE;apply bU;apply au;apply ar;refine Wp 2 rfl ?_;apply aD
   refine fun a ha=>⟨l.length-(k+1),by omega,k+1,_,rfl,hs,aq,by omega,rfl,?_,ha.keep ⟨rfl,rfl,rfl,kI rfl (by rw[wr (by omega) (by omega)];omega),trivial⟩⟩
   intro j hj zO
   by_cases e:j=k
   ·subst e;exact wE
   ·exact dy j hj (by omega)
 ·refine aS (b:=decide ((k:Int)<(l.length:Int))) (by simp;omega) rfl ?_
  apply bE;apply bK;apply bK;apply dc;apply au;refine aX rfl ?_
  obtain rfl:k=l.length:=by omega
  exact aF (aV rfl rfl (hs.ret (by rw[so fun j h=>dy j h h])))
theorem uX(v fv:Value)(l:List Int)(p:Int→Bool)(g:G)(hl:Rs g v l)
  (hp: ∀(g':G) (x:Int),x∈l→g.le g'→ir Tryz.prog fv [.int .i64 x] g'.w (cR g' fun _ r=>r= .bool (p x))):
  CallsIn Wd 0 Tryz.prog 247 #[v,fv] g.w (cR g fun _ r=>r= .bool (l.any p)):=by
 have hs:=St.start g
 refine enter Tryz.func247 rfl Tryz.ntmps247 rfl ?_
 refine aX rfl ?_;refine cP 2 rfl ?_
 refine an rfl rfl (ay HR aI rfl rfl rfl rfl rfl (tF _ _ l p g hl hp) ?_);rintro g1 _ aN rfl;replace hs:=hs.call aN;have ah:=aN.le;skip
 refine ba rfl ?_
 exact aF (aV rfl rfl (hs.ret (by rw[←nf])))
end Go.Proofs.YtebobfdheanknaaGreatDoor
namespace Go.Proofs.YtebobfdheanknaaGreatDoor
def nN(f:bV)(n:Int):Bool:=decide (n<0)||decide ((f.steps.length:Int)≤n)
def given(f:bV)(l:List Int):Bool:=valid f&& !l.any (nN f)
def eL:Int→List Int→List Int
 |back,[]=>if 0≤back then [back]else []
 |back,n::r=>(if 0≤back∧back<n then [back]else [])++n::eL (if back≤n then -1 else back) r
def jy(s:Step):List Int:=eL s.back s.next
def xX(s:Step):Bool:=(s.next.length:Int)==0
def dG(f:bV)(n:Int):Step:=f.steps.getD n.toNat ⟨0,[],0,0,[],0,0⟩
theorem oH{f:bV}(h:valid f=true){n:Int}(h0:0≤n)(h1:n<f.steps.length):cg (dG f n) f.steps.length=true:=by
 unfold valid at h
 simp only[Bool.and_eq_true,List.all_eq_true]at h
 refine h.1.2 _ ?_
 unfold dG
 rw[List.getD_eq_getElem?_getD,List.getElem?_eq_getElem (by omega)]
 exact List.getElem_mem _
theorem sU{s:Step}{n:Int}(h:cg s n=true):s.next.length≤4:=by
 unfold cg at h
 simp only[Bool.and_eq_true,decide_eq_true_eq]at h
 omega
end Go.Proofs.YtebobfdheanknaaGreatDoor
namespace Go.Proofs.YtebobfdheanknaaGreatDoor
open Go Go.K
set_option maxRecDepth 10000
attribute [local irreducible] W WL cT cn bX bA bB bD cW cG
set_option maxHeartbeats 1000000
theorem GM(v:Value)(s:Step)(g:G)(QJ:ja g v s):
  CallsIn Wd 0 Tryz.prog 153 #[v] g.w (cR g fun _ r=>r= .bool (xX s)):=by
 obtain⟨cs,rfl,a1,n1,c1,a2,n2,c2,rfl,aH,aT⟩:=QJ
 obtain⟨_,_,e⟩:=aT.isSlice;obtain⟨rfl,rfl,rfl⟩:=Value.slice.inj e;clear e
 have hs:=St.start g
 refine enter Tryz.func153 rfl Tryz.ntmps153 rfl ?_
 apply c_
 refine an rfl rfl (aR rfl hs rfl rfl ?_);clear hs;rintro b1 g1 hs ah
 refine ba rfl ?_;refine nK [.o 0] hs rfl ?_
 exact aF (aV rfl rfl (hs.ret rfl))
def qU(g:G)(cs:List Value)(f:bV):Prop:=
 ∃a1 n1 c1 a2 n2 c2,cs=[.int .i64 f.ck,.int .i64 f.cu,.slice a1 n1 c1,.slice a2 n2 c2]∧Rs g (.slice a1 n1 c1) f.steps∧Rs g (.slice a2 n2 c2) f.windows
theorem qU.mono{g g':G}{cs:List Value}{f:bV}(h:qU g cs f)(hle:g.le g'):qU g' cs f:=by
 obtain⟨a1,n1,c1,a2,n2,c2,e,h1,h2⟩:=h
 exact⟨a1,n1,c1,a2,n2,c2,e,h1.mono hle,h2.mono hle⟩
theorem EA(n:Int)(f:bV)(b:Nat)(cs:List Value)(g:G)(aC:EP g b 0 cs)(hc:qU g cs f):
  CallsIn Wd 0 Tryz.prog 248 #[.int .i64 n,.pointer (some ⟨b,0,none⟩)] g.w (cR g fun _ r=>r= .bool (nN f n)):=by
 obtain⟨a1,n1,c1,a2,n2,c2,rfl,aH,aT⟩:=hc
 obtain⟨_,_,e⟩:=aH.isSlice;obtain⟨rfl,rfl,rfl⟩:=Value.slice.inj e;clear e
 have hs:=St.start g
 refine enter Tryz.func248 rfl Tryz.ntmps248 rfl ?_
 refine aX rfl ?_;refine cP 3 rfl ?_
 refine cw (want:=false) (x:=decide ((f.steps.length:Int)≤n)) 5 aI rfl rfl rfl rfl (.inr ⟨rfl,rfl,rfl⟩) rfl rfl rfl rfl (fun hb Q' eE=>?_) (fun g' hf=>?_)
 ·refine Wm 5 [.z aC] (St.start _) rfl ?_;apply aD
  exact fun a ha=>eE _ a (aZ.refl _) (ha.keep (by(repeat (first|exact trivial|refine⟨rfl,?_⟩))))
 replace hs:=hs.call hf;have ah:=hf.le
 refine ba rfl ?_
 exact aF (aV rfl rfl (hs.ret rfl))
theorem GN(v lv:Value)(f:bV)(l:List Int)(g:G)(fk:fA g v f)(bT:Rs g lv l):
  CallsIn Wd 0 Tryz.prog 150 #[v,lv] g.w (cR g fun _ r=>r= .bool (given f l)):=by
 obtain⟨a1,n1,c1,a2,n2,c2,rfl,aH,aT⟩:=id fk
 have hs:=St.start g
 refine enter Tryz.func150 rfl Tryz.ntmps150 rfl ?_
 apply c_
 refine an rfl rfl (aR rfl hs rfl rfl ?_);clear hs;rintro b1 g1 hs ah;obtain⟨aH,aT,bT,fk⟩:=dE ah aH aT bT fk
 obtain⟨g2,bR,aU,ah,aL⟩:=hs.a_ (i:=0) rfl;replace hs:=aU;clear aU;rw[←bR];obtain⟨aH,aT,bT,fk⟩:=dE ah aH aT bT fk
 have aC:=aL
 refine ba rfl ?_;refine dx 1 [.z aC] (St.start _) rfl ?_
 refine an rfl rfl (ay K3 aI rfl rfl rfl rfl rfl (Be _ f _ fk) ?_);rintro g1 _ aN rfl;replace hs:=hs.call aN;have ah:=aN.le;obtain⟨aC,aH,aT,bT⟩:=dE ah aC aH aT bT
 refine Wp 1 rfl ?_
 refine cw (want:=true) (x:=!l.any (nN f)) 4 aI rfl rfl rfl rfl (.inl ⟨rfl,rfl,rfl⟩) rfl rfl rfl rfl (fun hb Q' eE=>?_) (fun g' hf=>?_)
 ·refine Wp 2 rfl ?_
  refine an rfl rfl (ay Mq aI rfl rfl rfl rfl rfl (uX _ _ l (nN f) _ bT (fun g' x _ hle=>de Mr rfl (EA x f _ _ g' (aC.mono hle) ⟨_,_,_,_,_,_,rfl,aH.mono hle,aT.mono hle⟩))) ?_);rintro g1 _ aN rfl;replace hs:=hs.call aN;have ah:=aN.le
  refine Wp 1 rfl ?_;apply aD
  exact fun a ha=>eE _ a aN (ha.keep (by(repeat (first|exact trivial|refine⟨rfl,?_⟩))))
 replace hs:=hs.call hf;have ah:=hf.le
 refine ba rfl ?_
 exact aF (aV rfl rfl (hs.ret rfl))
end Go.Proofs.YtebobfdheanknaaGreatDoor
namespace Go.Proofs.YtebobfdheanknaaGreatDoor
open Go Go.K
set_option maxRecDepth 10000
attribute [local irreducible] W WL cT cn bX bA bB bD cW cG
set_option maxHeartbeats 1000000
theorem EC(s:Step)(b:Nat)(cs:List Value)(g:G)(ep:EP g b 0 cs)(hc:pB g cs s):
  sM Tryz.prog 250 #[.pointer (some ⟨b,0,none⟩)] (fun n:Int=>[.int .i64 n]) (jy s) g:=by
 obtain⟨a1,n1,c1,a2,n2,c2,rfl,aH,aT⟩:=hc
 obtain⟨_,_,e⟩:=aT.isSlice;obtain⟨rfl,rfl,rfl⟩:=Value.slice.inj e;clear e
 intro g1 hle yv J Jx hJ Qf hy zC
 have hlen:=aT.dU
 unfold maxLen at hlen
 have aq:=G.le.refl g1
 have OS:=ep.mono hle;have HY:=aT.mono hle
 have aC:=OS
 refine enter Tryz.func250 rfl Tryz.ntmps250 rfl ?_
 refine nK [.z aC] (St.start _) rfl ?_;apply aB;refine nK [.z aC] (St.start _) rfl ?_;apply aG
 refine bS (fun m a' w=> ∃(k:Nat) (pre:List Int) (back:Int) (g':G),w=g'.w∧G.le g1 g'∧k≤s.next.length∧m=s.next.length-k∧J pre g'∧jy s=pre++eL back (s.next.drop k)∧
  Fr 41 [] [(0,yv),(1,.pointer (some ⟨b,0,none⟩)),(3,.int .i64 back),(9,.slice a2 s.next.length c2),(10,.int .i64 s.next.length),(11,.int .i64 k)] a') s.next.length
  (fun a' ha=>⟨0,[],s.back,g1,rfl,aq,Nat.zero_le _,rfl,zC,rfl,ha.keep (by(repeat (first|exact trivial|refine⟨rfl,?_⟩)))⟩) ?_
 clear aC aq
 rintro m a' _ ⟨k,pre,back,g',rfl,aq,hk,rfl,pj,hx,eI⟩
 have aC:=OS.mono aq;have aT:=HY.mono aq
 revert a'
 apply cQ;refine aX rfl ?_;apply aB
 by_cases bh:k<s.next.length
 ·refine aJ (b:=decide ((k:Int)<(s.next.length:Int))) (by simp;omega) rfl ?_
  apply aE;apply au;apply aB;apply aG;apply c_
  refine an rfl rfl (aW T.ok rfl aT (y:=s.next[k]) (by simp[dA,bh]) rfl rfl rfl rfl rfl rfl ?_)
  rintro b p ys aL rfl
  refine Wm 1 [.e aL 0] (St.start _) rfl ?_
  refine ba rfl ?_;apply aB;refine cP 3 rfl ?_
  rw[List.drop_eq_getElem_cons bh,eL]at hx
  refine cw (want:=true) (x:=decide (back<s.next[k])) 3 aI rfl rfl rfl rfl (.inl ⟨rfl,rfl,rfl⟩) rfl rfl rfl rfl (fun hb Q' eE=>?_) (fun g' hf=>?_)
  ·refine Wp 3 rfl ?_;apply aD
   exact fun a ha=>eE _ a (aZ.refl _) (ha.keep (by(repeat (first|exact trivial|refine⟨rfl,?_⟩))))
  have ah:=hf.le;replace pj:=hJ _ _ _ hf pj;replace aq:=G.le.trans aq ah
  refine Wp 1 rfl ?_
  by_cases hc:0≤back∧back<s.next[k]
  ·refine kC (t:=22) (.bool true) rfl (by simp[hc]) ?_
   rw[if_pos hc,if_pos (by omega:back≤s.next[k])]at hx
   refine Wp 2 rfl ?_
   refine an rfl rfl (eT rfl rfl rfl rfl rfl rfl ((hy pre back (s.next[k]::eL (-1) (s.next.drop (k+1))) _ (by rw[hx];rfl) aq pj).mono ?_))
   rintro _ _ ⟨g3,bb,rfl,rfl,ah,ht,hf⟩
   refine⟨_,rfl,?_⟩
   replace aq:=G.le.trans aq ah
   cases bb with
   |false=>
    refine ba rfl ?_
    refine aJ rfl rfl ?_
    skip
    refine aF ?_;apply eF;apply iq;apply eF;apply eF;apply iq;apply eF;refine rR rfl ?_
    exact⟨g3,_,rfl,rfl,aq,.inr ⟨_,⟨s.next[k]::eL (-1) (s.next.drop (k+1)),by rw[hx];simp⟩,hf rfl⟩⟩
   |true=>
    refine ba rfl ?_
    refine aS rfl rfl ?_
    apply aE;apply au;apply aB;refine aX rfl ?_
    refine aJ (b:=decide (back≤s.next[k])) (by simp;omega) rfl ?_
    apply ar;refine ba rfl ?_;refine cP 2 rfl ?_
    have A0:jy s=(pre++[back])++s.next[k]::eL (-1) (s.next.drop (k+1)):=by rw[hx];simp
    refine an rfl rfl (eT rfl rfl rfl rfl rfl rfl ((hy ((pre++[back])) s.next[k] (eL (-1) (s.next.drop (k+1))) _ (A0) aq (ht rfl)).mono ?_))
    rintro _ _ ⟨g4,bb,rfl,rfl,ah,ht,hf⟩
    refine⟨_,rfl,?_⟩
    replace aq:=G.le.trans aq ah
    cases bb with
    |false=>
     refine ba rfl ?_
     refine aJ rfl rfl ?_
     skip
     refine aF ?_;apply iq;apply eF;apply eF;apply iq;apply eF;refine rR rfl ?_
     exact⟨g4,_,rfl,rfl,aq,.inr ⟨_,⟨eL (-1) (s.next.drop (k+1)),by rw[A0];simp⟩,hf rfl⟩⟩
    |true=>
     refine ba rfl ?_
     refine aS rfl rfl ?_
     apply aE;apply bU;apply au;apply ar;refine Wp 2 rfl ?_;apply aD
     exact fun a ha=>⟨s.next.length-(k+1),by omega,k+1,(pre++[back])++[s.next[k]],-1,_,rfl,aq,by omega,rfl,ht rfl,by rw[A0];simp,ha.keep ⟨rfl,rfl,rfl,rfl,rfl,kI rfl (by rw[wr (by omega) (by omega)];omega),trivial⟩⟩
  ·refine kC (t:=22) (.bool false) rfl (congrArg Value.bool (by simp only[cond_true,Bool.and_eq_false_iff,decide_eq_false_iff_not];omega)) ?_
   refine ba rfl ?_
   refine aS rfl rfl ?_
   rw[if_neg hc]at hx
   apply aE;apply au;apply aB;refine aX rfl ?_
   by_cases O3:back≤s.next[k]
   ·refine aJ (b:=decide (back≤s.next[k])) (by simp;omega) rfl ?_
    rw[if_pos O3]at hx
    apply ar;refine ba rfl ?_;refine cP 2 rfl ?_
    have A0:jy s=pre++s.next[k]::eL (-1) (s.next.drop (k+1)):=by rw[hx];simp
    refine an rfl rfl (eT rfl rfl rfl rfl rfl rfl ((hy (pre) s.next[k] (eL (-1) (s.next.drop (k+1))) _ (A0) aq (pj)).mono ?_))
    rintro _ _ ⟨g4,bb,rfl,rfl,ah,ht,hf⟩
    refine⟨_,rfl,?_⟩
    replace aq:=G.le.trans aq ah
    cases bb with
    |false=>
     refine ba rfl ?_
     refine aJ rfl rfl ?_
     skip
     refine aF ?_;apply iq;apply eF;apply eF;apply iq;apply eF;refine rR rfl ?_
     exact⟨g4,_,rfl,rfl,aq,.inr ⟨_,⟨eL (-1) (s.next.drop (k+1)),by rw[A0];simp⟩,hf rfl⟩⟩
    |true=>
     refine ba rfl ?_
     refine aS rfl rfl ?_
     apply aE;apply bU;apply au;apply ar;refine Wp 2 rfl ?_;apply aD
     exact fun a ha=>⟨s.next.length-(k+1),by omega,k+1,pre++[s.next[k]],-1,_,rfl,aq,by omega,rfl,ht rfl,by rw[A0];simp,ha.keep ⟨rfl,rfl,rfl,rfl,rfl,kI rfl (by rw[wr (by omega) (by omega)];omega),trivial⟩⟩
   ·refine aS (b:=decide (back≤s.next[k])) (by simp;omega) rfl ?_
    rw[if_neg O3]at hx
    apply aE;apply au;refine cP 2 rfl ?_
    have A0:jy s=pre++s.next[k]::eL back (s.next.drop (k+1)):=by rw[hx];simp
    refine an rfl rfl (eT rfl rfl rfl rfl rfl rfl ((hy (pre) s.next[k] (eL (back) (s.next.drop (k+1))) _ (A0) aq (pj)).mono ?_))
    rintro _ _ ⟨g4,bb,rfl,rfl,ah,ht,hf⟩
    refine⟨_,rfl,?_⟩
    replace aq:=G.le.trans aq ah
    cases bb with
    |false=>
     refine ba rfl ?_
     refine aJ rfl rfl ?_
     skip
     refine aF ?_;apply iq;apply eF;apply eF;apply iq;apply eF;refine rR rfl ?_
     exact⟨g4,_,rfl,rfl,aq,.inr ⟨_,⟨eL (back) (s.next.drop (k+1)),by rw[A0];simp⟩,hf rfl⟩⟩
    |true=>
     refine ba rfl ?_
     refine aS rfl rfl ?_
     apply aE;apply bU;apply au;apply ar;refine Wp 2 rfl ?_;apply aD
     exact fun a ha=>⟨s.next.length-(k+1),by omega,k+1,pre++[s.next[k]],back,_,rfl,aq,by omega,rfl,ht rfl,by rw[A0];simp,ha.keep ⟨rfl,rfl,rfl,rfl,rfl,kI rfl (by rw[wr (by omega) (by omega)];omega),trivial⟩⟩
 ·refine aS (b:=decide ((k:Int)<(s.next.length:Int))) (by simp;omega) rfl ?_
  apply bE;apply bK;apply bK;apply dc;apply au;refine aX rfl ?_
  obtain rfl:k=s.next.length:=by omega
  rw[List.drop_length,eL]at hx
  by_cases hb:0≤back
  ·refine aJ (b:=decide (0≤back)) (by simp;omega) rfl ?_
   rw[if_pos hb]at hx
   apply ar;refine Wp 2 rfl ?_
   refine an rfl rfl (eT rfl rfl rfl rfl rfl rfl ((hy pre back [] _ hx aq pj).mono ?_))
   rintro _ _ ⟨g3,bb,rfl,rfl,ah,ht,hf⟩
   refine⟨_,rfl,?_⟩
   replace aq:=G.le.trans aq ah
   apply aD
   refine mv rfl ?_
   cases bb with
   |true=>exact⟨g3,_,rfl,rfl,aq,.inl (by rw[hx];exact ht rfl)⟩
   |false=>exact⟨g3,_,rfl,rfl,aq,.inr ⟨_,⟨[],by rw[hx];simp⟩,hf rfl⟩⟩
  ·refine aS (b:=decide (0≤back)) (by simp;omega) rfl ?_
   rw[if_neg hb,List.append_nil]at hx
   apply aE
   refine mv rfl ?_
   exact⟨_,_,rfl,rfl,aq,.inl (by rw[hx];exact pj)⟩
end Go.Proofs.YtebobfdheanknaaGreatDoor
namespace Go.Proofs.YtebobfdheanknaaGreatDoor
open Go Go.K
set_option maxRecDepth 10000
attribute [local irreducible] W WL cT cn bX bA bB bD cW cG
set_option maxHeartbeats 1000000
def zD(g:G)(v:Value)(xs:List Int):Prop:=
 ∃jR eG,v= .func (.func jR) #[] eG∧ag Tryz.prog jR∧sM Tryz.prog jR eG (fun n:Int=>[.int .i64 n]) xs g
theorem zD.mono{g g':G}{v:Value}{xs:List Int}(h:zD g v xs)(hle:g.le g'):zD g' v xs:=by
 obtain⟨jR,eG,e,h1,h2⟩:=h
 exact⟨jR,eG,e,h1,h2.mono hle⟩
theorem GR(v:Value)(s:Step)(g:G)(QJ:ja g v s):
  CallsIn Wd 0 Tryz.prog 155 #[v] g.w (cR g fun g' r=>zD g' r (jy s)):=by
 obtain⟨cs,rfl,a1,n1,c1,a2,n2,c2,rfl,aH,aT⟩:=QJ
 have hs:=St.start g
 refine enter Tryz.func155 rfl Tryz.ntmps155 rfl ?_
 apply c_
 refine an rfl rfl (aR rfl hs rfl rfl ?_);clear hs;rintro b1 g1 hs ah;obtain⟨aH,aT⟩:=cC ah aH aT
 refine ba rfl ?_;refine aX rfl ?_
 obtain⟨g2,bR,aU,ah,aL⟩:=hs.a_ (i:=0) rfl;replace hs:=aU;clear aU;rw[←bR];obtain⟨aH,aT⟩:=cC ah aH aT
 skip
 exact aF (aV rfl rfl (hs.ret ⟨250,_,rfl,Ms,EC s _ _ _ aL ⟨_,_,_,_,_,_,rfl,aH,aT⟩⟩))
end Go.Proofs.YtebobfdheanknaaGreatDoor
namespace Go.Proofs.YtebobfdheanknaaGreatDoor
open Go Go.K
set_option maxRecDepth 10000
attribute [local irreducible] W WL cT cn bX bA bB bD cW cG
set_option maxHeartbeats 4000000
def xO(b:Nat)(xs:List UInt8)(Lw:List cV):Prop:=∃p v Lr,(p= .pointer none∨p= .pointer (some ⟨b,0,none⟩))∧lK 5 v xs Lr∧Lw= .obj b (.cells [p,v].toArray 153 (0,0))::Lr
def i_(l:List Int):List UInt8:=l.flatMap fO
theorem j8: ∀l:List Int,(i_ l).length≤10*l.length
 |[]=>by simp[i_]
 |n::l=>by
  have:=j8 l
  have h:=kR n
  unfold i_ at this⊢
  simp only[List.flatMap_cons,List.length_append,List.length_cons];omega
theorem zy{b:Nat}{xs:List UInt8}{Lw L:List cV}{sv:Value}(l:List Int){g0 g:G}(hw:xO b xs Lw)(hl: ∀n∈l,o_ n)(hlen:xs.length+10*l.length≤1000000)(aH:Rs g sv l)(hs:St g0 g (Lw++L)):
  CallsIn Wd 0 Tryz.prog 87 #[.pointer (some ⟨b,0,none⟩),sv] g.w (eu g fun g' r=>r= .tuple #[]∧ ∃zA,xO b (xs++i_ l) zA∧St g0 g' (zA++L)):=by
 obtain⟨a,c,rfl⟩:=aH.isSlice
 have aq:=G.le.refl g
 refine enter Tryz.func87 rfl Tryz.ntmps87 rfl ?_
 refine aX rfl ?_;apply aG
 have qz:=aH
 refine bS (fun m a' w=> ∃(k:Nat) (zA:List cV) (g':G),w=g'.w∧xO b (xs++i_ (l.take k)) zA∧St g0 g' (zA++L)∧G.le g g'∧k≤l.length∧m=l.length-k∧
   Fr 25 [] [(0,.pointer (some ⟨b,0,none⟩)),(8,.slice a l.length c),(9,.int .i64 l.length),(10,.int .i64 k)] a') l.length
  (fun a' ha=>⟨0,Lw,g,rfl,by simpa [i_]using hw,hs,aq,Nat.zero_le _,rfl,ha.keep (by(repeat (first|exact trivial|refine⟨rfl,?_⟩)))⟩) ?_
 clear hs aq aH hw
 rintro m a' _ ⟨k,zA,g',rfl,⟨p,v,Lr,hp,hb,rfl⟩,hs,aq,hk,rfl,eI⟩
 have aH:=qz.mono aq
 revert a'
 apply cQ;refine aX rfl ?_;apply aB
 by_cases bh:k<l.length
 ·refine aJ (b:=decide ((k:Int)<(l.length:Int))) (by simp;omega) rfl ?_
  apply aE;apply au;apply aB;apply aG;apply c_
  refine an rfl rfl (aW T.ok rfl aH (y:=l[k]) (cU rfl bh) rfl rfl rfl rfl rfl rfl ?_)
  rintro b1 p1 ys aL rfl
  refine Wm 1 [.e aL 0] (St.start _) rfl ?_
  refine ba rfl ?_;refine cP 1 rfl ?_
  refine an rfl rfl (ay HJ aI rfl rfl rfl rfl rfl (xP l[k] _ (hl _ (List.getElem_mem bh))) ?_);rintro g1 _ aN rfl;replace hs:=hs.call aN;have ah:=aN.le;obtain⟨aq,aH⟩:=cC ah aq aH
  refine ba rfl ?_;apply ar;refine Wp 4 rfl ?_
  have AX:=j8 (l.take k)
  have MV:=kR l[k]
  rw[List.length_take]at AX
  refine an rfl rfl (dv HK aI rfl rfl rfl rfl rfl (Dq hp hb (fO l[k]) (by rw[List.length_append];omega) Dr hs) ?_)
  clear hs
  rintro g5 _ ah ⟨v',uL,rQ,hs⟩;obtain⟨aq,aH⟩:=cC ah aq aH
  apply aD;apply bU;apply au;apply ar;refine Wp 2 rfl ?_;apply aD
  refine fun a ha=>⟨l.length-(k+1),by omega,k+1,_,_,rfl,⟨_,v',uL,.inr rfl,?_,rfl⟩,hs,aq,by omega,rfl,ha.keep ⟨rfl,rfl,rfl,kI rfl (by have:=aH.dU;unfold maxLen at this;rw[wr (by omega) (by omega)];omega),trivial⟩⟩
  rw[List.take_succ_eq_append_getElem bh]
  unfold i_ at rQ⊢
  rw[List.flatMap_append]
  simpa using rQ
 ·refine aS (b:=decide ((k:Int)<(l.length:Int))) (by simp;omega) rfl ?_
  apply bE;apply bK;apply bK;apply dc
  refine mv rfl (eu.intro aq ⟨rfl,_,⟨p,v,Lr,hp,?_,rfl⟩,hs⟩)
  rw[List.take_of_length_le (by omega)]at hb
  exact hb
theorem zB(f:bc)(fs:List jD)(MU: ∀x∈fs,kP x.at_)(bl bf:Nat)(u:Value)(g:G)(T5:EP g bl 0 [u])(rs:Rs g u fs)(MW:EP g bf 0 (bW f)):
  sM Tryz.prog 169 #[.pointer (some ⟨bl,0,none⟩),.pointer (some ⟨bf,0,none⟩)] (fun n:Int=>[.int .i64 n]) (fs.map fun x=>f.num x.at_) g:=by
 obtain⟨a,c,rfl⟩:=rs.isSlice
 intro g1 hle yv J Jx hJ Qf hy zC
 have hlen:=rs.dU
 unfold maxLen at hlen
 have aq:=G.le.refl g1
 have qE:=T5.mono hle;have HY:=rs.mono hle;have I4:=MW.mono hle
 have aC:=qE
 refine enter Tryz.func169 rfl Tryz.ntmps169 rfl ?_
 refine nK [.z aC] (St.start _) rfl ?_;apply aG
 refine bS (fun m a' w=> ∃(k:Nat) (g':G),w=g'.w∧G.le g1 g'∧k≤fs.length∧m=fs.length-k∧J ((fs.map fun x=>f.num x.at_).take k) g'∧
   Fr 21 [] [(0,yv),(1,.pointer (some ⟨bl,0,none⟩)),(2,.pointer (some ⟨bf,0,none⟩)),(6,.slice a fs.length c),(7,.int .i64 fs.length),(8,.int .i64 k)] a') fs.length
  (fun a' ha=>⟨0,g1,rfl,aq,Nat.zero_le _,rfl,zC,ha.keep (by(repeat (first|exact trivial|refine⟨rfl,?_⟩)))⟩) ?_
 clear aC aq
 rintro m a' _ ⟨k,g',rfl,aq,hk,rfl,pj,eI⟩
 have aC:=I4.mono aq;have eg:=HY.mono aq
 have hs:=St.start g'
 revert a'
 apply cQ;refine aX rfl ?_;apply aB
 by_cases bh:k<fs.length
 ·refine aJ (b:=decide ((k:Int)<(fs.length:Int))) (by simp;omega) rfl ?_
  have qD:=MU _ (List.getElem_mem bh)
  have ic:=cU (n:=((k:Nat):Int)) rfl bh
  have qF:(fs.map fun x=>f.num x.at_)=(fs.map fun x=>f.num x.at_).take k++f.num fs[k].at_::(fs.map fun x=>f.num x.at_).drop (k+1):=by
   conv=>lhs;rw[←List.take_append_drop k (fs.map fun x=>f.num x.at_)]
   rw[List.drop_eq_getElem_cons (by simpa using bh)];simp
  have cB:(fs.map fun x=>f.num x.at_).take (k+1)=(fs.map fun x=>f.num x.at_).take k++[f.num fs[k].at_]:=by
   rw[List.take_succ_eq_append_getElem (by simpa using bh)];simp
  generalize fs[k]=x at*
  apply aE;apply au;apply aB;apply aG;apply c_
  refine an rfl rfl (aW T.ok rfl eg (y:=x) ic rfl rfl rfl rfl rfl rfl ?_)
  rintro bq pq ys aL rfl
  refine Wm 1 [.e aL 0] (St.start _) rfl ?_
  skip
  refine an rfl rfl (aK T.ok rfl hs rfl rfl ?_);clear hs;rintro bx g1 hs ah;obtain⟨aq,aC⟩:=cC ah aq aC
  skip
  refine bg rfl (aA T.ok 0 rfl hs rfl rfl rfl rfl rfl rfl rfl rfl rfl ?_);replace hs:=hs;rintro g1 hs ah;obtain⟨aq,aC⟩:=cC ah aq aC
  apply cf;refine dx 3 [.o 0] hs rfl ?_
  refine an rfl rfl (eA rfl rfl rfl rfl rfl rfl (de (first:=#[]) (captured:=#[]) (args:=[.pointer (some ⟨bf,0,none⟩)]) (Dh qD) rfl (HT qD bf _)) ?_)
  rintro g4 _ kL rfl
  replace hs:=hs.call kL;have ah:=kL.le;obtain⟨aq,aC⟩:=cC ah aq aC
  refine Wp 1 rfl ?_
  refine an rfl rfl (sN T.ok rfl aC rfl (wq qD f) ?_)
  skip
  have FI:=hJ _ _ _ hs.mS pj
  refine an rfl rfl (eT rfl rfl rfl rfl rfl rfl ((hy _ _ _ _ qF aq FI).mono ?_))
  rintro _ _ ⟨g5,bb,rfl,rfl,ah,ht,hf⟩
  refine⟨_,rfl,?_⟩
  clear hs FI
  replace aq:=G.le.trans aq ah
  cases bb with
  |false=>
   refine ba rfl ?_
   refine aJ rfl rfl ?_
   skip
   refine aF ?_;apply iq;apply eF;apply eF;apply iq;refine rR rfl ?_
   exact⟨g5,_,rfl,rfl,aq,.inr ⟨_,⟨_,by rw[List.append_assoc];exact qF.symm⟩,hf rfl⟩⟩
  |true=>
   refine ba rfl ?_
   refine aS rfl rfl ?_
   apply aE;apply bU;apply au;apply ar;refine Wp 2 rfl ?_;apply aD
   exact fun a ha=>⟨fs.length-(k+1),by omega,k+1,_,rfl,aq,by omega,rfl,cB▸ht rfl,ha.keep ⟨rfl,rfl,rfl,rfl,rfl,kI rfl (by rw[wr (by omega) (by omega)];omega),trivial⟩⟩
 ·refine aS (b:=decide ((k:Int)<(fs.length:Int))) (by simp;omega) rfl ?_
  apply bE;apply bK;apply bK;apply dc
  refine mv rfl ⟨g',_,rfl,rfl,aq,.inl ?_⟩
  rw[List.take_of_length_le (by simp;omega)]at pj
  exact pj
theorem vh(f:bc)(fs:List jD)(MU: ∀x∈fs,kP x.at_)(u:Value)(g:G)(aH:Rs g u fs):
  CallsIn Wd 0 Tryz.prog 89 #[fv f,u] g.w (cR g fun g' r=>zD g' r (fs.map fun x=>f.num x.at_)):=by
 obtain⟨a,c,rfl⟩:=aH.isSlice
 have hs:=St.start g
 refine enter Tryz.func89 rfl Tryz.ntmps89 rfl ?_
 apply c_
 refine an rfl rfl (aR rfl hs rfl rfl ?_);clear hs;rintro bf g1 hs ah;replace aH:=aH.mono ah
 refine an rfl rfl (aR rfl hs rfl rfl ?_);clear hs;rintro bl g1 hs ah;replace aH:=aH.mono ah
 obtain⟨g2,bR,aU,ah,aL⟩:=hs.a_ (i:=0) rfl;replace hs:=aU;clear aU;rw[←bR];replace aH:=aH.mono ah
 have aC:=aL;clear aL
 obtain⟨g2,bR,aU,ah,aL⟩:=hs.a_ (i:=0) rfl;replace hs:=aU;clear aU;rw[←bR];obtain⟨aC,aH⟩:=cC ah aC aH
 have aP:=aL;clear aL
 refine ba rfl ?_;refine aX rfl ?_
 exact aF (aV rfl rfl (hs.ret ⟨169,_,rfl,LO,zB f fs MU _ _ _ _ aC aH aP⟩))
end Go.Proofs.YtebobfdheanknaaGreatDoor
namespace Go.Proofs.YtebobfdheanknaaGreatDoor
open Go Go.K
set_option maxRecDepth 10000
attribute [local irreducible] W WL cT cn bX bA bB bD cW cG
set_option maxHeartbeats 4000000
theorem HZ{α:Type}{a b:α}{A C:List α}:List.Perm (a::b::(A++C)) (A++(a::b::C)):=(List.perm_middle.symm.cons a).trans List.perm_middle.symm
theorem vi{b:Nat}{xs:List UInt8}{Lw L:List cV}{Si:Value}(l:List Int){g0 g:G}(hw:xO b xs Lw)(hl: ∀n∈l,o_ n)(hlen:xs.length+10*l.length≤1000000)(hx:zD g Si l)(hs:St g0 g (Lw++L)):
  CallsIn Wd 0 Tryz.prog 88 #[.pointer (some ⟨b,0,none⟩),Si] g.w (eu g fun g' r=>r= .tuple #[]∧ ∃zA,xO b (xs++i_ l) zA∧St g0 g' (zA++L)):=by
 obtain⟨jR,eG,rfl,fY,qG⟩:=hx
 have aq:=G.le.refl g
 refine qH Tryz.func88 rfl Tryz.ntmps88 rfl ?_
 apply c_
 refine an rfl rfl (aR rfl hs rfl rfl ?_);clear hs;rintro bx g1 hs ah;replace aq:=G.le.trans aq ah
 obtain⟨g2,bR,aU,ah,aL⟩:=hs.a_ (i:=0) rfl;replace hs:=aU;clear aU;rw[←bR];replace aq:=G.le.trans aq ah
 have aC:=aL;clear aL
 have hs:St g0 g2 (Lw++L):=hs
 apply cf;refine aX rfl ?_;apply aG
 refine AY (N:=11) hs rfl fY (qG.mono aq) rfl (fun _=>rfl)
  (fun pre L' g'=>EP g' bx 0 [.pointer (some ⟨b,0,none⟩)]∧G.le g g'∧ ∃zA,L'=zA++L∧xO b (xs++i_ pre) zA) (fun _ _ _ _=>False)
  (fun _ _ _ _ hle h=>⟨h.1.mono hle,h.2.1.trans hle,h.2.2⟩) (fun _ _ _ _ _ _ h=>h) ⟨aC,aq,Lw,rfl,by simpa [i_]using hw⟩ (fun n=>[(4,.int .i64 n),(2,.pointer (some ⟨bx,0,none⟩))]) ?_ ?_ ?_ ?_
 ·intro x ro w
  apply ar;refine Wp 1 rfl ?_;apply aD
  exact fun a ha=>⟨rfl,ha.keep (by(repeat (first|exact trivial|refine⟨rfl,?_⟩)))⟩
 ·rintro lp D ro pre x rest gr Lr jm hle hs ⟨aC,F9,zA,rfl,hw⟩
  have cN:=G.le.refl gr
  have AX:=j8 pre
  have MV:pre.length+1≤l.length:=by rw[jm];simp
  have lG:x∈l:=by rw[jm];simp
  apply aG;apply ar;refine Wm 2 [.z aC] (St.start _) rfl ?_
  refine an rfl rfl (bj T.ok rfl hs (vs:=[(0,.int .i64 (x))]) (cells:=[.int .i64 (x)]) rfl rfl rfl rfl rfl rfl (by decide) (by decide) (by kernel_rfl) rfl ?_);rintro bl gl hs ah;obtain⟨cN,F9,aC⟩:=ef ah cN F9 aC;obtain⟨gz,ik,cS,iT,pk⟩:=hs.cL (α:=Int) (xs:=[x]) (i:=0) rfl (cO.ints _ [x]);clear ah;have ah:=iT;rw[←ik];replace hs:=cS;clear cS;obtain⟨cN,F9,aC⟩:=ef ah cN F9 aC
  have aU:=hs.perm HZ
  refine an rfl rfl (dv IY (fun _=>trivial) rfl rfl rfl rfl rfl (CallsIn.qx rfl rfl rfl (zy [x] hw (by simpa using hl x lG) (by rw[List.length_append];simp only[List.length_cons,List.length_nil];omega) pk aU)) ?_)
  clear hs aU
  rintro g5 _ ah ⟨rfl,Qg,bR,hs⟩;obtain⟨cN,F9,aC⟩:=ef ah cN F9 aC
  replace hs:=hs.perm HZ.symm
  apply aD;apply bU
  refine fun a ha=>⟨_,_,rfl,hs,cN,aC,F9,Qg,rfl,?_⟩
  unfold i_ at bR⊢
  rw[List.flatMap_append,←List.append_assoc];exact bR
 ·rintro lp D o Lr ge hle hs ⟨aC,F9,zA,rfl,hw⟩
  apply bU
  refine H0 1 rfl hs rfl (fun g' iS fL=>?_)
  exact eu.intro (F9.trans fL) ⟨rfl,zA,hw,iS.drop 0⟩
 ·rintro c lp D o pre Lr ge _ _ _ h
  exact h.elim
end Go.Proofs.YtebobfdheanknaaGreatDoor
namespace Go.Proofs.YtebobfdheanknaaGreatDoor
open Go Go.K
set_option maxRecDepth 10000
attribute [local irreducible] W WL cT cn bX bA bB bD cW cG
set_option maxHeartbeats 8000000
def Qh(xs:List Int):Fact:=⟨fun v g=>zD g v xs,fun _ _ _ hf h=>h.mono hf.le⟩
def pn(f:bc)(l:List jD):List Int:=l.map fun x=>f.num x.at_
theorem qI(f:bc)(l:List jD):i_ (pn f l)=sD f l:=by unfold i_ pn sD;rw[List.flatMap_map]
theorem oD(n:Int):fO n≠[]:=by unfold fO kS;simp
theorem Ds(f:bc)(g:G):CallsIn Wd 0 Tryz.prog 40 #[fv f] g.w (cR g fun _ r=>r= .string (bs (fp f))):=by
 have hs:=St.start g
 have aq:=G.le.refl g
 refine enter Tryz.func40 rfl Tryz.ntmps40 rfl ?_
 apply c_
 refine an rfl rfl (aR rfl hs rfl rfl ?_);clear hs;rintro bf g1 hs ah
 obtain⟨g2,bR,aU,ah,aL⟩:=hs.a_ (i:=0) rfl;replace hs:=aU;clear aU;rw[←bR]
 have aC:=aL;clear aL
 refine ba rfl ?_;apply aB;refine dx 1 [.z aC] (St.start _) rfl ?_
 refine an rfl rfl (ay K5 aI rfl rfl rfl rfl rfl (xM f _) ?_);rintro g1 _ aN rfl;replace hs:=hs.call aN;have ah:=aN.le;replace aC:=aC.mono ah
 refine ba rfl ?_
 cases hv:fm f with
 |false=>
  refine aJ rfl rfl ?_
  refine aX rfl ?_
  refine aF ?_;apply eF
  refine aV rfl rfl (hs.ret ?_)
  unfold fp;rw[hv];rfl
 |true=>
  refine aS rfl rfl ?_
  obtain⟨s,mU,Qi,Sj,Dt,_⟩:=kQ hv
  obtain⟨_,_,_,j9,zl,_,rS,Qj⟩:=mO mU
  apply aE;apply au;apply c_
  refine an rfl rfl (aQ T.ok rfl (vs:=[]) (cells:=[.pointer none,.slice none 0 0]) rfl rfl rfl rfl [(0,2)] rfl (by kernel_rfl) ?_)
  refine an rfl rfl (aR rfl hs rfl rfl ?_);clear hs;rintro bw g1 hs ah;replace aC:=aC.mono ah
  have hw:xO bw [] [.obj bw (.cells [.pointer none,.slice none 0 0].toArray 153 (0,0))]:=⟨_,_,[],.inl rfl,.inl ⟨rfl,rfl,rfl⟩,rfl⟩
  refine ba rfl ?_;refine dx 3 [.z aC] (St.start _) rfl ?_
  refine an rfl rfl (bj T.ok rfl hs (vs:=[(0,.int .i64 (f.kind))]) (cells:=[.int .i64 (f.kind)]) rfl rfl rfl rfl rfl rfl (by decide) (by decide) (by kernel_rfl) rfl ?_);rintro bl gl hs ah;replace aC:=aC.mono ah;obtain⟨gz,ik,cS,iT,pk⟩:=hs.cL (α:=Int) (xs:=[f.kind]) (i:=0) rfl (cO.ints _ [f.kind]);clear ah;have ah:=iT;rw[←ik];replace hs:=cS;clear cS;replace aC:=aC.mono ah
  refine an rfl rfl (dv IY aI rfl rfl rfl rfl rfl (zy (L:=[]) [f.kind] hw (by intro n hn;obtain rfl:n=f.kind:=(by simpa using hn);unfold o_;omega) (by simp) pk hs) ?_)
  clear hs hw pk
  rintro g5 _ ah ⟨rfl,Qg,hw,hs⟩;replace aC:=aC.mono ah
  apply cf;apply aB
  apply ed (eJ (.f F7::eJ (.f (BS (dM f.kind) id):: .f (Fact.rs s.key):: .f (Qh (pn f s.key))::[]))) 8 [(0,14),(7,21)] (by kernel_rfl)
  ·refine Dm [[],[]] [.z aC] hs (by kernel_rfl) rfl ?_
   refine aw (ak (js:=[]) (by kernel_rfl) fun gd hf=>aj (az rfl (ay IZ aI rfl rfl rfl rfl rfl (sL gd) fun g' v hf ⟨b,cq,e,h1,h2⟩=>⟨g',rfl,hf,b,cq,e,h1,h2⟩))) ?_
   refine Dm [[],[3]] [.z aC] hs (by kernel_rfl) rfl ?_
   refine aw (ak (js:=[(2,16),(4,18)]) (by kernel_rfl) fun gd hf=>aY fun v2 h2=>ai rfl (aj ?_)) ?_
   ·obtain⟨b,cq,rfl,h1,h2⟩:=h2
    exact az rfl (wo rfl h1 h2 rfl rfl fun cs h=>⟨gd,rfl,aZ.refl _,cs,rfl,h⟩)
   refine aw (ak (js:=[(5,19)]) (by kernel_rfl) fun gd hf=>aY fun v5 h5=>aj ?_) ?_
   ·obtain⟨cs,rfl,h⟩:=h5
    rw[mU]at h
    obtain⟨a,b,rfl,h1,h2⟩:=h
    exact az rfl (aM _ T.ok rfl ⟨gd,rfl,aZ.refl _,h2⟩)
   refine aw (ak (js:=[(1,15),(6,20)]) (by kernel_rfl) fun gd hf=>ai rfl (aY fun v6 h6=>aj (az rfl (ay K7 aI rfl rfl rfl rfl rfl (vh f s.key (lX mU).2 v6 gd h6) fun g' v hf hv=>⟨g',rfl,hf,hv⟩)))) ?_
   exact fJ
  intro g1 aN;refine ai rfl (aY fun v7 h7=>aj ?_)
  replace hs:=hs.dr.call aN;have ah:=(G.bJ _).trans aN.le
  skip
  refine an rfl rfl (dv K6 aI rfl rfl rfl rfl rfl (vi (L:=[]) (pn f s.key) hw (by intro n hn;obtain⟨x,hx,rfl⟩:=List.mem_map.1 hn;exact Dt x hx) (by have:=j8 [f.kind];simp only[List.nil_append,pn,List.length_map,List.length_cons,List.length_nil]at this⊢;omega) h7 hs) ?_)
  clear hs hw h7
  rintro g5 _ ah ⟨rfl,T6,⟨p,v,Lr,hp,hb,rfl⟩,hs⟩
  apply cf;refine cP 3 rfl ?_
  refine an rfl rfl (dv I0 aI rfl rfl rfl rfl rfl (zE (L:=[]) (by simp[i_,oD]) hb hs) ?_)
  clear hs hb
  rintro g6 _ ah ⟨rfl,hs⟩
  refine ba rfl ?_
  refine aF (aV rfl rfl (hs.ret ?_))
  rw[qI]
  unfold fp
  rw[hv,mU]
  simp[i_]
end Go.Proofs.YtebobfdheanknaaGreatDoor
namespace Go.Proofs.YtebobfdheanknaaGreatDoor
open Go Go.K
set_option maxRecDepth 10000
attribute [local irreducible] W WL cT cn bX bA bB bD cW cG
set_option maxHeartbeats 8000000
theorem xQ(f:bc)(g:G):CallsIn Wd 0 Tryz.prog 92 #[fv f] g.w (cR g fun _ r=>r= .tuple #[.string (bs (lh f).1),.int .i64 (lh f).2]):=by
 have hs:=St.start g
 have aq:=G.le.refl g
 refine enter Tryz.func92 rfl Tryz.ntmps92 rfl ?_
 apply c_
 refine an rfl rfl (aR rfl hs rfl rfl ?_);clear hs;rintro bf g1 hs ah
 obtain⟨g2,bR,aU,ah,aL⟩:=hs.a_ (i:=0) rfl;replace hs:=aU;clear aU;rw[←bR]
 have aC:=aL;clear aL
 refine ba rfl ?_;apply aB;refine dx 1 [.z aC] (St.start _) rfl ?_
 refine an rfl rfl (ay K5 aI rfl rfl rfl rfl rfl (xM f _) ?_);rintro g1 _ aN rfl;replace hs:=hs.call aN;have ah:=aN.le;replace aC:=aC.mono ah
 refine ba rfl ?_
 cases hv:fm f with
 |false=>
  refine aJ rfl rfl ?_
  refine aX rfl ?_
  refine aF ?_;apply eF
  refine rT rfl rfl rfl (hs.ret ?_)
  unfold lh;rw[hv];rfl
 |true=>
  refine aS rfl rfl ?_
  obtain⟨s,mU,Qi,Sj,Dt,Qk,Sk,Wh,T7,Sl,_⟩:=kQ hv
  obtain⟨_,_,_,j9,zl,xR,rS,Qj⟩:=mO mU
  apply aE;apply au;apply aB
  apply lJ (.f F7::(eJ (.f (BS (dM f.kind) id)::(.f Fact.any:: .f Fact.any::[])))) 6 [(4,4)] [4,5] [[],[4]] (zk g [] 159 Dn (oC (dM f.kind)) 4 5) (xN oC.mono) (HW hs.dr) (by kernel_rfl) ⟨vd,nL _ _,cY,cY,trivial⟩
  ·refine bC (cH (js:=[]) (by kernel_rfl) rfl fun _ g2 _ _ _ _=>bd (az rfl (ay IZ aI rfl rfl rfl rfl rfl (sL g2) fun g' v hf ⟨b,cq,e,h1,h2⟩=>⟨g',rfl,hf,b,cq,e,h1,h2⟩))) ?_
   refine Um [[],[1]] [.z aC] (by kernel_rfl) rfl ?_
   refine bC (cH (js:=[(0,11),(2,13)]) (by kernel_rfl) rfl fun _ g2 _ _ _ _=>cJ fun v0 h0=>cI rfl (bd ?_)) ?_
   ·obtain⟨b,cq,rfl,h1,h2⟩:=h0
    exact az rfl (wo rfl h1 h2 rfl rfl fun cs h=>⟨g2,rfl,aZ.refl _,cs,rfl,h⟩)
   refine bC (il (js:=[]) (by kernel_rfl) rfl fun ρ g2 h1 _ h3 _ hJ=>bd ⟨rfl,vf rfl h3 (h1 1 [4] 5 rfl rfl (by simp)) hJ rfl rfl rfl⟩) ?_
   refine bC (il (js:=[(4,4),(3,14),(3,14),(4,4)]) (by kernel_rfl) rfl fun ρ g2 _ _ h3 _ hJ=>cJ fun _ _=>cJ fun _ _=>cJ fun v5 h5=>fH rfl fun v7 _ r7=>bd ⟨rfl,?_⟩) ?_
   ·obtain⟨cs,rfl,h⟩:=h5
    exact vg oC.mono rfl r7 h3 hJ rfl rfl rfl rfl cs rfl h.len.1 rfl h.len.2 h
   exact vc
  intro ρ g3 hle hJ dh
  refine fH rfl fun v7 _ r7=>bd ?_
  obtain⟨b3,cs,rfl,hs,hO⟩:=AW r7 (dh 5 rfl) hJ
  clear hJ dh r7
  have ah:=(G.bJ _).trans hle;replace aC:=aC.mono ah
  clear hle ρ
  rw[mU]at hO
  obtain⟨ka,kb,rfl,eg,fq⟩:=hO
  obtain⟨g2,bR,aU,ah,aL⟩:=hs.a_ (i:=0) rfl;replace hs:=aU;clear aU;rw[←bR];obtain⟨aC,eg⟩:=cC ah aC eg
  have aP:=aL;clear aL
  apply cf;apply c_
  refine an rfl rfl (aQ T.ok rfl (vs:=[]) (cells:=[.pointer none,.slice none 0 0]) rfl rfl rfl rfl [(0,2)] rfl (by kernel_rfl) ?_)
  refine an rfl rfl (aR rfl hs rfl rfl ?_);clear hs;rintro bw g1 hs ah;obtain⟨aC,aP,eg⟩:=ef ah aC aP eg
  have hw:xO bw [] [.obj bw (.cells [.pointer none,.slice none 0 0].toArray 153 (0,0))]:=⟨_,_,[],.inl rfl,.inl ⟨rfl,rfl,rfl⟩,rfl⟩
  refine ba rfl ?_;apply aB
  have T8:mM f.gone=0∨mM f.gone=1:=by unfold mM;split<;>simp
  apply ed (fj (eJ (.f (Fact.rs [f.kind,f.ver,f.day,mM f.gone])::[]))) 11 [(0,17),(10,27)] (by kernel_rfl)
  ·refine Dm [[],[],[1],[],[3],[],[5],[],[7],[8]] [.z aC,.z aC,.z aC,.z aC,.c L5 fun g _=>I1 f.gone g] hs (by kernel_rfl) rfl ?_
   refine aw (ak (js:=[(2,19),(4,21),(6,23),(9,26)]) (by kernel_rfl) fun gd hf=>ai rfl (ai rfl (ai rfl (ai rfl (aj (az rfl (bj T.ok rfl (St.start gd) (vs:=[(0,.int .i64 f.kind),(1,.int .i64 f.ver),(2,.int .i64 f.day),(3,.int .i64 (mM f.gone))]) (cells:=[f.kind,f.ver,f.day,mM f.gone].map (Value.int .i64)) rfl rfl rfl rfl rfl rfl (by decide) (by decide) (by kernel_rfl) rfl fun b g' iS _=>?_))))))) ?_
   ·obtain⟨g2,e1,e2,e3⟩:=kj (α:=Int) iS (cO.ints g' [f.kind,f.ver,f.day,mM f.gone])
    exact⟨g2,e1,e2,e3⟩
   exact fJ
  intro g1 aN;refine ai rfl (aY fun v10 uH=>aj ?_)
  replace hs:=hs.dr.call aN;have ah:=(G.bJ _).trans aN.le;obtain⟨aC,aP,eg⟩:=ef ah aC aP eg
  skip
  refine an rfl rfl (dv IY aI rfl rfl rfl rfl rfl (zy (L:=[]) [f.kind,f.ver,f.day,mM f.gone] hw (by intro n hn;simp only[List.mem_cons,List.not_mem_nil,or_false]at hn;unfold o_;rcases hn with rfl|rfl|rfl|rfl<;>omega) (by simp) uH hs) ?_)
  clear hs hw uH
  rintro g5 _ ah ⟨rfl,Qg,hw,hs⟩;obtain⟨aC,aP,eg⟩:=ef ah aC aP eg
  apply cf;refine dx 4 [.z aC,.z aP] (St.start _) rfl ?_
  refine an rfl rfl (ay K7 aI rfl rfl rfl rfl rfl (vh f s.fields (lX mU).1 ka _ eg) ?_);rintro g1 v9 aN h9;replace hs:=hs.call aN;have ah:=aN.le;obtain⟨aC,aP⟩:=cC ah aC aP
  skip
  have AX:=j8 [f.kind,f.ver,f.day,mM f.gone]
  have T9:=j8 (pn f s.fields)
  have FJ:(pn f s.fields).length≤11:=by unfold pn;simpa using xR
  simp only[List.length_cons,List.length_nil]at AX
  refine an rfl rfl (dv K6 aI rfl rfl rfl rfl rfl (vi (L:=[]) (pn f s.fields) hw (by intro n hn;obtain⟨x,hx,rfl⟩:=List.mem_map.1 hn;exact Sj x hx) (by simp only[List.nil_append];omega) h9 hs) ?_)
  clear hs hw h9
  rintro g5 _ ah ⟨rfl,T6,⟨p,v,Lr,hp,hb,rfl⟩,hs⟩;obtain⟨aC,aP⟩:=cC ah aC aP
  apply cf;apply aB;refine nK [.z aP] (St.start _) rfl ?_
  cases ht:s.iW with
  |true=>
   refine aJ rfl rfl ?_
   refine dx 2 [.z aC] (St.start _) rfl ?_
   refine an rfl rfl (ay L6 aI rfl rfl rfl rfl rfl (Du f.text _ (by omega)) ?_);rintro g1 _ aN rfl;replace hs:=hs.call aN;have ah:=aN.le
   refine ba rfl ?_;apply ar;refine Wp 4 rfl ?_
   have sO:(lW f.text).1.length≤f.text.length+10:=by
    unfold lW;split
    ·simp
    ·have:=kR f.text.length
     simp only[List.length_append];omega
   refine an rfl rfl (dv HK aI rfl rfl rfl rfl rfl (Dq (L:=[]) hp hb (lW f.text).1 (by simp only[List.nil_append,List.length_append];omega) Dr hs) ?_)
   clear hs hp
   rintro g5 _ ah ⟨v',uL,hb,hs⟩
   apply cf;refine cP 3 rfl ?_
   refine an rfl rfl (dv I0 aI rfl rfl rfl rfl rfl (zE (L:=[]) (by simp[i_,oD]) hb hs) ?_)
   clear hs hb
   rintro g6 _ ah ⟨rfl,hs⟩
   refine ba rfl ?_
   refine aF (rT rfl rfl rfl (hs.ret ?_))
   rw[qI]
   unfold lh
   rw[hv,mU]
   simp[i_,ht]
  |false=>
   refine aS rfl rfl ?_
   apply aE;apply au;refine cP 3 rfl ?_
   refine an rfl rfl (dv I0 aI rfl rfl rfl rfl rfl (zE (L:=[]) (by simp[i_,oD]) hb hs) ?_)
   clear hs hb
   rintro g6 _ ah ⟨rfl,hs⟩
   refine ba rfl ?_
   refine aF (rT rfl rfl rfl (hs.ret ?_))
   rw[qI]
   unfold lh
   rw[hv,mU]
   simp[i_,ht]
end Go.Proofs.YtebobfdheanknaaGreatDoor
namespace Go.Proofs.YtebobfdheanknaaGreatDoor
open Go Go.K
set_option maxRecDepth 10000
attribute [local irreducible] W WL cT cn bX bA bB bD cW cG
set_option maxHeartbeats 8000000
theorem BT(x y:List UInt8)(g:G):CallsIn Wd 0 Tryz.prog 93 #[.string (bs x),.string (bs y)] g.w (cR g fun _ r=>r= .int .i64 (Lib.compareBytes x y)):=by
 refine j1 ((Tryz.strings_Compare (bs x) (bs y) g.w).mono ?_) fun _ _=>rfl
 rintro e w' ⟨rfl,rfl⟩
 exact⟨rfl,RowKit.Below.refl _ _⟩
theorem zF(f h:bc)(g:G):CallsIn Wd 0 Tryz.prog 41 #[fv f,fv h] g.w (cR g fun _ r=>r= .bool (oa f h)):=by
 have hs:=St.start g
 have aq:=G.le.refl g
 refine enter Tryz.func41 rfl Tryz.ntmps41 rfl ?_
 apply c_
 refine an rfl rfl (aR rfl hs rfl rfl ?_);clear hs;rintro b1 g1 hs ah
 refine an rfl rfl (aR rfl hs rfl rfl ?_);clear hs;rintro b2 g1 hs ah
 obtain⟨g2,bR,aU,ah,aL⟩:=hs.a_ (i:=0) rfl;replace hs:=aU;clear aU;rw[←bR]
 have aP:=aL;clear aL
 obtain⟨g2,bR,aU,ah,aL⟩:=hs.a_ (i:=0) rfl;replace hs:=aU;clear aU;rw[←bR];replace aP:=aP.mono ah
 have aC:=aL;clear aL
 refine ba rfl ?_;refine dx 1 [.z aC] (St.start _) rfl ?_
 refine an rfl rfl (ay K8 aI rfl rfl rfl rfl rfl (xQ f _) ?_);rintro g1 _ aN rfl;replace hs:=hs.call aN;have ah:=aN.le;obtain⟨aC,aP⟩:=cC ah aC aP
 refine ba rfl ?_;refine dx 1 [.z aP] (St.start _) rfl ?_
 refine an rfl rfl (ay K8 aI rfl rfl rfl rfl rfl (xQ h _) ?_);rintro g1 _ aN rfl;replace hs:=hs.call aN;have ah:=aN.le;obtain⟨aC,aP⟩:=cC ah aC aP
 refine ba rfl ?_;apply aB;apply aG;apply aB;refine aX rfl ?_
 by_cases h1:(lh f).2=0
 ·refine aS (b:=(lh f).2 !=0) (by simp[h1]) rfl ?_
  refine aX rfl ?_
  by_cases h2:(lh h).2=0
  ·refine aS (b:=(lh h).2 !=0) (by simp[h2]) rfl ?_
   apply bO hs (gE (fe [])) 5 [(4,28)] (by kernel_rfl) rfl
   ·exact Dz [[],[0],[],[2],[1,3]] [.z aC,.c IQ fun g _=>Ds f g,.z aP,.c IQ fun g _=>Ds h g] hs (by kernel_rfl) rfl
   clear hs;intro g5 hs ah;obtain⟨aC,aP⟩:=cC ah aC aP
   refine ba rfl ?_
   by_cases h3:fp f=fp h
   ·refine aS (b:=!((bs (fp f)).toList==(bs (fp h)).toList)) (by rw[h3];simp) rfl ?_
    have hp:oa f h=if f.ver≠h.ver then decide (h.ver<f.ver)else decide (0<Lib.compareBytes (lh f).1 (lh h).1):=by unfold oa;rw[if_neg (by simp[h1,h2,h3])]
    refine nK [.z aC,.z aP] (St.start _) rfl ?_
    by_cases h4:f.ver=h.ver
    ·refine aS (b:=f.ver !=h.ver) (by simp[h4]) rfl ?_
     apply aE;apply bU;apply au;refine cP 2 rfl ?_
     refine an rfl rfl (ay P1 aI rfl rfl rfl rfl rfl (BT (lh f).1 (lh h).1 _) ?_);rintro g1 _ aN rfl;replace hs:=hs.call aN;have ah:=aN.le;obtain⟨aC,aP⟩:=cC ah aC aP
     refine ba rfl ?_
     refine aF (aV rfl rfl (hs.ret ?_))
     rw[hp,if_neg (by simp[h4])]
    ·refine aJ (b:=f.ver !=h.ver) (by simp[h4]) rfl ?_
     refine nK [.z aC,.z aP] (St.start _) rfl ?_
     refine aF ?_;apply iq;apply eF
     refine aV rfl rfl (hs.ret ?_)
     rw[hp,if_pos h4]
   ·refine aJ (b:=!((bs (fp f)).toList==(bs (fp h)).toList)) (by rw[cD,cD];simp[h3]) rfl ?_
    refine aX rfl ?_
    refine aF ?_;apply iq;apply eF
    refine aV rfl rfl (hs.ret ?_)
    unfold oa;rw[if_pos (by simp[h3])]
  ·refine aJ (b:=(lh h).2 !=0) (by simp[h2]) rfl ?_
   apply aE;apply au
   refine aJ (b:=(lh h).2 !=0) (by simp[h2]) rfl ?_
   refine aX rfl ?_
   refine aF ?_;apply iq;apply eF
   refine aV rfl rfl (hs.ret ?_)
   unfold oa;rw[if_pos (by simp[h2])]
 ·refine aJ (b:=(lh f).2 !=0) (by simp[h1]) rfl ?_
  apply aE;apply au
  refine aJ (b:=(lh f).2 !=0) (by simp[h1]) rfl ?_
  refine aX rfl ?_
  refine aF ?_;apply iq;apply eF
  refine aV rfl rfl (hs.ret ?_)
  unfold oa;rw[if_pos (by simp[h1])]
end Go.Proofs.YtebobfdheanknaaGreatDoor
