/- Parts of the proof, from: The reference's readMove, readWindow. -/
import Derived.Test.YtbfjdfecgiegpaaGreatDoorYa
import Derived.Test.YtbfjdfecgiegpaaGreatDoorYc
import Derived.Test.YtbfjdfecgiegpaaGreatDoorYn
import Derived.Test.YtbfjdfecgiegpaaGreatDoorYl
import Derived.Test.YtbfjdfecgiegpaaGreatDoorYk
namespace Go.Proofs.YtbfjdfecgiegpaaGreatDoor
open Go Go.K Tryz
set_option maxRecDepth 10000
attribute [local irreducible] W WL cS bh bY bB bA bC cL cD
set_option maxHeartbeats 16000000
def uS(g0:G)(L:List df):Fact:=⟨fun _ g=>St g0 g L,fun _ _ _ hf h=>h.call hf⟩
theorem zX{fn:Func}{tb:Tb}{P:Program}{N:Nat}{l:Env}{g0 g:G}{L:List df}{R:Ending→World→Prop}(dE:tb.ok P)(i:Nat){t tt u b:Nat}{cs:List Value}{E:TypeId}{fz:Nat×Nat}{v v2:Value}(hr:fn.results=#[.cell t tt,.tmp u])(hs:St g0 g L)(hi:L[i]? =some (.obj b (.cells cs.toArray E fz)))
  (hl:lk l t=some (vP b)) (hv:Ar tb tt cs 0=some v) (tP:lk l u=some v2) (hR:R (.returned (.tuple #[v,v2])) g.w) (a:Act) (ha:Fr N [] l a):bodyPost P fn R .ret a g.w:=by
 refine⟨ha.defers,_,?_,hR⟩;have:=jD (P:=P) (w:=g.w) (off:=0) (o:=0) dE hv (lI (hs.own i _ hi).2.1);simp only[Nat.add_zero]at this;simp[results,hr,ha.get t _ hl,ha.get u _ tP,asAddr,this]
theorem CD(line:List UInt8)(g:G)(dS:line.length≤1000000):
  cN prog 168 #[.string (bs line)] g fun _ r=>r= .tuple #[vI (dV line).1.1,vI (dV line).1.2,.bool ((dV line).2&&eg ⟨(dV line).1.1,(dV line).1.2,[],[]⟩)]:=by
 have hs:=St.start g;have ar:=G.le.refl g;refine enter func168 rfl ntmps168 rfl<|aZ rfl<|cG 1 rfl<|BO [(0,.string (bs line)),(2,.bool true)] [.string (bs line),vI 0,.bool true] [(0,1),(1,1),(2,1)] rfl<|EH hs rfl fun b g1 hs ai=>?_;obtain⟨NL,CJ⟩: ∃x:Bool,x=true:=⟨true,rfl⟩;obtain⟨r0,CK⟩: ∃r,line.drop 0=r:=⟨_,rfl⟩;have JR:0≤line.length:=Nat.zero_le _;have FZ:r0=line:=CK.symm;replace hs:St g g1 (pk b line 0 NL::[]):=by rw[CJ];exact hs
 refine aX rfl<|cG 1 rfl ?_;obtain⟨uP,r1,Ku⟩: ∃x y,dD (lz++[32]) NL r0=(x,y):=⟨_,_,rfl⟩;have hc:=kG (w:=lz++[32]) JR dS (by simp only[List.length_append,List.length_cons,List.length_nil,lz];omega) hs;rw[CK,Ku]at hc;refine Dj rfl hc ?_;clear hs hc;rintro g1 _ ai ⟨rfl,a1,JS,CL,hs⟩;dsimp only at CL hs;refine b_<|cG 1 rfl ?_;obtain⟨n2,vk,r2,Hc⟩: ∃x y z,d_ uP r1=(x,y,z):=⟨_,_,_,rfl⟩;have hc:=fX JS dS hs;rw[CL,Hc]at hc;refine Dj rfl hc ?_;clear hs hc;rintro g1 _ ai ⟨rfl,a2,JT,sY,hs⟩;dsimp only at sY hs;refine aX rfl<|cG 1 rfl ?_;obtain⟨yU,r3,NM⟩: ∃x y,dD ([46,46]) vk r2=(x,y):=⟨_,_,rfl⟩;have hc:=kG (w:=[46,46]) JT dS (by simp only[List.length_cons,List.length_nil];omega) hs;rw[sY,NM]at hc;refine Dj rfl hc ?_;clear hs hc;rintro g1 _ ai ⟨rfl,a3,JU,CM,hs⟩;dsimp only at CM hs;refine b_<|cG 1 rfl ?_;obtain⟨n4,yp,r4,NN⟩: ∃x y z,d_ yU r3=(x,y,z):=⟨_,_,_,rfl⟩;have hc:=fX JU dS hs;rw[CM,NN]at hc;refine Dj rfl hc ?_;clear hs hc;rintro g1 _ ai ⟨rfl,a4,JV,CN,hs⟩;dsimp only at CN hs
 have Ut:dV line=(((n2:Int),(n4:Int)),yT yp r4):=by unfold dV;rw[←FZ,←CJ,Ku];dsimp only;rw[Hc];dsimp only;rw[NM];dsimp only;rw[NN]
 rw[Ut,Bh CN JV];unfold pk at hs;cases yp with
 |false=>
  exact aX rfl<|lJ [.o 0] hs rfl<|aG (Ph rfl rfl rfl rfl (hs.ret rfl))
 |true=>
  cases e1:decide ((a4:Int)=(line.length:Int))with
  |false=>
   have Sf:a4≠line.length:=by simp at e1;omega
   exact aX rfl<|c_ 16 [.o 0,.o 0] hs rfl<|bM 34 (b':=false) (by rw[cg];simp;omega) rfl<|aX rfl<|aG (Ph rfl rfl rfl rfl (hs.ret rfl))
  |true=>
   have Sf:a4=line.length:=by simp at e1;omega
   exact aX rfl<|c_ 16 [.o 0,.o 0] hs rfl<|bM 34 (b':=true) (by rw[cg];simp;omega) rfl<|Wp 2 rfl<|Ev rfl (CB (n2:Int) (n4:Int) _) hs fun g1 hs ai=>aX rfl<|aG (Ph rfl rfl rfl rfl (hs.ret rfl))
theorem yW(line:List UInt8)(g:G)(dS:line.length≤1000000):
  cN prog 170 #[.string (bs line)] g fun _ r=>r= .tuple #[.agg (pf (dU line).1).toArray,.bool ((dU line).2&&dA (dU line).1 40)]:=by
 have hs:=St.start g;have ar:=G.le.refl g;refine enter func170 rfl ntmps170 rfl<|cR<|w4 hs rfl fun br g1 hs ai=>aX rfl<|cG 1 rfl<|BO [(0,.string (bs line)),(2,.bool true)] [.string (bs line),vI 0,.bool true] [(0,1),(1,1),(2,1)] rfl<|EH hs rfl fun b g1 hs ai=>?_;obtain⟨NL,CJ⟩: ∃x:Bool,x=true:=⟨true,rfl⟩;obtain⟨r0,CK⟩: ∃r,line.drop 0=r:=⟨_,rfl⟩;have JR:0≤line.length:=Nat.zero_le _;have FZ:r0=line:=CK.symm;refine aX rfl<|cR<|BO [] [vI 0,vI 0,vI 0] [(0,1),(1,1),(2,1)] rfl<|w4 hs rfl fun bw g1 hs ai=>sN 0 hs rfl fun g1 hs ai=>?_;replace hs:=hs.front (i:=1) rfl;replace hs:St g g1 (pk b line 0 NL::vO bw [vI 0,vI 0,vI 0] 194::vO br [vI 0,vI 0,vI 0] 194::[]):=by rw[CJ];exact hs
 refine b_<|cG 1 rfl ?_;obtain⟨uP,r1,Ku⟩: ∃x y,dD (ft++[32]) NL r0=(x,y):=⟨_,_,rfl⟩;have hc:=kG (w:=ft++[32]) JR dS (by simp only[List.length_append,List.length_cons,List.length_nil,ft];omega) hs;rw[CK,Ku]at hc;refine Dj rfl hc ?_;clear hs hc;rintro g1 _ ai ⟨rfl,a1,JS,CL,hs⟩;dsimp only at CL hs;refine b_<|cG 1 rfl ?_;obtain⟨n2,vk,r2,Hc⟩: ∃x y z,d_ uP r1=(x,y,z):=⟨_,_,_,rfl⟩;have hc:=fX JS dS hs;rw[CL,Hc]at hc;refine Dj rfl hc ?_;clear hs hc;rintro g1 _ ai ⟨rfl,a2,JT,sY,hs⟩;dsimp only at sY hs;unfold pk at hs;refine Wp 1 rfl<|sN 1 hs rfl fun g1 hs ai=>?_;replace hs:St g g1 (pk b line a2 vk::vO bw [vI (n2:Nat),vI 0,vI 0] 194::vO br [vI 0,vI 0,vI 0] 194::[]):=hs;refine b_<|cG 1 rfl ?_;obtain⟨yU,r3,NM⟩: ∃x y,dD ([32]) vk r2=(x,y):=⟨_,_,rfl⟩;have hc:=kG (w:=[32]) JT dS (by simp only[List.length_cons,List.length_nil];omega) hs;rw[sY,NM]at hc;refine Dj rfl hc ?_;clear hs hc;rintro g1 _ ai ⟨rfl,a3,JU,CM,hs⟩;dsimp only at CM hs;refine b_<|cG 1 rfl ?_;obtain⟨n4,yp,r4,NN⟩: ∃x y z,d_ yU r3=(x,y,z):=⟨_,_,_,rfl⟩;have hc:=fX JU dS hs;rw[CM,NN]at hc;refine Dj rfl hc ?_;clear hs hc;rintro g1 _ ai ⟨rfl,a4,JV,CN,hs⟩;dsimp only at CN hs;unfold pk at hs;refine Wp 1 rfl<|sN 1 hs rfl fun g1 hs ai=>?_;replace hs:St g g1 (pk b line a4 yp::vO bw [vI (n2:Nat),vI (n4:Nat),vI 0] 194::vO br [vI 0,vI 0,vI 0] 194::[]):=hs;refine b_<|cG 1 rfl ?_;obtain⟨JF,r5,Uu⟩: ∃x y,dD ([32]) yp r4=(x,y):=⟨_,_,rfl⟩;have hc:=kG (w:=[32]) JV dS (by simp only[List.length_cons,List.length_nil];omega) hs;rw[CN,Uu]at hc;refine Dj rfl hc ?_;clear hs hc;rintro g1 _ ai ⟨rfl,a5,PL,JW,hs⟩;dsimp only at JW hs;refine b_<|cG 1 rfl ?_;obtain⟨n6,GK,r6,Uv⟩: ∃x y z,d_ JF r5=(x,y,z):=⟨_,_,_,rfl⟩;have hc:=fX PL dS hs;rw[JW,Uv]at hc;refine Dj rfl hc ?_;clear hs hc;rintro g1 _ ai ⟨rfl,a6,PM,JX,hs⟩;dsimp only at JX hs;unfold pk at hs;refine Wp 1 rfl<|sN 1 hs rfl fun g1 hs ai=>?_;replace hs:St g g1 (vO b [.string (bs line),vI a6,.bool GK] 239::vO bw [vI (n2:Nat),vI (n4:Nat),vI (n6:Nat)] 194::vO br [vI 0,vI 0,vI 0] 194::[]):=hs
 have Ut:dU line=(⟨(n2:Int),(n4:Int),(n6:Int)⟩,yT GK r6):=by unfold dU;rw[←FZ,←CJ,Ku];dsimp only;rw[Hc];dsimp only;rw[NM];dsimp only;rw[NN];dsimp only;rw[Uu];dsimp only;rw[Uv]
 rw[Ut,Bh JX PM];cases GK with
 |false=>
  refine b_<|az ?_;apply qN aK rfl (Fact.eq _::Fact.eq _::Fact.eq _::Fact.eq _::Fact.eq _::Fact.eq _::Fact.eq _::Fact.eq _::Fact.eq _::Fact.eq _::Fact.eq _::Fact.eq _::Fact.eq _::Fact.eq _::Fact.eq _::Fact.eq _::Fact.eq _::Fact.eq _::(uS g (vO b [.string (bs line),vI a6,.bool false] 239::vO bw [vI (n2:Nat),vI (n4:Nat),vI (n6:Nat)] 194::vO br [vI (n2:Nat),vI (n4:Nat),vI (n6:Nat)] 194::[]))::[]) 19 [(17,42)] [] [0,1,2,3,4,5,6,7,8,9,10,11,12,13,14,15,16] 18 rfl (by decide) (by kernel_rfl) (by kernel_rfl)
  case houts=>exact rfl
  case hsoft=>(repeat (first|exact u7|apply u9|refine cU (kL _) ?_|refine cU (cz _) ?_|refine cU (kH _ _) ?_|refine cU (jv _) ?_|refine cU (aaF _) ?_|refine cU (iH _) ?_|refine cU (oI _) ?_|refine cU (l7 _) ?_|refine u_ (by exact rfl) ?_))
  ·refine w3 [] (fun gd hf=>aj (ay rfl (cJ T.ok 1 rfl (hs.dr.call hf) rfl rfl rfl (aav rfl))))<|w3 [] (fun gd hf=>aj (aaL rfl rfl))<|w3 [(1,26)] (fun gd hf=>aax rfl (aaL rfl rfl))<|w3 [(2,27)] (fun gd hf=>aax rfl (aaL rfl rfl))<|w3 [(3,28)] (fun gd hf=>aax rfl (ay rfl (cJ T.ok 0 rfl (hs.dr.call hf) rfl rfl rfl (aav rfl))))<|w3 [(4,29)] (fun gd hf=>aax rfl (aaL rfl rfl))<|w3 [(5,30)] (fun gd hf=>aax rfl (iB rfl rfl))<|w3 [(6,31),(5,30)] (fun gd hf=>aaw rfl (iB rfl rfl))<|w3 [(7,32),(5,30)] (fun gd hf=>aaw rfl (iB rfl rfl))<|w3 [(8,33),(5,30)] (fun gd hf=>aaw rfl (iB rfl rfl))<|w3 [(5,30)] (fun gd hf=>aax rfl (iB rfl rfl))<|w3 [(10,35),(5,30)] (fun gd hf=>aaw rfl (iB rfl rfl))<|w3 [(9,34),(11,36),(5,30)] (fun gd hf=>aay rfl (iB rfl rfl))<|w3 [(5,30),(12,37)] (fun gd hf=>aaw rfl (aaL rfl rfl))<|w3 [(13,38)] (fun gd hf=>aax rfl (aaL rfl rfl))<|w3 [(14,39)] (fun gd hf=>aax rfl (iB rfl rfl))<|w3 [(15,40),(14,39),(14,39)] (fun gd hf=>aay rfl (iB rfl rfl))<|aY (p9 (js:=[(14,39),(16,41)]) (by kernel_rfl) (by exact rfl) fun gd hf=>?_) ?_
   ·skip;refine aat rfl<|aj ?_;(refine ay rfl ?_;refine aE _ T.ok rfl ?_;refine⟨_,rfl,a_.refl _,?_⟩;exact rfl)
   refine aY (vc (js:=[(0,25),(0,25)]) (by kernel_rfl) fun gd hf=>?_) ?_
   ·have eJ:=hs.dr.call hf;refine aat rfl<|aj<|⟨rfl,?_⟩;exact aw T.ok 2 rfl eJ rfl rfl rfl rfl rfl rfl rfl rfl rfl fun g8 tW mc=>⟨g8,rfl,mc,tW⟩
   exact vb
  intro g1 aP;rintro⟨_,hE⟩;refine ah rfl<|aj ?_;have ai:=(G.bI _).trans aP;replace hs:St g g1 [vO b [.string (bs line),vI a6,.bool false] 239,vO bw [vI (n2:Nat),vI (n4:Nat),vI (n6:Nat)] 194,vO br [vI (n2:Nat),vI (n4:Nat),vI (n6:Nat)] 194]:=hE;exact aX rfl<|aG<|zX T.ok 2 rfl hs rfl rfl rfl rfl (hs.ret rfl)
 |true=>
  cases e1:decide ((a6:Int)=(line.length:Int))with
  |false=>
   refine b_<|az ?_;apply qN aK rfl (Fact.eq _::Fact.eq _::Fact.eq _::Fact.eq _::Fact.eq _::Fact.eq _::Fact.eq _::Fact.eq _::Fact.eq _::Fact.eq _::Fact.eq _::Fact.eq _::Fact.eq _::Fact.eq _::Fact.eq _::Fact.eq _::Fact.eq _::Fact.eq _::(uS g (vO b [.string (bs line),vI a6,.bool true] 239::vO bw [vI (n2:Nat),vI (n4:Nat),vI (n6:Nat)] 194::vO br [vI (n2:Nat),vI (n4:Nat),vI (n6:Nat)] 194::[]))::[]) 19 [(17,42)] [] [0,1,2,3,4,5,6,7,8,9,10,11,12,13,14,15,16] 18 rfl (by decide) (by kernel_rfl) (by kernel_rfl)
   case houts=>exact rfl
   case hsoft=>(repeat (first|exact u7|apply u9|refine cU (kL _) ?_|refine cU (cz _) ?_|refine cU (kH _ _) ?_|refine cU (jv _) ?_|refine cU (aaF _) ?_|refine cU (iH _) ?_|refine cU (oI _) ?_|refine cU (l7 _) ?_|refine u_ (by exact rfl) ?_))
   ·refine w3 [] (fun gd hf=>aj (ay rfl (cJ T.ok 1 rfl (hs.dr.call hf) rfl rfl rfl (aav rfl))))<|w3 [] (fun gd hf=>aj (aaL rfl rfl))<|w3 [(1,26)] (fun gd hf=>aax rfl (aaL rfl rfl))<|w3 [(2,27)] (fun gd hf=>aax rfl (aaL rfl rfl))<|w3 [(3,28)] (fun gd hf=>aax rfl (ay rfl (cJ T.ok 0 rfl (hs.dr.call hf) rfl rfl rfl (aav rfl))))<|w3 [(4,29)] (fun gd hf=>aax rfl (aaL rfl rfl))<|w3 [(5,30)] (fun gd hf=>aax rfl (aaL rfl rfl))<|w3 [(6,31),(5,30)] (fun gd hf=>aaw rfl (aaL rfl rfl))<|w3 [(7,32),(5,30)] (fun gd hf=>aaw rfl (aaL rfl rfl))<|w3 [(8,33),(5,30)] (fun gd hf=>aaw rfl (ay rfl (cJ T.ok 0 rfl (hs.dr.call hf) rfl rfl rfl (aav rfl))))<|w3 [(5,30)] (fun gd hf=>aax rfl (aaL rfl rfl))<|w3 [(10,35),(5,30)] (fun gd hf=>aaw rfl (aaL rfl rfl))<|w3 [(9,34),(11,36),(5,30)] (fun gd hf=>aay rfl (aaL rfl (congrArg Value.bool (show _=false from by rw[cg];simpa using e1))))<|w3 [(5,30),(12,37)] (fun gd hf=>aaw rfl (aaL rfl rfl))<|w3 [(13,38)] (fun gd hf=>aax rfl (aaL rfl rfl))<|w3 [(14,39)] (fun gd hf=>aax rfl (iB rfl rfl))<|w3 [(15,40),(14,39),(14,39)] (fun gd hf=>aay rfl (iB rfl rfl))<|aY (p9 (js:=[(14,39),(16,41)]) (by kernel_rfl) (by exact rfl) fun gd hf=>?_) ?_
    ·skip;refine aat rfl<|aj ?_;(refine ay rfl ?_;refine aE _ T.ok rfl ?_;refine⟨_,rfl,a_.refl _,?_⟩;exact rfl)
    refine aY (vc (js:=[(0,25),(0,25)]) (by kernel_rfl) fun gd hf=>?_) ?_
    ·have eJ:=hs.dr.call hf;refine aat rfl<|aj<|⟨rfl,?_⟩;exact aw T.ok 2 rfl eJ rfl rfl rfl rfl rfl rfl rfl rfl rfl fun g8 tW mc=>⟨g8,rfl,mc,tW⟩
    exact vb
   intro g1 aP;rintro⟨_,hE⟩;refine ah rfl<|aj ?_;have ai:=(G.bI _).trans aP;replace hs:St g g1 [vO b [.string (bs line),vI a6,.bool true] 239,vO bw [vI (n2:Nat),vI (n4:Nat),vI (n6:Nat)] 194,vO br [vI (n2:Nat),vI (n4:Nat),vI (n6:Nat)] 194]:=hE;exact aX rfl<|aG<|zX T.ok 2 rfl hs rfl rfl rfl rfl (hs.ret rfl)
  |true=>
   refine b_<|az ?_;apply qN aK rfl (Fact.eq _::Fact.eq _::Fact.eq _::Fact.eq _::Fact.eq _::Fact.eq _::Fact.eq _::Fact.eq _::Fact.eq _::Fact.eq _::Fact.eq _::Fact.eq _::Fact.eq _::Fact.eq _::Fact.eq _::Fact.eq _::Fact.eq _::Fact.eq _::(uS g (vO b [.string (bs line),vI a6,.bool true] 239::vO bw [vI (n2:Nat),vI (n4:Nat),vI (n6:Nat)] 194::vO br [vI (n2:Nat),vI (n4:Nat),vI (n6:Nat)] 194::[]))::[]) 19 [(17,42)] [] [0,1,2,3,4,5,6,7,8,9,10,11,12,13,14,15,16] 18 rfl (by decide) (by kernel_rfl) (by kernel_rfl)
   case houts=>exact rfl
   case hsoft=>(repeat (first|exact u7|apply u9|refine cU (kL _) ?_|refine cU (cz _) ?_|refine cU (kH _ _) ?_|refine cU (jv _) ?_|refine cU (aaF _) ?_|refine cU (iH _) ?_|refine cU (oI _) ?_|refine cU (l7 _) ?_|refine u_ (by exact rfl) ?_))
   ·refine w3 [] (fun gd hf=>aj (ay rfl (cJ T.ok 1 rfl (hs.dr.call hf) rfl rfl rfl (aav rfl))))<|w3 [] (fun gd hf=>aj (aaL rfl rfl))<|w3 [(1,26)] (fun gd hf=>aax rfl (aaL rfl rfl))<|w3 [(2,27)] (fun gd hf=>aax rfl (aaL rfl rfl))<|w3 [(3,28)] (fun gd hf=>aax rfl (ay rfl (cJ T.ok 0 rfl (hs.dr.call hf) rfl rfl rfl (aav rfl))))<|w3 [(4,29)] (fun gd hf=>aax rfl (aaL rfl rfl))<|w3 [(5,30)] (fun gd hf=>aax rfl (aaL rfl rfl))<|w3 [(6,31),(5,30)] (fun gd hf=>aaw rfl (aaL rfl rfl))<|w3 [(7,32),(5,30)] (fun gd hf=>aaw rfl (aaL rfl rfl))<|w3 [(8,33),(5,30)] (fun gd hf=>aaw rfl (ay rfl (cJ T.ok 0 rfl (hs.dr.call hf) rfl rfl rfl (aav rfl))))<|w3 [(5,30)] (fun gd hf=>aax rfl (aaL rfl rfl))<|w3 [(10,35),(5,30)] (fun gd hf=>aaw rfl (aaL rfl rfl))<|w3 [(9,34),(11,36),(5,30)] (fun gd hf=>aay rfl (aaL rfl (congrArg Value.bool (show _=true from by rw[cg];simpa using e1))))<|w3 [(5,30),(12,37)] (fun gd hf=>aaw rfl (aaL rfl rfl))<|w3 [(13,38)] (fun gd hf=>aax rfl (aaL rfl rfl))<|w3 [(14,39)] (fun gd hf=>aax rfl (ay rfl (cJ T.ok 1 rfl (hs.dr.call hf) rfl rfl rfl (aav rfl))))<|w3 [(15,40),(14,39),(14,39)] (fun gd hf=>?_) ?_
    ·skip;refine aau rfl<|aj<|ay rfl<|aC (Wc 227) aK rfl rfl rfl rfl rfl (nL ⟨(n2:Int),(n4:Int),(n6:Int)⟩ 40 _ (by omega) (by omega)) fun g' v h1 h2=>⟨g',rfl,h1,?_⟩
     exact h2
    refine aY (p9 (js:=[(14,39),(16,41)]) (by kernel_rfl) (by exact rfl) fun gd hf=>?_) ?_
    ·skip;refine aat rfl<|aj ?_;(refine ay rfl ?_;refine aE _ T.ok rfl ?_;refine⟨_,rfl,a_.refl _,?_⟩;exact rfl)
    refine aY (vc (js:=[(0,25),(0,25)]) (by kernel_rfl) fun gd hf=>?_) ?_
    ·have eJ:=hs.dr.call hf;refine aat rfl<|aj<|⟨rfl,?_⟩;exact aw T.ok 2 rfl eJ rfl rfl rfl rfl rfl rfl rfl rfl rfl fun g8 tW mc=>⟨g8,rfl,mc,tW⟩
    exact vb
   intro g1 aP;rintro⟨_,hE⟩;refine ah rfl<|aj ?_;have ai:=(G.bI _).trans aP;replace hs:St g g1 [vO b [.string (bs line),vI a6,.bool true] 239,vO bw [vI (n2:Nat),vI (n4:Nat),vI (n6:Nat)] 194,vO br [vI (n2:Nat),vI (n4:Nat),vI (n6:Nat)] 194]:=hE;exact aX rfl<|aG<|zX T.ok 2 rfl hs rfl rfl rfl rfl (hs.ret rfl)
end Go.Proofs.YtbfjdfecgiegpaaGreatDoor
namespace Go.Proofs.YtbfjdfecgiegpaaGreatDoor
open Go Go.K Tryz
set_option maxRecDepth 10000
attribute [local irreducible] W WL cS bh bY bB bA bC cL cD
set_option maxHeartbeats 16000000
theorem CE(line:List UInt8)(i:Nat)(g:G)(dS:line.length≤1000000)(hi:i≤1000000):
  cN prog 169 #[.string (bs line),vI i] g fun g' r=> ∃v,r= .tuple #[v,.bool ((fE i line).2&&cf (fE i line).1 40)]∧jS g' v (fE i line).1:=by
 have hs:=St.start g;have ar:=G.le.refl g;have ZO:pj (i:Int):=⟨by omega,by omega⟩;have yj:eW (i:Int)=dec i:=rfl;have UW:=CA ZO;rw[yj]at UW;refine enter func169 rfl ntmps169 rfl<|cR<|w4 hs rfl fun br g1 hs ai=>aX rfl<|cG 1 rfl<|BO [(0,.string (bs line)),(2,.bool true)] [.string (bs line),vI 0,.bool true] [(0,1),(1,1),(2,1)] rfl<|EH hs rfl fun b g1 hs ai=>?_;obtain⟨NL,CJ⟩: ∃x:Bool,x=true:=⟨true,rfl⟩;obtain⟨r0,CK⟩: ∃r,line.drop 0=r:=⟨_,rfl⟩;have JR:0≤line.length:=Nat.zero_le _;have FZ:r0=line:=CK.symm;refine aX rfl<|cR<|BO [(5,vI (-1))] [vI 0,.slice none 0 0,vI 0,vI 0,.slice none 0 0,vI (-1),vI 0] [(0,1),(1,1),(2,1),(3,1),(4,1),(5,1),(6,1)] rfl<|w4 hs rfl fun b7 g1 hs ai=>sN 0 hs rfl fun g1 hs ai=>?_;replace hs:=hs.front (i:=1) rfl;replace hs:St g g1 (pk b line 0 NL::vO b7 [vI 0,.slice none 0 0,vI 0,vI 0,.slice none 0 0,vI (-1),vI 0] 115::vO br [vI 0,.slice none 0 0,vI 0,vI 0,.slice none 0 0,vI 0,vI 0] 115::[]):=by rw[CJ];exact hs
 have yP:zU++eW (i:Int)++wm=iY++32::(dec i++32::(gE++[32])):=by rw[yj];simp[zU,wm,iY,gE]
 refine b_<|cG 2 rfl<|Ev rfl (JO (i:Int) _ ZO) hs fun g1 hs ai=>ak rfl rfl<|p6 (p:=zU) (q:=eW (i:Int)) rfl rfl rfl (by rw[yj];simp only[zU,List.length_cons,List.length_nil];omega)<|ak rfl rfl<|p6 (p:=zU++eW (i:Int)) (q:=wm) rfl rfl rfl (by rw[yj];simp only[zU,wm,List.length_append,List.length_cons,List.length_nil];omega) ?_;rw[yP];obtain⟨uP,r1,Ku⟩: ∃x y,dD (iY++32::(dec i++32::(gE++[32]))) NL r0=(x,y):=⟨_,_,rfl⟩;have hc:=kG (w:=iY++32::(dec i++32::(gE++[32]))) JR dS (by simp only[List.length_append,List.length_cons,List.length_nil,iY,gE];omega) hs;rw[CK,Ku]at hc;refine Dj rfl hc ?_;clear hs hc;rintro g1 _ ai ⟨rfl,a1,JS,CL,hs⟩;dsimp only at CL hs;refine b_<|cG 1 rfl ?_;obtain⟨n2,vk,r2,Hc⟩: ∃x y z,d_ uP r1=(x,y,z):=⟨_,_,_,rfl⟩;have hc:=fX JS dS hs;rw[CL,Hc]at hc;refine Dj rfl hc ?_;clear hs hc;rintro g1 _ ai ⟨rfl,a2,JT,sY,hs⟩;dsimp only at sY hs;unfold pk at hs;refine Wp 1 rfl<|sN 1 hs rfl fun g1 hs ai=>?_;replace hs:St g g1 (pk b line a2 vk::vO b7 [vI (n2:Nat),.slice none 0 0,vI 0,vI 0,.slice none 0 0,vI (-1),vI 0] 115::vO br [vI 0,.slice none 0 0,vI 0,vI 0,.slice none 0 0,vI 0,vI 0] 115::[]):=hs;refine b_<|cG 1 rfl ?_;obtain⟨yU,r3,NM⟩: ∃x y,dD (32::aaA++[32]) vk r2=(x,y):=⟨_,_,rfl⟩;have hc:=kG (w:=32::aaA++[32]) JT dS (by simp only[List.length_append,List.length_cons,List.length_nil,aaA];omega) hs;rw[sY,NM]at hc;refine Dj rfl hc ?_;clear hs hc;rintro g1 _ ai ⟨rfl,a3,JU,CM,hs⟩;dsimp only at CM hs;refine b_<|cG 1 rfl ?_;obtain⟨l4,yp,r4,NN⟩: ∃x y z,nJ yU r3=(x,y,z):=⟨_,_,_,rfl⟩;have hc:=yf JU dS hs;rw[CM,NN]at hc;refine Dj rfl hc ?_;clear hs hc;rintro g1 _ ai ⟨cj,a4,JV,CN,hs⟩;dsimp only at CN hs cj;obtain⟨ta,tc,rfl⟩:=cj.isSlice;unfold pk at hs;refine Wp 1 rfl<|sN 1 hs rfl fun g1 hs ai=>?_;replace cj:=cj.mono ai;replace hs:St g g1 (pk b line a4 yp::vO b7 [vI (n2:Nat),.slice ta (ints l4).length tc,vI 0,vI 0,.slice none 0 0,vI (-1),vI 0] 115::vO br [vI 0,.slice none 0 0,vI 0,vI 0,.slice none 0 0,vI 0,vI 0] 115::[]):=hs;refine b_<|cG 1 rfl ?_;obtain⟨JF,r5,Uu⟩: ∃x y,dD (32::mG++[32]) yp r4=(x,y):=⟨_,_,rfl⟩;have hc:=kG (w:=32::mG++[32]) JV dS (by simp only[List.length_append,List.length_cons,List.length_nil,mG];omega) hs;rw[CN,Uu]at hc;refine Dj rfl hc ?_;clear hs hc;rintro g1 _ ai ⟨rfl,a5,PL,JW,hs⟩;replace cj:=cj.mono ai;dsimp only at JW hs;refine b_<|cG 1 rfl ?_;obtain⟨n6,GK,r6,Uv⟩: ∃x y z,d_ JF r5=(x,y,z):=⟨_,_,_,rfl⟩;have hc:=fX PL dS hs;rw[JW,Uv]at hc;refine Dj rfl hc ?_;clear hs hc;rintro g1 _ ai ⟨rfl,a6,PM,JX,hs⟩;replace cj:=cj.mono ai;dsimp only at JX hs;unfold pk at hs;refine Wp 1 rfl<|sN 1 hs rfl fun g1 hs ai=>?_;replace cj:=cj.mono ai;replace hs:St g g1 (pk b line a6 GK::vO b7 [vI (n2:Nat),.slice ta (ints l4).length tc,vI (n6:Nat),vI 0,.slice none 0 0,vI (-1),vI 0] 115::vO br [vI 0,.slice none 0 0,vI 0,vI 0,.slice none 0 0,vI 0,vI 0] 115::[]):=hs;refine b_<|cG 1 rfl ?_;obtain⟨Ul,r7,ZP⟩: ∃x y,dD ([46,46]) GK r6=(x,y):=⟨_,_,rfl⟩;have hc:=kG (w:=[46,46]) PM dS (by simp only[List.length_cons,List.length_nil];omega) hs;rw[JX,ZP]at hc;refine Dj rfl hc ?_;clear hs hc;rintro g1 _ ai ⟨rfl,a7,Yp,Uw,hs⟩;replace cj:=cj.mono ai;dsimp only at Uw hs;refine b_<|cG 1 rfl ?_;obtain⟨n8,Qu,r8,ZQ⟩: ∃x y z,d_ Ul r7=(x,y,z):=⟨_,_,_,rfl⟩;have hc:=fX Yp dS hs;rw[Uw,ZQ]at hc;refine Dj rfl hc ?_;clear hs hc;rintro g1 _ ai ⟨rfl,a8,Yq,Ux,hs⟩;replace cj:=cj.mono ai;dsimp only at Ux hs;unfold pk at hs;refine Wp 1 rfl<|sN 1 hs rfl fun g1 hs ai=>?_;replace cj:=cj.mono ai;replace hs:St g g1 (pk b line a8 Qu::vO b7 [vI (n2:Nat),.slice ta (ints l4).length tc,vI (n6:Nat),vI (n8:Nat),.slice none 0 0,vI (-1),vI 0] 115::vO br [vI 0,.slice none 0 0,vI 0,vI 0,.slice none 0 0,vI 0,vI 0] 115::[]):=hs;refine b_<|cG 1 rfl ?_;obtain⟨ND,r9,ZR⟩: ∃x y,dD (32::mH++[32]) Qu r8=(x,y):=⟨_,_,rfl⟩;have hc:=kG (w:=32::mH++[32]) Yq dS (by simp only[List.length_append,List.length_cons,List.length_nil,mH];omega) hs;rw[Ux,ZR]at hc;refine Dj rfl hc ?_;clear hs hc;rintro g1 _ ai ⟨rfl,a9,PN,Mi,hs⟩;replace cj:=cj.mono ai;dsimp only at Mi hs;refine b_<|az<|cG 1 rfl ?_;have hb:=CI (w:=[45]) PN dS (by decide) hs;rw[Mi]at hb;refine Dj rfl hb ?_;clear hs hb;rintro g1 _ ai ⟨rfl,hs⟩;replace cj:=cj.mono ai;apply b_;have sx:=G.le.refl g1
 refine mu (fun a' w=> ∃(nx:List Nat) (sf:Bool) (C5:List UInt8) (Kd:Nat) (na:Option Addr) (nc:Nat) (g6:G),xY ND r9=(nx,sf,C5)∧Rs g6 (.slice na (ints nx).length nc) (ints nx)∧Kd≤line.length∧line.drop Kd=C5∧w=g6.w∧G.le g1 g6∧St g g6 (pk b line Kd sf::vO b7 [vI (n2:Nat),.slice ta (ints l4).length tc,vI (n6:Nat),vI (n8:Nat),.slice na (ints nx).length nc,vI (-1),vI 0] 115::vO br [vI 0,.slice none 0 0,vI 0,vI 0,.slice none 0 0,vI 0,vI 0] 115::[])∧
   Fr 75 [] [(0,.string (bs line)),(4,vP br),(5,.bool false),(6,vP b),(7,vP b7)] a') ?_ ?_
 ·cases Uy:jm [45] ND r9 with
  |true=>
   refine aas rfl<|an<|Wp 1 rfl ?_;obtain⟨sf,C5,Ei⟩: ∃x y,dD ([45]) ND r9=(x,y):=⟨_,_,rfl⟩;have hc:=kG (w:=[45]) PN dS (by simp only[List.length_cons,List.length_nil];omega) hs;rw[Mi,Ei]at hc;refine Dj rfl hc ?_;clear hs hc;rintro g1 _ ai ⟨rfl,Kd,yg,tG,hs⟩;obtain⟨sx,cj⟩:=cr ai sx cj;dsimp only at tG hs;exact aA<|fun a ha=>⟨[],sf,C5,Kd,none,0,g1,by unfold xY;rw[if_pos Uy,Ei],Rs.nil _,yg,tG,rfl,sx,hs,ha.kp rfl⟩
  |false=>
   refine aar rfl<|an<|Wp 1 rfl ?_;obtain⟨l10,sf,C5,Ei⟩: ∃x y z,nJ ND r9=(x,y,z):=⟨_,_,_,rfl⟩;have hc:=yf PN dS hs;rw[Mi,Ei]at hc;refine Dj rfl hc ?_;clear hs hc;rintro g1 _ ai ⟨dw,Kd,yg,tG,hs⟩;obtain⟨sx,cj⟩:=cr ai sx cj;dsimp only at tG hs dw;obtain⟨na,nc,rfl⟩:=dw.isSlice;unfold pk at hs;refine Wp 1 rfl<|sN 1 hs rfl fun g1 hs ai=>?_;obtain⟨sx,cj,dw⟩:=dR ai sx cj dw;exact aA<|fun a ha=>⟨l10,sf,C5,Kd,na,nc,g1,by unfold xY;rw[if_neg (by rw[Uy];decide),Ei],dw,yg,tG,rfl,sx,hs,ha.kp rfl⟩
 clear hs;rintro a' _ ⟨nx,sf,C5,Kd,na,nc,g6,Ei,dw,yg,tG,rfl,ai,hs,dW⟩;obtain⟨sx,cj⟩:=cr ai sx cj;clear sx;revert a';refine ct<|az<|cG 1 rfl ?_;have hb:=CI (w:=[32]) yg dS (by decide) hs;rw[tG]at hb;refine Dj rfl hb ?_;clear hs hb;rintro g1 _ ai ⟨rfl,hs⟩;obtain⟨cj,dw⟩:=cr ai cj dw;apply b_;have sx:=G.le.refl g1
 refine mu (fun a' w=> ∃(bk lm:Int) (JY:Bool) (Vp:List UInt8) (G5:Nat) (g6:G),xZ sf C5=((bk,lm),JY,Vp)∧G5≤line.length∧line.drop G5=Vp∧w=g6.w∧G.le g1 g6∧St g g6 (pk b line G5 JY::vO b7 [vI (n2:Nat),.slice ta (ints l4).length tc,vI (n6:Nat),vI (n8:Nat),.slice na (ints nx).length nc,vI bk,vI lm] 115::vO br [vI 0,.slice none 0 0,vI 0,vI 0,.slice none 0 0,vI 0,vI 0] 115::[])∧
   Fr 75 [] [(0,.string (bs line)),(4,vP br),(5,.bool false),(6,vP b),(7,vP b7)] a') ?_ ?_
 ·cases Uy:jm [32] sf C5 with
  |true=>
   refine aas rfl<|cG 1 rfl ?_;obtain⟨Ma,Vl,Uz⟩: ∃x y,dD (32::lX++[32]) sf C5=(x,y):=⟨_,_,rfl⟩;have hc:=kG (w:=32::lX++[32]) yg dS (by simp only[List.length_append,List.length_cons,List.length_nil,lX];omega) hs;rw[tG,Uz]at hc;refine Dj rfl hc ?_;clear hs hc;rintro g1 _ ai ⟨rfl,Z0,UA,NO,hs⟩;obtain⟨sx,cj,dw⟩:=dR ai sx cj dw;dsimp only at NO hs;refine b_<|cG 1 rfl ?_;obtain⟨ZS,UB,Sg,UC⟩: ∃x y z,d_ Ma Vl=(x,y,z):=⟨_,_,_,rfl⟩;have hc:=fX UA dS hs;rw[NO,UC]at hc;refine Dj rfl hc ?_;clear hs hc;rintro g1 _ ai ⟨rfl,a12,UD,NP,hs⟩;obtain⟨sx,cj,dw⟩:=dR ai sx cj dw;dsimp only at NP hs;unfold pk at hs;refine Wp 1 rfl<|sN 1 hs rfl fun g1 hs ai=>?_;obtain⟨sx,cj,dw⟩:=dR ai sx cj dw;replace hs:St g g1 (pk b line a12 UB::vO b7 [vI (n2:Nat),.slice ta (ints l4).length tc,vI (n6:Nat),vI (n8:Nat),.slice na (ints nx).length nc,vI (ZS:Nat),vI 0] 115::vO br [vI 0,.slice none 0 0,vI 0,vI 0,.slice none 0 0,vI 0,vI 0] 115::[]):=hs;refine b_<|cG 1 rfl ?_;obtain⟨Yr,Sh,UE⟩: ∃x y,dD (32::iF++[32]) UB Sg=(x,y):=⟨_,_,rfl⟩;have hc:=kG (w:=32::iF++[32]) UD dS (by simp only[List.length_append,List.length_cons,List.length_nil,iF];omega) hs;rw[NP,UE]at hc;refine Dj rfl hc ?_;clear hs hc;rintro g1 _ ai ⟨rfl,Z1,UF,NQ,hs⟩;obtain⟨sx,cj,dw⟩:=dR ai sx cj dw;dsimp only at NQ hs;refine b_<|an<|Wp 1 rfl ?_;obtain⟨Si,Ys,Sj,UG⟩: ∃x y z,d_ Yr Sh=(x,y,z):=⟨_,_,_,rfl⟩;have hc:=fX UF dS hs;rw[NQ,UG]at hc;refine Dj rfl hc ?_;clear hs hc;rintro g1 _ ai ⟨rfl,YC,UH,NR,hs⟩;obtain⟨sx,cj,dw⟩:=dR ai sx cj dw;dsimp only at NR hs;unfold pk at hs;refine Wp 1 rfl<|sN 1 hs rfl fun g1 hs ai=>?_;obtain⟨sx,cj,dw⟩:=dR ai sx cj dw;apply aA
   exact fun a ha=>⟨(ZS:Nat),(Si:Nat),Ys,Sj,YC,g1,by
    unfold xZ;rw[if_pos Uy,Uz];dsimp only;rw[UC];dsimp only;rw[UE];dsimp only;rw[UG],UH,NR,rfl,sx,hs,ha.kp rfl⟩
  |false=>
   exact aar rfl<|aF<|fun a ha=>⟨-1,0,sf,C5,Kd,g1,by unfold xZ;rw[if_neg (by rw[Uy];decide)],yg,tG,rfl,sx,hs,ha.kp rfl⟩
 clear hs;rintro a' _ ⟨bk,lm,JY,Vp,G5,g6,Yt,UI,UJ,rfl,ai,hs,dW⟩;obtain⟨cj,dw⟩:=cr ai cj dw;clear sx;revert a';have Ut:fE i line=(⟨(n2:Int),ints l4,(n6:Int),(n8:Int),ints nx,bk,lm⟩,yT JY Vp):=by unfold fE;rw[←FZ,←CJ,Ku];dsimp only;rw[Hc];dsimp only;rw[NM];dsimp only;rw[NN];dsimp only;rw[Uu];dsimp only;rw[Uv];dsimp only;rw[ZP];dsimp only;rw[ZQ];dsimp only;rw[ZR];dsimp only;rw[Ei];dsimp only;rw[Yt]
 rw[Ut,Bh UJ UI];unfold pk at hs;cases JY with
 |false=>
  refine ct<|az ?_;apply qN aK rfl (Fact.eq _::Fact.eq _::Fact.eq _::Fact.eq _::Fact.eq _::Fact.eq _::Fact.eq _::Fact.eq _::Fact.eq _::Fact.eq _::Fact.eq _::Fact.eq _::Fact.eq _::Fact.eq _::Fact.eq _::Fact.eq _::Fact.eq _::Fact.eq _::(uS g (vO b [.string (bs line),vI G5,.bool false] 239::vO b7 [vI (n2:Nat),.slice ta (ints l4).length tc,vI (n6:Nat),vI (n8:Nat),.slice na (ints nx).length nc,vI bk,vI lm] 115::vO br [vI (n2:Nat),.slice ta (ints l4).length tc,vI (n6:Nat),vI (n8:Nat),.slice na (ints nx).length nc,vI bk,vI lm] 115::[]))::[]) 19 [(17,74)] [] [0,1,2,3,4,5,6,7,8,9,10,11,12,13,14,15,16] 18 rfl (by decide) (by kernel_rfl) (by kernel_rfl)
  case houts=>exact rfl
  case hsoft=>(repeat (first|exact u7|apply u9|refine cU (kL _) ?_|refine cU (cz _) ?_|refine cU (kH _ _) ?_|refine cU (jv _) ?_|refine cU (aaF _) ?_|refine cU (iH _) ?_|refine cU (oI _) ?_|refine cU (l7 _) ?_|refine u_ (by exact rfl) ?_))
  ·refine w3 [] (fun gd hf=>aj (ay rfl (cJ T.ok 1 rfl (hs.dr.call hf) rfl rfl rfl (aav rfl))))<|w3 [] (fun gd hf=>aj (aaL rfl rfl))<|w3 [(1,58)] (fun gd hf=>aax rfl (aaL rfl rfl))<|w3 [(2,59)] (fun gd hf=>aax rfl (aaL rfl rfl))<|w3 [(3,60)] (fun gd hf=>aax rfl (ay rfl (cJ T.ok 0 rfl (hs.dr.call hf) rfl rfl rfl (aav rfl))))<|w3 [(4,61)] (fun gd hf=>aax rfl (aaL rfl rfl))<|w3 [(5,62)] (fun gd hf=>aax rfl (iB rfl rfl))<|w3 [(6,63),(5,62)] (fun gd hf=>aaw rfl (iB rfl rfl))<|w3 [(7,64),(5,62)] (fun gd hf=>aaw rfl (iB rfl rfl))<|w3 [(8,65),(5,62)] (fun gd hf=>aaw rfl (iB rfl rfl))<|w3 [(5,62)] (fun gd hf=>aax rfl (iB rfl rfl))<|w3 [(10,67),(5,62)] (fun gd hf=>aaw rfl (iB rfl rfl))<|w3 [(9,66),(11,68),(5,62)] (fun gd hf=>aay rfl (iB rfl rfl))<|w3 [(5,62),(12,69)] (fun gd hf=>aaw rfl (aaL rfl rfl))<|w3 [(13,70)] (fun gd hf=>aax rfl (aaL rfl rfl))<|w3 [(14,71)] (fun gd hf=>aax rfl (iB rfl rfl))<|w3 [(15,72),(14,71),(14,71)] (fun gd hf=>aay rfl (iB rfl rfl))<|aY (p9 (js:=[(14,71),(16,73)]) (by kernel_rfl) (by exact rfl) fun gd hf=>?_) ?_
   ·skip;refine aat rfl<|aj ?_;(refine ay rfl ?_;refine aE _ T.ok rfl ?_;refine⟨_,rfl,a_.refl _,?_⟩;exact rfl)
   refine aY (vc (js:=[(0,57),(0,57)]) (by kernel_rfl) fun gd hf=>?_) ?_
   ·have eJ:=hs.dr.call hf;refine aat rfl<|aj<|⟨rfl,?_⟩;exact aw T.ok 2 rfl eJ rfl rfl rfl rfl rfl rfl rfl rfl rfl fun g8 tW mc=>⟨g8,rfl,mc,tW⟩
   exact vb
  intro g1 aP;rintro⟨_,hE⟩;refine ah rfl<|aj ?_;have ai:=(G.bI _).trans aP;obtain⟨cj,dw⟩:=cr ai cj dw;replace hs:St g g1 (vO b [.string (bs line),vI G5,.bool false] 239::vO b7 [vI (n2:Nat),.slice ta (ints l4).length tc,vI (n6:Nat),vI (n8:Nat),.slice na (ints nx).length nc,vI bk,vI lm] 115::vO br [vI (n2:Nat),.slice ta (ints l4).length tc,vI (n6:Nat),vI (n8:Nat),.slice na (ints nx).length nc,vI bk,vI lm] 115::[]):=hE;exact aX rfl<|aG<|zX T.ok 2 rfl hs rfl rfl rfl rfl (hs.ret ⟨_,rfl,_,rfl,_,_,_,_,_,_,rfl,cj,dw⟩)
 |true=>
  cases e1:decide ((G5:Int)=(line.length:Int))with
  |false=>
   refine ct<|az ?_;apply qN aK rfl (Fact.eq _::Fact.eq _::Fact.eq _::Fact.eq _::Fact.eq _::Fact.eq _::Fact.eq _::Fact.eq _::Fact.eq _::Fact.eq _::Fact.eq _::Fact.eq _::Fact.eq _::Fact.eq _::Fact.eq _::Fact.eq _::Fact.eq _::Fact.eq _::(uS g (vO b [.string (bs line),vI G5,.bool true] 239::vO b7 [vI (n2:Nat),.slice ta (ints l4).length tc,vI (n6:Nat),vI (n8:Nat),.slice na (ints nx).length nc,vI bk,vI lm] 115::vO br [vI (n2:Nat),.slice ta (ints l4).length tc,vI (n6:Nat),vI (n8:Nat),.slice na (ints nx).length nc,vI bk,vI lm] 115::[]))::[]) 19 [(17,74)] [] [0,1,2,3,4,5,6,7,8,9,10,11,12,13,14,15,16] 18 rfl (by decide) (by kernel_rfl) (by kernel_rfl)
   case houts=>exact rfl
   case hsoft=>(repeat (first|exact u7|apply u9|refine cU (kL _) ?_|refine cU (cz _) ?_|refine cU (kH _ _) ?_|refine cU (jv _) ?_|refine cU (aaF _) ?_|refine cU (iH _) ?_|refine cU (oI _) ?_|refine cU (l7 _) ?_|refine u_ (by exact rfl) ?_))
   ·refine w3 [] (fun gd hf=>aj (ay rfl (cJ T.ok 1 rfl (hs.dr.call hf) rfl rfl rfl (aav rfl))))<|w3 [] (fun gd hf=>aj (aaL rfl rfl))<|w3 [(1,58)] (fun gd hf=>aax rfl (aaL rfl rfl))<|w3 [(2,59)] (fun gd hf=>aax rfl (aaL rfl rfl))<|w3 [(3,60)] (fun gd hf=>aax rfl (ay rfl (cJ T.ok 0 rfl (hs.dr.call hf) rfl rfl rfl (aav rfl))))<|w3 [(4,61)] (fun gd hf=>aax rfl (aaL rfl rfl))<|w3 [(5,62)] (fun gd hf=>aax rfl (aaL rfl rfl))<|w3 [(6,63),(5,62)] (fun gd hf=>aaw rfl (aaL rfl rfl))<|w3 [(7,64),(5,62)] (fun gd hf=>aaw rfl (aaL rfl rfl))<|w3 [(8,65),(5,62)] (fun gd hf=>aaw rfl (ay rfl (cJ T.ok 0 rfl (hs.dr.call hf) rfl rfl rfl (aav rfl))))<|w3 [(5,62)] (fun gd hf=>aax rfl (aaL rfl rfl))<|w3 [(10,67),(5,62)] (fun gd hf=>aaw rfl (aaL rfl rfl))<|w3 [(9,66),(11,68),(5,62)] (fun gd hf=>aay rfl (aaL rfl (congrArg Value.bool (show _=false from by rw[cg];simpa using e1))))<|w3 [(5,62),(12,69)] (fun gd hf=>aaw rfl (aaL rfl rfl))<|w3 [(13,70)] (fun gd hf=>aax rfl (aaL rfl rfl))<|w3 [(14,71)] (fun gd hf=>aax rfl (iB rfl rfl))<|w3 [(15,72),(14,71),(14,71)] (fun gd hf=>aay rfl (iB rfl rfl))<|aY (p9 (js:=[(14,71),(16,73)]) (by kernel_rfl) (by exact rfl) fun gd hf=>?_) ?_
    ·skip;refine aat rfl<|aj ?_;(refine ay rfl ?_;refine aE _ T.ok rfl ?_;refine⟨_,rfl,a_.refl _,?_⟩;exact rfl)
    refine aY (vc (js:=[(0,57),(0,57)]) (by kernel_rfl) fun gd hf=>?_) ?_
    ·have eJ:=hs.dr.call hf;refine aat rfl<|aj<|⟨rfl,?_⟩;exact aw T.ok 2 rfl eJ rfl rfl rfl rfl rfl rfl rfl rfl rfl fun g8 tW mc=>⟨g8,rfl,mc,tW⟩
    exact vb
   intro g1 aP;rintro⟨_,hE⟩;refine ah rfl<|aj ?_;have ai:=(G.bI _).trans aP;obtain⟨cj,dw⟩:=cr ai cj dw;replace hs:St g g1 (vO b [.string (bs line),vI G5,.bool true] 239::vO b7 [vI (n2:Nat),.slice ta (ints l4).length tc,vI (n6:Nat),vI (n8:Nat),.slice na (ints nx).length nc,vI bk,vI lm] 115::vO br [vI (n2:Nat),.slice ta (ints l4).length tc,vI (n6:Nat),vI (n8:Nat),.slice na (ints nx).length nc,vI bk,vI lm] 115::[]):=hE;exact aX rfl<|aG<|zX T.ok 2 rfl hs rfl rfl rfl rfl (hs.ret ⟨_,rfl,_,rfl,_,_,_,_,_,_,rfl,cj,dw⟩)
  |true=>
   refine ct<|az ?_;apply qN aK rfl (Fact.eq _::Fact.eq _::Fact.eq _::Fact.eq _::Fact.eq _::Fact.eq _::Fact.eq _::Fact.eq _::Fact.eq _::Fact.eq _::Fact.eq _::Fact.eq _::Fact.eq _::Fact.eq _::Fact.eq _::Fact.eq _::Fact.eq _::Fact.eq _::(uS g (vO b [.string (bs line),vI G5,.bool true] 239::vO b7 [vI (n2:Nat),.slice ta (ints l4).length tc,vI (n6:Nat),vI (n8:Nat),.slice na (ints nx).length nc,vI bk,vI lm] 115::vO br [vI (n2:Nat),.slice ta (ints l4).length tc,vI (n6:Nat),vI (n8:Nat),.slice na (ints nx).length nc,vI bk,vI lm] 115::[]))::[]) 19 [(17,74)] [] [0,1,2,3,4,5,6,7,8,9,10,11,12,13,14,15,16] 18 rfl (by decide) (by kernel_rfl) (by kernel_rfl)
   case houts=>exact rfl
   case hsoft=>(repeat (first|exact u7|apply u9|refine cU (kL _) ?_|refine cU (cz _) ?_|refine cU (kH _ _) ?_|refine cU (jv _) ?_|refine cU (aaF _) ?_|refine cU (iH _) ?_|refine cU (oI _) ?_|refine cU (l7 _) ?_|refine u_ (by exact rfl) ?_))
   ·refine w3 [] (fun gd hf=>aj (ay rfl (cJ T.ok 1 rfl (hs.dr.call hf) rfl rfl rfl (aav rfl))))<|w3 [] (fun gd hf=>aj (aaL rfl rfl))<|w3 [(1,58)] (fun gd hf=>aax rfl (aaL rfl rfl))<|w3 [(2,59)] (fun gd hf=>aax rfl (aaL rfl rfl))<|w3 [(3,60)] (fun gd hf=>aax rfl (ay rfl (cJ T.ok 0 rfl (hs.dr.call hf) rfl rfl rfl (aav rfl))))<|w3 [(4,61)] (fun gd hf=>aax rfl (aaL rfl rfl))<|w3 [(5,62)] (fun gd hf=>aax rfl (aaL rfl rfl))<|w3 [(6,63),(5,62)] (fun gd hf=>aaw rfl (aaL rfl rfl))<|w3 [(7,64),(5,62)] (fun gd hf=>aaw rfl (aaL rfl rfl))<|w3 [(8,65),(5,62)] (fun gd hf=>aaw rfl (ay rfl (cJ T.ok 0 rfl (hs.dr.call hf) rfl rfl rfl (aav rfl))))<|w3 [(5,62)] (fun gd hf=>aax rfl (aaL rfl rfl))<|w3 [(10,67),(5,62)] (fun gd hf=>aaw rfl (aaL rfl rfl))<|w3 [(9,66),(11,68),(5,62)] (fun gd hf=>aay rfl (aaL rfl (congrArg Value.bool (show _=true from by rw[cg];simpa using e1))))<|w3 [(5,62),(12,69)] (fun gd hf=>aaw rfl (aaL rfl rfl))<|w3 [(13,70)] (fun gd hf=>aax rfl (aaL rfl rfl))<|w3 [(14,71)] (fun gd hf=>aax rfl (ay rfl (cJ T.ok 1 rfl (hs.dr.call hf) rfl rfl rfl (aav rfl))))<|w3 [(15,72),(14,71),(14,71)] (fun gd hf=>?_) ?_
    ·have eT:=(G.bI _).trans hf.le;refine aau rfl<|aj<|ay rfl<|aC (Wc 226) aK rfl rfl rfl rfl rfl (Fv _ ⟨(n2:Int),ints l4,(n6:Int),(n8:Int),ints nx,bk,lm⟩ 40 _ ⟨_,rfl,_,_,_,_,_,_,rfl,cj.mono eT,dw.mono eT⟩ (by omega) (by omega)) fun g' v h1 h2=>⟨g',rfl,h1,?_⟩
     exact h2
    refine aY (p9 (js:=[(14,71),(16,73)]) (by kernel_rfl) (by exact rfl) fun gd hf=>?_) ?_
    ·skip;refine aat rfl<|aj ?_;(refine ay rfl ?_;refine aE _ T.ok rfl ?_;refine⟨_,rfl,a_.refl _,?_⟩;exact rfl)
    refine aY (vc (js:=[(0,57),(0,57)]) (by kernel_rfl) fun gd hf=>?_) ?_
    ·have eJ:=hs.dr.call hf;refine aat rfl<|aj<|⟨rfl,?_⟩;exact aw T.ok 2 rfl eJ rfl rfl rfl rfl rfl rfl rfl rfl rfl fun g8 tW mc=>⟨g8,rfl,mc,tW⟩
    exact vb
   intro g1 aP;rintro⟨_,hE⟩;refine ah rfl<|aj ?_;have ai:=(G.bI _).trans aP;obtain⟨cj,dw⟩:=cr ai cj dw;replace hs:St g g1 (vO b [.string (bs line),vI G5,.bool true] 239::vO b7 [vI (n2:Nat),.slice ta (ints l4).length tc,vI (n6:Nat),vI (n8:Nat),.slice na (ints nx).length nc,vI bk,vI lm] 115::vO br [vI (n2:Nat),.slice ta (ints l4).length tc,vI (n6:Nat),vI (n8:Nat),.slice na (ints nx).length nc,vI bk,vI lm] 115::[]):=hE;exact aX rfl<|aG<|zX T.ok 2 rfl hs rfl rfl rfl rfl (hs.ret ⟨_,rfl,_,rfl,_,_,_,_,_,_,rfl,cj,dw⟩)
end Go.Proofs.YtbfjdfecgiegpaaGreatDoor
namespace Go.Proofs.YtbfjdfecgiegpaaGreatDoor
open Go Go.K Tryz
set_option maxRecDepth 10000
attribute [local irreducible] W WL cS bh bY bB bA bC cL cD
set_option maxHeartbeats 16000000
theorem Eg(f:bG)(l:List UInt8):mI true f l=if((dV l).2&&eg ⟨(dV l).1.1,(dV l).1.2,[],[]⟩)=true then some ⟨(dV l).1.1,(dV l).1.2,[],[]⟩else none:=by
 show(qp l).map _=_;unfold qp;cases hr:dV l with
 |mk p ok=>
  obtain⟨a,b⟩:=p;cases ok with
  |true=>
   rw[zQ.2 (rA.1 hr)];dsimp only[Option.bind_some];by_cases h:eg ⟨a,b,[],[]⟩=true
   ·rw[if_pos h,if_pos (by rw[h];rfl)];rfl
   rw[if_neg h,if_neg (by simpa using h)];rfl
  |false=>
   cases hm:ry l with
   |none=>rfl
   |some q=>
    obtain⟨a',b'⟩:=q;have:=rA.2 (zQ.1 hm);rw[hr]at this;cases this
theorem JI{w:cQ}:(iG w).head? =some 119:=by rw[yV];rfl
theorem GO(f:bG)(l:List UInt8)(h:l.head? =some 115):aaD f l=if((fE f.steps.length l).2&&cf (fE f.steps.length l).1 40&&decide ((f.steps.length:Int)<40)&&((f.windows.length:Int)==0))=true then some {f with steps:=f.steps++[(fE f.steps.length l).1]}else none:=by
 unfold aaD;cases hr:fE f.steps.length l with
 |mk s ok=>
  by_cases hp:iY.isPrefixOf l=true
  ·rw[if_pos hp];unfold tF;cases ok with
   |true=>
    rw[zP.2 (mY.1 hr)];dsimp only[Option.bind_some];have e:decide ((f.windows.length:Int)=0)=((f.windows.length:Int)==0):=by
     by_cases h0:(f.windows.length:Int)=0
     ·rw[decide_eq_true h0];exact(beq_iff_eq.2 h0).symm
     rw[decide_eq_false h0];exact(beq_eq_false_iff_ne.2 h0).symm
    rw[e,Bool.true_and];split<;>rfl
   |false=>
    cases hm:fm f.steps.length l with
    |none=>rfl
    |some q=>
     have:=mY.2 (zP.1 hm);rw[hr]at this;cases this
  rw[if_neg hp];have hw:iS l=none:=by
   cases hm:iS l with
   |none=>rfl
   |some w=>
    have:=(qn.1 hm).1;rw[this,JI]at h;cases h
  unfold iT;rw[hw];cases ok with
  |true=>
   have:=(mY.1 hr).1;rw[this,JH]at hp;exact absurd rfl hp
  |false=>rfl
theorem JJ(f:bG)(l:List UInt8)(h:l.head? ≠some 115):aaD f l=if((dU l).2&&dA (dU l).1 40&&decide ((f.windows.length:Int)<20)&&decide ((f.steps.length:Int)>0)&&follows f.windows (dU l).1)=true then some {f with windows:=f.windows++[(dU l).1]}else none:=by
 have hp: ¬iY.isPrefixOf l=true:=by intro hp;obtain⟨t,rfl⟩:=List.isPrefixOf_iff_prefix.1 hp;exact h rfl
 unfold aaD;rw[if_neg hp];unfold iT;cases hr:dU l with
 |mk w ok=>
  cases ok with
  |true=>
   rw[qn.2 (o4.1 hr)];dsimp only[Option.bind_some];rw[Bool.true_and];split<;>rfl
  |false=>
   cases hm:iS l with
   |none=>rfl
   |some q=>
    have:=o4.2 (qn.1 hm);rw[hr]at this;cases this
theorem Md(first:Bool)(f:bG)(k:Nat)(l:List UInt8)(r:List (List UInt8))(h:vp l=false):ez first f k (l::r)=match mI first f l with
  |some f'=>ez false f' (k+1) r
  |none=> .inr (k+1):=by
 rw[ez,if_neg (by rw[h];decide)];cases mI first f l<;>rfl
theorem CC(first:Bool)(f:bG)(k:Nat)(l:List UInt8)(r:List (List UInt8))(h:vp l=true):ez first f k (l::r)=ez first f (k+1) r:=by rw[ez,if_pos h]
theorem zW(b:UInt8)(t:List UInt8):vp (b::t)=(b==35):=by unfold vp;rw[show((b::t)==[])=false from rfl,Bool.false_or];show((35:UInt8)==b&&([]:List UInt8).isPrefixOf t)=_;rw[show([]:List UInt8).isPrefixOf t=true from by cases t<;>rfl,Bool.and_true];exact BEq.comm
theorem HC(s:List UInt8)(g:G)(hlen:s.length≤999999):cN prog 91 #[.string (bs s)] g fun g' r=>jy g' (kx s) r:=by
 have hs:=St.start g;have ar:=G.le.refl g;refine enter func91 rfl ntmps91 rfl<|cR<|w4 hs rfl fun b2 g1 hs ai=>?_;replace ar:=G.le.trans ar ai;refine aX rfl<|cG 1 rfl<|sO rfl (Me s _ (by omega)) fun g1 _ aP aH=>?_;replace hs:=hs.call aP;have ai:=aP.le;replace ar:=G.le.trans ar ai;have Dq:=nM 10 s;have sq:=kF 10 s
 have PH: ∀x,ez true lY 0 (bW 10 s)=x→kx s=match x with
  | .inl f=>if valid f=true then .inl f else .inr (bW 10 s).length
  | .inr k=> .inr k:=by rintro x rfl;rfl
 generalize bW 10 s=ps at*;obtain⟨pa,pc,rfl⟩:=aH.isSlice;have Kt:(ps.map wh.mk).length=ps.length:=List.length_map _;rw[Kt]at aH⊢;refine aX rfl<|cR<|BO [] [vI 0,vI 0,.slice none 0 0,.slice none 0 0] [(0,1),(1,1),(2,1),(3,1)] rfl<|w4 hs rfl fun b g1 hs ai=>?_;obtain⟨ar,aH⟩:=cr ai ar aH;refine sN 0 hs rfl fun g1 hs ai=>?_;obtain⟨ar,aH⟩:=cr ai ar aH
 have aV:St g g1 (GP b lY none 0 none 0 []++[vO b2 [vI 0,vI 0,.slice none 0 0,.slice none 0 0] 67]):=
  ((hs.eP 194 3 none).eP 115 7 none).perm (List.perm_middle (l₁:=[df.row 115 7 (.slice none 0 0) 0 [],df.row 194 3 (.slice none 0 0) 0 []]))
 clear hs;have ZJ:GQ b lY [vO b2 [vI 0,vI 0,.slice none 0 0,.slice none 0 0] 67] g g1:=⟨none,0,none,0,[],aV,rfl⟩;clear aV;have pL:=aH;have OH:=ar;refine b_<|aZ rfl<|az<|aZ rfl<|aI ?_
 refine bK (fun m a' w=> ∃(k:Nat) (first:Bool) (f:bG) (g':G),w=g'.w∧GQ b f [vO b2 [vI 0,vI 0,.slice none 0 0,.slice none 0 0] 67] g g'∧(first=true→f=lY)∧G.le g1 g'∧k≤ps.length∧m=ps.length-k∧f.steps.length≤k∧f.windows.length≤k∧ez first f k (ps.drop k)=ez true lY 0 ps∧
  Fr 126 [] [(2,vP b2),(3,vI 0),(4,vI 0),(5,.slice pa ps.length pc),(6,vP b),(7,.bool first),(8,vI k)] a') ps.length
   (fun a' ha=>⟨0,true,lY,g1,rfl,ZJ,fun _=>rfl,G.le.refl _,Nat.zero_le _,rfl,Nat.zero_le _,Nat.zero_le _,rfl,ha.kp rfl⟩) ?_
 clear ar ZJ aH;rintro m a' _ ⟨k,first,f,g',rfl,hO,K6,jF,hk,rfl,NH,NI,lh,dW⟩;have aH:=pL.mono jF;have ar:=OH.trans jF;revert a';refine ct<|az<|aZ rfl ?_;by_cases bt:k<ps.length
 ·refine aJ (b:=decide ((k:Int)<(ps.length:Int))) (by simp;omega) rfl ?_;rw[List.drop_eq_getElem_cons bt]at lh;have G8:dJ (ps.map wh.mk) (k:Int)=some ⟨ps[k]⟩:=by simp[dJ,bt]
  have FX:=sq _ (List.getElem_mem bt);generalize ps[k]=ln at*;refine aF<|aq<|az<|aI<|cG 2 rfl<|zc (y:=⟨ln⟩) aH G8 rfl ?_;rintro bq pq ys aL rfl;refine q5 1 [.e aL 0] rfl<|aX rfl<|az<|cG 3 rfl ?_;cases ln with
  |nil=>
   refine bM 31 (b':=true) (by rw[cM];simp) rfl ?_;rw[CC _ _ _ _ _ rfl]at lh;refine aX rfl<|aas rfl<|bc<|bg<|cA<|aq<|an<|Wp 3 rfl<|aA<|fun a ha=>⟨ps.length-(k+1),by omega,k+1,first,f,_,rfl,hO,K6,jF,by omega,rfl,by omega,by omega,lh,ha.keep ⟨rfl,rfl,rfl,rfl,rfl,rfl,kW rfl,trivial⟩⟩
  |cons c tl=>
  refine bM 31 (b':=false) (by rw[cM];simp) rfl<|Wp 1 rfl<|ak rfl rfl<|fg T.ok rfl rfl rfl rfl rfl (by omega) (by simp)<|aX rfl ?_;by_cases Vm:c=35
  ·refine aJ (b:=_) ?_ rfl ?_
   ·simp[Vm]
   rw[CC _ _ _ _ _ (by rw[zW,Vm];rfl)]at lh;refine bc<|bg<|cA<|aq<|an<|Wp 3 rfl<|aA<|fun a ha=>⟨ps.length-(k+1),by omega,k+1,first,f,_,rfl,hO,K6,jF,by omega,rfl,by omega,by omega,lh,ha.keep ⟨rfl,rfl,rfl,rfl,rfl,rfl,kW rfl,trivial⟩⟩
  refine aQ (b:=_) ?_ rfl ?_
  ·simp;intro h;exact Vm (UInt8.toNat_inj.1 (show c.toNat=35 by omega))
  rw[Md _ _ _ _ _ (by rw[zW];simpa using Vm)]at lh;have vz:(c::tl).length≤1000000:=by omega
  cases first with
  |true=>
   obtain rfl:=K6 rfl;obtain⟨sa,sc,wa,wc,uR,hs,dc⟩:=hO;have NJ:=Eg lY (c::tl);refine aF<|aq<|aZ rfl<|az<|aZ rfl<|aas rfl<|cG 1 rfl<|Ev rfl (CD (c::tl) _ vz) hs fun g1 hs ai=>?_;replace dc:=dc.mono ai;replace jF:=jF.trans ai;generalize(dV (c::tl)).1.1=ma at*;generalize(dV (c::tl)).1.2=mb at*;generalize(dV (c::tl)).2=C6 at*;refine Wp 5 rfl<|sN 0 hs rfl fun g1 hs ai=>?_;replace dc:=dc.mono ai;replace jF:=jF.trans ai;refine Wp 1 rfl<|sN 0 hs rfl fun g1 hs ai=>?_;replace dc:=dc.mono ai;replace jF:=jF.trans ai;refine aX rfl<|an<|aX rfl<|aZ rfl ?_;cases IS:(C6&&eg ⟨ma,mb,[],[]⟩)with
   |false=>
    rw[NJ,IS]at lh;refine aas rfl<|cR<|BO [] [vI 0,vI 0,.slice none 0 0,.slice none 0 0] [(0,1),(1,1),(2,1),(3,1)] rfl<|Wp 2 rfl<|sN 3 hs rfl fun g1 hs ai=>?_;replace dc:=dc.mono ai;refine aX rfl<|aG<|gQ<|dO<|dO<|gQ<|dO<|vq (v2:=vI ((k+1:Nat):Int)) T.ok 3 rfl hs rfl rfl rfl (kW rfl) rfl<|hs.ret ?_;rw[PH _ lh.symm]
    rfl
   |true=>
    rw[NJ,IS]at lh;refine aar rfl<|aF<|bJ<|aq<|an<|Wp 3 rfl<|aA<|fun a ha=>⟨ps.length-(k+1),by omega,k+1,false,⟨ma,mb,[],[]⟩,_,rfl,⟨sa,sc,wa,wc,uR,hs,dc⟩,(fun h=>(by cases h)),jF,by omega,rfl,by exact Nat.zero_le _,by exact Nat.zero_le _,lh,ha.keep ⟨rfl,rfl,rfl,rfl,rfl,rfl,kW rfl,trivial⟩⟩
  |false=>
   obtain⟨sa,sc,wa,wc,uR,hs,dc⟩:=hO;refine aF<|aq<|aZ rfl<|az<|aZ rfl<|aar rfl<|cG 1 rfl<|ak rfl rfl<|fg T.ok rfl rfl rfl rfl rfl (by omega) (by simp)<|aX rfl ?_;by_cases Mf:c=115
   ·have NJ:=GO f (c::tl) (by rw[Mf];rfl);refine aJ (b:=_) ?_ rfl ?_
    ·simp[Mf]
    refine c_ 4 [.o 0] hs rfl<|sO rfl (CE (c::tl) f.steps.length _ vz (by omega)) ?_;rintro g3 _ fD ⟨_,rfl,_,rfl,ua,un,uc,xa,xn,xc,rfl,cd,bR⟩;replace hs:=hs.call fD;have ai:=fD.le;replace dc:=dc.mono ai;replace jF:=jF.trans ai;generalize sy:(fE f.steps.length (c::tl)).1=u5 at*;generalize(fE f.steps.length (c::tl)).2=C6 at*;refine Wp 3 rfl<|w4 hs rfl fun z6 g1 hs ai=>?_;obtain⟨cd,bR,dc⟩:=dR ai cd bR dc;replace jF:=jF.trans ai;refine sN 0 hs rfl fun g1 hs ai=>?_;obtain⟨cd,bR,dc⟩:=dR ai cd bR dc;replace jF:=jF.trans ai;refine Wp 1 rfl<|aA ?_
    with_reducible refine aq ?_
    apply az;have Hb:=G.le.refl g1;refine mu (fun a' w=> ∃(g6:G),w=g6.w∧G.le g1 g6∧St g g6 (vO z6 [vI u5.eQ,.slice ua un uc,vI u5.min,vI u5.max,.slice xa xn xc,vI u5.back,vI u5.dN] 115::(GP b f sa sc wa wc uR++[vO b2 [vI 0,vI 0,.slice none 0 0,.slice none 0 0] 67]))∧
     Fr 126 [] [(2,vP b2),(3,vI 0),(4,vI 0),(5,.slice pa ps.length pc),(6,vP b),(7,.bool false),(8,vI k),(11,vP z6),(10,.bool (C6&&cf u5 40&&decide ((f.steps.length:Int)<40)&&((f.windows.length:Int)==0)))] a') ?_ ?_
    ·cases d1:(C6&&cf u5 40)with
     |false=>
      rw[Bool.false_and,Bool.false_and];exact an<|Wp 14 rfl<|aA<|fun a ha=>⟨_,rfl,Hb,hs,ha.kp rfl⟩
     |true=>
     rw[Bool.true_and];cases d2:decide ((f.steps.length:Int)<40)with
     |false=>
      rw[Bool.false_and];exact an<|Wm 8 [.o 1] hs rfl<|bM 63 (b':=false) (by simpa using d2) rfl<|Wp 6 rfl<|aA<|fun a ha=>⟨_,rfl,Hb,hs,ha.kp rfl⟩
     |true=>
      rw[Bool.true_and];exact an<|Wm 8 [.o 1] hs rfl<|bM 63 (b':=true) (by simpa using d2) rfl<|Wm 6 [.o 1] hs rfl<|aA<|fun a ha=>⟨_,rfl,Hb,hs,ha.kp rfl⟩
    clear hs;rintro a' _ ⟨g6,rfl,ai,hs,dW⟩;obtain⟨cd,bR,dc⟩:=dR ai cd bR dc;replace jF:=jF.trans ai;clear Hb;revert a';refine ct<|an<|Wm 3 [.o 1,.o 0] hs rfl<|BP [(0,.agg #[vI u5.eQ,.slice ua un uc,vI u5.min,vI u5.max,.slice xa xn xc,vI u5.back,vI u5.dN])] [vI u5.eQ,.slice ua un uc,vI u5.min,vI u5.max,.slice xa xn xc,vI u5.back,vI u5.dN] hs rfl rfl fun bl gl hs ai=>?_;obtain⟨cd,bR,dc⟩:=dR ai cd bR dc;replace jF:=jF.trans ai;refine ak rfl rfl<|bU T.ok 3 rfl hs rfl rfl rfl rfl rfl rfl rfl (by decide) rfl (Src.eI (hs.own 0 _ rfl).1).2 (by simp[Value.oneCell']) (by show(f.steps.length+1)*88≤_;omega) (by unfold maxLen;show f.steps.length+1≤_;omega) fun a9 c9 g9 hs ai=>?_;obtain⟨cd,bR,dc⟩:=dR ai cd bR dc;replace jF:=jF.trans ai;refine Wp 1 rfl<|sN 2 hs rfl fun g1 hs ai=>?_;obtain⟨cd,bR,dc⟩:=dR ai cd bR dc;replace jF:=jF.trans ai;replace hs:=(hs.drop 0).drop 0;refine b_<|aZ rfl ?_;cases IS:(C6&&cf u5 40&&decide ((f.steps.length:Int)<40)&&((f.windows.length:Int)==0))with
    |false=>
     rw[show mI false f (c::tl)=aaD f (c::tl)from rfl,NJ,IS]at lh;refine aas rfl<|cR<|BO [] [vI 0,vI 0,.slice none 0 0,.slice none 0 0] [(0,1),(1,1),(2,1),(3,1)] rfl<|Wp 2 rfl<|sN 3 hs rfl fun g1 hs ai=>?_;obtain⟨cd,bR,dc⟩:=dR ai cd bR dc;refine aX rfl<|aG<|gQ<|dO<|dO<|gQ<|dO<|vq (v2:=vI ((k+1:Nat):Int)) T.ok 3 rfl hs rfl rfl rfl (kW rfl) rfl<|hs.ret ?_;rw[PH _ lh.symm]
     rfl
    |true=>
     rw[show mI false f (c::tl)=aaD f (c::tl)from rfl,NJ,IS]at lh;refine aar rfl ?_;have Yh:GQ b ⟨f.dm,f.dv,f.steps++[u5],f.windows⟩ [vO b2 [vI 0,vI 0,.slice none 0 0,.slice none 0 0] 67] g g1:=by refine⟨a9,c9,wa,wc,_,?_,cY.app (α:=Step) (ys:=[u5]) ⟨_,[],(List.append_nil _).symm,(show sW _ _ _ from⟨_,_,_,_,_,_,rfl,cd,bR⟩),rfl⟩ dc⟩;unfold GP;rw[List.length_append];exact hs
     refine aF<|bJ<|aq<|an<|Wp 3 rfl<|aA<|fun a ha=>⟨ps.length-(k+1),by omega,k+1,false,⟨f.dm,f.dv,f.steps++[u5],f.windows⟩,_,rfl,Yh,(fun h=>(by cases h)),jF,by omega,rfl,by show(f.steps++[u5]).length≤_;rw[List.length_append,List.length_singleton];omega,by show f.windows.length≤_;omega,lh,ha.keep ⟨rfl,rfl,rfl,rfl,rfl,rfl,kW rfl,trivial⟩⟩
   have NJ:=JJ f (c::tl) (by simpa using Mf);refine aQ (b:=_) ?_ rfl ?_
   ·simp;intro h;exact Mf (UInt8.toNat_inj.1 (show c.toNat=115 by omega))
   refine cG 1 rfl<|Ev rfl (yW (c::tl) _ vz) hs fun g1 hs ai=>?_;replace dc:=dc.mono ai;replace jF:=jF.trans ai;generalize(dU (c::tl)).1=w0 at*;generalize(dU (c::tl)).2=C6 at*;refine Wp 3 rfl<|w4 hs rfl fun Vt g1 hs ai=>?_;replace dc:=dc.mono ai;replace jF:=jF.trans ai;refine sN 0 hs rfl fun g1 hs ai=>?_;replace dc:=dc.mono ai;replace jF:=jF.trans ai;refine aX rfl<|lJ [.o 1] hs rfl<|az ?_;have Sa:=hs;have Hb:=G.le.refl g1;have hX:(C6&&dA w0 40&&decide ((f.windows.length:Int)<20)&&decide ((f.steps.length:Int)>0)&&follows f.windows w0)=(C6&&dA w0 40&&decide ((f.windows.length:Int)<20)&&decide ((f.steps.length:Int)>0)&&follows f.windows w0):=rfl
   refine mu (fun a' w=> ∃(g6:G),w=g6.w∧G.le g1 g6∧St g g6 (vO Vt (pf w0) 194::(GP b f sa sc wa wc uR++[vO b2 [vI 0,vI 0,.slice none 0 0,.slice none 0 0] 67]))∧
    Fr 126 [] [(2,vP b2),(3,vI 0),(4,vI 0),(5,.slice pa ps.length pc),(6,vP b),(7,.bool false),(8,vI k),(13,vP Vt),(10,.bool (C6&&dA w0 40&&decide ((f.windows.length:Int)<20)&&decide ((f.steps.length:Int)>0)&&follows f.windows w0))] a') ?_ ?_
   ·cases d1:(C6&&dA w0 40)with
    |false=>
     rw[Bool.false_and,Bool.false_and,Bool.false_and];apply bD hs (dn (dn (dn (fe [])))) 25 [(24,107)] (by kernel_rfl) rfl
     ·exact HW [[],[0],[1],[2,1],[1,3],[4],[5],[6,5],[7,5],[8,5],[5,9],[10],[11],[12,11],[13,11,11],[14],[15,14],[14],[17,14],[16,18,14],[19,14],[14],[20,21,14,14],[14,22,11],[11,23]] rfl
     clear hs;intro g1 hs ai;replace dc:=dc.mono ai;exact Wp 1 rfl<|aA<|fun a ha=>⟨_,rfl,ai,hs,ha.kp rfl⟩
    |true=>
    rw[Bool.true_and];cases d2:decide ((f.windows.length:Int)<20)with
    |false=>
     rw[Bool.false_and,Bool.false_and];apply bD hs (dn (dn (dn (fe [])))) 25 [(24,107)] (by kernel_rfl) rfl
     ·exact EF [[],[0],[1]] rfl<|fR [(2,85),(1,84)] (fun gd hf=>aaw rfl (aaL rfl (congrArg Value.bool (d2))))<|HW [[1,3],[4],[5],[6,5],[7,5],[8,5],[5,9],[10],[11],[12,11],[13,11,11],[14],[15,14],[14],[17,14],[16,18,14],[19,14],[14],[20,21,14,14],[14,22,11],[11,23]] rfl
     clear hs;intro g1 hs ai;replace dc:=dc.mono ai;exact Wp 1 rfl<|aA<|fun a ha=>⟨_,rfl,ai,hs,ha.kp rfl⟩
    |true=>
    rw[Bool.true_and];cases d3:decide ((f.steps.length:Int)>0)with
    |false=>
     rw[Bool.false_and];apply bD hs (dn (dn (dn (fe [])))) 25 [(24,107)] (by kernel_rfl) rfl
     ·exact EF [[],[0],[1]] rfl<|fR [(2,85),(1,84)] (fun gd hf=>aaw rfl (aaL rfl (congrArg Value.bool (d2))))<|pO [[1,3],[4],[5],[6,5],[7,5]] [.o 1] hs rfl<|fR [(8,91),(5,88)] (fun gd hf=>aaw rfl (aaL rfl (congrArg Value.bool (d3))))<|HW [[5,9],[10],[11],[12,11],[13,11,11],[14],[15,14],[14],[17,14],[16,18,14],[19,14],[14],[20,21,14,14],[14,22,11],[11,23]] rfl
     clear hs;intro g1 hs ai;replace dc:=dc.mono ai;exact Wp 1 rfl<|aA<|fun a ha=>⟨_,rfl,ai,hs,ha.kp rfl⟩
    |true=>
    rw[Bool.true_and];cases d4:((f.windows.length:Int)==0)with
    |true=>
     have Vn:f.windows=[]:=by have:=eq_of_beq d4;exact List.eq_nil_of_length_eq_zero (by omega)
     have lg:follows f.windows w0=true:=by rw[Vn];rfl
     rw[lg];apply bD hs (dn (dn (dn (fe [])))) 25 [(24,107)] (by kernel_rfl) rfl
     ·exact EF [[],[0],[1]] rfl<|fR [(2,85),(1,84)] (fun gd hf=>aaw rfl (aaL rfl (congrArg Value.bool (d2))))<|pO [[1,3],[4],[5],[6,5],[7,5]] [.o 1] hs rfl<|fR [(8,91),(5,88)] (fun gd hf=>aaw rfl (aaL rfl (congrArg Value.bool (d3))))<|EF [[5,9],[10],[11]] rfl<|fR [(12,95),(11,94)] (fun gd hf=>aaw rfl (aaL rfl (congrArg Value.bool (d4))))<|HW [[13,11,11],[14],[15,14],[14],[17,14],[16,18,14],[19,14],[14],[20,21,14,14],[14,22,11],[11,23]] rfl
     clear hs;intro g1 hs ai;replace dc:=dc.mono ai;exact Wp 1 rfl<|aA<|fun a ha=>⟨_,rfl,ai,hs,ha.kp rfl⟩
    |false=>
     have Ql:f.windows.length≠0:=by intro h;rw[h]at d4;cases d4
     obtain⟨lw,ZK⟩: ∃v,f.windows.getLast? =some v:=by
      cases hg:f.windows.getLast? with
      |none=>rw[List.getLast?_eq_none_iff]at hg;rw[hg]at Ql;exact absurd rfl Ql
      |some v=>exact⟨v,rfl⟩
     have pg:follows f.windows w0=oa lw w0:=by unfold follows;rw[ZK]
     have Pg:=GR ZK;obtain⟨wb,wp,rfl⟩:=JK (hs.own 3 _ rfl).1 Ql;have Ew:((f.windows.length:Int)-1).toNat=f.windows.length-1:=by omega
     rw[←Ew]at Pg;rw[pg];apply bD hs (dn (dn (dn (fe [])))) 25 [(24,107)] (by kernel_rfl) rfl
     ·refine EF [[],[0],[1]] rfl<|fR [(2,85),(1,84)] (fun gd hf=>aaw rfl (aaL rfl (congrArg Value.bool (d2))))<|pO [[1,3],[4],[5],[6,5],[7,5]] [.o 1] hs rfl<|fR [(8,91),(5,88)] (fun gd hf=>aaw rfl (aaL rfl (congrArg Value.bool (d3))))<|EF [[5,9],[10],[11]] rfl<|fR [(12,95),(11,94)] (fun gd hf=>aaw rfl (aaL rfl (congrArg Value.bool (d4))))<|pO [[13,11,11],[14],[15,14],[14]] [.o 1] hs rfl<|fR [(17,100),(14,97)] (fun gd hf=>aaw rfl (aaL rfl (congrArg (Value.int .i64) (show _=(f.windows.length:Int)-1 from wq))))<|fR [(16,99),(18,101),(14,97)] (fun gd hf=>?_) ?_
      ·have eJ:=hs.dr.call hf;refine aau rfl<|aj<|ay rfl<|eo T.ok (n:=(f.windows.length:Int)-1) rfl (eJ.own 3 _ rfl).1 (by omega) (by omega) rfl rfl rfl rfl rfl rfl fun b p hh=>?_;obtain⟨rfl,rfl⟩:wb=b∧wp=p:=by simpa using hh
       exact⟨_,rfl,a_.refl _,rfl⟩
      refine fR [(19,102),(14,97)] (fun gd hf=>aaw rfl (ay rfl (fB T.ok (((f.windows.length:Int)-1).toNat*3) rfl ((hs.dr.call hf).own 3 _ rfl).1 rfl (v:=.agg (pf lw).toArray) Pg (aav rfl))))<|pO [[14]] [.o 0] hs rfl<|fR [(20,103),(21,104),(14,97),(14,97)] (fun gd hf=>?_) ?_
      ·skip;refine aau rfl<|ah rfl<|aj<|ay rfl<|aC (Wc 171) aK rfl rfl rfl rfl rfl (ya lw w0 _) fun g' v h1 h2=>⟨g',rfl,h1,?_⟩
       exact h2
      exact HW [[14,22,11],[11,23]] rfl
     clear hs;intro g1 hs ai;replace dc:=dc.mono ai;exact Wp 1 rfl<|aA<|fun a ha=>⟨_,rfl,ai,hs,ha.kp rfl⟩
   clear hs Sa;rintro a' _ ⟨g6,rfl,ai,hs,dW⟩;replace dc:=dc.mono ai;replace jF:=jF.trans ai;clear Hb hX;revert a';refine ct<|an<|Wm 3 [.o 1,.o 0] hs rfl<|BP [(0,.agg (pf w0).toArray)] (pf w0) hs rfl rfl fun bl gl hs ai=>?_;replace dc:=dc.mono ai;replace jF:=jF.trans ai;refine ak rfl rfl<|bU T.ok 4 rfl hs rfl rfl rfl rfl rfl rfl rfl (by decide) rfl (Src.eI (hs.own 0 _ rfl).1).2 (by simp[pf,Value.oneCell']) (by show(f.windows.length+1)*24≤_;omega) (by unfold maxLen;show f.windows.length+1≤_;omega) fun a9 c9 g9 hs ai=>?_;replace dc:=dc.mono ai;replace jF:=jF.trans ai;refine Wp 1 rfl<|sN 2 hs rfl fun g1 hs ai=>?_;replace dc:=dc.mono ai;replace jF:=jF.trans ai;replace hs:=(hs.drop 0).drop 0;refine b_<|aZ rfl ?_;cases IS:(C6&&dA w0 40&&decide ((f.windows.length:Int)<20)&&decide ((f.steps.length:Int)>0)&&follows f.windows w0)with
   |false=>
    rw[show mI false f (c::tl)=aaD f (c::tl)from rfl,NJ,IS]at lh;refine aas rfl<|cR<|BO [] [vI 0,vI 0,.slice none 0 0,.slice none 0 0] [(0,1),(1,1),(2,1),(3,1)] rfl<|Wp 2 rfl<|sN 3 hs rfl fun g1 hs ai=>?_;replace dc:=dc.mono ai;refine aX rfl<|aG<|gQ<|dO<|dO<|gQ<|dO<|vq (v2:=vI ((k+1:Nat):Int)) T.ok 3 rfl hs rfl rfl rfl (kW rfl) rfl<|hs.ret ?_;rw[PH _ lh.symm]
    rfl
   |true=>
    rw[show mI false f (c::tl)=aaD f (c::tl)from rfl,NJ,IS]at lh;refine aar rfl ?_;have Yh:GQ b ⟨f.dm,f.dv,f.steps,f.windows++[w0]⟩ [vO b2 [vI 0,vI 0,.slice none 0 0,.slice none 0 0] 67] g g1:=by refine⟨sa,sc,a9,c9,uR,?_,dc⟩;unfold GP;rw[yb,List.length_append];exact hs
    refine aF<|bJ<|aq<|an<|Wp 3 rfl<|aA<|fun a ha=>⟨ps.length-(k+1),by omega,k+1,false,⟨f.dm,f.dv,f.steps,f.windows++[w0]⟩,_,rfl,Yh,(fun h=>(by cases h)),jF,by omega,rfl,by show f.steps.length≤_;omega,by show(f.windows++[w0]).length≤_;rw[List.length_append,List.length_singleton];omega,lh,ha.keep ⟨rfl,rfl,rfl,rfl,rfl,rfl,kW rfl,trivial⟩⟩
 refine aQ (b:=decide ((k:Int)<(ps.length:Int))) (by simp;omega) rfl ?_;obtain rfl:k=ps.length:=by omega
 rw[List.drop_length]at lh;have JL:=PH _ lh.symm;obtain⟨sa,sc,wa,wc,uR,hs,dc⟩:=hO;obtain⟨V_,yP,tK,Ku,cd⟩:=hs.cP (α:=Step) (xs:=f.steps) (i:=1) rfl dc;obtain⟨g2,bS,aV,Hc,bR⟩:=tK.cP (α:=cQ) (xs:=f.windows) (i:=1) rfl (cY.win _ _);replace hs:St g g2 (vO b [vI f.dm,vI f.dv,.slice sa f.steps.length sc,.slice wa f.windows.length wc] 67::vO b2 [vI 0,vI 0,.slice none 0 0,.slice none 0 0] 67::[]):=aV;clear tK aV;replace cd:=cd.mono Hc;rw[←yP,←bS];have dt:fP g2 (.agg #[vI f.dm,vI f.dv,.slice sa f.steps.length sc,.slice wa f.windows.length wc]) f:=⟨sa,f.steps.length,sc,wa,f.windows.length,wc,rfl,cd,bR⟩;refine bc<|bg<|bg<|cA<|aq<|az<|c_ 1 [.o 0] hs rfl<|Ev rfl (BI _ f _ dt) hs fun g1 hs ai=>?_;replace dt:=dt.mono ai;refine aX rfl ?_;cases hv:valid f with
 |true=>
  refine aar rfl<|aF<|aq<|c_ 1 [.o 0] hs rfl<|sN 1 hs rfl fun g1 hs ai=>?_;replace dt:=dt.mono ai;refine aX rfl<|aG<|vq T.ok 1 rfl hs rfl rfl rfl rfl rfl<|hs.ret ?_;rw[JL];show jy _ (if valid f=true then _ else _) _;rw[if_pos hv];exact⟨_,rfl,dt⟩
 |false=>
  refine aas rfl<|cR<|BO [] [vI 0,vI 0,.slice none 0 0,.slice none 0 0] [(0,1),(1,1),(2,1),(3,1)] rfl<|Wp 2 rfl<|sN 1 hs rfl fun g1 hs ai=>aX rfl<|aG<|dO<|vq T.ok 1 rfl hs rfl rfl rfl rfl rfl<|hs.ret ?_;rw[JL];show jy _ (if valid f=true then _ else _) _;rw[if_neg (by rw[hv];decide)]
  rfl
end Go.Proofs.YtbfjdfecgiegpaaGreatDoor
namespace Go.Proofs.YtbfjdfecgiegpaaGreatDoor
open Go Go.K Tryz
set_option maxRecDepth 10000
attribute [local irreducible] W WL cS bh bY bB bA bC cL cD
set_option maxHeartbeats 8000000
theorem wM(v:Value)(b:eL)(w time:Int)(g:G)(aT:fV g v b)(hb:vQ b):cN prog 21 #[v,vI w,vI time] g fun g' r=>Rs g' r (fI b w time):=by
 have hs:=(St.start g).eP 40 19 none;have ar:=G.le.refl g;have e_:=aT;obtain⟨A,N',C,rfl,dS⟩:=il aT;have aT:fV g (.agg ((List.range 11).map fun i=> .slice (A i) (N' i) (C i)).toArray) b:=e_;clear e_;clear dS;refine enter func21 rfl ntmps21 rfl<|cR<|An hs rfl fun b2 g2 hs ai aD=>?_;obtain⟨ar,aT⟩:=cr ai ar aT;replace hs:St g g2 [rF none 0 []]:=hs;refine aX rfl<|aZ rfl<|sP 2 [.z aD] rfl<|sO rfl (Eu _ b w _ aT hb) fun g1 _ aP aH=>?_;replace hs:=hs.call aP;have ai:=aP.le;replace ar:=G.le.trans ar ai;clear aP aD aT;have hl:=nq hb w;unfold fI;generalize lu b w=l at*;obtain⟨a,c,rfl⟩:=aH.isSlice;refine aX rfl<|az<|aZ rfl<|aI ?_
 refine bK (fun m a' u=> ∃(i:Nat) (ad:Option Addr) (c8:Nat) (xs:List bO) (g':G),u=g'.w∧St g g' [rF ad c8 xs]∧G.le g g'∧Rs g' (.slice a l.length c) l∧i≤l.length∧((l.take i).filter fun f=> !decide (time<f.time))=xs∧m+i=l.length∧
   Fr 34 [] [(2,vI time),(7,.slice ad xs.length c8),(8,.slice a l.length c),(9,vI (i:Nat))] a') l.length
  (fun a' ha=>⟨0,none,0,[],_,rfl,hs,ar,aH,Nat.zero_le _,rfl,rfl,ha.kp rfl⟩) ?_
 (repeat clear hs);(repeat clear ar);(repeat clear aH);rintro m a' _ ⟨i,ad,c8,xs,g',rfl,hs,ar,aH,hi,lg,hm,dW⟩;have so:xs.length≤i:=by rw[←lg];exact Nat.le_trans (List.length_filter_le ..) (by rw[List.length_take];omega)
 revert a';refine ct<|az<|aZ rfl ?_;by_cases bt:i<l.length
 ·refine aJ (b:=decide ((i:Int)<(l.length:Int))) (decide_eq_true (by omega)) rfl ?_;have eH:dJ l (i:Int)=some l[i]:=bZ rfl bt;have dP:((l.take (i+1)).filter fun f=> !decide (time<f.time))=xs++(if !decide (time<l[i].time)then [l[i]]else []):=by rw[List.take_add_one,List.getElem?_eq_getElem bt,List.filter_append,lg,Option.toList_some,List.filter_cons];split<;>simp[*]
  generalize l[i]=x at*;refine aF<|aq<|az<|aI<|cG 2 rfl<|zc (y:=x) aH eH rfl ?_;rintro b9 q9 ys aL rfl;have aM:=aL;clear aL;refine KY [.e aM 5] rfl ?_;by_cases h2:x.time≤time
  ·refine aJ (b:=decide (x.time≤time)) (decide_eq_true h2) rfl ?_;rw[if_pos (by rw[decide_eq_false (by omega)];rfl)]at dP;clear aM;refine an<|Wp 3 rfl<|zc (y:=x) aH eH rfl ?_;rintro b9 q9 ys aL rfl;have aM:=aL;clear aL;refine q5 1 [.e aM 0] rfl ?_;clear aM;refine BP [(0,fv x)] (fl [x]) hs rfl rfl ?_;(repeat clear hs);rintro bl gl hs ai;obtain⟨ar,aH⟩:=cr ai ar aH;refine ak rfl rfl<|bU T.ok 1 rfl hs rfl rfl rfl rfl rfl rfl rfl (by decide) rfl (Src.eI (hs.own 0 _ rfl).1).2 (rD g _) (by show((xs).length+1)*160≤_;omega) (by show(xs).length+1≤maxLen;unfold maxLen;omega) ?_;(repeat clear hs);rintro a6 c6 g10 hs ai;obtain⟨ar,aH⟩:=cr ai ar aH;have e0:(xs).length+1=(xs++[x]).length:=by rw[List.length_append,List.length_singleton]<;>omega
   rw[e0]at hs⊢;replace hs:St g g10 [rF a6 c6 (xs++[x])]:=by unfold rF;rw[mN];exact hs.drop 0
   exact Wp 1 rfl<|aA<|bJ<|aq<|an<|Wp 3 rfl<|aA<|fun a ha=>⟨m-1,by omega,i+1,_,_,_,_,rfl,hs,ar,aH,by omega,dP,by omega,ha.keep ⟨rfl,rfl,rfl,kW rfl,trivial⟩⟩
  refine aQ (b:=decide (x.time≤time)) (decide_eq_false h2) rfl ?_;rw[if_neg (by rw[decide_eq_true (by omega)];simp),List.append_nil]at dP;exact aF<|bJ<|aq<|an<|Wp 3 rfl<|aA<|fun a ha=>⟨m-1,by omega,i+1,_,_,_,_,rfl,hs,ar,aH,by omega,dP,by omega,ha.keep ⟨rfl,rfl,rfl,kW rfl,trivial⟩⟩
 refine aQ (b:=decide ((i:Int)<(l.length:Int))) (decide_eq_false (by omega)) rfl ?_;rw[List.take_of_length_le (by omega)]at lg;refine bc<|bg<|bg<|cA<|aq<|aZ rfl ?_;obtain⟨gz,gF,cK,gW,cj⟩:=hs.cP (α:=bO) (i:=0) rfl (cY.fl _ _);have ai:=gW;rw[←gF];(repeat clear hs);have hs:St g gz []:=cK;clear cK;exact aG (nw rfl hs (by rw[lg];exact cj))
theorem KE(v:Value)(b:eL)(w time:Int)(g:G)(aT:fV g v b)(hb:vQ b):cN prog 8 #[v,vI w,vI time] g fun g' r=> ∃v1 v2,r= .tuple #[v1,v2]∧Rs g' v1 ((fI b w time).map (·.step))∧Rs g' v2 ((fI b w time).map (·.idn)):=by
 have hs:=((St.start g).eP 3 1 none).eP 3 1 none;have ar:=G.le.refl g;have e_:=aT;obtain⟨A,N',C,rfl,dS⟩:=il aT;have aT:fV g (.agg ((List.range 11).map fun i=> .slice (A i) (N' i) (C i)).toArray) b:=e_;clear e_;clear dS;refine enter func8 rfl ntmps8 rfl<|cR<|An hs rfl fun b2 g2 hs ai aD=>?_;obtain⟨ar,aT⟩:=cr ai ar aT;replace hs:St g g2 [rI (.slice none 0 0) [],rI (.slice none 0 0) []]:=hs;refine aX rfl<|sP 3 [.z aD] rfl<|sO rfl (wM _ b w time _ aT hb) fun g1 _ aP aH=>?_;replace hs:=hs.call aP;have ai:=aP.le;replace ar:=G.le.trans ar ai;clear aP aD aT;have hl:=ku hb w time;generalize fI b w time=l at*;obtain⟨a,c,rfl⟩:=aH.isSlice;refine aX rfl<|aZ rfl<|aZ rfl<|az<|aZ rfl<|aI ?_
 refine bK (fun m a' u=> ∃(i:Nat) (xs ys:List Int) (a8 a9:Option Addr) (c8 c9:Nat) (g':G),u=g'.w∧St g g' [rI (.slice a8 xs.length c8) xs,rI (.slice a9 ys.length c9) ys]∧G.le g g'∧Rs g' (.slice a l.length c) l∧i≤l.length∧(l.take i).map (·.step)=xs∧(l.take i).map (·.idn)=ys∧m+i=l.length∧
   Fr 40 [] [(8,.slice a l.length c),(9,.slice a8 xs.length c8),(10,.slice a9 ys.length c9),(11,vI (i:Nat))] a') l.length
  (fun a' ha=>⟨0,[],[],none,none,0,0,_,rfl,hs,ar,aH,Nat.zero_le _,rfl,rfl,rfl,ha.kp rfl⟩) ?_
 (repeat clear hs);(repeat clear ar);(repeat clear aH);rintro m a' _ ⟨i,xs,ys,a8,a9,c8,c9,g',rfl,hs,ar,aH,hi,hx,hy,hm,dW⟩;have h1:xs.length=i:=by rw[←hx,List.length_map,List.length_take];omega
 have h2:ys.length=i:=by rw[←hy,List.length_map,List.length_take];omega
 revert a';refine ct<|az<|aZ rfl ?_;by_cases bt:i<l.length
 ·refine aJ (b:=decide ((i:Int)<(l.length:Int))) (decide_eq_true (by omega)) rfl ?_;have eH:dJ l (i:Int)=some l[i]:=bZ rfl bt;have e1:(l.take (i+1)).map (·.step)=xs++[l[i].step]:=by rw[List.take_add_one,List.getElem?_eq_getElem bt,List.map_append,hx];rfl
  have e2:(l.take (i+1)).map (·.idn)=ys++[l[i].idn]:=by rw[List.take_add_one,List.getElem?_eq_getElem bt,List.map_append,hy];rfl
  generalize l[i]=x at*;refine aF<|aq<|az<|aI<|cG 3 rfl<|zc (y:=x) aH eH rfl ?_;rintro b9 q9 Mx aL rfl;refine Wp 1 rfl<|q5 1 [.e aL 13] rfl ?_;clear aL;refine BP [(0,vI x.step)] (ec [x.step]) hs rfl rfl ?_;(repeat clear hs);rintro bl gl hs ai;obtain⟨ar,aH⟩:=cr ai ar aH;refine ak rfl rfl<|bU T.ok 1 rfl hs rfl rfl rfl rfl rfl rfl rfl (by decide) rfl (Src.eI (hs.own 0 _ rfl).1).2 (nj [x.step]) (by show(xs.length+1)*8≤_;omega) (by show xs.length+1≤maxLen;unfold maxLen;omega) ?_;(repeat clear hs);rintro a6 c6 g10 hs ai;obtain⟨ar,aH⟩:=cr ai ar aH
  replace hs:St g g10 [rI (.slice a6 (xs.length+1) c6) (xs++[x.step]),rI (.slice a9 ys.length c9) ys]:=by
   have e:(xs++[x.step]).length=xs.length+1:=by simp
   unfold rI;rw[e,qy];exact hs.drop 0
  refine aX rfl<|an<|Wp 3 rfl<|zc (y:=x) aH eH rfl ?_;rintro b9 q9 Mx aL rfl;refine Wp 1 rfl<|q5 1 [.e aL 1] rfl ?_;clear aL;refine BP [(0,vI x.idn)] (ec [x.idn]) hs rfl rfl ?_;(repeat clear hs);rintro bl gl hs ai;obtain⟨ar,aH⟩:=cr ai ar aH;refine ak rfl rfl<|bU T.ok 2 rfl hs rfl rfl rfl rfl rfl rfl rfl (by decide) rfl (Src.eI (hs.own 0 _ rfl).1).2 (nj [x.idn]) (by show(ys.length+1)*8≤_;omega) (by show ys.length+1≤maxLen;unfold maxLen;omega) ?_;(repeat clear hs);rintro a7 c7 g10 hs ai;obtain⟨ar,aH⟩:=cr ai ar aH
  replace hs:St g g10 [rI (.slice a6 (xs++[x.step]).length c6) (xs++[x.step]),rI (.slice a7 (ys++[x.idn]).length c7) (ys++[x.idn])]:=by
   have e:(xs++[x.step]).length=xs.length+1:=by simp
   have e':(ys++[x.idn]).length=ys.length+1:=by simp
   unfold rI at hs⊢;rw[e]at hs;rw[e,e',qy ys];exact hs.drop 0
  exact Wp 1 rfl<|aA<|bJ<|aq<|an<|Wp 3 rfl<|aA<|fun a ha=>⟨m-1,by omega,i+1,_,_,_,_,_,_,_,rfl,hs,ar,aH,by omega,e1,e2,by omega,ha.keep ⟨rfl,kV rfl (by simp),kV rfl (by simp),kW rfl,trivial⟩⟩
 refine aQ (b:=decide ((i:Int)<(l.length:Int))) (decide_eq_false (by omega)) rfl ?_;rw[List.take_of_length_le (by omega)]at hx hy;obtain⟨g7,HA,CW,ai,cj⟩:=hs.cP (α:=Int) (i:=0) rfl (cY.ints _ _);obtain⟨g8,KG,tW,mc,dw⟩:=CW.cP (α:=Int) (i:=0) rfl (cY.ints _ _);rw[←HA,←KG];(repeat clear hs);have hs:=tW;clear CW tW;replace cj:=cj.mono mc;exact bc<|bg<|bg<|cA<|aq<|aZ rfl<|aG (HX rfl rfl rfl (hs.ret ⟨_,_,rfl,by rw[hx];exact cj,by rw[hy];exact dw⟩))
end Go.Proofs.YtbfjdfecgiegpaaGreatDoor
namespace Go.Proofs.YtbfjdfecgiegpaaGreatDoor
open Go Go.K Tryz
set_option maxRecDepth 10000
attribute [local irreducible] W WL cS bh bY bB bA bC cL cD
set_option maxHeartbeats 1000000
def QM:List Value:=[vI 0,vI 0,.slice none 0 0,.slice none 0 0]
def Vu(g:G)(r:Value)(o:Option bG):Prop:=∃cs,r= .tuple #[.agg cs,.bool o.isSome]∧ ∃a1 n1 c1 a2 n2 c2 m1 m2,cs=#[vI m1,vI m2,.slice a1 n1 c1,.slice a2 n2 c2]∧ ∀f,o=some f→fP g (.agg cs) f
def N4(n:Int):Fact:=⟨fun v _=> ∃q,v= .agg #[vI n,q],fun _ _ _ _ h=>h⟩
theorem HB(n:Int):wN (N4 n):=fun _ _ _ _ h=>h
theorem N5{g:G}{v:Value}{p:Int×List Int}(h:y8 g v p):(N4 p.1).p v g:=by obtain⟨_,_,_,e,_⟩:=h;exact⟨_,e⟩
theorem My(v:Value)(b:eL)(w time:Int)(g:G)(aT:fV g v b)(hb:Bl b):cN prog 35 #[v,vI w,vI time] g fun g' r=>Vu g' r (fQ b w time):=by
 have hs:=St.start g;have ar:=G.le.refl g;have e_:=aT;obtain⟨A,N',C,rfl,dS⟩:=il aT;have aT:fV g (.agg ((List.range 11).map fun i=> .slice (A i) (N' i) (C i)).toArray) b:=e_;clear e_;clear dS;have oT:fQ b w time=if((ni b w time).getD fS).prod=0 then none else match b.pw.find? fun f=>f.prod==((ni b w time).getD fS).prod with
  |none=>none
  |some t=>match kx t.text with
   | .inl f=>if(check f).1=0 then some f else none
   | .inr _=>none:=rfl
 refine enter func35 rfl ntmps35 rfl<|cR<|An hs rfl fun b2 g2 hs ai aD=>?_;replace aT:=aT.mono ai;replace hs:St g g2 []:=hs;refine w4 hs rfl fun b6 g1 hs ai=>?_;obtain⟨aD,aT⟩:=cr ai aD aT;refine aX rfl<|sP 3 [.z aD] rfl<|sO rfl (Hu _ b w time _ aT hb.size) ?_;rintro g1 _ aP rfl;replace hs:=hs.call aP;have ai:=aP.le;obtain⟨aD,aT⟩:=cr ai aD aT;clear aP;generalize((ni b w time).getD fS).prod=pr at*;refine aX rfl<|az<|aZ rfl ?_;by_cases KH:pr=0
 ·rw[if_pos KH]at oT;subst KH;refine aas rfl<|cR<|BO [] (QM) [(0,1),(1,1),(2,1),(3,1)] rfl<|sN 0 hs rfl fun g1 hs ai=>?_;obtain⟨aD,aT⟩:=cr ai aD aT;refine aX rfl ?_;rw[oT];exact aG (mr T.ok 0 rfl hs rfl rfl rfl rfl (hs.ret ⟨_,rfl,_,_,_,_,_,_,_,_,rfl,fun f h=>by cases h⟩))
 rw[if_neg KH]at oT;refine aQ (b:=pr==0) (beq_eq_false_iff_ne.2 KH) rfl<|aF<|aq<|sP 2 [.z aD] rfl<|sO rfl (KA _ b pr _ aT hb.size) ?_;rintro g1 _ aP rfl;replace hs:=hs.call aP;have ai:=aP.le;clear aP;cases Ac:b.pw.find? (fun f=>f.prod==pr)with
 |none=>
  rw[Ac]at oT;replace oT:fQ b w time=none:=oT;refine Wp 3 rfl<|w4 hs rfl fun P2 g1 hs ai=>sN 0 hs rfl fun g1 hs ai=>aX rfl<|az<|aZ rfl<|aas rfl<|cR<|BO [] (QM) [(0,1),(1,1),(2,1),(3,1)] rfl<|sN 1 hs rfl fun g1 hs ai=>aX rfl ?_;rw[oT];exact aG (mr T.ok 1 rfl hs rfl rfl rfl rfl (hs.ret ⟨_,rfl,_,_,_,_,_,_,_,_,rfl,fun f h=>by cases h⟩))
 |some t=>
  rw[Ac]at oT;replace oT:fQ b w time=match kx t.text with| .inl f=>if(check f).1=0 then some f else none| .inr _=>none:=oT
  have KI:=hb.text t (List.mem_of_find?_eq_some Ac);refine Wp 3 rfl<|w4 hs rfl fun P2 g1 hs ai=>Hs 0 hs rfl fun g2 hs ai aM=>aX rfl<|az<|aZ rfl<|aar rfl<|aF<|aq<|sP 2 [.z aM] rfl<|sO rfl (HC t.text _ KI) fun g6 v6 nY h6=>?_;replace hs:=hs.call nY;have ai:=nY.le;unfold jy at h6;cases sq:kx t.text with
  |inr k=>
   rw[sq]at h6 oT;replace oT:fQ b w time=none:=oT;obtain rfl:=h6;refine Wp 4 rfl<|w4 hs rfl fun Qy g1 hs ai=>sN 0 hs rfl fun g1 hs ai=>aX rfl<|az<|aZ rfl<|aas rfl<|cR<|BO [] (QM) [(0,1),(1,1),(2,1),(3,1)] rfl<|sN 1 hs rfl fun g1 hs ai=>aX rfl ?_;rw[oT];exact aG (mr T.ok 1 rfl hs rfl rfl rfl rfl (hs.ret ⟨_,rfl,_,_,_,_,_,_,_,_,rfl,fun f h=>by cases h⟩))
  |inl f=>
   rw[sq]at h6 oT;replace oT:fQ b w time=if(check f).1=0 then some f else none:=oT;obtain⟨v7,rfl,a1,n1,c1,a2,n2,c2,rfl,aW,cd⟩:=h6;have j8:fP g6 (.agg #[vI f.dm,vI f.dv,.slice a1 n1 c1,.slice a2 n2 c2]) f:=⟨a1,n1,c1,a2,n2,c2,rfl,aW,cd⟩;clear aW cd nY;refine Wp 4 rfl<|w4 hs rfl fun Qy g1 hs ai=>?_;replace j8:=j8.mono ai;refine Hs 0 hs rfl fun g2 hs ai cE=>?_;replace j8:=j8.mono ai;replace hs:St g _ [vO b6 QM 67]:=hs;refine aX rfl<|az<|aZ rfl<|aar rfl<|aF<|aq<|az ?_;apply qz (eF (.f (N4 (check f).1)::eF (.f Fact.any::[]))) 6 [(4,48)] [5] [[0,1,2]] (fun s=>match s with|0=>[vO b6 QM 67]|_+1=>[.obj b6 (.cells #[vI f.dm,vI f.dv,.slice a1 n1 c1,.slice a2 n2 c2] 67 (0,0))]) hs (by kernel_rfl) ⟨HB _,dq,trivial⟩
   ·refine Lm [[],[]] [.z cE,.z cE] (by kernel_rfl) rfl<|dx (lA 0 0 (js:=[(1,45)]) (by kernel_rfl) (by kernel_rfl) ?_) ?_
    ·intro s g' _ _ hf _;exact aax rfl (ay rfl (aC (Wc 92) aK rfl rfl rfl rfl rfl (HD _ f g' (j8.mono ((G.bI _).trans hf))) fun g3 v h1 h2=>⟨g3,rfl,h1,N5 h2⟩))
    refine dx (lA 0 1 (js:=[(2,46)]) (by kernel_rfl) (by kernel_rfl) ?_) ?_
    ·intro s g' _ _ hf _;refine ba fun v h=>?_;obtain⟨q,rfl⟩:=h;exact aj (ay rfl (aE _ T.ok rfl ⟨g',rfl,a_.refl _,rfl⟩))
    exact Lm [[3]] [] (by kernel_rfl) rfl<|dx (wO 0 (js:=[(0,44),(0,44)]) (by kernel_rfl) rfl fun g' hf hJ=>aaw rfl (rE rfl (aw T.ok 0 rfl hJ rfl rfl rfl rfl rfl rfl rfl rfl rfl fun g3 hs hle=>⟨g3,rfl,⟨hle,hs⟩,trivial⟩)))<|y9
   clear hs;intro g9 hs ai;replace j8:=j8.mono ai;refine aax rfl<|aX rfl<|aG (mr T.ok 0 rfl hs rfl rfl rfl rfl (hs.ret ?_));rw[oT];by_cases vC:(check f).1=0
   ·rw[if_pos vC,vC];exact⟨_,rfl,_,_,_,_,_,_,_,_,rfl,fun f' h=>by obtain rfl:=Option.some.inj h;exact j8⟩
   rw[if_neg vC,beq_eq_false_iff_ne.2 vC];exact⟨_,rfl,_,_,_,_,_,_,_,_,rfl,fun f h=>by cases h⟩
theorem y_{f:bG}(h:valid f=true):YI f:=by intro s hs;simp only[valid,Bool.and_eq_true]at h;have hr:=List.all_eq_true.1 h.1.2 s hs;simp only[cf,Bool.and_eq_true,decide_eq_true_eq]at hr;have:=hr.1.1.1.1.1.1.2.2;omega
theorem KJ(v:Value)(b:eL)(w time:Int)(g:G)(aT:fV g v b)(hb:Bl b):cN prog 13 #[v,vI w,vI time] g fun g' r=>Rs g' r (uZ b w time):=by
 have hs:=St.start g;have ar:=G.le.refl g;have e_:=aT;obtain⟨A,N',C,rfl,dS⟩:=il aT;have aT:fV g (.agg ((List.range 11).map fun i=> .slice (A i) (N' i) (C i)).toArray) b:=e_;clear e_;clear dS;refine enter func13 rfl ntmps13 rfl<|cR<|An hs rfl fun b2 g2 hs ai aD=>?_;replace aT:=aT.mono ai;replace hs:St g g2 []:=hs;refine aX rfl<|sP 3 [.z aD] rfl<|sO rfl (My _ b w time _ aT hb) fun g1 _ aP hp=>?_;replace hs:=hs.call aP;have ai:=aP.le;obtain⟨aD,aT⟩:=cr ai aD aT;clear aP;obtain⟨_,rfl,a1,n1,c1,a2,n2,c2,m1,m2,rfl,pg⟩:=hp;have pg:=fun f h=>pg f h
 unfold uZ;cases oT:fQ b w time with
 |none=>
  clear pg;refine Wp 3 rfl<|w4 hs rfl fun b7 g1 hs ai=>?_;obtain⟨aD,aT⟩:=cr ai aD aT;refine sN 0 hs rfl fun g1 hs ai=>?_;obtain⟨aD,aT⟩:=cr ai aD aT;exact aX rfl<|az<|aZ rfl<|aas rfl<|aZ rfl<|aG (nw rfl hs (Rs.nil _))
 |some f=>
  have j8:=pg f oT;clear pg;have hv:=pH oT;rw[←Et (y6 hv)];refine Wp 3 rfl<|w4 hs rfl fun b7 g1 hs ai=>?_;obtain⟨aD,j8,aT⟩:=dR ai aD j8 aT;refine Hs 0 hs rfl fun g2 hs ai aL=>?_;obtain⟨aD,j8,aT⟩:=dR ai aD j8 aT;have aM:EP g2 b7 0 [vI m1,vI m2,.slice a1 n1 c1,.slice a2 n2 c2]:=aL;clear aL;replace hs:St g _ []:=hs;refine aX rfl<|az<|aZ rfl<|aar rfl<|aF<|aq<|az ?_;have QO:=ku hb.size w time;apply ea (gU (.f (Fact.rs (fI b w time)):: .f (Fact.rs (yr f (fI b w time)))::[])) 6 [(5,23)] (by kernel_rfl)
  ·refine pO [[],[],[],[]] [.z aM,.z aD] hs rfl<|fR [(1,19),(2,20),(3,21)] (fun gd hf=>aay rfl (aaz rfl (wM _ b w time gd (aT.mono ((G.bI _).trans hf.le)) hb.size)))<|fR [(0,18),(4,22),(4,22)] (fun gd hf=>ah rfl (ba fun _ _=>ba fun v4 h4=>aj ?_)) ?_
   ·have h4:Rs gd v4 (fI b w time):=h4;have hc:=y' (.agg #[vI m1,vI m2,.slice a1 n1 c1,.slice a2 n2 c2]) v4 f (fI b w time) gd (j8.mono ((G.bI _).trans hf.le)) h4 QO (y_ hv);exact aaz rfl hc
   exact gG
  intro g9 FM;refine ba fun v5 h5=>aj ?_;have hs:=hs.dr.call FM;exact aX rfl<|aG (nw rfl hs h5)
theorem N6(v:Value)(b:eL)(x:bO)(g:G)(aT:fV g v b)(hb:vQ b):cN prog 29 #[v,fv x] g fun _ r=>r=CV (jN b x):=by
 have hs:=St.start g;have ar:=G.le.refl g;have e_:=aT;obtain⟨A,N',C,rfl,dS⟩:=il aT;have aT:fV g (.agg ((List.range 11).map fun i=> .slice (A i) (N' i) (C i)).toArray) b:=e_;clear e_;clear dS;refine enter func29 rfl ntmps29 rfl<|cR<|An hs rfl fun b2 g2 hs ai aD=>?_;replace aT:=aT.mono ai;refine An hs rfl fun b3 g2 hs ai aM=>?_;obtain⟨aD,aT⟩:=cr ai aD aT;replace hs:St g g2 []:=hs;refine w4 hs rfl fun b4 g1 hs ai=>?_;obtain⟨aD,aM,aT⟩:=dR ai aD aM aT;refine b_<|az ?_;apply bD hs (gU (fe (.e (vI (o6 b x.waf x.time))::dn (gU (.e (CV (jN b x))::[]))))) 19 [(18,23)] (by kernel_rfl) rfl
 ·exact pO [[],[],[1],[],[3],[0,2,4],[],[6],[],[8],[],[10],[],[12],[],[14],[],[16]] [.z aD,.z aM,.z aM,.c (Wc 76) fun g' h=>Ht _ b x.waf x.time g' (aT.mono h) hb,.z aM,.z aM,.z aM,.z aM,.z aM,.z aM] hs rfl<|fR [(5,10),(7,12),(9,14),(11,16),(13,18),(15,20),(17,22)] (fun gd hf=>aau rfl (aaH rfl (ay rfl (aS T.ok rfl (vs:=[(0,vI (o6 b x.waf x.time)),(1,vI x.step),(2,vI x.tool),(3,vI x.cham),(4,vI x.rcp),(5,vI x.rvn),(6,vI x.time)]) (cells:=nk (jN b x)) rfl rfl rfl rfl [(0,1),(1,1),(2,1),(3,1),(4,1),(5,1),(6,1)] rfl (by kernel_rfl) (aav rfl)))))<|gG
 (repeat clear hs);intro g6 hs ai;exact sN 0 hs rfl fun g1 hs ai=>b_<|aG (me T.ok 0 rfl hs rfl rfl rfl (hs.ret rfl))
end Go.Proofs.YtbfjdfecgiegpaaGreatDoor
namespace Go.Proofs.YtbfjdfecgiegpaaGreatDoor
open Go Go.K Tryz
set_option maxRecDepth 100000
set_option maxHeartbeats 1000000
def Zk:List UInt8:=[109,111,118,101,32,49,46,46,50,10,115,116,101,112,32,48,32,114,101,99,105,112,101,32,49,32,116,111,111,108,115,32,50,32,116,105,109,101,32,51,46,46,51,32,110,101,120,116,32,49,10,115,116,101,112,32,49,32,114,101,99,105,112,101,32,51,32,116,111,111,108,115,32,50,32,116,105,109,101,32,51,46,46,51,32,110,101,120,116,32,45,32,98,97,99,107,32,48,32,108,105,109,105,116,32,49,10]
def OZ:bO:={fS with kind:=5,ver:=1,prod:=5,text:=Zk}
def Qi:bO:={fS with kind:=4,ver:=1,waf:=4,lot:=7,prod:=5}
def G'(n _tool _step rcp:Int):bO:={fS with kind:=6,idn:=n,ver:=1,til:=900,tool:=2,rcp:=rcp,rvn:=1}
def Kn(n t til:Int):bO:={fS with kind:=1,idn:=n,ver:=1,time:=t,til:=til,waf:=4,tool:=2,rcp:=1,rvn:=1}
def Qj:bO:={fS with kind:=7,idn:=1,ver:=1,til:=900,waf:=4,par:=1}
def u4(p h:List bO):eL:=⟨fun i=>if i=0 then p else if i=3 then [Qi]else if i=4 then [OZ]else if i=5 then [G' 1 2 0 1,G' 2 2 0 3]else if i=6 then h else []⟩
def s8(waf step tool rcp:Int):gi:=⟨waf,step,tool,0,rcp,1,50⟩
def AI:List bO:=[Kn 11 10 15,Kn 12 20 25]
theorem pW{g:G}{s0 s3 s4 s5 s6:Value}{p h:List bO}(h0:Rs g s0 p)(h3:Rs g s3 [Qi])(h4:Rs g s4 [OZ])(h5:Rs g s5 [G' 1 2 0 1,G' 2 2 0 3])(h6:Rs g s6 h):fV g (.agg #[s0,.slice none 0 0,.slice none 0 0,s3,s4,s5,s6,.slice none 0 0,.slice none 0 0,.slice none 0 0,.slice none 0 0]) (u4 p h):=
 ⟨fun i=>match i with|0=>s0|3=>s3|4=>s4|5=>s5|6=>s6|_=> .slice none 0 0,rfl,fun i hi=>match i,hi with
  |0,_=>h0|1,_=>Rs.nil _|2,_=>Rs.nil _|3,_=>h3|4,_=>h4|5,_=>h5|6,_=>h6|7,_=>Rs.nil _|8,_=>Rs.nil _|9,_=>Rs.nil _|10,_=>Rs.nil _⟩
theorem IU{p h:List bO}(hp:p.length≤2)(hh:h.length≤2):Bl (u4 p h):=by
 refine⟨fun i=>?_,fun f hf=>?_⟩
 ·unfold u4;show(if i=0 then p else _).length≤_;split
  ·omega
  split
  ·decide
  split
  ·decide
  split
  ·decide
  split
  ·omega
  decide
 obtain rfl:f=OZ:=List.mem_singleton.1 hf;decide
theorem xt{v:Value}{b:eL}{a:gi}{g:G}{z:Int}(aT:fV g v b)(hb:Bl b)(cw:jo g)(e:wS b a=z):cN prog 14 #[v,CV a] g fun _ r=>r=vI z:=by subst e;exact MJ v b a g aT hb cw
abbrev oA(b:Nat)(a:gi):df:=vO b (nk a) 24
abbrev oB(b:Nat)(s0 s3 s4 s5 s6:Value):df:=.obj b (.cells #[s0,.slice none 0 0,.slice none 0 0,s3,s4,s5,s6,.slice none 0 0,.slice none 0 0,.slice none 0 0,.slice none 0 0] 28 (0,0))
theorem Om(g:G)(cw:jo g):cN prog 4 #[] g fun _ r=>r= .bool true:=by
 have hs:=St.start g;have ar:=G.le.refl g;refine enter func4 rfl ntmps4 rfl ?_
 (iterate 3 refine cG 1 rfl ?_)
 refine BO [(0,vI 5),(2,vI 1),(10,vI 5),(18,.string (bs Zk))] (cB (OZ)) [(0,1),(1,1),(2,1),(3,1),(4,1),(5,1),(6,1),(7,1),(8,1),(9,1),(10,1),(11,1),(12,1),(13,1),(14,1),(15,1),(16,1),(17,1),(18,1)] rfl<|BP [(0,fv (OZ))] (fl [OZ]) hs rfl rfl fun bF gl hs ai=>?_;replace cw:=cw.mono ai;obtain⟨gz,gF,cK,gW,cj⟩:=hs.cP (α:=bO) (xs:=[OZ]) (i:=0) rfl (cY.fl _ _);clear ai;have ai:=gW;rw[←gF];(repeat clear hs);have hs:St g gz []:=cK;clear cK;replace cw:=cw.mono ai;refine BO [(0,vI 4),(2,vI 1),(7,vI 4),(9,vI 7),(10,vI 5)] (cB (Qi)) [(0,1),(1,1),(2,1),(3,1),(4,1),(5,1),(6,1),(7,1),(8,1),(9,1),(10,1),(11,1),(12,1),(13,1),(14,1),(15,1),(16,1),(17,1),(18,1)] rfl<|BP [(0,fv (Qi))] (fl [Qi]) hs rfl rfl fun bL gl hs ai=>?_;obtain⟨cj,cw⟩:=cr ai cj cw;obtain⟨gz,gF,cK,gW,bR⟩:=hs.cP (α:=bO) (xs:=[Qi]) (i:=0) rfl (cY.fl _ _);clear ai;have ai:=gW;rw[←gF];(repeat clear hs);have hs:St g gz []:=cK;clear cK;obtain⟨cj,cw⟩:=cr ai cj cw;refine BO [(0,vI 6),(2,vI 1),(1,vI 1),(11,vI 2),(14,vI 1),(15,vI 1),(6,vI 900)] (cB (G' 1 2 0 1)) [(0,1),(1,1),(2,1),(3,1),(4,1),(5,1),(6,1),(7,1),(8,1),(9,1),(10,1),(11,1),(12,1),(13,1),(14,1),(15,1),(16,1),(17,1),(18,1)] rfl<|BO [(0,vI 6),(2,vI 1),(1,vI 2),(11,vI 2),(14,vI 3),(15,vI 1),(6,vI 900)] (cB (G' 2 2 0 3)) [(0,1),(1,1),(2,1),(3,1),(4,1),(5,1),(6,1),(7,1),(8,1),(9,1),(10,1),(11,1),(12,1),(13,1),(14,1),(15,1),(16,1),(17,1),(18,1)] rfl<|BP [(0,fv (G' 1 2 0 1)),(1,fv (G' 2 2 0 3))] (fl [G' 1 2 0 1,G' 2 2 0 3]) hs rfl rfl fun bQ gl hs ai=>?_;obtain⟨bR,cj,cw⟩:=dR ai bR cj cw;obtain⟨gz,gF,cK,gW,dw⟩:=hs.cP (α:=bO) (xs:=[G' 1 2 0 1,G' 2 2 0 3]) (i:=0) rfl (cY.fl _ _);clear ai;have ai:=gW;rw[←gF];(repeat clear hs);have hs:St g gz []:=cK;clear cK;obtain⟨bR,cj,cw⟩:=dR ai bR cj cw;refine BO [(4,.slice (vA bF) 1 1),(3,.slice (vA bL) 1 1),(5,.slice (vA bQ) 2 2)] [.slice none 0 0,.slice none 0 0,.slice none 0 0,.slice (vA bL) 1 1,.slice (vA bF) 1 1,.slice (vA bQ) 2 2,.slice none 0 0,.slice none 0 0,.slice none 0 0,.slice none 0 0,.slice none 0 0] [(0,1),(1,1),(2,1),(3,1),(4,1),(5,1),(6,1),(7,1),(8,1),(9,1),(10,1)] rfl<|w4 hs rfl fun b2 g1 hs ai=>?_;obtain⟨bR,cj,dw,cw⟩:=dK ai bR cj dw cw;refine sN 0 hs rfl fun g1 hs ai=>?_;obtain⟨bR,cj,dw,cw⟩:=dK ai bR cj dw cw;replace hs:St g g1 [oB b2 (.slice none 0 0) (.slice (vA bL) 1 1) (.slice (vA bF) 1 1) (.slice (vA bQ) 2 2) (.slice none 0 0)]:=hs;refine cR<|BO [(0,vI 4),(2,vI 2),(4,vI 1),(5,vI 1),(6,vI 50)] (nk (s8 4 0 2 1)) [(0,1),(1,1),(2,1),(3,1),(4,1),(5,1),(6,1)] rfl<|w4 hs rfl fun b3 g1 hs ai=>?_;obtain⟨bR,cj,dw,cw⟩:=dK ai bR cj dw cw;refine sN 0 hs rfl fun g1 hs ai=>?_;obtain⟨bR,cj,dw,cw⟩:=dK ai bR cj dw cw;replace hs:St g g1 [oA b3 (s8 4 0 2 1),oB b2 (.slice none 0 0) (.slice (vA bL) 1 1) (.slice (vA bF) 1 1) (.slice (vA bQ) 2 2) (.slice none 0 0)]:=hs;refine c_ 2 [.o 1,.o 0] hs rfl<|sO rfl (xt (b:=u4 [] []) (a:=s8 4 0 2 1) (pW (Rs.nil _) bR cj dw (Rs.nil _)) (IU (by decide) (by decide)) cw (show wS (u4 [] []) (s8 4 0 2 1)=0 from by decide+kernel)) ?_;rintro g1 _ aP rfl;replace hs:=hs.call aP;have ai:=aP.le;obtain⟨bR,cj,dw,cw⟩:=dK ai bR cj dw cw;clear aP;refine Wp 1 rfl<|cG 1 rfl<|sN 0 hs rfl fun g1 hs ai=>?_;obtain⟨bR,cj,dw,cw⟩:=dK ai bR cj dw cw;(repeat clear yH);replace hs:St g g1 [oA b3 (s8 4 0 2 3),oB b2 (.slice none 0 0) (.slice (vA bL) 1 1) (.slice (vA bF) 1 1) (.slice (vA bQ) 2 2) (.slice none 0 0)]:=hs;refine c_ 2 [.o 1,.o 0] hs rfl<|sO rfl (xt (b:=u4 [] []) (a:=s8 4 0 2 3) (pW (Rs.nil _) bR cj dw (Rs.nil _)) (IU (by decide) (by decide)) cw (show wS (u4 [] []) (s8 4 0 2 3)=8 from by decide+kernel)) ?_;rintro g1 _ aP rfl;replace hs:=hs.call aP;have ai:=aP.le;obtain⟨bR,cj,dw,cw⟩:=dK ai bR cj dw cw;clear aP;refine Wp 1 rfl<|cG 1 rfl<|sN 0 hs rfl fun g1 hs ai=>?_;obtain⟨bR,cj,dw,cw⟩:=dK ai bR cj dw cw;(repeat clear yH);replace hs:St g g1 [oA b3 (s8 4 0 2 1),oB b2 (.slice none 0 0) (.slice (vA bL) 1 1) (.slice (vA bF) 1 1) (.slice (vA bQ) 2 2) (.slice none 0 0)]:=hs;refine cG 1 rfl<|sN 0 hs rfl fun g1 hs ai=>?_;obtain⟨bR,cj,dw,cw⟩:=dK ai bR cj dw cw;(repeat clear yH);replace hs:St g g1 [oA b3 (s8 4 0 3 1),oB b2 (.slice none 0 0) (.slice (vA bL) 1 1) (.slice (vA bF) 1 1) (.slice (vA bQ) 2 2) (.slice none 0 0)]:=hs;refine c_ 2 [.o 1,.o 0] hs rfl<|sO rfl (xt (b:=u4 [] []) (a:=s8 4 0 3 1) (pW (Rs.nil _) bR cj dw (Rs.nil _)) (IU (by decide) (by decide)) cw (show wS (u4 [] []) (s8 4 0 3 1)=20 from by decide+kernel)) ?_;rintro g1 _ aP rfl;replace hs:=hs.call aP;have ai:=aP.le;obtain⟨bR,cj,dw,cw⟩:=dK ai bR cj dw cw;clear aP;refine Wp 1 rfl<|cG 1 rfl<|sN 0 hs rfl fun g1 hs ai=>?_;obtain⟨bR,cj,dw,cw⟩:=dK ai bR cj dw cw;(repeat clear yH);replace hs:St g g1 [oA b3 (s8 4 0 2 1),oB b2 (.slice none 0 0) (.slice (vA bL) 1 1) (.slice (vA bF) 1 1) (.slice (vA bQ) 2 2) (.slice none 0 0)]:=hs;refine cG 1 rfl<|sN 0 hs rfl fun g1 hs ai=>?_;obtain⟨bR,cj,dw,cw⟩:=dK ai bR cj dw cw;(repeat clear yH);replace hs:St g g1 [oA b3 (s8 4 1 2 1),oB b2 (.slice none 0 0) (.slice (vA bL) 1 1) (.slice (vA bF) 1 1) (.slice (vA bQ) 2 2) (.slice none 0 0)]:=hs;refine c_ 2 [.o 1,.o 0] hs rfl<|sO rfl (xt (b:=u4 [] []) (a:=s8 4 1 2 1) (pW (Rs.nil _) bR cj dw (Rs.nil _)) (IU (by decide) (by decide)) cw (show wS (u4 [] []) (s8 4 1 2 1)=10 from by decide+kernel)) ?_;rintro g1 _ aP rfl;replace hs:=hs.call aP;have ai:=aP.le;obtain⟨bR,cj,dw,cw⟩:=dK ai bR cj dw cw;clear aP;refine Wp 1 rfl<|cG 1 rfl<|sN 0 hs rfl fun g1 hs ai=>?_;obtain⟨bR,cj,dw,cw⟩:=dK ai bR cj dw cw;(repeat clear yH);replace hs:St g g1 [oA b3 (s8 4 7 2 1),oB b2 (.slice none 0 0) (.slice (vA bL) 1 1) (.slice (vA bF) 1 1) (.slice (vA bQ) 2 2) (.slice none 0 0)]:=hs;refine c_ 2 [.o 1,.o 0] hs rfl<|sO rfl (xt (b:=u4 [] []) (a:=s8 4 7 2 1) (pW (Rs.nil _) bR cj dw (Rs.nil _)) (IU (by decide) (by decide)) cw (show wS (u4 [] []) (s8 4 7 2 1)=2 from by decide+kernel)) ?_;rintro g1 _ aP rfl;replace hs:=hs.call aP;have ai:=aP.le;obtain⟨bR,cj,dw,cw⟩:=dK ai bR cj dw cw;clear aP;refine Wp 1 rfl<|cG 1 rfl<|sN 0 hs rfl fun g1 hs ai=>?_;obtain⟨bR,cj,dw,cw⟩:=dK ai bR cj dw cw;(repeat clear yH);replace hs:St g g1 [oA b3 (s8 4 0 2 1),oB b2 (.slice none 0 0) (.slice (vA bL) 1 1) (.slice (vA bF) 1 1) (.slice (vA bQ) 2 2) (.slice none 0 0)]:=hs;refine cG 1 rfl<|sN 0 hs rfl fun g1 hs ai=>?_;obtain⟨bR,cj,dw,cw⟩:=dK ai bR cj dw cw;(repeat clear yH);replace hs:St g g1 [oA b3 (s8 9 0 2 1),oB b2 (.slice none 0 0) (.slice (vA bL) 1 1) (.slice (vA bF) 1 1) (.slice (vA bQ) 2 2) (.slice none 0 0)]:=hs;refine c_ 2 [.o 1,.o 0] hs rfl<|sO rfl (xt (b:=u4 [] []) (a:=s8 9 0 2 1) (pW (Rs.nil _) bR cj dw (Rs.nil _)) (IU (by decide) (by decide)) cw (show wS (u4 [] []) (s8 9 0 2 1)=1 from by decide+kernel)) ?_;rintro g1 _ aP rfl;replace hs:=hs.call aP;have ai:=aP.le;obtain⟨bR,cj,dw,cw⟩:=dK ai bR cj dw cw;clear aP;refine Wp 1 rfl<|cG 1 rfl<|sN 0 hs rfl fun g1 hs ai=>?_;obtain⟨bR,cj,dw,cw⟩:=dK ai bR cj dw cw;(repeat clear yH);replace hs:St g g1 [oA b3 (s8 4 0 2 1),oB b2 (.slice none 0 0) (.slice (vA bL) 1 1) (.slice (vA bF) 1 1) (.slice (vA bQ) 2 2) (.slice none 0 0)]:=hs;refine c_ 1 [.o 1] hs rfl<|w4 hs rfl fun P1 g1 hs ai=>?_;obtain⟨bR,cj,dw,cw⟩:=dK ai bR cj dw cw;refine sN 0 hs rfl fun g1 hs ai=>?_;obtain⟨bR,cj,dw,cw⟩:=dK ai bR cj dw cw;refine cR<|BO [(0,vI 7),(2,vI 1),(1,vI 1),(7,vI 4),(6,vI 900),(17,vI 1)] (cB (Qj)) [(0,1),(1,1),(2,1),(3,1),(4,1),(5,1),(6,1),(7,1),(8,1),(9,1),(10,1),(11,1),(12,1),(13,1),(14,1),(15,1),(16,1),(17,1),(18,1)] rfl<|BP [(0,fv (Qj))] (fl [Qj]) hs rfl rfl fun bH gl hs ai=>?_;obtain⟨bR,cj,dw,cw⟩:=dK ai bR cj dw cw;obtain⟨gz,gF,cK,gW,G9⟩:=hs.cP (α:=bO) (xs:=[Qj]) (i:=0) rfl (cY.fl _ _);clear ai;have ai:=gW;rw[←gF];(repeat clear hs);have hs:St g gz [oB P1 (.slice none 0 0) (.slice (vA bL) 1 1) (.slice (vA bF) 1 1) (.slice (vA bQ) 2 2) (.slice none 0 0),oA b3 (s8 4 0 2 1),oB b2 (.slice none 0 0) (.slice (vA bL) 1 1) (.slice (vA bF) 1 1) (.slice (vA bQ) 2 2) (.slice none 0 0)]:=cK;clear cK;obtain⟨bR,cj,dw,cw⟩:=dK ai bR cj dw cw;refine Wp 1 rfl<|sN 0 hs rfl fun g1 hs ai=>?_;obtain⟨bR,cj,dw,G9,cw⟩:=nX ai bR cj dw G9 cw;(repeat clear yH);replace hs:St g g1 [oB P1 (.slice none 0 0) (.slice (vA bL) 1 1) (.slice (vA bF) 1 1) (.slice (vA bQ) 2 2) (.slice (vA bH) 1 1),oA b3 (s8 4 0 2 1),oB b2 (.slice none 0 0) (.slice (vA bL) 1 1) (.slice (vA bF) 1 1) (.slice (vA bQ) 2 2) (.slice none 0 0)]:=hs;refine c_ 2 [.o 0,.o 1] hs rfl<|sO rfl (xt (b:=u4 [] [Qj]) (a:=s8 4 0 2 1) (pW (Rs.nil _) bR cj dw G9) (IU (by decide) (by decide)) cw (show wS (u4 [] [Qj]) (s8 4 0 2 1)=32 from by decide+kernel)) ?_;rintro g1 _ aP rfl;replace hs:=hs.call aP;have ai:=aP.le;obtain⟨bR,cj,dw,cw⟩:=dK ai bR cj dw cw;clear aP;refine Wp 1 rfl<|cR<|BO [(0,vI 1),(2,vI 1),(1,vI 11),(7,vI 4),(11,vI 2),(14,vI 1),(15,vI 1),(5,vI 10),(6,vI 15)] (cB (Kn 11 10 15)) [(0,1),(1,1),(2,1),(3,1),(4,1),(5,1),(6,1),(7,1),(8,1),(9,1),(10,1),(11,1),(12,1),(13,1),(14,1),(15,1),(16,1),(17,1),(18,1)] rfl<|BO [(0,vI 1),(2,vI 1),(1,vI 12),(7,vI 4),(11,vI 2),(14,vI 1),(15,vI 1),(5,vI 20),(6,vI 25)] (cB (Kn 12 20 25)) [(0,1),(1,1),(2,1),(3,1),(4,1),(5,1),(6,1),(7,1),(8,1),(9,1),(10,1),(11,1),(12,1),(13,1),(14,1),(15,1),(16,1),(17,1),(18,1)] rfl<|BP [(0,fv (Kn 11 10 15)),(1,fv (Kn 12 20 25))] (fl [Kn 11 10 15,Kn 12 20 25]) hs rfl rfl fun bP gl hs ai=>?_;obtain⟨bR,cj,dw,cw⟩:=dK ai bR cj dw cw;obtain⟨gz,gF,cK,gW,aH⟩:=hs.cP (α:=bO) (xs:=[Kn 11 10 15,Kn 12 20 25]) (i:=0) rfl (cY.fl _ _);clear ai;have ai:=gW;rw[←gF];(repeat clear hs);have hs:St g gz [oB P1 (.slice none 0 0) (.slice (vA bL) 1 1) (.slice (vA bF) 1 1) (.slice (vA bQ) 2 2) (.slice (vA bH) 1 1),oA b3 (s8 4 0 2 1),oB b2 (.slice none 0 0) (.slice (vA bL) 1 1) (.slice (vA bF) 1 1) (.slice (vA bQ) 2 2) (.slice none 0 0)]:=cK;clear cK;obtain⟨bR,cj,dw,cw⟩:=dK ai bR cj dw cw;refine Wp 1 rfl<|sN 2 hs rfl fun g1 hs ai=>?_;obtain⟨aH,bR,cj,dw,cw⟩:=nX ai aH bR cj dw cw;(repeat clear yH);replace hs:St g g1 [oB P1 (.slice none 0 0) (.slice (vA bL) 1 1) (.slice (vA bF) 1 1) (.slice (vA bQ) 2 2) (.slice (vA bH) 1 1),oA b3 (s8 4 0 2 1),oB b2 (.slice (vA bP) 2 2) (.slice (vA bL) 1 1) (.slice (vA bF) 1 1) (.slice (vA bQ) 2 2) (.slice none 0 0)]:=hs;refine c_ 1 [.o 2] hs rfl<|sO rfl (HT _ (u4 AI []) 4 20 _ (pW aH bR cj dw (Rs.nil _)) (IU (by decide) (by decide))) ?_;rintro g1 _ aP ⟨v1,v2,rfl,aW,cd⟩;replace hs:=hs.call aP;have ai:=aP.le;obtain⟨aH,bR,cj,dw,cw⟩:=nX ai aH bR cj dw cw;clear aP;rw[show(fI (u4 AI []) 4 20).map (·.step)=[0,0]from by decide+kernel]at aW;rw[show(fI (u4 AI []) 4 20).map (·.idn)=[11,12]from by decide+kernel]at cd;refine Wp 5 rfl<|c_ 28 [.o 2] hs rfl<|sO rfl (Am _ (u4 AI []) 4 15 _ (pW aH bR cj dw (Rs.nil _)) (IU (by decide) (by decide)) cw) fun g1 _ aP fh=>?_;replace hs:=hs.call aP;have ai:=aP.le;obtain⟨aH,aW,cd,bR,cj,dw⟩:=hZ ai aH aW cd bR cj dw;replace cw:=cw.mono ai;clear aP;rw[show uZ (u4 AI []) 4 15=[1]from by decide+kernel]at fh;refine BP [(0,vI (1))] [vI (1)] hs rfl rfl fun bl gl hs ai=>?_;obtain⟨aH,aW,cd,bR,cj,dw⟩:=hZ ai aH aW cd bR cj dw;obtain⟨fh,cw⟩:=cr ai fh cw;obtain⟨gz,gF,cK,gW,gn⟩:=hs.cP (α:=Int) (xs:=[1]) (i:=0) rfl (cY.ints _ [1]);clear ai;have ai:=gW;rw[←gF];replace hs:=cK;clear cK;obtain⟨aH,aW,cd,bR,cj,dw⟩:=hZ ai aH aW cd bR cj dw;obtain⟨fh,cw⟩:=cr ai fh cw;refine sO rfl (qE _ _ _ _ _ fh gn) ?_;rintro g1 _ aP rfl;replace hs:=hs.call aP;have ai:=aP.le;obtain⟨aH,aW,cd,bR,cj,dw⟩:=hZ ai aH aW cd bR cj dw;obtain⟨fh,gn,cw⟩:=dR ai fh gn cw;clear aP;refine cX (.bool true) (t:=97) rfl (congrArg Value.bool (by decide))<|Wm 3 [.o 2] hs rfl ?_;clear fh gn;refine sO rfl (Am _ (u4 AI []) 4 5 _ (pW aH bR cj dw (Rs.nil _)) (IU (by decide) (by decide)) cw) fun g1 _ aP fh=>?_;replace hs:=hs.call aP;have ai:=aP.le;obtain⟨aH,aW,cd,bR,cj,dw⟩:=hZ ai aH aW cd bR cj dw;replace cw:=cw.mono ai;clear aP;rw[show uZ (u4 AI []) 4 5=[0]from by decide+kernel]at fh;refine BP [(0,vI (0))] [vI (0)] hs rfl rfl fun bl gl hs ai=>?_;obtain⟨aH,aW,cd,bR,cj,dw⟩:=hZ ai aH aW cd bR cj dw;obtain⟨fh,cw⟩:=cr ai fh cw;obtain⟨gz,gF,cK,gW,gn⟩:=hs.cP (α:=Int) (xs:=[0]) (i:=0) rfl (cY.ints _ [0]);clear ai;have ai:=gW;rw[←gF];replace hs:=cK;clear cK;obtain⟨aH,aW,cd,bR,cj,dw⟩:=hZ ai aH aW cd bR cj dw;obtain⟨fh,cw⟩:=cr ai fh cw;refine sO rfl (qE _ _ _ _ _ fh gn) ?_;rintro g1 _ aP rfl;replace hs:=hs.call aP;have ai:=aP.le;obtain⟨aH,aW,cd,bR,cj,dw⟩:=hZ ai aH aW cd bR cj dw;obtain⟨fh,gn,cw⟩:=dR ai fh gn cw;clear aP;refine cX (.bool true) (t:=103) rfl (congrArg Value.bool (by decide))<|Wp 3 rfl ?_;clear fh gn;refine BP [(0,vI (0)),(1,vI (0))] [vI (0),vI (0)] hs rfl rfl fun bl gl hs ai=>?_;obtain⟨aH,aW,cd,bR,cj,dw⟩:=hZ ai aH aW cd bR cj dw;replace cw:=cw.mono ai;obtain⟨gz,gF,cK,gW,gn⟩:=hs.cP (α:=Int) (xs:=[0,0]) (i:=0) rfl (cY.ints _ [0,0]);clear ai;have ai:=gW;rw[←gF];replace hs:=cK;clear cK;obtain⟨aH,aW,cd,bR,cj,dw⟩:=hZ ai aH aW cd bR cj dw;replace cw:=cw.mono ai;refine sO rfl (qE _ _ _ _ _ aW gn) ?_;rintro g1 _ aP rfl;replace hs:=hs.call aP;have ai:=aP.le;obtain⟨aH,cd,bR,cj,dw,gn⟩:=hZ ai aH cd bR cj dw gn;replace cw:=cw.mono ai;clear aP;refine cX (.bool true) (t:=108) rfl (congrArg Value.bool (by decide))<|Wp 3 rfl ?_;clear gn;refine BP [(0,vI (11)),(1,vI (12))] [vI (11),vI (12)] hs rfl rfl fun bl gl hs ai=>?_;obtain⟨aH,cd,bR,cj,dw,cw⟩:=hZ ai aH cd bR cj dw cw;obtain⟨gz,gF,cK,gW,gn⟩:=hs.cP (α:=Int) (xs:=[11,12]) (i:=0) rfl (cY.ints _ [11,12]);clear ai;have ai:=gW;rw[←gF];replace hs:=cK;clear cK;obtain⟨aH,cd,bR,cj,dw,cw⟩:=hZ ai aH cd bR cj dw cw;refine sO rfl (qE _ _ _ _ _ cd gn) ?_;rintro g1 _ aP rfl;replace hs:=hs.call aP;have ai:=aP.le;obtain⟨aH,bR,cj,dw,gn,cw⟩:=hZ ai aH bR cj dw gn cw;clear aP;refine cX (.bool true) (t:=113) rfl (congrArg Value.bool (by decide))<|Wm 3 [.o 2] hs rfl ?_;clear gn;refine sO rfl (EE _ (u4 AI []) _ (pW aH bR cj dw (Rs.nil _)) (IU (by decide) (by decide)) cw) fun g1 _ aP fh=>?_;replace hs:=hs.call aP;have ai:=aP.le;clear aP;rw[show pE (u4 AI [])=[12]from by decide+kernel]at fh;refine BP [(0,vI (12))] [vI (12)] hs rfl rfl fun bl gl hs ai=>?_;replace fh:=fh.mono ai;obtain⟨gz,gF,cK,gW,gn⟩:=hs.cP (α:=Int) (xs:=[12]) (i:=0) rfl (cY.ints _ [12]);clear ai;have ai:=gW;rw[←gF];replace hs:=cK;clear cK;replace fh:=fh.mono ai;refine sO rfl (qE _ _ _ _ _ fh gn) ?_;rintro g1 _ aP rfl;replace hs:=hs.call aP;have ai:=aP.le;clear aP;exact cX (.bool true) (t:=119) rfl (congrArg Value.bool (by decide))<|aX rfl<|aG (nw rfl hs rfl)
end Go.Proofs.YtbfjdfecgiegpaaGreatDoor
namespace Go.Proofs.YtbfjdfecgiegpaaGreatDoor
open Go Go.K
set_option maxRecDepth 10000
attribute [local irreducible] W WL cS bh bY bB bA bC cL cD
theorem DO{f:bO}(h:fU f≠[]):fT f=true:=by
 unfold fU at h;cases hv:fT f with
 |true=>rfl
 |false=>rw[hv]at h;exact absurd rfl h
theorem B7{f:bO}(h:fT f=true):f.text.length≤8192:=by
 unfold fT at h;split at h
 ·cases h
 split at h
 ·cases h
 rename_i hc;simp only[Bool.or_eq_true,decide_eq_true_eq,not_or]at hc;omega
theorem LC{l:List bO}{day:Int}{i:Nat}{f:bO}(h:f∈(ofM l day).ls i):fT f=true:=by have h1:f∈iy (kM day l) i:=(iJ _).mem_iff.1 h;obtain⟨k,hk,_⟩:=sG h1;obtain⟨_,h2⟩:=Eo day l;obtain⟨e,eO⟩:=h2 _ hk;exact DO (by rw[←e];exact eO)
theorem Q9{l:List bO}(day:Int)(hl:l.length≤1000000):Bl (ofM l day):=by
 refine⟨fun i=>?_,fun f hf=>?_⟩
 ·show(dC (mK i) (iy (kM day l) i)).length≤_;rw[fG];exact Nat.le_trans (wD _ _) (Nat.le_trans (Bu day l) hl)
 have:=B7 (LC (i:=4) hf);omega
def bn(c:Bool)(k:Int):Int:=bif c then k else 0
theorem QQ(c1 c2 c3 c4 c5 c6:Bool):Ge (Gb [c1,c2,c3,c4,c5,c6])=bn c1 1+bn c2 2+bn c3 4+bn c4 8+bn c5 16+bn c6 32:=by cases c1<;>cases c2<;>cases c3<;>cases c4<;>cases c5<;>cases c6<;>rfl
end Go.Proofs.YtbfjdfecgiegpaaGreatDoor
