/- Parts of the proof, from: The walks through package graph: ways. -/
import Derived.Test.YtgehbndkogohpaaGreatDoorYl
import Derived.Test.YtgehbndkogohpaaGreatDoorYb
import Derived.Test.YtgehbndkogohpaaGreatDoorYi
import Derived.Lib.AppendZeros
import Derived.Test.YtgehbndkogohpaaGreatDoorYk
import Derived.Test.YtgehbndkogohpaaGreatDoorYc
namespace Go.Proofs.YtgehbndkogohpaaGreatDoor
open Go Go.K
set_option maxRecDepth 10000
attribute [local irreducible] W WL cD bc bK bd bg bh cq ck
set_option maxHeartbeats 4000000
def FN(s:Step):Fact:=⟨fun v g=>fV g v s,fun _ _ _ hf h=>fV.mono hf.le h⟩
def PF(w:Wy):Fact:=⟨fun v g=>qH g v w,fun _ _ _ hf h=>qH.mono hf.le h⟩
theorem rX(off:Nat)(s:Step):pH (mQ off s):=fun _ _ _ hle ⟨b,p,ys,e,h1,h2⟩=>⟨b,p,ys,e,h1.mono hle,El.mono (α:=Step) hle h2⟩
theorem pS(s:Step):pH (FN s):=fun _ _ _ hle h=>fV.mono hle h
theorem rY(w:Wy):pH (PF w):=fun _ _ _ hle h=>qH.mono hle h
def PG(B:Nat)(xs:List Int):Fact:=
 ⟨fun v g=> ∃cells,cS.holds B g (.row 3 1 v xs.length cells)∧cG g cells xs,fun _ _ _ hf ⟨cells,h1,h2⟩=>⟨cells,h1.kept fun b hb=>⟨hf.below.block b (h1.lt b hb).2.1,hf.im b (h1.lt b hb).2.1⟩,h2.mono hf.le⟩⟩
theorem Ib{B:Nat}{xs:List Int}{v:Value}{g g':G}(h:km 3 g xs g' v)(hB:B≤g.w.heap.size):(PG B xs).p v g':=by
 obtain⟨cells,h1,h2⟩:=h;refine⟨cells,⟨⟨h1.1.1,?_⟩,h1.2⟩,h2⟩;rcases h1.1.2 with h'|⟨b,off,cap,cur,e1,hb,h'⟩
 ·exact .inl h'
 exact .inr ⟨b,off,cap,cur,e1,Nat.le_trans hB hb,h'⟩
theorem sD{f:bQ}(h:valid f=true):0≤f.bB∧f.bB≤10000:=by unfold valid dA at h;simp only[Bool.and_eq_true,decide_eq_true_eq]at h;omega
theorem FO{s:Step}{n:Int}(h:bT s n=true):1≤s.min∧s.min≤10000:=by unfold bT at h;simp only[Bool.and_eq_true,decide_eq_true_eq]at h;omega
theorem FP(v:Value)(f:bQ)(start:Int)(g:G)(dj:ff g v f)(fu:valid f=true)(h0:0≤start)(h1:start<f.steps.length):
  CallsIn Wd 0 Tryz.prog 233 #[v,.int .i64 start] g.w (cF g fun g' r=>Rs g' r (ways f start)):=by
 obtain⟨a1,n1,c1,a2,n2,c2,rfl,aH,aU⟩:=id dj;obtain⟨_,_,e⟩:=aH.isSlice;obtain⟨rfl,rfl,rfl⟩:=Value.slice.inj e;clear e;have PH:=ml fu;have hs:=St.start g;refine enter Tryz.func233 rfl Tryz.ntmps233 rfl ?_;apply cM;refine ak rfl rfl (aO rfl hs rfl rfl ?_);clear hs;rintro bf g1 hs ah;replace aH:=aH.mono ah;obtain⟨g2,bL,aT,ah,aL⟩:=hs.ba (i:=0) rfl;replace hs:=aT;clear aT;rw[←bL];replace aH:=aH.mono ah;have aC:=aL;clear aL;refine bj rfl ?_;refine dz 3 [.z aC] (St.start _) rfl ?_;refine ak rfl rfl (qJ T.ok rfl hs rfl rfl rfl rfl rfl rfl (by decide) rfl (by show 8*f.steps.length≤_;omega) (by unfold maxLen;omega) ?_);rintro ob g1 hs ah;obtain⟨aC,aH⟩:=cf ah aC aH;skip;refine ak rfl rfl (aK T.ok rfl hs rfl rfl ?_);clear hs;rintro bo g1 hs ah;obtain⟨aC,aH⟩:=cf ah aC aH;skip;refine bA rfl (az T.ok 0 rfl hs rfl rfl rfl rfl rfl rfl rfl rfl rfl ?_);replace hs:=hs;rintro g1 hs ah;obtain⟨aC,aH⟩:=cf ah aC aH;obtain⟨g2,bL,aT,ah,aL⟩:=hs.ba (i:=0) rfl;replace hs:=aT;clear aT;rw[←bL];obtain⟨aC,aH⟩:=cf ah aC aH;have aR:=aL;clear aL;apply bW;refine dz 3 [.z aC] (St.start _) rfl ?_;refine ak rfl rfl (qJ T.ok rfl hs rfl rfl rfl rfl rfl rfl (by decide) rfl (by show 1*f.steps.length≤_;omega) (by unfold maxLen;omega) ?_);rintro od g1 hs ah;obtain⟨aC,aR,aH⟩:=dy ah aC aR aH;refine bj rfl ?_;apply cM;refine ak rfl rfl (aK T.ok rfl hs rfl rfl ?_);clear hs;rintro bb g1 hs ah;obtain⟨aC,aR,aH⟩:=dy ah aC aR aH;skip;refine bA rfl (az T.ok 0 rfl hs rfl rfl rfl rfl rfl rfl rfl rfl rfl ?_);replace hs:=hs;rintro g1 hs ah;obtain⟨aC,aR,aH⟩:=dy ah aC aR aH;obtain⟨g2,bL,aT,ah,aL⟩:=hs.ba (i:=0) rfl;replace hs:=aT;clear aT;rw[←bL];obtain⟨aC,aR,aH⟩:=dy ah aC aR aH;have cU:=aL;clear aL;apply bW;refine aY rfl ?_;apply aD;have yS:(List.replicate f.steps.length [Value.bool false]).flatten=(List.replicate f.steps.length false).map Value.bool:=by simp
 have Cy:(List.replicate f.steps.length [Value.pointer none]).flatten=List.replicate f.steps.length (Value.pointer none):=by simp
 have dH:St g g2 [pT od f.steps.length (List.replicate f.steps.length false),x5 ob f.steps.length (List.replicate f.steps.length (.pointer none))]:=by unfold pT x5;rw[←yS,←Cy];exact hs
 clear hs;have hs:=dH;have vp:rW g2 ob f.steps.length bo bb:=⟨aR,cU⟩
 have d_:cG g2 (List.replicate f.steps.length (Value.pointer none)) (List.replicate f.steps.length (none:Option Wy)):=by have:=cG.replicate (α:=Option Wy) (g:=g2) (cs:=[Value.pointer none]) (x:=none) rfl f.steps.length;rwa [Cy]at this
 skip;apply ea (iY (eQ (fe (.f (mQ 0 (cn f start))::(.f (FN (cn f start))::[]))))) 9 [(0,21),(3,24),(8,29)] (by kernel_rfl)
 ·refine Dm [[],[],[1]] [.e aC 0] (St.start _) (by kernel_rfl) rfl ?_;refine ay (an (js:=[(2,23)]) (by kernel_rfl) fun gd hf=>?_) ?_
  ·skip;refine ai rfl ?_;apply aj;refine aB rfl ?_;refine aQ T.ok rfl (vs:=[(0,.int .i64 f.bB)]) (cells:=[.int .i64 f.bB,.slice none 0 0]) rfl rfl rfl rfl [(0,1),(1,1)] rfl (by kernel_rfl) ?_;refine⟨_,rfl,a_.refl _,?_⟩;exact rfl
  refine Dm [[],[4],[]] [.e aC 2] (St.start _) (by kernel_rfl) rfl ?_;refine ay (an (js:=[(5,26),(6,27)]) (by kernel_rfl) fun gd hf=>?_) ?_
  ·have dG:=(G.bu _).trans hf.le;refine ai rfl ?_;refine ai rfl ?_;apply aj;refine aB rfl ?_;refine aW T.ok rfl (aH.mono dG) (y:=cn f start) (by unfold cn;rw[cZ (j:=start.toNat) (by omega) (by omega)];simp[List.getD_eq_getElem?_getD,show start.toNat<f.steps.length from by omega]) rfl rfl rfl rfl rfl rfl ?_;intro b p ys aL d_;exact⟨_,rfl,a_.refl _,b,p,ys,rfl,aL,d_⟩
  refine ay (an (js:=[(7,28)]) (by kernel_rfl) fun gd hf=>?_) ?_
  ·skip;refine aZ fun v7 h7=>?_;apply aj;obtain⟨b,p,ys,rfl,aL,d_⟩:=h7;have Ic:fV _ (.agg ys.toArray) (cn f start):=⟨ys,rfl,d_⟩
   obtain⟨b1,b2,b3,b4,b5,b6,rfl,_,_⟩:=d_;refine aB rfl ?_;refine bJ T.ok 0 rfl aL rfl rfl ?_;exact⟨_,rfl,a_.refl _,Ic⟩
  exact fD
 intro g1 aP;refine ai rfl ?_;refine ai rfl ?_;refine aZ fun v8 h8=>?_;apply aj;replace hs:=hs.dr.call aP;have ah:=(G.bu _).trans aP.le;obtain⟨aC,aR,cU,aH⟩:=eS ah aC aR cU aH;replace d_:=d_.mono ah;replace vp:=vp.mono ah;have K_:=cW (first:=#[]) (captured:=#[.pointer (some ⟨bo,0,none⟩),.pointer (some ⟨bb,0,none⟩)]) (args:=[.agg #[.int .i64 f.bB,.slice none 0 0],v8]) JH rfl
  (J0 ob f.steps.length bo bb g g1 _ 1 _ _ (.agg #[.int .i64 f.bB,.slice none 0 0]) v8 ⟨f.bB,[]⟩ (cn f start) hs rfl d_ vp ⟨_,rfl,none,0,0,rfl,Rs.nil _⟩ h8 (nR fu h0 h1) (by simp))
 refine ak rfl rfl (eo rfl rfl rfl rfl rfl rfl (K_.mono ?_));rintro _ _ ⟨g5,cells,rfl,rfl,DC,PI,ah⟩;refine⟨_,rfl,?_⟩;replace hs:=DC;obtain⟨aC,aR,cU,aH⟩:=eS ah aC aR cU aH;replace vp:=vp.mono ah;apply bW;apply aG;have Hl:vy (fun w=>(0≤w.time∧w.time≤20000*((w.steps.length:Int)+1))∧w.steps.length+(List.replicate f.steps.length false).count false≤f.steps.length) (fU ⟨f.bB,[]⟩ (List.replicate f.steps.length none) (gA (cn f start))):=by
  refine vy.fU ?_ _ ?_
  ·have yX:=sD fu;simp;omega
  intro w hw;have:=List.eq_of_mem_replicate hw;cases this
 have pK:=aC;have nL:=aH;have S6:=vp;have gM:=G.le.refl g5;refine bM (fun m a' w=> ∃(out:List (Option Wy)) (cells:List Value) (done:List Bool) (g':G),w=g'.w∧St g g' [pT od f.steps.length done,x5 ob f.steps.length cells]∧G.le g5 g'∧cG g' cells out∧out.length=f.steps.length∧done.length=f.steps.length∧
   m=done.count false∧vy (fun w=>(0≤w.time∧w.time≤20000*((w.steps.length:Int)+1))∧w.steps.length+done.count false≤f.steps.length) out∧xK f (m+1) out done=ways f start∧
   Fr 109 [] [(2,.pointer (some ⟨bf,0,none⟩)),(5,.pointer (some ⟨bo,0,none⟩)),(6,.slice (some ⟨od,0,none⟩) f.steps.length f.steps.length),(7,.pointer (some ⟨bb,0,none⟩)),(8,.func (.func 271) #[] #[.pointer (some ⟨bo,0,none⟩),.pointer (some ⟨bb,0,none⟩)])] a') f.steps.length
  (fun a' ha=>⟨_,cells,_,g5,rfl,hs,gM,PI,by rw[pR];simp,by simp,by simp,Hl,rfl,ha.keep (by(repeat (first|exact trivial|refine⟨rfl,?_⟩)))⟩) ?_
 clear hs gM vp aC aR cU aH aU d_ PI dH ah;rintro m a' _ ⟨out,cells,done,g',rfl,hs,gM,d_,Q2,WJ,rfl,Fy,dx,eF⟩;have aC:=pK.mono gM;have aH:=nL.mono gM;have vp:=S6.mono gM;have aR:=vp.JZ;have cU:=vp.MB;revert a';apply cI;apply aG;refine aY rfl ?_;apply aD;refine l_ [.z aR] (St.start _) rfl ?_;apply aG;have jY:=G.le.refl g';have S7:=vp;have K':=d_;have La:=aH;have uF:=aC;refine bM (fun m a' w=> ∃(k:Nat) (g2:G),w=g2.w∧St g g2 [pT od f.steps.length done,x5 ob f.steps.length cells]∧G.le g' g2∧k≤f.steps.length∧m=f.steps.length-k∧
   Fr 109 [] [(2,.pointer (some ⟨bf,0,none⟩)),(5,.pointer (some ⟨bo,0,none⟩)),(6,.slice (some ⟨od,0,none⟩) f.steps.length f.steps.length),(7,.pointer (some ⟨bb,0,none⟩)),(8,.func (.func 271) #[] #[.pointer (some ⟨bo,0,none⟩),.pointer (some ⟨bb,0,none⟩)]),
    (9,.int .i64 (fJ out done k)),(31,.slice (some ⟨ob,0,none⟩) f.steps.length f.steps.length),(32,.int .i64 f.steps.length),(33,.int .i64 k)] a') f.steps.length
  (fun a' ha=>⟨0,g',rfl,hs,jY,Nat.zero_le _,rfl,ha.keep (by(repeat (first|exact trivial|refine⟨rfl,?_⟩)))⟩) ?_
 clear hs jY vp aC aR cU aH d_;rintro m a' _ ⟨k,g2,rfl,hs,jY,hk,rfl,eF⟩;have aC:=uF.mono jY;have aH:=La.mono jY;have vp:=S7.mono jY;have d_:=K'.mono jY;have aR:=vp.JZ;have cU:=vp.MB;revert a';apply cI;refine aY rfl ?_;apply aD;by_cases bC:k<f.steps.length
 ·refine aM (b:=decide ((k:Int)<(f.steps.length:Int))) (by simp;omega) rfl ?_;have lL:=sx out done k;unfold nS at lL;obtain⟨c,Fz,vr⟩:=cG.opt d_ k (by omega);have lT:out.getD k none=out[k]:=by rw[List.getD_eq_getElem?_getD,List.getElem?_eq_getElem (by omega)];rfl
  rw[lT]at lL;apply aF;apply ar;apply aD;apply aG;refine cN 1 rfl ?_;refine ak rfl rfl (dC T.ok rfl (hs.own 1 _ rfl).1 (by omega) (by omega) rfl rfl rfl rfl rfl rfl ?_);rintro b p hh;obtain⟨rfl,rfl⟩:ob=b∧0=p:=by simpa using hh
  refine ak rfl rfl (dL T.ok ((k:Int).toNat*1) rfl (hs.own 1 _ rfl).1 rfl (v:=c) (by show cells[(k:Int).toNat*1]? =_;rw[Nat.mul_one];exact Fz) ?_);refine bj rfl ?_;apply aD;have Q4:k<done.length:=by omega
  have WK:done.getD k true=done[k]:=by rw[List.getD_eq_getElem?_getD,List.getElem?_eq_getElem Q4];rfl
  rw[WK]at lL;have Q5:=wB out done k;cases hb:out[k]with
  |none=>
   rw[hb]at vr lL;obtain rfl:c= .pointer none:=by simpa using(show [c]=[Value.pointer none]from vr)
   simp only at lL;apply bP hs (eO (eO (eO (eQ (fe []))))) 27 [(26,64)] (by kernel_rfl) rfl
   ·refine Dx [[]] (by kernel_rfl) rfl ?_;refine ay (an (js:=[(0,38)]) (by kernel_rfl) fun gd hf=>?_) ?_
    ·skip;refine ai rfl ?_;apply aj;refine aB rfl ?_;refine dw T.ok (neg:=true) rfl rfl rfl rfl rfl ?_;refine⟨_,rfl,a_.refl _,?_⟩;exact rfl
    exact Dy [[1],[2],[2],[3,4,2],[5,2],[6,2],[2,7],[8],[9],[10,9],[11,9,9],[12],[12],[14,12],[15,12],[12],[12],[17,18,12],[19,12],[20,12],[21,12],[13,16,22,12,12],[23,12],[12,24,9],[9,25]] (by kernel_rfl) rfl
   clear hs;intro g1 hs ah;obtain⟨aC,aR,cU,aH⟩:=eS ah aC aR cU aH;replace jY:=jY.trans ah;apply bW;refine aV rfl rfl ?_;apply aF;apply bR;apply ar;apply aA;refine Wp 2 rfl ?_;apply aE;exact fun a ha=>⟨f.steps.length-(k+1),by omega,k+1,_,rfl,hs,jY,by omega,rfl,ha.keep ⟨rfl,rfl,rfl,rfl,rfl,by rw[lL];rfl,rfl,rfl,kI rfl (by rw[wr (by omega) (by omega)];omega),trivial⟩⟩
  |some w=>
   rw[hb]at vr lL;obtain⟨H',ys,K9,hold,Hk⟩:=(show ∃b ys,[c]=[Value.pointer (some ⟨b,0,none⟩)]∧EP g2 b 0 ys∧Bm g2 ys w from vr)
   obtain rfl:c= .pointer (some ⟨H',0,none⟩):=by simpa using K9
   obtain⟨a7,n7,c7,rfl,eh⟩:=Hk;simp only at lL;cases PJ:done[k]with
   |true=>
    rw[PJ,if_pos rfl]at lL;apply bP hs (eO (eO (eO (eQ (fe []))))) 27 [(26,64)] (by kernel_rfl) rfl
    ·refine Dx [[]] (by kernel_rfl) rfl ?_;refine ay (an (js:=[(0,38)]) (by kernel_rfl) fun gd hf=>?_) ?_
     ·skip;refine ai rfl ?_;apply aj;refine aB rfl ?_;refine dw T.ok (neg:=true) rfl rfl rfl rfl rfl ?_;refine⟨_,rfl,a_.refl _,?_⟩;exact rfl
     refine Dx [[1],[2],[2]] (by kernel_rfl) rfl ?_;refine ay (an (js:=[(3,41),(4,42),(2,40)]) (by kernel_rfl) fun gd hf=>?_) ?_
     ·have eJ:=hs.dr.call hf;refine ai rfl ?_;refine ai rfl ?_;refine ai rfl ?_;apply aj;refine aB rfl ?_;refine dC T.ok rfl (eJ.own 0 _ rfl).1 (by omega) (by omega) rfl rfl rfl rfl rfl rfl ?_;intro b p hh;obtain⟨rfl,rfl⟩:od=b∧0=p:=by simpa using hh
      refine⟨_,rfl,a_.refl _,?_⟩;exact rfl
     refine ay (an (js:=[(5,43),(2,40)]) (by kernel_rfl) fun gd hf=>?_) ?_
     ·have eJ:=hs.dr.call hf;refine ai rfl ?_;refine ai rfl ?_;apply aj;refine aB rfl ?_;refine dL T.ok ((k:Int).toNat*1) rfl (eJ.own 0 _ rfl).1 rfl (v:=.bool true) (by show(List.map Value.bool done)[(k:Int).toNat*1]? =_;rw[Nat.mul_one,List.getElem?_map];show Option.map _ done[k]? =_;rw[List.getElem?_eq_getElem Q4,PJ];rfl) ?_;refine⟨_,rfl,a_.refl _,?_⟩;exact rfl
     exact Dy [[6,2],[2,7],[8],[9],[10,9],[11,9,9],[12],[12],[14,12],[15,12],[12],[12],[17,18,12],[19,12],[20,12],[21,12],[13,16,22,12,12],[23,12],[12,24,9],[9,25]] (by kernel_rfl) rfl
    clear hs;intro g1 hs ah;obtain⟨aC,aR,cU,aH,eh⟩:=kO ah aC aR cU aH eh;replace jY:=jY.trans ah;apply bW;refine aV rfl rfl ?_;apply aF;apply bR;apply ar;apply aA;refine Wp 2 rfl ?_;apply aE;exact fun a ha=>⟨f.steps.length-(k+1),by omega,k+1,_,rfl,hs,jY,by omega,rfl,ha.keep ⟨rfl,rfl,rfl,rfl,rfl,by rw[lL];rfl,rfl,rfl,kI rfl (by rw[wr (by omega) (by omega)];omega),trivial⟩⟩
   |false=>
    rw[PJ,if_neg (by simp)]at lL;by_cases lU:fJ out done k<0
    ·rw[if_pos lU]at lL;apply bP hs (eO (eO (eO (eQ (fe []))))) 27 [(26,64)] (by kernel_rfl) rfl
     ·refine Dx [[]] (by kernel_rfl) rfl ?_;refine ay (an (js:=[(0,38)]) (by kernel_rfl) fun gd hf=>?_) ?_
      ·skip;refine ai rfl ?_;apply aj;refine aB rfl ?_;refine dw T.ok (neg:=true) rfl rfl rfl rfl rfl ?_;refine⟨_,rfl,a_.refl _,?_⟩;exact rfl
      refine Dx [[1],[2],[2]] (by kernel_rfl) rfl ?_;refine ay (an (js:=[(3,41),(4,42),(2,40)]) (by kernel_rfl) fun gd hf=>?_) ?_
      ·have eJ:=hs.dr.call hf;refine ai rfl ?_;refine ai rfl ?_;refine ai rfl ?_;apply aj;refine aB rfl ?_;refine dC T.ok rfl (eJ.own 0 _ rfl).1 (by omega) (by omega) rfl rfl rfl rfl rfl rfl ?_;intro b p hh;obtain⟨rfl,rfl⟩:od=b∧0=p:=by simpa using hh
       refine⟨_,rfl,a_.refl _,?_⟩;exact rfl
      refine ay (an (js:=[(5,43),(2,40)]) (by kernel_rfl) fun gd hf=>?_) ?_
      ·have eJ:=hs.dr.call hf;refine ai rfl ?_;refine ai rfl ?_;apply aj;refine aB rfl ?_;refine dL T.ok ((k:Int).toNat*1) rfl (eJ.own 0 _ rfl).1 rfl (v:=.bool false) (by show(List.map Value.bool done)[(k:Int).toNat*1]? =_;rw[Nat.mul_one,List.getElem?_map];show Option.map _ done[k]? =_;rw[List.getElem?_eq_getElem Q4,PJ];rfl) ?_;refine⟨_,rfl,a_.refl _,?_⟩;exact rfl
      refine Dx [[6,2],[2,7],[8],[9]] (by kernel_rfl) rfl ?_;refine ay (an (js:=[(10,48),(9,47)]) (by kernel_rfl) fun gd hf=>?_) ?_
      ·skip;refine ai rfl ?_;refine ai rfl ?_;apply aj;refine aB rfl ?_;refine aN _ T.ok rfl ?_;refine⟨_,rfl,a_.refl _,?_⟩;exact congrArg Value.bool (decide_eq_true lU)
      exact Dy [[11,9,9],[12],[12],[14,12],[15,12],[12],[12],[17,18,12],[19,12],[20,12],[21,12],[13,16,22,12,12],[23,12],[12,24,9],[9,25]] (by kernel_rfl) rfl
     clear hs;intro g1 hs ah;obtain⟨aC,aR,cU,aH,eh⟩:=kO ah aC aR cU aH eh;replace jY:=jY.trans ah;apply bW;refine aM rfl rfl ?_;apply aA;refine Wp 2 rfl ?_;apply aE;apply bR;apply ar;apply aA;refine Wp 2 rfl ?_;apply aE;exact fun a ha=>⟨f.steps.length-(k+1),by omega,k+1,_,rfl,hs,jY,by omega,rfl,ha.keep ⟨rfl,rfl,rfl,rfl,rfl,by rw[lL];rfl,rfl,rfl,kI rfl (by rw[wr (by omega) (by omega)];omega),trivial⟩⟩
    rw[if_neg lU]at lL;rcases Q5 with h|⟨o9,Cz,⟨wb,Ie⟩,_⟩
    ·omega
    rw[Ie]at lL;have wi:(fJ out done k).toNat<out.length:=by omega
    obtain⟨cb,S8,PK⟩:=cG.opt d_ _ wi;have Q6:out[(fJ out done k).toNat]=some wb:=by rw[List.getD_eq_getElem?_getD,List.getElem?_eq_getElem wi]at Ie;exact Ie
    rw[Q6]at PK;obtain⟨UP,Y0,S9,PL,S_⟩:=(show ∃b ys,[cb]=[Value.pointer (some ⟨b,0,none⟩)]∧EP g2 b 0 ys∧Bm g2 ys wb from PK)
    obtain rfl:cb= .pointer (some ⟨UP,0,none⟩):=by simpa using S9
    obtain⟨a8,n8,c8,rfl,ku⟩:=S_;apply bP hs (eO (eO (eO (eQ (fe []))))) 27 [(26,64)] (by kernel_rfl) rfl
    ·refine Dx [[]] (by kernel_rfl) rfl ?_;refine ay (an (js:=[(0,38)]) (by kernel_rfl) fun gd hf=>?_) ?_
     ·skip;refine ai rfl ?_;apply aj;refine aB rfl ?_;refine dw T.ok (neg:=true) rfl rfl rfl rfl rfl ?_;refine⟨_,rfl,a_.refl _,?_⟩;exact rfl
     refine Dx [[1],[2],[2]] (by kernel_rfl) rfl ?_;refine ay (an (js:=[(3,41),(4,42),(2,40)]) (by kernel_rfl) fun gd hf=>?_) ?_
     ·have eJ:=hs.dr.call hf;refine ai rfl ?_;refine ai rfl ?_;refine ai rfl ?_;apply aj;refine aB rfl ?_;refine dC T.ok rfl (eJ.own 0 _ rfl).1 (by omega) (by omega) rfl rfl rfl rfl rfl rfl ?_;intro b p hh;obtain⟨rfl,rfl⟩:od=b∧0=p:=by simpa using hh
      refine⟨_,rfl,a_.refl _,?_⟩;exact rfl
     refine ay (an (js:=[(5,43),(2,40)]) (by kernel_rfl) fun gd hf=>?_) ?_
     ·have eJ:=hs.dr.call hf;refine ai rfl ?_;refine ai rfl ?_;apply aj;refine aB rfl ?_;refine dL T.ok ((k:Int).toNat*1) rfl (eJ.own 0 _ rfl).1 rfl (v:=.bool false) (by show(List.map Value.bool done)[(k:Int).toNat*1]? =_;rw[Nat.mul_one,List.getElem?_map];show Option.map _ done[k]? =_;rw[List.getElem?_eq_getElem Q4,PJ];rfl) ?_;refine⟨_,rfl,a_.refl _,?_⟩;exact rfl
     refine Dx [[6,2],[2,7],[8],[9]] (by kernel_rfl) rfl ?_;refine ay (an (js:=[(10,48),(9,47)]) (by kernel_rfl) fun gd hf=>?_) ?_
     ·skip;refine ai rfl ?_;refine ai rfl ?_;apply aj;refine aB rfl ?_;refine aN _ T.ok rfl ?_;refine⟨_,rfl,a_.refl _,?_⟩;exact congrArg Value.bool (decide_eq_false lU)
     refine Dm [[11,9,9],[12],[12],[14,12]] [.e cU 0] (St.start _) (by kernel_rfl) rfl ?_;refine ay (an (js:=[(15,53),(12,50)]) (by kernel_rfl) fun gd hf=>?_) ?_
     ·have dG:=(G.bu _).trans hf.le;refine ai rfl ?_;refine ai rfl ?_;apply aj;refine aB rfl ?_;refine bJ T.ok 0 rfl (hold.mono dG) rfl rfl ?_;refine⟨_,rfl,a_.refl _,?_⟩;exact rfl
     refine Dm [[12],[12]] [.e aR 0] (St.start _) (by kernel_rfl) rfl ?_;refine ay (an (js:=[(17,55),(18,56),(12,50)]) (by kernel_rfl) fun gd hf=>?_) ?_
     ·have eJ:=hs.dr.call hf;refine ai rfl ?_;refine ai rfl ?_;refine ai rfl ?_;apply aj;refine aB rfl ?_;refine dC T.ok rfl (eJ.own 1 _ rfl).1 o9 (by omega) rfl rfl rfl rfl rfl rfl ?_;intro b p hh;obtain⟨rfl,rfl⟩:ob=b∧0=p:=by simpa using hh
      refine⟨_,rfl,a_.refl _,?_⟩;exact rfl
     refine ay (an (js:=[(19,57),(12,50)]) (by kernel_rfl) fun gd hf=>?_) ?_
     ·have eJ:=hs.dr.call hf;refine ai rfl ?_;refine ai rfl ?_;apply aj;refine aB rfl ?_;refine dL T.ok ((fJ out done k).toNat*1) rfl (eJ.own 1 _ rfl).1 rfl (v:=.pointer (some ⟨UP,0,none⟩)) (by show cells[(fJ out done k).toNat*1]? =_;rw[Nat.mul_one];exact S8) ?_;refine⟨_,rfl,a_.refl _,?_⟩;exact rfl
     refine Dx [[20,12]] (by kernel_rfl) rfl ?_;refine ay (an (js:=[(21,59),(12,50)]) (by kernel_rfl) fun gd hf=>?_) ?_
     ·have dG:=(G.bu _).trans hf.le;refine ai rfl ?_;refine ai rfl ?_;apply aj;refine aB rfl ?_;refine bJ T.ok 0 rfl (PL.mono dG) rfl rfl ?_;refine⟨_,rfl,a_.refl _,?_⟩;exact rfl
     refine ay (an (js:=[(13,51),(16,54),(22,60),(12,50),(12,50)]) (by kernel_rfl) fun gd hf=>?_) ?_
     ·have dG:=(G.bu _).trans hf.le;refine ai rfl ?_;refine ai rfl ?_;refine ai rfl ?_;refine ai rfl ?_;refine ai rfl ?_;apply aj;refine aB rfl ?_;refine au JG aJ rfl rfl rfl rfl rfl (Cv _ _ w wb _ ⟨_,rfl,_,_,_,rfl,eh.mono dG⟩ ⟨_,rfl,_,_,_,rfl,ku.mono dG⟩) fun g' v h1 h2=>⟨g',rfl,h1,?_⟩
      exact h2
     exact Dy [[23,12],[12,24,9],[9,25]] (by kernel_rfl) rfl
    clear hs;intro g1 hs ah;obtain⟨aC,aR,aH,eh⟩:=eS ah aC aR aH eh;replace jY:=jY.trans ah;apply bW;by_cases Ia:order w wb<0
    ·refine aM (b:=decide (order w wb<0)) (by simp[Ia]) rfl ?_;rw[show better w (some wb)=true from by simp[better,Ia],if_pos rfl]at lL;apply aA;refine Wp 2 rfl ?_;apply aE;apply bR;apply ar;apply aA;refine Wp 2 rfl ?_;apply aE;exact fun a ha=>⟨f.steps.length-(k+1),by omega,k+1,_,rfl,hs,jY,by omega,rfl,ha.keep ⟨rfl,rfl,rfl,rfl,rfl,by rw[lL];rfl,rfl,rfl,kI rfl (by rw[wr (by omega) (by omega)];omega),trivial⟩⟩
    refine aV (b:=decide (order w wb<0)) (by simp[Ia]) rfl ?_;rw[show better w (some wb)=false from by simp[better,Ia],if_neg (by simp)]at lL;apply aF;apply bR;apply ar;apply aA;refine Wp 2 rfl ?_;apply aE;exact fun a ha=>⟨f.steps.length-(k+1),by omega,k+1,_,rfl,hs,jY,by omega,rfl,ha.keep ⟨rfl,rfl,rfl,rfl,rfl,by rw[lL];rfl,rfl,rfl,kI rfl (by rw[wr (by omega) (by omega)];omega),trivial⟩⟩
 refine aV (b:=decide ((k:Int)<(f.steps.length:Int))) (by simp;omega) rfl ?_;obtain rfl:k=f.steps.length:=by omega
 apply bF;apply bG;apply bG;apply c_;apply ar;apply aD;refine aY rfl ?_;have rq:fJ out done f.steps.length=iM out done:=by unfold fJ iM;rw[Q2]
 rw[rq];have Q5:=wB out done f.steps.length;rw[rq]at Q5;rw[xK]at dx;by_cases lU:iM out done<0
 ·refine aM (b:=decide (iM out done<0)) (by simp[lU]) rfl ?_;rw[if_pos lU]at dx;refine l_ [.z aR] (St.start _) rfl ?_;obtain⟨g9,Hh,Ch,Ig,Lb⟩:=hs.cK (α:=Option Wy) (xs:=out) (i:=1) rfl d_;rw[←Hh];refine aI ?_;apply eD;apply hQ;apply eD;apply hQ;refine aX rfl rfl (Ch.ret ?_);rw[←dx];exact Lb
 refine aV (b:=decide (iM out done<0)) (by simp[lU]) rfl ?_;rw[if_neg lU]at dx;rcases Q5 with h|⟨o9,Cz,⟨w,Ie⟩,UQ⟩
 ·omega
 rw[Ie]at dx;simp only at dx;generalize WM:iM out done=at_ at*;have wi:at_.toNat<out.length:=by omega
 have PM:at_.toNat<done.length:=by omega
 obtain⟨c,Fz,vr⟩:=cG.opt d_ _ wi;have Q6:out[at_.toNat]=some w:=by rw[List.getD_eq_getElem?_getD,List.getElem?_eq_getElem wi]at Ie;exact Ie
 have WN:done[at_.toNat]? =some false:=by rw[List.getD_eq_getElem?_getD,List.getElem?_eq_getElem PM]at UQ;rw[List.getElem?_eq_getElem PM];exact congrArg some UQ
 have nY:=mI WN;rw[Q6]at vr;obtain⟨⟨WO,WQ⟩,WR⟩:=Fy w (by rw[←Q6];exact List.getElem_mem _);obtain⟨H',ys,K9,hold,Hk⟩:=(show ∃b ys,[c]=[Value.pointer (some ⟨b,0,none⟩)]∧EP g2 b 0 ys∧Bm g2 ys w from vr)
 obtain rfl:c= .pointer (some ⟨H',0,none⟩):=by simpa using K9
 obtain⟨a7,n7,c7,rfl,eh⟩:=Hk;have yX:=sD fu;have Lc:=FO (mH fu o9 Cz);apply aF;apply ar;refine cN 2 rfl ?_;refine ak rfl rfl (dC T.ok rfl (hs.own 0 _ rfl).1 o9 (by omega) rfl rfl rfl rfl rfl rfl ?_);rintro b p hh;obtain⟨rfl,rfl⟩:od=b∧0=p:=by simpa using hh
 refine bA rfl (gT T.ok 0 (at_.toNat*1) (us:=[.bool true]) rfl hs rfl rfl rfl rfl rfl rfl rfl (by decide) (by simp;omega) (xs':=(done.set at_.toNat true).map Value.bool) ?_ ?_)
 ·rw[Nat.mul_one,List.map_set];unfold lh;rw[List.set_eq_take_append_cons_drop];simp[PM]
 rintro g5 hs ah;obtain⟨aC,aR,aH,eh⟩:=eS ah aC aR aH eh;replace jY:=jY.trans ah;replace d_:=d_.mono ah;replace vp:=vp.mono ah;replace hold:=hold.mono ah;have Ih:=eh.dJ;unfold maxLen at Ih;have kx:w.steps.length≤40:=by omega
 apply bW;apply Ii aJ rfl (Fact.eq _::Fact.eq _::Fact.eq _::Fact.eq _::Fact.eq _::Fact.eq _::Fact.eq _::Fact.eq _::Fact.eq _::Fact.eq _::Fact.eq _::(mQ 0 (cn f at_))::(mQ 2 (cn f at_))::Fact.eq _::Fact.eq _::Fact.eq _::Fact.eq _::Fact.eq _::Fact.eq _::Fact.eq _::Fact.eq _::Fact.eq _::Fact.eq _::Fact.eq _::Fact.eq _::(PG g5.dr.w.heap.size w.steps)::Fact.eq _::(Fact.rs [at_])::(Fact.rs (w.steps++[at_]))::(PF ⟨w.time+(cn f at_).min+f.bB,w.steps++[at_]⟩)::Fact.eq _::Fact.eq _::Fact.eq _::(mQ 0 (cn f at_))::(FN (cn f at_))::[]) 35 [(0,73),(29,102),(34,107)] [25] 28 rfl (by kernel_rfl)
 case houts=>exact rfl
 case hsoft=>(repeat (first|exact FQ|apply FR|refine gN (qK _) ?_|refine gN (cr _) ?_|refine gN (rX _ _) ?_|refine gN (pS _) ?_|refine gN (rY _) ?_|refine gN (nZ _) ?_|refine gN (x6 _) ?_|refine gN (zI _) ?_|refine FT (by exact rfl) ?_))
 ·refine dD (cV (js:=[]) (by kernel_rfl) (by exact rfl) fun gd hf=>?_) ?_
  ·skip;apply aj
   (refine aB rfl ?_;refine aN _ T.ok rfl ?_;refine⟨_,rfl,a_.refl _,?_⟩;exact rfl)
  refine dD (cV (js:=[]) (by kernel_rfl) (by exact rfl) fun gd hf=>?_) ?_
  ·have dG:=(G.bu _).trans hf.le;apply aj
   (refine aB rfl ?_;refine bJ T.ok 0 rfl (aR.mono dG) rfl rfl ?_;refine⟨_,rfl,a_.refl _,?_⟩;exact rfl)
  refine dD (cV (js:=[]) (by kernel_rfl) (by exact rfl) fun gd hf=>?_) ?_
  ·skip;apply aj
   (refine aB rfl ?_;refine aN _ T.ok rfl ?_;refine⟨_,rfl,a_.refl _,?_⟩;exact rfl)
  refine dD (cV (js:=[(1,74),(2,75)]) (by kernel_rfl) (by exact rfl) fun gd hf=>?_) ?_
  ·have eJ:=hs.dr.call hf;refine ai rfl ?_;refine ai rfl ?_;apply aj;refine aB rfl ?_;refine dC T.ok rfl (eJ.own 1 _ rfl).1 o9 (by omega) rfl rfl rfl rfl rfl rfl ?_;intro b p hh;obtain⟨rfl,rfl⟩:ob=b∧0=p:=by simpa using hh
   refine⟨_,rfl,a_.refl _,?_⟩;exact rfl
  refine dD (cV (js:=[(3,76)]) (by kernel_rfl) (by exact rfl) fun gd hf=>?_) ?_
  ·have eJ:=hs.dr.call hf;refine ai rfl ?_;apply aj;refine aB rfl ?_;refine dL T.ok (at_.toNat*1) rfl (eJ.own 1 _ rfl).1 rfl (v:=.pointer (some ⟨H',0,none⟩)) (by show cells[at_.toNat*1]? =_;rw[Nat.mul_one];exact Fz) ?_;refine⟨_,rfl,a_.refl _,?_⟩;exact rfl
  refine dD (cV (js:=[(4,77)]) (by kernel_rfl) (by exact rfl) fun gd hf=>?_) ?_
  ·skip;refine ai rfl ?_;apply aj
   (refine aB rfl ?_;refine aN _ T.ok rfl ?_;refine⟨_,rfl,a_.refl _,?_⟩;exact rfl)
  refine dD (cV (js:=[(5,78)]) (by kernel_rfl) (by exact rfl) fun gd hf=>?_) ?_
  ·skip;refine ai rfl ?_;apply aj
   (refine aB rfl ?_;refine aN _ T.ok rfl ?_;refine⟨_,rfl,a_.refl _,?_⟩;exact rfl)
  refine dD (cV (js:=[(6,79)]) (by kernel_rfl) (by exact rfl) fun gd hf=>?_) ?_
  ·have dG:=(G.bu _).trans hf.le;refine ai rfl ?_;apply aj;refine aB rfl ?_;refine bJ T.ok 0 rfl (hold.mono dG) rfl rfl ?_;refine⟨_,rfl,a_.refl _,?_⟩;exact rfl
  refine dD (cV (js:=[]) (by kernel_rfl) (by exact rfl) fun gd hf=>?_) ?_
  ·skip;apply aj
   (refine aB rfl ?_;refine aN _ T.ok rfl ?_;refine⟨_,rfl,a_.refl _,?_⟩;exact rfl)
  refine dD (cV (js:=[(8,81)]) (by kernel_rfl) (by exact rfl) fun gd hf=>?_) ?_
  ·have dG:=(G.bu _).trans hf.le;refine ai rfl ?_;apply aj
   (refine aB rfl ?_;refine bJ T.ok 2 rfl (aC.mono dG) rfl rfl ?_;refine⟨_,rfl,a_.refl _,?_⟩;exact rfl)
  refine dD (cV (js:=[]) (by kernel_rfl) (by exact rfl) fun gd hf=>?_) ?_
  ·skip;apply aj
   (refine aB rfl ?_;refine aN _ T.ok rfl ?_;refine⟨_,rfl,a_.refl _,?_⟩;exact rfl)
  refine dD (cV (js:=[(9,82),(10,83)]) (by kernel_rfl) (by exact rfl) fun gd hf=>?_) ?_
  ·have dG:=(G.bu _).trans hf.le;refine ai rfl ?_;refine ai rfl ?_;apply aj;refine aB rfl ?_;refine aW T.ok rfl (aH.mono dG) (y:=cn f at_) (by unfold cn;rw[cZ (j:=at_.toNat) (by omega) (by omega)];simp[List.getD_eq_getElem?_getD,show at_.toNat<f.steps.length from by omega]) rfl rfl rfl rfl rfl rfl ?_;intro b p ys aL d_;exact⟨_,rfl,a_.refl _,b,p,ys,rfl,aL,d_⟩
  refine dD (cV (js:=[(11,84)]) (by kernel_rfl) (by exact rfl) fun gd hf=>?_) ?_
  ·skip;refine aZ fun v11 OP=>?_;apply aj;obtain⟨b,p,ys,rfl,aL,d_⟩:=OP;refine aB rfl ?_;refine aN _ T.ok rfl ?_;exact⟨_,rfl,a_.refl _,b,p,ys,rfl,aL,d_⟩
  refine dD (cV (js:=[(12,85)]) (by kernel_rfl) (by exact rfl) fun gd hf=>?_) ?_
  ·skip;refine aZ fun v12 OQ=>?_;apply aj;obtain⟨b,p,ys,rfl,aL,d_⟩:=OQ;obtain⟨b1,b2,b3,b4,b5,b6,rfl,A2,Q7⟩:=d_;refine aB rfl ?_;refine bJ T.ok 2 rfl aL rfl rfl ?_;refine⟨_,rfl,a_.refl _,?_⟩;exact rfl
  refine dD (cV (js:=[(7,80),(13,86)]) (by kernel_rfl) (by exact rfl) fun gd hf=>?_) ?_
  ·skip;refine ai rfl ?_;refine ai rfl ?_;apply aj
   (refine aB rfl ?_;refine aN _ T.ok rfl ?_;refine⟨_,rfl,a_.refl _,?_⟩;exact rfl)
  refine dD (cV (js:=[]) (by kernel_rfl) (by exact rfl) fun gd hf=>?_) ?_
  ·skip;apply aj
   (refine aB rfl ?_;refine aN _ T.ok rfl ?_;refine⟨_,rfl,a_.refl _,?_⟩;exact rfl)
  refine dD (cV (js:=[(15,88)]) (by kernel_rfl) (by exact rfl) fun gd hf=>?_) ?_
  ·have dG:=(G.bu _).trans hf.le;refine ai rfl ?_;apply aj
   (refine aB rfl ?_;refine bJ T.ok 0 rfl (aC.mono dG) rfl rfl ?_;refine⟨_,rfl,a_.refl _,?_⟩;exact rfl)
  refine dD (cV (js:=[(14,87),(16,89)]) (by kernel_rfl) (by exact rfl) fun gd hf=>?_) ?_
  ·skip;refine ai rfl ?_;refine ai rfl ?_;apply aj;refine aB rfl ?_;refine aN _ T.ok rfl ?_;refine⟨_,rfl,a_.refl _,?_⟩;exact congrArg (Value.int .i64) (show _=w.time+(cn f at_).min+f.bB from by rw[wr (n:=w.time+(cn f at_).min) (by omega) (by omega),wr (by omega) (by omega)])
  refine dD (cV (js:=[]) (by kernel_rfl) (by exact rfl) fun gd hf=>?_) ?_
  ·have dG:=(G.bu _).trans hf.le;apply aj
   (refine aB rfl ?_;refine bJ T.ok 0 rfl (aR.mono dG) rfl rfl ?_;refine⟨_,rfl,a_.refl _,?_⟩;exact rfl)
  refine dD (cV (js:=[]) (by kernel_rfl) (by exact rfl) fun gd hf=>?_) ?_
  ·skip;apply aj
   (refine aB rfl ?_;refine aN _ T.ok rfl ?_;refine⟨_,rfl,a_.refl _,?_⟩;exact rfl)
  refine dD (cV (js:=[(18,91),(19,92)]) (by kernel_rfl) (by exact rfl) fun gd hf=>?_) ?_
  ·have eJ:=hs.dr.call hf;refine ai rfl ?_;refine ai rfl ?_;apply aj;refine aB rfl ?_;refine dC T.ok rfl (eJ.own 1 _ rfl).1 o9 (by omega) rfl rfl rfl rfl rfl rfl ?_;intro b p hh;obtain⟨rfl,rfl⟩:ob=b∧0=p:=by simpa using hh
   refine⟨_,rfl,a_.refl _,?_⟩;exact rfl
  refine dD (cV (js:=[(20,93)]) (by kernel_rfl) (by exact rfl) fun gd hf=>?_) ?_
  ·have eJ:=hs.dr.call hf;refine ai rfl ?_;apply aj;refine aB rfl ?_;refine dL T.ok (at_.toNat*1) rfl (eJ.own 1 _ rfl).1 rfl (v:=.pointer (some ⟨H',0,none⟩)) (by show cells[at_.toNat*1]? =_;rw[Nat.mul_one];exact Fz) ?_;refine⟨_,rfl,a_.refl _,?_⟩;exact rfl
  refine dD (cV (js:=[(21,94)]) (by kernel_rfl) (by exact rfl) fun gd hf=>?_) ?_
  ·skip;refine ai rfl ?_;apply aj
   (refine aB rfl ?_;refine aN _ T.ok rfl ?_;refine⟨_,rfl,a_.refl _,?_⟩;exact rfl)
  refine dD (cV (js:=[(22,95)]) (by kernel_rfl) (by exact rfl) fun gd hf=>?_) ?_
  ·skip;refine ai rfl ?_;apply aj
   (refine aB rfl ?_;refine aN _ T.ok rfl ?_;refine⟨_,rfl,a_.refl _,?_⟩;exact rfl)
  refine dD (cV (js:=[(23,96)]) (by kernel_rfl) (by exact rfl) fun gd hf=>?_) ?_
  ·have dG:=(G.bu _).trans hf.le;refine ai rfl ?_;apply aj;refine aB rfl ?_;refine bJ T.ok 1 rfl (hold.mono dG) rfl rfl ?_;refine⟨_,rfl,a_.refl _,?_⟩;exact rfl
  refine dD (cV (js:=[(24,97)]) (by kernel_rfl) (by exact rfl) fun gd hf=>?_) ?_
  ·have dG:=(G.bu _).trans hf.le;refine ai rfl ?_;apply aj;refine aB rfl ?_;refine au B4 aJ rfl rfl rfl rfl rfl (tC _ w.steps _ (eh.mono dG) (by omega)) fun g' v h1 h2=>⟨g',rfl,h1,Ib h2 hf.below.size⟩
  refine dD (cV (js:=[]) (by kernel_rfl) (by exact rfl) fun gd hf=>?_) ?_
  ·skip;apply aj
   (refine aB rfl ?_;refine aN _ T.ok rfl ?_;refine⟨_,rfl,a_.refl _,?_⟩;exact rfl)
  refine dD (cV (js:=[(26,99)]) (by kernel_rfl) (by exact rfl) fun gd hf=>?_) ?_
  ·skip;refine ai rfl ?_;apply aj;refine aB rfl ?_;refine bD T.ok rfl (St.start gd) (vs:=[(0,.int .i64 at_)]) (cells:=[.int .i64 at_]) rfl rfl rfl rfl rfl rfl (by decide) (by decide) (by kernel_rfl) rfl ?_;intro b2 g2 nz FU;obtain⟨g3,pf,vn,qI,ny⟩:=nz.cK (α:=Int) (xs:=[at_]) (i:=0) rfl (cG.ints _ [at_]);exact⟨g3,pf,vn.nC,ny⟩
  refine dD (PN (js:=[(25,98),(27,100),(25,98)]) (by kernel_rfl) fun gd hf=>?_) ?_
  ·skip;refine aZ fun v25 UR=>?_;refine aZ fun Y4 US=>?_;refine aZ fun v25 UR=>?_;apply aj;obtain⟨FV,MD,Ij⟩:=UR;obtain⟨ax,cx,rfl⟩:=Rs.isSlice US;obtain⟨av,cv,rfl⟩:=MD.1.form;obtain⟨_,news,CA,g_⟩:=Src.lq US;have ME:=St.ft (St.start g5.dr) hf MD;refine⟨rfl,?_⟩;refine cd T.ok 0 rfl ME rfl rfl rfl rfl rfl rfl rfl (by decide) rfl g_ CA.one (by show(w.steps.length+1)*8≤_;omega) (by unfold maxLen;show w.steps.length+1≤_;omega) ?_;intro a' c' g8 yW vG;obtain⟨g9,Hh,Ch,Ig,B_⟩:=yW.cK (α:=Int) (xs:=w.steps++[at_]) (i:=0) rfl (cG.app (CA.mono vG) (Ij.mono vG));exact⟨g9,Hh,vG.trans Ig,Ch.nC,B_⟩
  refine dD (cV (js:=[(17,90),(28,101)]) (by kernel_rfl) (by exact rfl) fun gd hf=>?_) ?_
  ·skip;refine ai rfl ?_;refine aZ fun v28 UT=>?_;apply aj;obtain⟨ax,cx,rfl⟩:=Rs.isSlice UT;refine aB rfl ?_;refine aQ T.ok rfl (vs:=[(0,.int .i64 (w.time+(cn f at_).min+f.bB)),(1,.slice ax (w.steps++[at_]).length cx)]) (cells:=[.int .i64 (w.time+(cn f at_).min+f.bB),.slice ax (w.steps++[at_]).length cx]) rfl rfl rfl rfl [(0,1),(1,1)] rfl (by kernel_rfl) ?_;exact⟨_,rfl,a_.refl _,_,rfl,_,_,_,rfl,UT⟩
  refine dD (cV (js:=[]) (by kernel_rfl) (by exact rfl) fun gd hf=>?_) ?_
  ·skip;apply aj
   (refine aB rfl ?_;refine aN _ T.ok rfl ?_;refine⟨_,rfl,a_.refl _,?_⟩;exact rfl)
  refine dD (cV (js:=[(30,103)]) (by kernel_rfl) (by exact rfl) fun gd hf=>?_) ?_
  ·have dG:=(G.bu _).trans hf.le;refine ai rfl ?_;apply aj
   (refine aB rfl ?_;refine bJ T.ok 2 rfl (aC.mono dG) rfl rfl ?_;refine⟨_,rfl,a_.refl _,?_⟩;exact rfl)
  refine dD (cV (js:=[]) (by kernel_rfl) (by exact rfl) fun gd hf=>?_) ?_
  ·skip;apply aj
   (refine aB rfl ?_;refine aN _ T.ok rfl ?_;refine⟨_,rfl,a_.refl _,?_⟩;exact rfl)
  refine dD (cV (js:=[(31,104),(32,105)]) (by kernel_rfl) (by exact rfl) fun gd hf=>?_) ?_
  ·have dG:=(G.bu _).trans hf.le;refine ai rfl ?_;refine ai rfl ?_;apply aj;refine aB rfl ?_;refine aW T.ok rfl (aH.mono dG) (y:=cn f at_) (by unfold cn;rw[cZ (j:=at_.toNat) (by omega) (by omega)];simp[List.getD_eq_getElem?_getD,show at_.toNat<f.steps.length from by omega]) rfl rfl rfl rfl rfl rfl ?_;intro b p ys aL d_;exact⟨_,rfl,a_.refl _,b,p,ys,rfl,aL,d_⟩
  refine dD (cV (js:=[(33,106)]) (by kernel_rfl) (by exact rfl) fun gd hf=>?_) ?_
  ·skip;refine aZ fun Y5 WS=>?_;apply aj;obtain⟨b,p,ys,rfl,aL,d_⟩:=WS;have Ic:fV _ (.agg ys.toArray) (cn f at_):=⟨ys,rfl,d_⟩
   obtain⟨b1,b2,b3,b4,b5,b6,rfl,_,_⟩:=d_;refine aB rfl ?_;refine bJ T.ok 0 rfl aL rfl rfl ?_;exact⟨_,rfl,a_.refl _,Ic⟩
  exact PO
 intro g1 aP;refine ai rfl ?_;refine aZ fun UU Su=>?_;refine aZ fun Sv Sw=>?_;apply aj;replace hs:=hs.dr.call aP;have ah:=(G.bu _).trans aP.le;replace jY:=jY.trans ah;replace d_:=d_.mono ah;replace vp:=vp.mono ah;have K_:=cW (first:=#[]) (captured:=#[.pointer (some ⟨bo,0,none⟩),.pointer (some ⟨bb,0,none⟩)]) (args:=[UU,Sv]) JH rfl
  (J0 ob f.steps.length bo bb g _ _ 1 _ _ UU Sv ⟨w.time+(cn f at_).min+f.bB,w.steps++[at_]⟩ (cn f at_) hs rfl d_ vp Su Sw (nR fu o9 Cz) Q2)
 refine ak rfl rfl (eo rfl rfl rfl rfl rfl rfl (K_.mono ?_));rintro _ _ ⟨g9,Ld,rfl,rfl,Ch,S',ah⟩;refine⟨_,rfl,?_⟩;replace jY:=jY.trans ah;apply aE;apply bR;refine fun a ha=>⟨(done.set at_.toNat true).count false,by omega,fU ⟨w.time+(cn f at_).min+f.bB,w.steps++[at_]⟩ out (gA (cn f at_)),Ld,done.set at_.toNat true,g9,rfl,Ch,gM.trans jY,S',by rw[pR];exact Q2,by simpa using WJ,rfl,?_,?_,ha.keep (by(repeat (first|exact trivial|refine⟨rfl,?_⟩)))⟩
 ·refine vy.fU ?_ _ ?_
  ·simp only[List.length_append,List.length_cons,List.length_nil];omega
  intro w' MF;have:=Fy w' MF;omega
 rw[←dx,show done.count false=(done.set at_.toNat true).count false+1 from nY.symm]
end Go.Proofs.YtgehbndkogohpaaGreatDoor
namespace Go.Proofs.YtgehbndkogohpaaGreatDoor
open Go Go.K
set_option maxRecDepth 10000
attribute [local irreducible] W WL cD bc bK bd bg bh cq ck
set_option maxHeartbeats 4000000
theorem G9(v:Value)(f:bQ)(a b:Int)(w:Wy)(g:G)(dj:ff g v f)(fu:valid f=true)(h0:0≤a)(h1:a<f.steps.length)(hg:given f [a,b]=true)(HK:dS (ways f a) b=some (some w)):
  CallsIn Wd 0 Tryz.prog 136 #[v,.int .i64 a,.int .i64 b] g.w (cF g fun _ r=>r= .tuple #[.int .i64 w.time,.bool true]):=by
 obtain⟨a1,n1,c1,a2,n2,c2,rfl,aH,aU⟩:=id dj;obtain⟨_,_,e⟩:=aH.isSlice;obtain⟨rfl,rfl,rfl⟩:=Value.slice.inj e;clear e;have hs:=St.start g;have aq:=G.le.refl g;refine enter Tryz.func136 rfl Tryz.ntmps136 rfl ?_;apply cM;refine ak rfl rfl (aO rfl hs rfl rfl ?_);clear hs;rintro bf g1 hs ah;replace dj:=dj.mono ah;obtain⟨g2,bL,aT,ah,aL⟩:=hs.ba (i:=0) rfl;replace hs:=aT;clear aT;rw[←bL];replace dj:=dj.mono ah;have aC:=aL;clear aL;refine bj rfl ?_;apply aD;refine dz 3 [.z aC] (St.start _) rfl ?_;refine ak rfl rfl (bD T.ok rfl hs (vs:=[(0,.int .i64 a),(1,.int .i64 b)]) (cells:=[.int .i64 a,.int .i64 b]) rfl rfl rfl rfl rfl rfl (by decide) (by decide) (by kernel_rfl) rfl ?_);rintro b2 g2 hs ah;obtain⟨aC,dj⟩:=cf ah aC dj;obtain⟨g3,pf,vn,qI,ny⟩:=hs.cK (α:=Int) (xs:=[a,b]) (i:=0) rfl (cG.ints _ [a,b]);clear ah;have ah:=qI;rw[←pf];replace hs:=vn;obtain⟨aC,dj⟩:=cf ah aC dj;skip;refine ak rfl rfl (au EB aJ rfl rfl rfl rfl rfl (xY _ _ f [a,b] _ dj ny) ?_);rintro g1 _ aP rfl;replace hs:=hs.call aP;have ah:=aP.le;obtain⟨aC,dj⟩:=cf ah aC dj;rw[hg];refine bj rfl ?_;refine aV rfl rfl ?_;apply aF;apply ar;refine dz 2 [.z aC] (St.start _) rfl ?_;refine ak rfl rfl (au JC aJ rfl rfl rfl rfl rfl (FP _ f a _ dj fu h0 h1) ?_);rintro g1 _ aP Cq;replace hs:=hs.call aP;have ah:=aP.le;obtain⟨aw,cw,rfl⟩:=Cq.isSlice;refine Wp 1 rfl ?_;refine ak rfl rfl (aW T.ok rfl Cq (y:=some w) HK rfl rfl rfl rfl rfl rfl ?_);rintro b p ys aL ⟨bw,cs,rfl,Mj,Hk⟩;obtain⟨a7,n7,c7,rfl,eh⟩:=Hk;refine Wm 1 [.e aL 0] (St.start _) rfl ?_;refine bj rfl ?_;apply aD;refine cN 1 rfl ?_;refine ak rfl rfl (dw T.ok (neg:=false) rfl rfl rfl rfl rfl ?_);apply bW;refine aV rfl rfl ?_;apply aF;apply ar;refine cN 3 rfl ?_;refine Wm 1 [.e Mj 0] (St.start _) rfl ?_;refine bj rfl ?_;exact aI (rH rfl rfl rfl (hs.ret rfl))
theorem Mk(v:Value)(f:bQ)(a b:Int)(w:Wy)(g:G)(dj:ff g v f)(fu:valid f=true)(h0:0≤a)(h1:a<f.steps.length)(hg:given f [a,b]=true)(HK:dS (ways f a) b=some (some w))(Ih:w.steps.length≤1000000):
  CallsIn Wd 0 Tryz.prog 135 #[v,.int .i64 a,.int .i64 b] g.w (cF g fun g' r=> ∃u,r= .tuple #[u,.bool true]∧Rs g' u w.steps):=by
 obtain⟨a1,n1,c1,a2,n2,c2,rfl,aH,aU⟩:=id dj;obtain⟨_,_,e⟩:=aH.isSlice;obtain⟨rfl,rfl,rfl⟩:=Value.slice.inj e;clear e;have hs:=St.start g;have aq:=G.le.refl g;refine enter Tryz.func135 rfl Tryz.ntmps135 rfl ?_;apply cM;refine ak rfl rfl (aO rfl hs rfl rfl ?_);clear hs;rintro bf g1 hs ah;replace dj:=dj.mono ah;obtain⟨g2,bL,aT,ah,aL⟩:=hs.ba (i:=0) rfl;replace hs:=aT;clear aT;rw[←bL];replace dj:=dj.mono ah;have aC:=aL;clear aL;refine bj rfl ?_;apply aD;refine dz 3 [.z aC] (St.start _) rfl ?_;refine ak rfl rfl (bD T.ok rfl hs (vs:=[(0,.int .i64 a),(1,.int .i64 b)]) (cells:=[.int .i64 a,.int .i64 b]) rfl rfl rfl rfl rfl rfl (by decide) (by decide) (by kernel_rfl) rfl ?_);rintro b2 g2 hs ah;obtain⟨aC,dj⟩:=cf ah aC dj;obtain⟨g3,pf,vn,qI,ny⟩:=hs.cK (α:=Int) (xs:=[a,b]) (i:=0) rfl (cG.ints _ [a,b]);clear ah;have ah:=qI;rw[←pf];replace hs:=vn;obtain⟨aC,dj⟩:=cf ah aC dj;skip;refine ak rfl rfl (au EB aJ rfl rfl rfl rfl rfl (xY _ _ f [a,b] _ dj ny) ?_);rintro g1 _ aP rfl;replace hs:=hs.call aP;have ah:=aP.le;obtain⟨aC,dj⟩:=cf ah aC dj;rw[hg];refine bj rfl ?_;refine aV rfl rfl ?_;apply aF;apply ar;refine dz 2 [.z aC] (St.start _) rfl ?_;refine ak rfl rfl (au JC aJ rfl rfl rfl rfl rfl (FP _ f a _ dj fu h0 h1) ?_);rintro g1 _ aP Cq;replace hs:=hs.call aP;have ah:=aP.le;obtain⟨aw,cw,rfl⟩:=Cq.isSlice;refine Wp 1 rfl ?_;refine ak rfl rfl (aW T.ok rfl Cq (y:=some w) HK rfl rfl rfl rfl rfl rfl ?_);rintro b p ys aL ⟨bw,cs,rfl,Mj,Hk⟩;obtain⟨a7,n7,c7,rfl,eh⟩:=Hk;refine Wm 1 [.e aL 0] (St.start _) rfl ?_;refine bj rfl ?_;apply aD;refine cN 1 rfl ?_;refine ak rfl rfl (dw T.ok (neg:=false) rfl rfl rfl rfl rfl ?_);apply bW;refine aV rfl rfl ?_;apply aF;apply ar;refine cN 3 rfl ?_;refine Wm 1 [.e Mj 1] (St.start _) rfl ?_;skip;refine ak rfl rfl (au B4 aJ rfl rfl rfl rfl rfl (tC _ w.steps _ eh Ih) ?_);rintro g6 v lz ⟨FV,MD,Ij⟩;replace hs:=hs.ft lz MD;obtain⟨g8,Ei,yW,ah,C_⟩:=hs.cK (α:=Int) (i:=0) rfl Ij;rw[←Ei];(repeat clear hs);have hs:St g g8 []:=yW;refine bj rfl ?_;exact aI (rH rfl rfl rfl (hs.ret ⟨_,rfl,C_⟩))
end Go.Proofs.YtgehbndkogohpaaGreatDoor
namespace Go.K
open Go Go.RowKit
variable {F:Fence} {P:Program} {N:Nat} {ds:List Deferred} {l l':Env} {a:Act} {w:World} {Q:Exit→Act→World→Prop} {ops:Array Oper} {os:List Oper} {o:Oper}
variable {g0 g:G} {L:List cS} {K:Value→World→Prop}
theorem Ab{tb:Tb}(dq:tb.ok P){t tn e:Nat}{ti ei:TI}{kn kq:IntKind}{k:Nat}{s x:Operand}{n:Nat}
  (ho:o.op= .call {callee:=.builtin .append,args:=#[s,x],argTypes:=#[t,tn]}) (hs:St g0 g L) (hv:ev l s=some (.slice none 0 0)) (hx:ev l x=some (.int kq (n:Int)))
  (hi:tl tb t=some ti) (hd:ti.desc= .slice e) (XN:P.underlying tn=some (.int kn)) (hj:tl tb e=some ei) (hk:ei.size=k) (nA:0<k) (hz:ei.zero.cells.size=k) (h0:0<n)
  (hb:n*ei.bytes≤281474976710656) (Ca:n≤maxLen)
  (kk: ∀b c g',0<c→St g0 g' (.row e k (.slice (some ⟨b,0,none⟩) 0 c) 0 []::L)→g.le g'→K (.slice (some ⟨b,0,none⟩) n c) g'.w):cD F P N ds o l g.w Q K:=by
 obtain⟨⟨dd,hu,he⟩,_⟩:=dq.at hi;rw[hd]at he;obtain rfl:=KD.of_slice he;obtain⟨_,inf,e1,e2,e3,e4⟩:=dq.at hj;have cP:inf.size=k:=by rw[e2,hk]
 have iU:=Lib.run_append_nil_zeros (P:=P) g.w t tn o.type e inf ei.zero kq kn hu XN e1 e4 n h0 (by omega) (by unfold maxLen at Ca;omega) (by rw[e3];exact hb);have Hj:=grownCap_ge g.w n 0 e;have hle:=grownCap_le_maxLen g.w n 0 e Ca;generalize grownCap g.w n 0 e=c at*;let ob:Obj:=.cells (Builtin.zeroCells ei.zero.cells n++Builtin.zeroCells ei.zero.cells (c-n)) e (0,0)
 have TZ:=World.alloc_heap_new g.w.drew ob;have dH:=hs.dr.add (g':=g.dr.al ob) (e':=.row e k (.slice (some ⟨g.w.heap.size,0,none⟩) 0 c) 0 []) (oh _ _ _) (fun _ _=>Iff.rfl)
  ⟨⟨by simp,.inr ⟨g.w.heap.size,0,c,_,rfl,hs.below.size,fh.plain TZ,Nat.zero_le _,hle,by
    rw[Array.size_append,size_zeroCells,size_zeroCells,hz,←Nat.add_mul,Nat.zero_add];congr 1;omega,by simp⟩⟩,fun b hb hi=>by
   obtain⟨a,n',c,e5,_,e6⟩:=jz hb;simp only[Value.slice.injEq,Option.some.injEq]at e5;obtain⟨rfl,_⟩:=e5;have:=g.lt b hi;simp only at e6;omega⟩
  (fun b hb=>by obtain⟨a,n',c,e5,_,e6⟩:=jz (v:=.slice (some ⟨g.w.heap.size,0,none⟩) 0 c) hb;simp only[Value.slice.injEq,Option.some.injEq]at e5;obtain⟨rfl,_⟩:=e5;simp only at e6;show g.w.heap.size≤b;omega)
 refine eZ ho (w':=(g.dr.al ob).w) (fun a ha=>?_) (kk _ _ _ (by omega) dH.1 ((G.bu g).trans dH.2));simp[resolve,invoke,builtin,ha.ev hv,ha.ev hx,iU];rfl
theorem CT{tb:Tb}(dq:tb.ok P){t e:Nat}{ti:TI}{x:Operand}{ad:Option Addr}{n c:Nat}(ho:o.op= .call {callee:=.builtin .cap,args:=#[x],argTypes:=#[t]})(hx:ev l x=some (.slice ad n c))(hi:tl tb t=some ti)(hd:ti.desc= .slice e)(k:K (.int .i64 c) w):cD F P N ds o l w Q K:=by obtain⟨⟨dd,hu,he⟩,_⟩:=dq.at hi;rw[hd]at he;obtain rfl:=KD.of_slice he;refine eZ ho (w':=w) (fun a ha=>?_) k;simp[resolve,invoke,builtin,ha.ev hx,Builtin.cap_,run_underlying hu,goInt]
theorem Qq{fn:Func}{tb:Tb}(dq:tb.ok P)(i j:Nat){t T b u U c:Nat}{cs Vb:List Value}{E E2:TypeId}{fz XO:Nat×Nat}{v x:Value}{R:Ending→World→Prop}(hr:fn.results=#[.cell t T,.cell u U])(hs:St g0 g L)(hi:L[i]? =some (.obj b (.cells cs.toArray E fz)))(hj:L[j]? =some (.obj c (.cells Vb.toArray E2 XO)))
  (hl:lk l t=some (.pointer (some ⟨b,0,none⟩))) (hu:lk l u=some (.pointer (some ⟨c,0,none⟩))) (hv:vj tb T cs 0=some v) (hx:vj tb U Vb 0=some x) (hR:R (.returned (.tuple #[v,x])) g.w) (a:Act) (ha:Fr N [] l a):bodyPost P fn R .ret a g.w:=by
 refine⟨ha.defers,_,?_,hR⟩;have h1:=gm (P:=P) (w:=g.w) (off:=0) (o:=0) dq hv (je (hs.own i _ hi).2.1);have h2:=gm (P:=P) (w:=g.w) (off:=0) (o:=0) dq hx (je (hs.own j _ hj).2.1);simp only[Nat.add_zero]at h1 h2;simp[results,hr,ha.get t _ hl,asAddr,h1,ha.get u _ hu,h2]
end Go.K
namespace Go.Proofs.YtgehbndkogohpaaGreatDoor
open Go Go.K
set_option maxRecDepth 10000
attribute [local irreducible] W WL cD bc bK bd bg bh cq ck
set_option maxHeartbeats 4000000
theorem Ml(n:Nat)(g:G)(h0:0<n)(hn:n≤1000000):CallsIn Wd 0 Tryz.prog 234 #[.slice none 0 0,.int .i64 n] g.w (cF g fun g' r=> ∃ad c,r= .slice ad 0 c∧cS.holds g.w.heap.size g' (.row 3 1 (.slice ad 0 c) 0 [])):=by
 have hs:=St.start g;refine enter Tryz.func234 rfl Tryz.ntmps234 rfl ?_;refine aY rfl ?_;apply aD;refine aY rfl ?_;refine aV (b:=decide ((n:Int)<0)) (decide_eq_false (by omega)) rfl ?_;apply aF;apply ar;apply aD;refine cN 2 rfl ?_;refine ak rfl rfl (CT T.ok rfl rfl rfl rfl ?_);refine bj rfl ?_;refine aY rfl ?_;have e:IntKind.i64.wrap ((n:Int)-IntKind.i64.wrap (((0:Nat):Int)-((0:Nat):Int)))=(n:Int):=by rw[wr (n:=((0:Nat):Int)-_) (by omega) (by omega),wr (by omega) (by omega)];omega
 rw[e];refine aM (b:=decide (0<(n:Int))) (decide_eq_true (by omega)) rfl ?_;apply aA;refine Wp 2 rfl ?_;refine ak rfl rfl (CT T.ok rfl rfl rfl rfl ?_);refine ak rfl rfl (kF T.ok rfl rfl rfl rfl (a:=0) (b:=0) rfl rfl ⟨_,rfl⟩ (Nat.le_refl _) (Nat.le_refl _) ?_);refine Wp 1 rfl ?_;refine ak rfl rfl (Ab T.ok rfl hs rfl rfl rfl rfl Tryz.underlying3 rfl rfl (by decide) rfl h0 (by show n*8≤_;omega) (by unfold maxLen;omega) ?_);clear hs;intro b c g1 hc hs ah;skip;refine Wp 2 rfl ?_;refine ak rfl rfl (kF T.ok rfl rfl rfl rfl (a:=0) (b:=0) rfl rfl ⟨_,rfl⟩ (Nat.le_refl _) (Nat.zero_le _) ?_);refine kz (.slice (some ⟨b,0,none⟩) 0 c) (t:=25) rfl (by rw[if_neg (by omega)];rfl) ?_;refine bj rfl ?_;refine aY rfl ?_;exact aI (aX rfl rfl (hs.ret ⟨_,_,rfl,hs.own 0 _ rfl⟩))
theorem G_(v:Value)(l:List Int)(g:G)(aH:Rs g v (l.map fun x=>[x]))(h0:0<l.length)(hl:l.length≤1000):CallsIn Wd 0 Tryz.prog 137 #[v] g.w (cF g fun g' r=>Rs g' r l):=by
 obtain⟨a,c,rfl⟩:=aH.isSlice;have HT:(l.map fun x=>[x]).length=l.length:=List.length_map ..;rw[HT]at aH⊢;have hs:=St.start g;have aq:=G.le.refl g;have jG: ∀{k:Nat} (h:k<l.length),dS (l.map fun x=>[x]) (k:Int)=some [l[k]]:=fun h=>by simp[dS,h]
 refine enter Tryz.func137 rfl Tryz.ntmps137 rfl ?_;refine aY rfl ?_;refine aY rfl ?_;apply aD;refine aY rfl ?_;apply aG;refine bM (fun m a' w=> ∃(k:Nat) (g':G),w=g'.w∧St g g' []∧G.le g g'∧Rs g' (.slice a l.length c) (l.map fun x=>[x])∧k≤l.length∧m=l.length-k∧
   Fr 36 [] [(0,.slice a l.length c),(3,.int .i64 (k:Nat)),(9,.slice a l.length c),(10,.int .i64 (l.length:Nat)),(11,.int .i64 (k:Nat))] a') l.length
  (fun a' ha=>⟨0,_,rfl,hs,aq,aH,Nat.zero_le _,rfl,ha.keep (by(repeat (first|exact trivial|refine⟨rfl,?_⟩)))⟩) ?_
 (repeat clear hs);(repeat clear aq);(repeat clear aH)
 rintro m a' _ ⟨k,g',rfl,hs,aq,aH,hk,rfl,eF⟩;revert a';apply cI;refine aY rfl ?_;apply aD;by_cases bC:k<l.length
 ·refine aM (b:=decide ((k:Int)<(l.length:Int))) (decide_eq_true (by omega)) rfl ?_;apply aF;apply ar;apply aD;apply aG;apply cM;refine ak rfl rfl (aW T.ok rfl aH (y:=[l[k]]) (jG bC) rfl rfl rfl rfl rfl rfl ?_);rintro b p ys aL ⟨u,rfl,Ry⟩;obtain⟨a1,c1,rfl⟩:=Ry.isSlice;have e1:[l[k]].length=1:=rfl;refine Wm 1 [.e aL 0] (St.start _) rfl ?_;refine bj rfl ?_;refine aY rfl ?_;refine aY rfl ?_;refine aV (b:=decide (IntKind.i64.wrap ((k:Int)+([l[k]].length:Nat))<0)) (decide_eq_false (by rw[wr (by omega) (by omega)];omega)) rfl ?_;apply aF;apply bR;apply ar;apply aA;refine Wp 2 rfl ?_;apply aE;exact fun a ha=>⟨l.length-(k+1),by omega,k+1,_,rfl,hs,aq,aH,by omega,rfl,ha.keep ⟨rfl,kI rfl (by rw[wr (by omega) (by omega)];omega),rfl,rfl,kI rfl (by rw[wr (by omega) (by omega)];omega),trivial⟩⟩
 refine aV (b:=decide ((k:Int)<(l.length:Int))) (decide_eq_false (by omega)) rfl ?_;obtain rfl:k=l.length:=by omega
 apply bF;apply bG;apply bG;apply c_;apply ar;refine cN 1 rfl ?_;refine ak rfl rfl (au Oj aJ rfl rfl rfl rfl rfl (Ml l.length _ h0 (by omega)) ?_);rintro g6 _ lz ⟨ad,c8,rfl,rS⟩;replace hs:=hs.ft lz rS;have ah:=lz.le;obtain⟨aq,aH⟩:=cf ah aq aH;clear rS lz;refine bj rfl ?_;apply aD;refine aY rfl ?_;apply aG;refine bM (fun m a' w=> ∃(k:Nat) (ad:Option Addr) (c8:Nat) (g':G),w=g'.w∧St g g' [.row 3 1 (.slice ad k c8) k ((l.take k).map (Value.int .i64))]∧G.le g g'∧Rs g' (.slice a l.length c) (l.map fun x=>[x])∧k≤l.length∧m=l.length-k∧
   Fr 36 [] [(6,.slice ad k c8),(25,.slice a l.length c),(26,.int .i64 (l.length:Nat)),(27,.int .i64 (k:Nat))] a') l.length
  (fun a' ha=>⟨0,ad,c8,_,rfl,hs,aq,aH,Nat.zero_le _,rfl,ha.keep (by(repeat (first|exact trivial|refine⟨rfl,?_⟩)))⟩) ?_
 (repeat clear hs);(repeat clear aq);(repeat clear aH)
 rintro m a' _ ⟨k,ad,c8,g',rfl,hs,aq,aH,hk,rfl,eF⟩;revert a';apply cI;refine aY rfl ?_;apply aD;by_cases bC:k<l.length
 ·refine aM (b:=decide ((k:Int)<(l.length:Int))) (decide_eq_true (by omega)) rfl ?_;apply aF;apply ar;apply aD;apply aG;apply cM;refine ak rfl rfl (aW T.ok rfl aH (y:=[l[k]]) (jG bC) rfl rfl rfl rfl rfl rfl ?_);rintro b p ys aL ⟨u,rfl,Ry⟩;obtain⟨a1,c1,rfl⟩:=Ry.isSlice;refine Wm 1 [.e aL 0] (St.start _) rfl ?_;refine bj rfl ?_;apply aA;refine Wp 2 rfl ?_;obtain⟨_,news,Ru,C9⟩:=Src.lq Ry;obtain rfl:news=[.int .i64 l[k]]:=by obtain⟨k1,k2,rfl,rfl,rfl⟩:=Ru;rfl
  refine ak rfl rfl (cd T.ok 0 rfl hs rfl rfl rfl rfl rfl rfl rfl (by decide) rfl C9 (by simp[Value.oneCell']) (by show(k+1)*8≤_;omega) (by show k+1≤maxLen;unfold maxLen;omega) ?_);rintro a4 c4 g10 hs ah;obtain⟨aq,aH⟩:=cf ah aq aH;replace hs:St g g10 [.row 3 1 (.slice a4 (k+1) c4) (k+1) ((l.take (k+1)).map (Value.int .i64))]:=by rw[List.take_succ_eq_append_getElem bC];rw[List.map_append];exact hs
  refine Wp 1 rfl ?_;apply aE;apply bR;apply ar;apply aA;refine Wp 2 rfl ?_;apply aE;exact fun a ha=>⟨l.length-(k+1),by omega,k+1,a4,c4,_,rfl,hs,aq,aH,by omega,rfl,ha.keep ⟨rfl,rfl,rfl,kI rfl (by rw[wr (by omega) (by omega)];omega),trivial⟩⟩
 refine aV (b:=decide ((k:Int)<(l.length:Int))) (decide_eq_false (by omega)) rfl ?_;obtain rfl:k=l.length:=by omega
 rw[List.take_of_length_le (Nat.le_refl _)]at hs;obtain⟨g8,Ei,yW,ah,aU⟩:=hs.cK (α:=Int) (i:=0) rfl (cG.ints _ l);rw[←Ei];(repeat clear hs);have hs:St g g8 []:=yW;apply bF;apply bG;apply bG;apply c_;apply ar;refine aY rfl ?_;exact aI (aX rfl rfl (hs.ret aU))
end Go.Proofs.YtgehbndkogohpaaGreatDoor
namespace Go.Proofs.YtgehbndkogohpaaGreatDoor
open Go Go.K
set_option maxRecDepth 10000
attribute [local irreducible] W WL cD bc bK bd bg bh cq ck
set_option maxHeartbeats 4000000
def C7:bQ:=⟨2,5,[⟨1,[0],10,20,[1],-1,0⟩,⟨1,[1],10,20,[2],-1,0⟩,⟨1,[2],10,20,[],-1,0⟩],[⟨0,2,13⟩]⟩
theorem sC:valid C7=true:=by decide+kernel
theorem xt:given C7 [0,2]=true:=by decide+kernel
theorem BY(v:Value)(g:G)(dj:ff g v C7):
  CallsIn Wd 0 Tryz.prog 57 #[v,.agg #[.int .i64 0,.int .i64 2,.int .i64 13]] g.w (cF g fun g' r=> ∃u,r= .tuple #[.agg #[.int .i64 3,u],.bool true]∧Rs g' u [(0:Int),1,2]):=by
 obtain⟨a1,n1,c1,a2,n2,c2,rfl,ku,C_⟩:=id dj;clear ku C_;have hs:=St.start g;have aq:=G.le.refl g;refine enter Tryz.func57 rfl Tryz.ntmps57 rfl ?_;apply cM;refine ak rfl rfl (aO rfl hs rfl rfl ?_);clear hs;rintro b2 g1 hs ah;replace dj:=dj.mono ah;obtain⟨g2,bL,aT,ah,aL⟩:=hs.ba (i:=0) rfl;replace hs:=aT;clear aT;rw[←bL];replace dj:=dj.mono ah;have aC:=aL;clear aL;skip;refine ak rfl rfl (aO rfl hs rfl rfl ?_);clear hs;rintro b3 g1 hs ah;obtain⟨aC,dj⟩:=cf ah aC dj;obtain⟨g2,bL,aT,ah,aL⟩:=hs.ba (i:=0) rfl;replace hs:=aT;clear aT;rw[←bL];obtain⟨aC,dj⟩:=cf ah aC dj;have aR:=aL;clear aL;skip;refine ak rfl rfl (aK T.ok rfl hs rfl rfl ?_);clear hs;rintro b4 g1 hs ah;obtain⟨aC,aR,dj⟩:=dy ah aC aR dj;refine bj rfl ?_;refine dz 5 [.z aC,.z aR,.z aR] (St.start _) rfl ?_;refine ak rfl rfl (au Np aJ rfl rfl rfl rfl rfl (Mk _ C7 0 2 ⟨14,[1]⟩ _ dj sC (by decide) (by decide) xt rfl (by decide)) ?_);rintro g1 _ aP ⟨u,rfl,aU⟩;replace hs:=hs.call aP;have ah:=aP.le;obtain⟨aC,aR,dj⟩:=dy ah aC aR dj;obtain⟨aw,cw,rfl⟩:=aU.isSlice;refine bj rfl ?_;apply aD;refine aY rfl ?_;refine aV rfl rfl ?_;apply aF;apply ar;apply aD;refine dz 5 [.z aC,.z aR,.z aR] (St.start _) rfl ?_;refine ak rfl rfl (au Nq aJ rfl rfl rfl rfl rfl (G9 _ C7 0 2 ⟨14,[1]⟩ _ dj sC (by decide) (by decide) xt rfl) ?_);rintro g1 _ aP rfl;replace hs:=hs.call aP;have ah:=aP.le;obtain⟨aR,aU⟩:=cf ah aR aU;refine bj rfl ?_;refine l_ [.z aR] (St.start _) rfl ?_;refine aM rfl rfl ?_;refine dz 2 [.z aR] (St.start _) rfl ?_;refine ak rfl rfl (bD T.ok rfl hs (vs:=[(0,.int .i64 0)]) (cells:=[.int .i64 0]) rfl rfl rfl rfl rfl rfl (by decide) (by decide) (by kernel_rfl) rfl ?_);rintro b7 gl hs ah;obtain⟨aR,aU⟩:=cf ah aR aU;obtain⟨gz,iQ,cP,jq,bS⟩:=hs.cK (α:=Int) (xs:=[(0:Int)]) (i:=0) rfl (cG.ints _ [(0:Int)]);clear ah;have ah:=jq;rw[←iQ];(repeat clear hs);have hs:St g gz [.obj b4 (.cells #[.int .i64 0,.slice none 0 0] 54 (0,0))]:=cP;clear cP;obtain⟨aR,aU⟩:=cf ah aR aU;refine Wm 3 [.z aR] (St.start _) rfl ?_;refine ak rfl rfl (bD T.ok rfl hs (vs:=[(0,.int .i64 2)]) (cells:=[.int .i64 2]) rfl rfl rfl rfl rfl rfl (by decide) (by decide) (by kernel_rfl) rfl ?_);rintro b8 gl hs ah;obtain⟨aU,bS⟩:=cf ah aU bS;obtain⟨gz,iQ,cP,jq,cH⟩:=hs.cK (α:=Int) (xs:=[(2:Int)]) (i:=0) rfl (cG.ints _ [(2:Int)]);clear ah;have ah:=jq;rw[←iQ];(repeat clear hs);have hs:St g gz [.obj b4 (.cells #[.int .i64 0,.slice none 0 0] 54 (0,0))]:=cP;clear cP;obtain⟨aU,bS⟩:=cf ah aU bS;skip;refine ak rfl rfl (bD T.ok rfl hs (vs:=[(0,.slice (some ⟨b7,0,none⟩) 1 1),(1,.slice aw 1 cw),(2,.slice (some ⟨b8,0,none⟩) 1 1)]) (cells:=[.slice (some ⟨b7,0,none⟩) 1 1,.slice aw 1 cw,.slice (some ⟨b8,0,none⟩) 1 1]) rfl rfl rfl rfl rfl rfl (by decide) (by decide) (by kernel_rfl) rfl ?_);rintro b9 gl hs ah;obtain⟨aU,bS,cH⟩:=dy ah aU bS cH;obtain⟨gz,iQ,cP,jq,o5⟩:=hs.cK (α:=List Int) (xs:=[0,1,2].map fun(x:Int)=>[x]) (i:=0) rfl ⟨[_],_,rfl,⟨_,rfl,bS⟩,[_],_,rfl,⟨_,rfl,aU⟩,[_],_,rfl,⟨_,rfl,cH⟩,rfl⟩;clear ah;have ah:=jq;rw[←iQ];(repeat clear hs);have hs:St g gz [.obj b4 (.cells #[.int .i64 0,.slice none 0 0] 54 (0,0))]:=cP;clear cP;skip;refine ak rfl rfl (au Nr aJ rfl rfl rfl rfl rfl (G_ _ [0,1,2] _ o5 (by decide) (by decide)) ?_);rintro g1 _ aP lC;replace hs:=hs.call aP;have ah:=aP.le;obtain⟨a5,c5,rfl⟩:=lC.isSlice;skip;refine ak rfl rfl (aQ T.ok rfl (vs:=[(0,.int .i64 3),(1,.slice a5 3 c5)]) (cells:=[.int .i64 3,.slice a5 3 c5]) rfl rfl rfl rfl [(0,1),(1,1)] rfl (by kernel_rfl) ?_);skip;refine bA rfl (az T.ok 0 rfl hs rfl rfl rfl rfl rfl rfl rfl rfl rfl ?_);replace hs:=hs;rintro g1 hs ah;replace lC:=lC.mono ah;refine bj rfl ?_;exact aI (sy T.ok 0 rfl hs rfl rfl rfl rfl (hs.ret ⟨_,rfl,lC⟩))
theorem G7(v:Value)(g:G)(dj:ff g v C7):
  CallsIn Wd 0 Tryz.prog 20 #[v] g.w (cF g fun g' r=> ∃u,r= .agg #[.int .i64 3,u]∧Rs g' u [(0:Int),1,2]):=by
 obtain⟨a1,n1,c1,a2,n2,c2,rfl,ku,C_⟩:=id dj;obtain⟨_,_,e⟩:=C_.isSlice;obtain⟨rfl,rfl,rfl⟩:=Value.slice.inj e;clear e;have hs:=St.start g;have aq:=G.le.refl g;refine enter Tryz.func20 rfl Tryz.ntmps20 rfl ?_;apply cM;refine ak rfl rfl (aO rfl hs rfl rfl ?_);clear hs;rintro b1 g1 hs ah;obtain⟨C_,dj⟩:=cf ah C_ dj;obtain⟨g2,bL,aT,ah,aL⟩:=hs.ba (i:=0) rfl;replace hs:=aT;clear aT;rw[←bL];obtain⟨C_,dj⟩:=cf ah C_ dj;have aC:=aL;clear aL;skip;refine ak rfl rfl (aK T.ok rfl hs rfl rfl ?_);clear hs;rintro b2 g1 hs ah;obtain⟨aC,C_,dj⟩:=dy ah aC C_ dj;apply bW;apply aD;refine dz 1 [.z aC] (St.start _) rfl ?_;refine ak rfl rfl (au Kx aJ rfl rfl rfl rfl rfl (xZ _ C7 _ dj) ?_);rintro g1 _ aP rfl;replace hs:=hs.call aP;have ah:=aP.le;obtain⟨aC,C_,dj⟩:=dy ah aC C_ dj;rw[sC];refine bj rfl ?_;refine aV rfl rfl ?_;apply aF;apply ar;apply aD;refine l_ [.z aC] (St.start _) rfl ?_;apply aG;refine bM (fun m a' w=>w=g1.w∧m=0∧Fr 28 [] [(1,.pointer (some ⟨b1,0,none⟩)),(2,.pointer (some ⟨b2,0,none⟩)),(12,.slice a2 1 c2),(13,.int .i64 1),(14,.int .i64 0)] a') 0
  (fun a' ha=>⟨rfl,rfl,ha.keep (by(repeat (first|exact trivial|refine⟨rfl,?_⟩)))⟩) ?_
 rintro m a' _ ⟨rfl,rfl,eF⟩;revert a';apply cI;refine aY rfl ?_;apply aD;refine aM rfl rfl ?_;apply aF;apply ar;apply aD;apply aG;apply cM;refine ak rfl rfl (aW T.ok rfl C_ (y:=⟨0,2,13⟩) rfl rfl rfl rfl rfl rfl rfl ?_);rintro b p ys aL rfl;refine Wm 1 [.e aL 0] (St.start _) rfl ?_;skip;refine ak rfl rfl (aK T.ok rfl hs rfl rfl ?_);clear hs;rintro b4 g1 hs ah;obtain⟨aC,dj⟩:=cf ah aC dj;refine bA rfl (az T.ok 0 rfl hs rfl rfl rfl rfl rfl rfl rfl rfl rfl ?_);replace hs:=hs;rintro g1 hs ah;obtain⟨aC,dj⟩:=cf ah aC dj;clear aL;obtain⟨g2,bL,aT,ah,aL⟩:=hs.ba (i:=0) rfl;replace hs:=aT;clear aT;rw[←bL];obtain⟨aC,dj⟩:=cf ah aC dj;have aR:=aL;clear aL;apply bW;refine dz 2 [.z aC,.z aR] (St.start _) rfl ?_;refine ak rfl rfl (au RW aJ rfl rfl rfl rfl rfl (BY _ _ dj) ?_);rintro g6 _ lz ⟨u,rfl,aU⟩;replace hs:=hs.call lz;have ah:=lz.le;obtain⟨aw,cw,rfl⟩:=aU.isSlice;refine Wp 3 rfl ?_;refine ak rfl rfl (aK T.ok rfl hs rfl rfl ?_);clear hs;rintro b5 g1 hs ah;replace aU:=aU.mono ah;refine bA rfl (az T.ok 0 rfl hs rfl rfl rfl rfl rfl rfl rfl rfl rfl ?_);replace hs:=hs;rintro g1 hs ah;replace aU:=aU.mono ah;refine bj rfl ?_;refine aY rfl ?_;refine aM rfl rfl ?_;refine dz 1 [.o 0] hs rfl ?_;refine bA rfl (az T.ok 1 rfl hs rfl rfl rfl rfl rfl rfl rfl rfl rfl ?_);replace hs:=hs;rintro g1 hs ah;replace aU:=aU.mono ah;apply bW;exact aI (kC T.ok 1 rfl hs rfl rfl rfl (hs.ret ⟨_,rfl,aU⟩))
end Go.Proofs.YtgehbndkogohpaaGreatDoor
namespace Go.Proofs.YtgehbndkogohpaaGreatDoor
open Go Go.K
set_option maxRecDepth 10000
attribute [local irreducible] W WL cD bc bK bd bg bh cq ck
set_option maxHeartbeats 4000000
structure Sg where
def Jb:List Value:=[.int .i64 10,.int .i64 20,.int .i64 1,.int .i64 5,.int .i64 2,.int .i64 29]
abbrev Un:Value:=.agg #[.int .i64 10,.int .i64 20,.int .i64 1,.int .i64 5,.int .i64 2,.int .i64 29]
instance:El Sg where
 k:=6
 pos:=by omega
 rc _ cs _:=cs=Jb
 len h:=by rw[h];rfl
 mono _ h:=h
 one h:=by rw[h];simp[Jb,Value.oneCell']
abbrev QP(a:Option Addr)(c:Nat):Value:=.agg #[.int .i64 0,.int .i64 1,.int .i64 5,.slice a 1 c,.slice none 0 0]
theorem kQ(n lo hi:Int)(g:G):CallsIn Wd 0 Tryz.prog 142 #[.int .i64 n,.int .i64 lo,.int .i64 hi] g.w (cF g fun _ v=>v= .bool (within n lo hi)):=by
 have hs:=St.start g;refine enter Tryz.func142 rfl Tryz.ntmps142 rfl ?_;refine aY rfl ?_;refine cN 4 rfl ?_;refine cp (want:=true) (x:=decide (n≤hi)) 3 aJ rfl rfl rfl rfl (.inl ⟨rfl,rfl,rfl⟩) rfl rfl rfl rfl (fun hb Q' eG=>?_) (fun g' hf=>?_)
 ·refine Wp 3 rfl ?_;apply aE;exact fun a ha=>eG _ a (a_.refl _) (ha.keep (by(repeat (first|exact trivial|refine⟨rfl,?_⟩))))
 replace hs:=hs.call hf;refine bj rfl ?_;exact aI (aX rfl rfl (hs.ret rfl))
theorem Da(t u:Int)(g:G)(h1:within t 0 59=true)(h2:within u 0 (IntKind.i64.wrap (1000000-20))=true):CallsIn Wd 0 Tryz.prog 239 #[.agg #[.int .i64 t,.int .i64 u],.int .i64 20] g.w (cF g fun _ v=>v= .bool true):=by have hs:=St.start g;have aq:=G.le.refl g;refine enter Tryz.func239 rfl Tryz.ntmps239 rfl ?_;apply cM;refine ak rfl rfl (aO rfl hs rfl rfl ?_);clear hs;rintro b2 g1 hs ah;obtain⟨g2,bL,aT,ah,aL⟩:=hs.ba (i:=0) rfl;replace hs:=aT;clear aT;rw[←bL];have aC:=aL;clear aL;refine bj rfl ?_;refine dz 2 [.z aC] (St.start _) rfl ?_;refine ak rfl rfl (au vZ aJ rfl rfl rfl rfl rfl (kQ _ _ _ _) ?_);rintro g1 _ aP rfl;replace hs:=hs.call aP;have ah:=aP.le;replace aC:=aC.mono ah;rw[h1];refine Wm 5 [.z aC] (St.start _) rfl ?_;refine ak rfl rfl (au vZ aJ rfl rfl rfl rfl rfl (kQ _ _ _ _) ?_);rintro g1 _ aP rfl;replace hs:=hs.call aP;have ah:=aP.le;rw[h2];refine bj rfl ?_;exact aI (aX rfl rfl (hs.ret rfl))
theorem G'(g:G):CallsIn Wd 0 Tryz.prog 145 #[Un] g.w (cF g fun _ v=>v= .bool true):=by have hs:=St.start g;have aq:=G.le.refl g;refine enter Tryz.func145 rfl Tryz.ntmps145 rfl ?_;apply cM;refine ak rfl rfl (aO rfl hs rfl rfl ?_);clear hs;rintro b1 g1 hs ah;obtain⟨g2,bL,aT,ah,aL⟩:=hs.ba (i:=0) rfl;replace hs:=aT;clear aT;rw[←bL];have aC:=aL;clear aL;refine bj rfl ?_;apply aD;refine dz 4 [.z aC,.z aC] (St.start _) rfl ?_;refine ak rfl rfl (au vZ aJ rfl rfl rfl rfl rfl (kQ _ _ _ _) ?_);rintro g1 _ aP rfl;replace hs:=hs.call aP;have ah:=aP.le;replace aC:=aC.mono ah;refine Dk [.z aC] (St.start _) rfl ?_;refine aV rfl rfl ?_;apply aF;apply ar;refine dz 4 [.z aC,.z aC] (St.start _) rfl ?_;refine ak rfl rfl (au JE aJ rfl rfl rfl rfl rfl (Da _ _ _ (by decide+kernel) (by decide+kernel)) ?_);rintro g1 _ aP rfl;replace hs:=hs.call aP;have ah:=aP.le;replace aC:=aC.mono ah;refine Wm 5 [.z aC,.z aC] (St.start _) rfl ?_;refine ak rfl rfl (au JE aJ rfl rfl rfl rfl rfl (Da _ _ _ (by decide+kernel) (by decide+kernel)) ?_);rintro g1 _ aP rfl;replace hs:=hs.call aP;have ah:=aP.le;replace aC:=aC.mono ah;refine Dk [.z aC,.z aC] (St.start _) rfl ?_;exact aI (aX rfl rfl (hs.ret rfl))
theorem QQ(g:G):CallsIn Wd 0 Tryz.prog 144 #[Un] g.w (cF g fun _ v=>v= .bool false):=by have hs:=St.start g;have aq:=G.le.refl g;refine enter Tryz.func144 rfl Tryz.ntmps144 rfl ?_;apply cM;refine ak rfl rfl (aO rfl hs rfl rfl ?_);clear hs;rintro b1 g1 hs ah;obtain⟨g2,bL,aT,ah,aL⟩:=hs.ba (i:=0) rfl;replace hs:=aT;clear aT;rw[←bL];have aC:=aL;clear aL;refine bj rfl ?_;refine dz 1 [.z aC] (St.start _) rfl ?_;refine ak rfl rfl (au Nw aJ rfl rfl rfl rfl rfl (G' _) ?_);rintro g1 _ aP rfl;replace hs:=hs.call aP;have ah:=aP.le;refine bj rfl ?_;exact aI (aX rfl rfl (hs.ret rfl))
theorem Mm(a:Option Addr)(c:Nat)(g:G)(aH:Rs g (.slice a 1 c) [Sg.mk]):CallsIn Wd 0 Tryz.prog 238 #[.slice a 1 c,.func (.func 144) #[] #[]] g.w (cF g fun _ v=>v= .int .i64 (-1)):=by
 have hs:=St.start g;have aq:=G.le.refl g;refine enter Tryz.func238 rfl Tryz.ntmps238 rfl ?_;refine aY rfl ?_;apply aD;refine aY rfl ?_;apply aG;refine bM (fun m a' w=> ∃(k:Nat) (g':G),w=g'.w∧St g g' []∧Rs g' (.slice a 1 c) [Sg.mk]∧k≤1∧m=1-k∧
   Fr 19 [] [(0,.slice a 1 c),(1,.func (.func 144) #[] #[]),(7,.int .i64 1),(8,.int .i64 (k:Nat))] a') 1
  (fun a' ha=>⟨0,_,rfl,hs,aH,Nat.zero_le _,rfl,ha.keep (by(repeat (first|exact trivial|refine⟨rfl,?_⟩)))⟩) ?_
 (repeat clear hs);(repeat clear aH);clear aq
 rintro m a' _ ⟨k,g',rfl,hs,aH,hk,rfl,eF⟩;revert a';apply cI;refine aY rfl ?_;apply aD;rcases(show k=0∨k=1 by omega)with rfl|rfl
 ·refine aM rfl rfl ?_;apply aF;apply ar;apply aD;apply aG;refine aY rfl ?_;refine cN 3 rfl ?_;refine ak rfl rfl (aW T.ok rfl aH (y:=Sg.mk) rfl rfl rfl rfl rfl rfl rfl ?_);rintro b p ys aL rfl;refine Wm 1 [.e aL 0] (St.start _) rfl ?_;skip;refine ak rfl rfl (au Nv aJ rfl rfl rfl rfl rfl (QQ _) ?_);rintro g1 _ aP rfl;replace hs:=hs.call aP;have ah:=aP.le;replace aH:=aH.mono ah;apply bW;refine aV rfl rfl ?_;apply aF;apply bR;apply ar;apply aA;refine Wp 2 rfl ?_;apply aE;exact fun a ha=>⟨0,by omega,1,_,rfl,hs,aH,by omega,rfl,ha.keep (by(repeat (first|exact trivial|refine⟨rfl,?_⟩)))⟩
 refine aV rfl rfl ?_;apply bF;apply bG;apply bG;apply c_;apply ar;refine aY rfl ?_;exact aI (aX rfl rfl (hs.ret rfl))
end Go.Proofs.YtgehbndkogohpaaGreatDoor
namespace Go.Proofs.YtgehbndkogohpaaGreatDoor
open Go Go.K
set_option maxRecDepth 10000
attribute [local irreducible] W WL cD bc bK bd bg bh cq ck
set_option maxHeartbeats 4000000
theorem Jg(a:Option Addr)(c:Nat)(g:G)(aH:Rs g (.slice a 1 c) [Sg.mk]):CallsIn Wd 0 Tryz.prog 143 #[.slice a 1 c,.func (.func 144) #[] #[]] g.w (cF g fun _ v=>v= .bool false):=by have hs:=St.start g;refine enter Tryz.func143 rfl Tryz.ntmps143 rfl ?_;refine aY rfl ?_;refine cN 2 rfl ?_;refine ak rfl rfl (au On aJ rfl rfl rfl rfl rfl (Mm _ _ _ aH) ?_);rintro g1 _ aP rfl;replace hs:=hs.call aP;have ah:=aP.le;refine bj rfl ?_;exact aI (aX rfl rfl (hs.ret rfl))
theorem Jh(fo:Value)(g:G):CallsIn Wd 0 Tryz.prog 240 #[.slice none 0 0,fo] g.w (cF g fun _ v=>v= .int .i64 (-1)):=by have hs:=St.start g;refine enter Tryz.func240 rfl Tryz.ntmps240 rfl ?_;refine aY rfl ?_;apply aD;refine aY rfl ?_;apply aG;refine bM (fun m a' w=>w=g.w∧m=0∧Fr 19 [] [(7,.int .i64 0),(8,.int .i64 0)] a') 0 (fun a' ha=>⟨rfl,rfl,ha.keep (by(repeat (first|exact trivial|refine⟨rfl,?_⟩)))⟩) ?_;rintro m a' _ ⟨rfl,rfl,eF⟩;revert a';apply cI;refine aY rfl ?_;apply aD;refine aV rfl rfl ?_;apply bF;apply bG;apply bG;apply c_;apply ar;refine aY rfl ?_;exact aI (aX rfl rfl (hs.ret rfl))
theorem Ha(fo:Value)(g:G):CallsIn Wd 0 Tryz.prog 146 #[.slice none 0 0,fo] g.w (cF g fun _ v=>v= .bool false):=by have hs:=St.start g;refine enter Tryz.func146 rfl Tryz.ntmps146 rfl ?_;refine aY rfl ?_;refine cN 2 rfl ?_;refine ak rfl rfl (au Oo aJ rfl rfl rfl rfl rfl (Jh _ _) ?_);rintro g1 _ aP rfl;replace hs:=hs.call aP;have ah:=aP.le;skip;refine bj rfl ?_;exact aI (aX rfl rfl (hs.ret rfl))
theorem G5(a:Option Addr)(c:Nat)(g:G)(aH:Rs g (.slice a 1 c) [Sg.mk]):CallsIn Wd 0 Tryz.prog 59 #[QP a c] g.w (cF g fun _ v=>v= .bool true):=by have hs:=St.start g;have aq:=G.le.refl g;refine enter Tryz.func59 rfl Tryz.ntmps59 rfl ?_;apply cM;refine ak rfl rfl (aO rfl hs rfl rfl ?_);clear hs;rintro b1 g1 hs ah;replace aH:=aH.mono ah;obtain⟨g2,bL,aT,ah,aL⟩:=hs.ba (i:=0) rfl;replace hs:=aT;clear aT;rw[←bL];replace aH:=aH.mono ah;have aC:=aL;clear aL;refine bj rfl ?_;apply cM;refine ak rfl rfl (aQ T.ok rfl (vs:=[(0,.int .i64 (-1))]) (cells:=[.int .i64 (-1),.int .i64 0,.int .i64 0]) rfl rfl rfl rfl [(0,1),(1,1),(2,1)] rfl (by kernel_rfl) ?_);skip;refine ak rfl rfl (aK T.ok rfl hs rfl rfl ?_);clear hs;rintro b3 g1 hs ah;obtain⟨aC,aH⟩:=cf ah aC aH;refine bA rfl (az T.ok 0 rfl hs rfl rfl rfl rfl rfl rfl rfl rfl rfl ?_);replace hs:=hs;rintro g1 hs ah;obtain⟨aC,aH⟩:=cf ah aC aH;apply bW;refine cN 1 rfl ?_;refine ak rfl rfl (aK T.ok rfl hs rfl rfl ?_);clear hs;rintro b4 g1 hs ah;obtain⟨aC,aH⟩:=cf ah aC aH;skip;refine bA rfl (az T.ok 0 rfl hs rfl rfl rfl rfl rfl rfl rfl rfl rfl ?_);replace hs:=hs;rintro g1 hs ah;obtain⟨aC,aH⟩:=cf ah aC aH;obtain⟨g2,bL,aT,ah,aL⟩:=hs.ba (i:=0) rfl;replace hs:=aT;clear aT;rw[←bL];obtain⟨aC,aH⟩:=cf ah aC aH;have aR:=aL;clear aL;apply bW;apply aD;apply aG;refine dz 2 [.z aC] (St.start _) rfl ?_;refine ak rfl rfl (au vZ aJ rfl rfl rfl rfl rfl (kQ _ _ _ _) ?_);rintro g1 _ aP rfl;replace hs:=hs.call aP;have ah:=aP.le;obtain⟨aC,aH⟩:=cf ah aC aH;refine Wm 6 [.z aC,.z aC] (St.start _) rfl ?_;refine ak rfl rfl (au vZ aJ rfl rfl rfl rfl rfl (kQ _ _ _ _) ?_);rintro g1 _ aP rfl;replace hs:=hs.call aP;have ah:=aP.le;obtain⟨aC,aH⟩:=cf ah aC aH;refine Dk [.z aC] (St.start _) rfl ?_;refine aV rfl rfl ?_;refine dz 3 [.z aC] (St.start _) rfl ?_;refine ak rfl rfl (au vZ aJ rfl rfl rfl rfl rfl (kQ _ _ _ _) ?_);rintro g1 _ aP rfl;replace hs:=hs.call aP;have ah:=aP.le;obtain⟨aC,aH⟩:=cf ah aC aH;refine Dk [.z aC] (St.start _) rfl ?_;refine aV rfl rfl ?_;apply aF;apply bR;apply ar;refine dz 2 [.z aC] (St.start _) rfl ?_;refine ak rfl rfl (au Nu aJ rfl rfl rfl rfl rfl (Jg _ _ _ aH) ?_);rintro g1 _ aP rfl;replace hs:=hs.call aP;have ah:=aP.le;replace aC:=aC.mono ah;refine Wm 5 [.z aC] (St.start _) rfl ?_;refine ak rfl rfl (au Nx aJ rfl rfl rfl rfl rfl (Ha _ _) ?_);rintro g1 _ aP rfl;replace hs:=hs.call aP;have ah:=aP.le;refine bj rfl ?_;exact aI (aX rfl rfl (hs.ret rfl))
end Go.Proofs.YtgehbndkogohpaaGreatDoor
namespace Go.Proofs.YtgehbndkogohpaaGreatDoor
open Go Go.K
set_option maxRecDepth 10000
attribute [local irreducible] W WL cD bc bK bd bg bh cq ck
set_option maxHeartbeats 4000000
theorem G4{b:Nat}{ad:Option Addr}{c:Nat}{xs:List Int}{x y:Int}{g0 g:G}{L:List cS}(hl:xs.length≤1000)
  (hs:St g0 g (.row 3 1 (.slice ad xs.length c) xs.length (xs.map (Value.int .i64)):: .obj b (.cells #[.slice ad xs.length c] 207 (0,0))::L)):
  CallsIn Wd 0 Tryz.prog 235 #[.pointer (some ⟨b,0,none⟩),.int .i64 x,.int .i64 y] g.w
   (ek g fun g' r=>r= .tuple #[]∧ ∃TU c',St g0 g' (.row 3 1 (.slice TU (xs.length+1) c') (xs.length+1) ((xs++[IntKind.i64.wrap (y-x)]).map (Value.int .i64)):: .obj b (.cells #[.slice TU (xs.length+1) c'] 207 (0,0))::L)):=by
 have aq:=G.le.refl g;refine enter Tryz.func235 rfl Tryz.ntmps235 rfl ?_;apply aA;refine Wm 7 [.o 1] hs rfl ?_;refine ak rfl rfl (bD T.ok rfl hs (vs:=[(0,.int .i64 (IntKind.i64.wrap (y-x)))]) (cells:=[.int .i64 (IntKind.i64.wrap (y-x))]) rfl rfl rfl rfl rfl rfl (by decide) (by decide) (by kernel_rfl) rfl ?_);rintro bl gl hs ah;replace aq:=G.le.trans aq ah;skip;refine ak rfl rfl (cd T.ok 1 rfl hs rfl rfl rfl rfl rfl rfl rfl (by decide) rfl (Src.fL (hs.own 0 _ rfl).1).2 (by simp[Value.oneCell']) (by show(xs.length+1)*8≤_;omega) (by show xs.length+1≤maxLen;unfold maxLen;omega) ?_);rintro a6 c6 g10 hs ah;replace aq:=G.le.trans aq ah;replace hs:=hs.drop 0;replace hs:St g0 g10 (.row 3 1 (.slice a6 (xs.length+1) c6) (xs.length+1) ((xs++[IntKind.i64.wrap (y-x)]).map (Value.int .i64)):: .obj b (.cells #[.slice ad xs.length c] 207 (0,0))::L):=by rw[List.map_append];exact hs
 refine Wp 1 rfl ?_;refine bA rfl (az T.ok 1 rfl hs rfl rfl rfl rfl rfl rfl rfl rfl rfl ?_);replace hs:=hs;rintro g1 hs ah;replace aq:=G.le.trans aq ah;apply aE;exact kD rfl (ek.intro aq ⟨rfl,_,_,hs⟩)
theorem Ji(n:Int)(g:G):CallsIn Wd 0 Tryz.prog 237 #[.int .i64 n] g.w (cF g fun _ v=>v= .bool (decide (n<0))):=by have hs:=St.start g;refine enter Tryz.func237 rfl Tryz.ntmps237 rfl ?_;refine aY rfl ?_;refine aY rfl ?_;exact aI (aX rfl rfl (hs.ret rfl))
theorem Mo(v:Value)(l:List Int)(g:G)(aH:Rs g v l)(hp: ∀n∈l,0≤n):CallsIn Wd 0 Tryz.prog 272 #[v,.func (.func 237) #[] #[]] g.w (cF g fun _ v=>v= .int .i64 (-1)):=by
 have hs:=St.start g;obtain⟨a,c,rfl⟩:=aH.isSlice;have hlen:=aH.dJ;unfold maxLen at hlen;refine enter Tryz.func272 rfl Tryz.ntmps272 rfl ?_;refine aY rfl ?_;apply aD;refine aY rfl ?_;apply aG;refine bM (fun m a' w=> ∃(k:Nat) (g':G),w=g'.w∧St g g' []∧Rs g' (.slice a l.length c) l∧k≤l.length∧m=l.length-k∧
   Fr 19 [] [(0,.slice a l.length c),(1,.func (.func 237) #[] #[]),(7,.int .i64 (l.length:Nat)),(8,.int .i64 (k:Nat))] a') l.length
  (fun a' ha=>⟨0,_,rfl,hs,aH,Nat.zero_le _,rfl,ha.keep (by(repeat (first|exact trivial|refine⟨rfl,?_⟩)))⟩) ?_
 (repeat clear hs);(repeat clear aH)
 rintro m a' _ ⟨k,g',rfl,hs,aH,hk,rfl,eF⟩;revert a';apply cI;refine aY rfl ?_;apply aD;by_cases bC:k<l.length
 ·refine aM (b:=decide ((k:Int)<(l.length:Int))) (decide_eq_true (by omega)) rfl ?_;have h0:=hp _ (List.getElem_mem bC);apply aF;apply ar;apply aD;apply aG;refine aY rfl ?_;refine cN 3 rfl ?_;refine ak rfl rfl (aW T.ok rfl aH (y:=l[k]) (by simp[dS,bC]) rfl rfl rfl rfl rfl rfl ?_);rintro b p ys aL rfl;refine Wm 1 [.e aL 0] (St.start _) rfl ?_;skip;refine ak rfl rfl (au Om aJ rfl rfl rfl rfl rfl (Ji _ _) ?_);rintro g1 _ aP rfl;replace hs:=hs.call aP;have ah:=aP.le;replace aH:=aH.mono ah;rw[decide_eq_false (by omega: ¬l[k]<0)];apply bW;refine aV rfl rfl ?_;apply aF;apply bR;apply ar;apply aA;refine Wp 2 rfl ?_;apply aE;exact fun a ha=>⟨l.length-(k+1),by omega,k+1,_,rfl,hs,aH,by omega,rfl,ha.keep ⟨rfl,rfl,rfl,kI rfl (by rw[wr (by omega) (by omega)];omega),trivial⟩⟩
 refine aV (b:=decide ((k:Int)<(l.length:Int))) (decide_eq_false (by omega)) rfl ?_;apply bF;apply bG;apply bG;apply c_;apply ar;refine aY rfl ?_;exact aI (aX rfl rfl (hs.ret rfl))
theorem Jj(v:Value)(l:List Int)(g:G)(aH:Rs g v l)(hp: ∀n∈l,0≤n):CallsIn Wd 0 Tryz.prog 236 #[v,.func (.func 237) #[] #[]] g.w (cF g fun _ v=>v= .bool false):=by have hs:=St.start g;refine enter Tryz.func236 rfl Tryz.ntmps236 rfl ?_;refine aY rfl ?_;refine cN 2 rfl ?_;refine ak rfl rfl (au OE aJ rfl rfl rfl rfl rfl (Mo _ l _ aH hp) ?_);rintro g1 _ aP rfl;replace hs:=hs.call aP;have ah:=aP.le;refine bj rfl ?_;exact aI (aX rfl rfl (hs.ret rfl))
theorem Ax(v:Value)(l:List Int)(g:G)(aH:Rs g v l)(hp: ∀n∈l,0≤n):CallsIn Wd 0 Tryz.prog 139 #[v] g.w (cF g fun _ v=>v= .bool false):=by have hs:=St.start g;refine enter Tryz.func139 rfl Tryz.ntmps139 rfl ?_;refine aY rfl ?_;refine cN 1 rfl ?_;refine ak rfl rfl (au Ol aJ rfl rfl rfl rfl rfl (Jj _ l _ aH hp) ?_);rintro g1 _ aP rfl;replace hs:=hs.call aP;have ah:=aP.le;refine bj rfl ?_;exact aI (aX rfl rfl (hs.ret rfl))
end Go.Proofs.YtgehbndkogohpaaGreatDoor
namespace Go.Proofs.YtgehbndkogohpaaGreatDoor
open Go Go.K
set_option maxRecDepth 10000
attribute [local irreducible] W WL cD bc bK bd bg bh cq ck
set_option maxHeartbeats 4000000
theorem Ja(a:Option Addr)(c:Nat)(g:G)(aH:Rs g (.slice a 1 c) [Sg.mk]):CallsIn Wd 0 Tryz.prog 138 #[QP a c] g.w (cF g fun g' v=>Rs g' v [(0:Int),0]):=by
 obtain⟨b0,p0,ys,rfl,Es,rfl⟩:=aH.at (i:=0) (x:=Sg.mk) rfl;have hs:=St.start g;have aq:=G.le.refl g;refine enter Tryz.func138 rfl Tryz.ntmps138 rfl ?_;apply cM;refine ak rfl rfl (aO rfl hs rfl rfl ?_);clear hs;rintro b1 g1 hs ah;obtain⟨Es,aH⟩:=cf ah Es aH;obtain⟨g2,bL,aT,ah,aL⟩:=hs.ba (i:=0) rfl;replace hs:=aT;clear aT;rw[←bL];obtain⟨Es,aH⟩:=cf ah Es aH;have aC:=aL;clear aL;skip;refine ak rfl rfl (aK T.ok rfl hs rfl rfl ?_);clear hs;rintro b2 g1 hs ah;obtain⟨aC,Es,aH⟩:=dy ah aC Es aH;replace hs:=hs.iN 3 1 none;apply bW;apply aD;apply bP hs (eO (eQ (fe []))) 11 [(4,11),(10,17)] (by kernel_rfl) rfl
 ·refine Dm [[],[0],[],[2],[1,3],[],[5]] [.z aC,.z aC,.z aC] hs (by kernel_rfl) rfl ?_;refine ay (an (js:=[(6,13)]) (by kernel_rfl) fun gd hf=>ai rfl (aj (aB rfl (kX T.ok rfl rfl rfl (by omega) (by decide) rfl rfl rfl ⟨gd,rfl,a_.refl _,rfl⟩)))) ?_;exact Dz [[7],[8],[9]] [.e Es 3] hs (by kernel_rfl) rfl
 (repeat clear hs);intro g6 hs ah;obtain⟨aC,aH⟩:=cf ah aC aH
 refine ak rfl rfl (du JD aJ rfl rfl rfl rfl rfl (G4 (xs:=[]) (by decide) hs) ?_);rintro g7 _ ah ⟨rfl,a5,c5,hs⟩;obtain⟨aC,aH⟩:=cf ah aC aH;replace hs:St g g7 [.row 3 1 (.slice a5 1 c5) 1 [.int .i64 0],.obj b2 (.cells #[.slice a5 1 c5] 207 (0,0))]:=hs;apply bW;apply aD;refine l_ [.z aC] (St.start _) rfl ?_;apply aG;refine bM (fun m a' w=>w=g7.w∧m=0∧Fr 91 [] [(1,.pointer (some ⟨b1,0,none⟩)),(2,.pointer (some ⟨b2,0,none⟩)),(20,.slice (some ⟨b0,p0,none⟩) 1 c),(21,.int .i64 1),(22,.int .i64 0)] a') 0
  (fun a' ha=>⟨rfl,rfl,ha.keep (by(repeat (first|exact trivial|refine⟨rfl,?_⟩)))⟩) ?_
 rintro m a' _ ⟨rfl,rfl,eF⟩;revert a';apply cI;refine aY rfl ?_;apply aD;refine aM rfl rfl ?_;apply aF;apply ar;apply aD;apply aG;refine cN 1 rfl ?_;refine ak rfl rfl (aW T.ok rfl aH (y:=Sg.mk) rfl rfl rfl rfl rfl rfl rfl ?_);rintro b p ys aL rfl;refine Wm 1 [.e aL 0] (St.start _) rfl ?_;skip;refine ak rfl rfl (aK T.ok rfl hs rfl rfl ?_);clear hs;rintro b4 g1 hs ah;replace aC:=aC.mono ah;refine Wp 1 rfl ?_;refine bA rfl (az T.ok 0 rfl hs rfl rfl rfl rfl rfl rfl rfl rfl rfl ?_);replace hs:=hs;rintro g1 hs ah;replace aC:=aC.mono ah;clear aL;obtain⟨g2,bL,aT,ah,aL⟩:=hs.ba (i:=0) rfl;replace hs:=aT;clear aT;rw[←bL];replace aC:=aC.mono ah;have aR:EP g2 b4 0 Jb:=aL;clear aL;unfold Jb at aR;apply bW;refine dz 13 [.z aR,.z aR,.z aC,.z aR] (St.start _) rfl ?_;refine ak rfl rfl (du JD aJ rfl rfl rfl rfl rfl (G4 (xs:=[0]) (by decide) hs) ?_);rintro g8 _ ah ⟨rfl,a6,c6,hs⟩;replace aC:=aC.mono ah;replace hs:St g g8 [.row 3 1 (.slice a6 2 c6) 2 ([(0:Int),0].map (Value.int .i64)),.obj b2 (.cells #[.slice a6 2 c6] 207 (0,0))]:=hs;apply bW;apply aD;refine l_ [.z aC] (St.start _) rfl ?_;refine aM rfl rfl ?_;apply bF;apply bG;((with_reducible refine Ll ?_ ?_);exact rfl);apply bG;apply bG;apply c_;apply ar;refine dz 1 [.o 1] hs rfl ?_;refine bA rfl (az T.ok 1 rfl hs rfl rfl rfl rfl rfl rfl rfl rfl rfl ?_);replace hs:=hs;rintro g1 hs ah;obtain⟨g9,Hh,Ch,ah,aU⟩:=hs.cK (α:=Int) (xs:=[(0:Int),0]) (i:=0) rfl (cG.ints _ _);rw[←Hh];(repeat clear hs);have hs:St g g9 [.obj b2 (.cells #[.slice a6 2 c6] 207 (0,0))]:=Ch;apply bW;exact aI (kC T.ok 0 rfl hs rfl rfl rfl (hs.ret aU))
theorem Md(a:Option Addr)(c:Nat)(g:G):CallsIn Wd 0 Tryz.prog 140 #[QP a c] g.w (cF g fun _ v=>v= .slice none 0 0):=by
 have hs:=St.start g;have aq:=G.le.refl g;refine enter Tryz.func140 rfl Tryz.ntmps140 rfl ?_;apply cM;refine ak rfl rfl (aO rfl hs rfl rfl ?_);clear hs;rintro b1 g1 hs ah;obtain⟨g2,bL,aT,ah,aL⟩:=hs.ba (i:=0) rfl;replace hs:=aT;clear aT;rw[←bL];have aC:=aL;clear aL;skip;refine ak rfl rfl (aK T.ok rfl hs rfl rfl ?_);clear hs;rintro b2 g1 hs ah;replace aC:=aC.mono ah;apply bW;apply aD;refine l_ [.z aC] (St.start _) rfl ?_;apply aG;refine bM (fun m a' w=>w=g1.w∧m=0∧Fr 39 [] [(2,.pointer (some ⟨b2,0,none⟩)),(8,.int .i64 0),(9,.int .i64 0)] a') 0
  (fun a' ha=>⟨rfl,rfl,ha.keep (by(repeat (first|exact trivial|refine⟨rfl,?_⟩)))⟩) ?_
 rintro m a' _ ⟨rfl,rfl,eF⟩;revert a';apply cI;refine aY rfl ?_;apply aD;refine aV rfl rfl ?_;apply bF;apply bG;apply bG;apply c_;apply ar;refine dz 1 [.o 0] hs rfl ?_;refine bA rfl (az T.ok 0 rfl hs rfl rfl rfl rfl rfl rfl rfl rfl rfl ?_);replace hs:=hs;rintro g1 hs ah;apply bW;exact aI (kC T.ok 0 rfl hs rfl rfl rfl (hs.ret rfl))
theorem Me(a:Option Addr)(c:Nat)(g:G)(aH:Rs g (.slice a 1 c) [Sg.mk]):CallsIn Wd 0 Tryz.prog 58 #[QP a c] g.w (cF g fun _ v=>v= .bool true):=by have hs:=St.start g;have aq:=G.le.refl g;refine enter Tryz.func58 rfl Tryz.ntmps58 rfl ?_;apply cM;refine ak rfl rfl (aO rfl hs rfl rfl ?_);clear hs;rintro b1 g1 hs ah;replace aH:=aH.mono ah;obtain⟨g2,bL,aT,ah,aL⟩:=hs.ba (i:=0) rfl;replace hs:=aT;clear aT;rw[←bL];replace aH:=aH.mono ah;have aC:=aL;clear aL;refine bj rfl ?_;refine dz 1 [.z aC] (St.start _) rfl ?_;refine ak rfl rfl (au RY aJ rfl rfl rfl rfl rfl (G5 a c _ aH) ?_);rintro g1 _ aP rfl;replace hs:=hs.call aP;have ah:=aP.le;obtain⟨aC,aH⟩:=cf ah aC aH;refine Wm 2 [.z aC] (St.start _) rfl ?_;refine ak rfl rfl (au Ns aJ rfl rfl rfl rfl rfl (Ja a c _ aH) ?_);rintro g1 _ aP aU;replace hs:=hs.call aP;have ah:=aP.le;replace aC:=aC.mono ah;skip;refine ak rfl rfl (au Js aJ rfl rfl rfl rfl rfl (Ax _ _ _ aU (by decide)) ?_);rintro g1 _ aP rfl;replace hs:=hs.call aP;have ah:=aP.le;replace aC:=aC.mono ah;refine Wm 4 [.z aC] (St.start _) rfl ?_;refine ak rfl rfl (au Nt aJ rfl rfl rfl rfl rfl (Md a c _) ?_);rintro g1 _ aP rfl;replace hs:=hs.call aP;have ah:=aP.le;skip;refine ak rfl rfl (au Js aJ rfl rfl rfl rfl rfl (Ax _ [] _ (Rs.nil _) (by decide)) ?_);rintro g1 _ aP rfl;replace hs:=hs.call aP;have ah:=aP.le;refine bj rfl ?_;exact aI (aX rfl rfl (hs.ret rfl))
theorem G6(a:Option Addr)(c:Nat)(g:G)(aH:Rs g (.slice a 1 c) [Sg.mk]):CallsIn Wd 0 Tryz.prog 21 #[QP a c] g.w (cF g fun _ v=>v= .tuple #[.agg #[.slice none 0 0,.slice none 0 0,.int .i64 0,.int .i64 0,.int .i64 0],.bool true]):=by have hs:=St.start g;have aq:=G.le.refl g;refine enter Tryz.func21 rfl Tryz.ntmps21 rfl ?_;apply cM;refine ak rfl rfl (aO rfl hs rfl rfl ?_);clear hs;rintro b1 g1 hs ah;replace aH:=aH.mono ah;obtain⟨g2,bL,aT,ah,aL⟩:=hs.ba (i:=0) rfl;replace hs:=aT;clear aT;rw[←bL];replace aH:=aH.mono ah;have aC:=aL;clear aL;skip;refine ak rfl rfl (aK T.ok rfl hs rfl rfl ?_);clear hs;rintro b2 g1 hs ah;obtain⟨aC,aH⟩:=cf ah aC aH;skip;refine ak rfl rfl (aK T.ok rfl hs rfl rfl ?_);clear hs;rintro b3 g1 hs ah;obtain⟨aC,aH⟩:=cf ah aC aH;apply bW;apply aD;refine dz 1 [.z aC] (St.start _) rfl ?_;refine ak rfl rfl (au RX aJ rfl rfl rfl rfl rfl (Me a c _ aH) ?_);rintro g1 _ aP rfl;replace hs:=hs.call aP;have ah:=aP.le;apply bW;refine aM rfl rfl ?_;apply cM;refine ak rfl rfl (aQ T.ok rfl (vs:=[]) (cells:=[.slice none 0 0,.slice none 0 0,.int .i64 0,.int .i64 0,.int .i64 0]) rfl rfl rfl rfl [(0,1),(1,1),(2,1),(3,1),(4,1)] rfl (by kernel_rfl) ?_);skip;refine bA rfl (az T.ok 1 rfl hs rfl rfl rfl rfl rfl rfl rfl rfl rfl ?_);replace hs:=hs;rintro g1 hs ah;skip;refine bA rfl (az T.ok 0 rfl hs rfl rfl rfl rfl rfl rfl rfl rfl rfl ?_);replace hs:=hs;rintro g1 hs ah;apply bW;exact aI (Qq T.ok 1 0 rfl hs rfl rfl rfl rfl rfl rfl (hs.ret rfl))
end Go.Proofs.YtgehbndkogohpaaGreatDoor
namespace Go.Proofs.YtgehbndkogohpaaGreatDoor
open Go Go.K
set_option maxRecDepth 10000
attribute [local irreducible] W WL cD bc bK bd bg bh cq ck
set_option maxHeartbeats 4000000
theorem Ay{k:Nat}(h:k<3):C7.steps.take (k+1)=C7.steps.take k++[⟨1,[(k:Int)],10,20,if k<2 then [((k+1:Nat):Int)]else [],-1,0⟩]:=by rcases(show k=0∨k=1∨k=2 by omega)with rfl|rfl|rfl<;>rfl
theorem Jc(g:G):CallsIn Wd 0 Tryz.prog 5 #[] g.w (cF g fun _ v=>v= .bool true):=by
 have hs:=St.start g;have aq:=G.le.refl g;refine enter Tryz.func5 rfl Tryz.ntmps5 rfl ?_;refine aY rfl ?_;apply cM;refine ak rfl rfl (aQ T.ok rfl (vs:=[(0,.int .i64 0),(1,.int .i64 2),(2,.int .i64 13)]) (cells:=kh ⟨0,2,13⟩) rfl rfl rfl rfl [(0,1),(1,1),(2,1)] rfl (by kernel_rfl) ?_);skip;refine ak rfl rfl (bD T.ok rfl hs (vs:=[(0,.agg (kh ⟨0,2,13⟩).toArray)]) (cells:=kh ⟨0,2,13⟩) rfl rfl rfl rfl rfl rfl (by decide) (by decide) (by kernel_rfl) rfl ?_);rintro bw gl hs ah;replace aq:=G.le.trans aq ah;obtain⟨gz,iQ,cP,jq,aU⟩:=hs.cK (α:=bZ) (xs:=C7.windows) (i:=0) rfl ⟨kh ⟨0,2,13⟩,[],rfl,rfl,rfl⟩;clear ah;have ah:=jq;rw[←iQ];(repeat clear hs);have hs:St g gz []:=cP;clear cP;replace aq:=G.le.trans aq ah;skip;refine ak rfl rfl (aQ T.ok rfl (vs:=[(0,.int .i64 2),(1,.int .i64 5),(3,.slice (some ⟨bw,0,none⟩) 1 1)]) (cells:=[.int .i64 2,.int .i64 5,.slice none 0 0,.slice (some ⟨bw,0,none⟩) 1 1]) rfl rfl rfl rfl [(0,1),(1,1),(2,1),(3,1)] rfl (by kernel_rfl) ?_);skip;refine ak rfl rfl (aK T.ok rfl hs rfl rfl ?_);clear hs;rintro b1 g1 hs ah;obtain⟨aq,aU⟩:=cf ah aq aU;refine bA rfl (az T.ok 0 rfl hs rfl rfl rfl rfl rfl rfl rfl rfl rfl ?_);replace hs:=hs;rintro g1 hs ah;obtain⟨aq,aU⟩:=cf ah aq aU;replace hs:=hs.iN 60 7 none;replace hs:St g _ [.row 60 7 (.slice none 0 0) 0 [],.obj b1 (.cells #[.int .i64 2,.int .i64 5,.slice none 0 0,.slice (some ⟨bw,0,none⟩) 1 1] 28 (0,0))]:=hs;apply bW;apply aD;refine aY rfl ?_;apply aG;refine bM (fun m a' w=> ∃(k:Nat) (ad:Option Addr) (c:Nat) (cells:List Value) (g':G),w=g'.w∧St g g' [.row 60 7 (.slice ad k c) k cells,.obj b1 (.cells #[.int .i64 2,.int .i64 5,.slice ad k c,.slice (some ⟨bw,0,none⟩) 1 1] 28 (0,0))]∧G.le g g'∧Rs g' (.slice (some ⟨bw,0,none⟩) 1 1) C7.windows∧cG g' cells (C7.steps.take k)∧k≤3∧m=3-k∧
   Fr 54 [] [(1,.pointer (some ⟨b1,0,none⟩)),(2,.int .i64 (k:Nat))] a') 3
  (fun a' ha=>⟨0,none,0,[],_,rfl,hs,aq,aU,rfl,by omega,rfl,ha.keep (by(repeat (first|exact trivial|refine⟨rfl,?_⟩)))⟩) ?_
 (repeat clear hs);(repeat clear aq);(repeat clear aU)
 rintro m a' _ ⟨k,ad,c,cells,g',rfl,hs,aq,aU,df,hk,rfl,eF⟩;revert a';apply cI;apply aD;refine aY rfl ?_;by_cases bC:k<3
 ·refine aM (b:=decide ((k:Int)<3)) (decide_eq_true (by omega)) rfl ?_;apply aF;apply ar;apply aD;apply aG;refine cN 1 rfl ?_;refine ak rfl rfl (bD T.ok rfl hs (vs:=[(0,.int .i64 (k:Int))]) (cells:=[.int .i64 (k:Int)]) rfl rfl rfl rfl rfl rfl (by decide) (by decide) (by kernel_rfl) rfl ?_);rintro bt gl hs ah;obtain⟨aq,aU,df⟩:=dy ah aq aU df;obtain⟨gz,iQ,cP,jq,bS⟩:=hs.cK (α:=Int) (xs:=[((k:Int):Int)]) (i:=0) rfl (cG.ints _ [((k:Int):Int)]);clear ah;have ah:=jq;rw[←iQ];(repeat clear hs);have hs:St g gz [.row 60 7 (.slice ad k c) k cells,.obj b1 (.cells #[.int .i64 2,.int .i64 5,.slice ad k c,.slice (some ⟨bw,0,none⟩) 1 1] 28 (0,0))]:=cP;clear cP;obtain⟨aq,aU,df⟩:=dy ah aq aU df;skip;refine ak rfl rfl (aQ T.ok rfl (vs:=[(0,.int .i64 1),(1,.slice (some ⟨bt,0,none⟩) 1 1),(2,.int .i64 10),(3,.int .i64 20),(5,.int .i64 (-1))]) (cells:=[.int .i64 1,.slice (some ⟨bt,0,none⟩) 1 1,.int .i64 10,.int .i64 20,.slice none 0 0,.int .i64 (-1),.int .i64 0]) rfl rfl rfl rfl [(0,1),(1,1),(2,1),(3,1),(4,1),(5,1),(6,1)] rfl (by kernel_rfl) ?_);skip;refine ak rfl rfl (aK T.ok rfl hs rfl rfl ?_);clear hs;rintro b3 g1 hs ah;obtain⟨aq,aU,bS,df⟩:=eS ah aq aU bS df;refine bA rfl (az T.ok 0 rfl hs rfl rfl rfl rfl rfl rfl rfl rfl rfl ?_);replace hs:=hs;rintro g1 hs ah;obtain⟨aq,aU,bS,df⟩:=eS ah aq aU bS df;replace hs:St g _ [.obj b3 (.cells #[.int .i64 1,.slice (some ⟨bt,0,none⟩) 1 1,.int .i64 10,.int .i64 20,.slice none 0 0,.int .i64 (-1),.int .i64 0] 60 (0,0)),.row 60 7 (.slice ad k c) k cells,.obj b1 (.cells #[.int .i64 2,.int .i64 5,.slice ad k c,.slice (some ⟨bw,0,none⟩) 1 1] 28 (0,0))]:=hs;apply bW;apply aD;refine aY rfl ?_;by_cases h2:k<2
  ·refine aM (b:=decide ((k:Int)<2)) (decide_eq_true (by omega)) rfl ?_;apply aA;refine Wp 2 rfl ?_;rw[show IntKind.i64.wrap ((k:Int)+1)=((k+1:Nat):Int)from by rw[wr (by omega) (by omega)];omega];refine ak rfl rfl (bD T.ok rfl hs (vs:=[(0,.int .i64 ((k+1:Nat):Int))]) (cells:=[.int .i64 ((k+1:Nat):Int)]) rfl rfl rfl rfl rfl rfl (by decide) (by decide) (by kernel_rfl) rfl ?_);rintro bn gl hs ah;obtain⟨aq,aU,bS,df⟩:=eS ah aq aU bS df;obtain⟨gz,iQ,cP,jq,cH⟩:=hs.cK (α:=Int) (xs:=[(((k+1:Nat):Int):Int)]) (i:=0) rfl (cG.ints _ [(((k+1:Nat):Int):Int)]);clear ah;have ah:=jq;rw[←iQ];(repeat clear hs);have hs:St g gz [.obj b3 (.cells #[.int .i64 1,.slice (some ⟨bt,0,none⟩) 1 1,.int .i64 10,.int .i64 20,.slice none 0 0,.int .i64 (-1),.int .i64 0] 60 (0,0)),.row 60 7 (.slice ad k c) k cells,.obj b1 (.cells #[.int .i64 2,.int .i64 5,.slice ad k c,.slice (some ⟨bw,0,none⟩) 1 1] 28 (0,0))]:=cP;clear cP;obtain⟨aq,aU,bS,df⟩:=eS ah aq aU bS df;refine Wp 1 rfl ?_;refine bA rfl (az T.ok 0 rfl hs rfl rfl rfl rfl rfl rfl rfl rfl rfl ?_);replace hs:=hs;rintro g1 hs ah;obtain⟨aq,aU,bS,cH,df⟩:=kO ah aq aU bS cH df;replace hs:St g _ [.obj b3 (.cells #[.int .i64 1,.slice (some ⟨bt,0,none⟩) 1 1,.int .i64 10,.int .i64 20,.slice (some ⟨bn,0,none⟩) 1 1,.int .i64 (-1),.int .i64 0] 60 (0,0)),.row 60 7 (.slice ad k c) k cells,.obj b1 (.cells #[.int .i64 2,.int .i64 5,.slice ad k c,.slice (some ⟨bw,0,none⟩) 1 1] 28 (0,0))]:=hs;apply bW;apply aA;refine Wm 3 [.o 2,.o 0] hs rfl ?_;refine ak rfl rfl (bD T.ok rfl hs (vs:=[(0,.agg #[.int .i64 1,.slice (some ⟨bt,0,none⟩) 1 1,.int .i64 10,.int .i64 20,.slice (some ⟨bn,0,none⟩) 1 1,.int .i64 (-1),.int .i64 0])]) (cells:=[.int .i64 1,.slice (some ⟨bt,0,none⟩) 1 1,.int .i64 10,.int .i64 20,.slice (some ⟨bn,0,none⟩) 1 1,.int .i64 (-1),.int .i64 0]) rfl rfl rfl rfl rfl rfl (by decide) (by decide) (by kernel_rfl) rfl ?_);rintro bl gl hs ah;obtain⟨aq,aU,bS,cH,df⟩:=kO ah aq aU bS cH df;skip;refine ak rfl rfl (cd T.ok 2 rfl hs rfl rfl rfl rfl rfl rfl rfl (by decide) rfl (Src.fL (hs.own 0 _ rfl).1).2 (by simp[Value.oneCell']) (by show(k+1)*88≤_;omega) (by show k+1≤maxLen;unfold maxLen;omega) ?_);rintro a6 c6 g10 hs ah;obtain⟨aq,aU,bS,cH,df⟩:=kO ah aq aU bS cH df;refine Wp 1 rfl ?_;refine bA rfl (az T.ok 3 rfl hs rfl rfl rfl rfl rfl rfl rfl rfl rfl ?_);replace hs:=hs;rintro g1 hs ah;obtain⟨aq,aU,bS,cH,df⟩:=kO ah aq aU bS cH df;replace hs:=(hs.drop 0).drop 0;apply aE;apply bR;apply ar;apply aA;refine Wp 3 rfl ?_;apply aE;exact fun a ha=>⟨3-(k+1),by omega,k+1,a6,c6,_,_,rfl,hs,aq,aU,by rw[Ay bC];refine cG.app ?_ df;exact⟨_,[],(List.append_nil _).symm,⟨_,_,_,_,_,_,rfl,bS,(by rw[if_pos h2];exact cH)⟩,rfl⟩,by omega,rfl,ha.keep ⟨rfl,kI rfl (by rw[wr (by omega) (by omega)];omega),trivial⟩⟩
  refine aV (b:=decide ((k:Int)<2)) (decide_eq_false (by omega)) rfl ?_;apply aF;apply ar;apply aA;refine Wm 3 [.o 2,.o 0] hs rfl ?_;refine ak rfl rfl (bD T.ok rfl hs (vs:=[(0,.agg #[.int .i64 1,.slice (some ⟨bt,0,none⟩) 1 1,.int .i64 10,.int .i64 20,.slice none 0 0,.int .i64 (-1),.int .i64 0])]) (cells:=[.int .i64 1,.slice (some ⟨bt,0,none⟩) 1 1,.int .i64 10,.int .i64 20,.slice none 0 0,.int .i64 (-1),.int .i64 0]) rfl rfl rfl rfl rfl rfl (by decide) (by decide) (by kernel_rfl) rfl ?_);rintro bl gl hs ah;obtain⟨aq,aU,bS,df⟩:=eS ah aq aU bS df;skip;refine ak rfl rfl (cd T.ok 2 rfl hs rfl rfl rfl rfl rfl rfl rfl (by decide) rfl (Src.fL (hs.own 0 _ rfl).1).2 (by simp[Value.oneCell']) (by show(k+1)*88≤_;omega) (by show k+1≤maxLen;unfold maxLen;omega) ?_);rintro a6 c6 g10 hs ah;obtain⟨aq,aU,bS,df⟩:=eS ah aq aU bS df;refine Wp 1 rfl ?_;refine bA rfl (az T.ok 3 rfl hs rfl rfl rfl rfl rfl rfl rfl rfl rfl ?_);replace hs:=hs;rintro g1 hs ah;obtain⟨aq,aU,bS,df⟩:=eS ah aq aU bS df;replace hs:=(hs.drop 0).drop 0;apply aE;apply bR;apply ar;apply aA;refine Wp 3 rfl ?_;apply aE;exact fun a ha=>⟨3-(k+1),by omega,k+1,a6,c6,_,_,rfl,hs,aq,aU,by rw[Ay bC];refine cG.app ?_ df;exact⟨_,[],(List.append_nil _).symm,⟨_,_,_,_,_,_,rfl,bS,(by rw[if_neg h2];exact Rs.nil _)⟩,rfl⟩,by omega,rfl,ha.keep ⟨rfl,kI rfl (by rw[wr (by omega) (by omega)];omega),trivial⟩⟩
 refine aV (b:=decide ((k:Int)<3)) (decide_eq_false (by omega)) rfl ?_;obtain rfl:k=3:=by omega
 apply bF;apply bG;apply bG;apply c_;apply ar;refine dz 1 [.o 1] hs rfl ?_;obtain⟨g8,Ei,yW,ah,bS⟩:=hs.cK (α:=Step) (xs:=C7.steps) (i:=0) rfl df;rw[←Ei];(repeat clear hs);have hs:St g g8 [.obj b1 (.cells #[.int .i64 2,.int .i64 5,.slice ad 3 c,.slice (some ⟨bw,0,none⟩) 1 1] 28 (0,0))]:=yW;clear yW;replace aU:=aU.mono ah;clear Ei df;have dj:ff g8 (.agg #[.int .i64 2,.int .i64 5,.slice ad 3 c,.slice (some ⟨bw,0,none⟩) 1 1]) C7:=⟨_,_,_,_,_,_,rfl,bS,aU⟩
 skip;refine ak rfl rfl (au RF aJ rfl rfl rfl rfl rfl (G7 _ _ dj) ?_);rintro g1 _ aP ⟨u,rfl,cH⟩;replace hs:=hs.call aP;have ah:=aP.le;obtain⟨aw,cw,rfl⟩:=cH.isSlice;skip;refine ak rfl rfl (aK T.ok rfl hs rfl rfl ?_);clear hs;rintro b4 g1 hs ah;replace cH:=cH.mono ah;refine bA rfl (az T.ok 0 rfl hs rfl rfl rfl rfl rfl rfl rfl rfl rfl ?_);replace hs:=hs;rintro g1 hs ah;replace cH:=cH.mono ah;obtain⟨g2,bL,aT,ah,aL⟩:=hs.ba (i:=0) rfl;replace hs:=aT;clear aT;rw[←bL];replace cH:=cH.mono ah;have aC:=aL;clear aL;apply bW;apply cM;refine ak rfl rfl (aQ T.ok rfl (vs:=[(0,.int .i64 1),(1,.int .i64 5)]) (cells:=[.int .i64 1,.int .i64 5]) rfl rfl rfl rfl [(0,1),(1,1)] rfl (by kernel_rfl) ?_);skip;refine ak rfl rfl (aQ T.ok rfl (vs:=[(0,.int .i64 2),(1,.int .i64 29)]) (cells:=[.int .i64 2,.int .i64 29]) rfl rfl rfl rfl [(0,1),(1,1)] rfl (by kernel_rfl) ?_);skip;refine ak rfl rfl (aQ T.ok rfl (vs:=[(0,.int .i64 10),(1,.int .i64 20),(2,.agg #[.int .i64 1,.int .i64 5]),(3,.agg #[.int .i64 2,.int .i64 29])]) (cells:=Jb) rfl rfl rfl rfl [(0,1),(1,1),(2,2),(4,2)] rfl (by kernel_rfl) ?_);skip;refine ak rfl rfl (aK T.ok rfl hs rfl rfl ?_);clear hs;rintro b5 g1 hs ah;obtain⟨aC,cH⟩:=cf ah aC cH;refine bA rfl (az T.ok 0 rfl hs rfl rfl rfl rfl rfl rfl rfl rfl rfl ?_);replace hs:=hs;rintro g1 hs ah;obtain⟨aC,cH⟩:=cf ah aC cH;obtain⟨g2,bL,aT,ah,aL⟩:=hs.ba (i:=0) rfl;replace hs:=aT;clear aT;rw[←bL];obtain⟨aC,cH⟩:=cf ah aC cH;have aR:EP g2 b5 0 Jb:=aL;clear aL;unfold Jb at aR;apply bW;refine dz 1 [.z aR] (St.start _) rfl ?_;refine ak rfl rfl (bD T.ok rfl hs (vs:=[(0,Un)]) (cells:=Jb) rfl rfl rfl rfl rfl rfl (by decide) (by decide) (by kernel_rfl) rfl ?_);rintro bs gl hs ah;obtain⟨aC,cH⟩:=cf ah aC cH;obtain⟨gz,iQ,cP,jq,o5⟩:=hs.cK (α:=Sg) (xs:=[Sg.mk]) (i:=0) rfl ⟨Jb,[],rfl,rfl,rfl⟩;clear ah;have ah:=jq;rw[←iQ];(repeat clear hs);have hs:=cP;clear cP;obtain⟨aC,cH⟩:=cf ah aC cH;skip;refine ak rfl rfl (aQ T.ok rfl (vs:=[(1,.int .i64 1),(2,.int .i64 5),(3,.slice (some ⟨bs,0,none⟩) 1 1)]) (cells:=[.int .i64 0,.int .i64 1,.int .i64 5,.slice (some ⟨bs,0,none⟩) 1 1,.slice none 0 0]) rfl rfl rfl rfl [(0,1),(1,1),(2,1),(3,1),(4,1)] rfl (by kernel_rfl) ?_);skip;refine ak rfl rfl (au RG aJ rfl rfl rfl rfl rfl (G6 _ _ _ o5) ?_);rintro g1 _ aP rfl;replace hs:=hs.call aP;have ah:=aP.le;obtain⟨aC,cH⟩:=cf ah aC cH;refine Wp 3 rfl ?_;refine ak rfl rfl (aK T.ok rfl hs rfl rfl ?_);clear hs;rintro b6 g1 hs ah;obtain⟨aC,cH⟩:=cf ah aC cH;refine bA rfl (az T.ok 0 rfl hs rfl rfl rfl rfl rfl rfl rfl rfl rfl ?_);replace hs:=hs;rintro g1 hs ah;obtain⟨aC,cH⟩:=cf ah aC cH;refine bj rfl ?_;refine dz 6 [.z aC,.z aC] (St.start _) rfl ?_;refine ak rfl rfl (bD T.ok rfl hs (vs:=[(0,.int .i64 0),(1,.int .i64 1),(2,.int .i64 2)]) (cells:=[.int .i64 0,.int .i64 1,.int .i64 2]) rfl rfl rfl rfl rfl rfl (by decide) (by decide) (by kernel_rfl) rfl ?_);rintro bt gl hs ah;replace cH:=cH.mono ah;obtain⟨gz,iQ,cP,jq,lC⟩:=hs.cK (α:=Int) (xs:=[(0:Int),1,2]) (i:=0) rfl (cG.ints _ [(0:Int),1,2]);clear ah;have ah:=jq;rw[←iQ];(repeat clear hs);have hs:=cP;clear cP;replace cH:=cH.mono ah;skip;refine ak rfl rfl (au Hu aJ rfl rfl rfl rfl rfl (tF _ _ _ _ _ cH lC) ?_);rintro g1 _ aP rfl;replace hs:=hs.call aP;have ah:=aP.le;rw[decide_eq_true (rfl:[(0:Int),1,2]=[0,1,2])];refine bj rfl ?_;exact aI (aX rfl rfl (hs.ret rfl))
end Go.Proofs.YtgehbndkogohpaaGreatDoor
namespace Go.Proofs.YtgehbndkogohpaaGreatDoor
open Go Go.K
set_option maxRecDepth 10000
attribute [local irreducible] W WL cD bc bK bd bg bh cq ck
theorem rU{k:Int}(h:1≤k∧k≤11):(eT k).head? =some (UInt8.ofNat (2*k).toNat):=by
 have:k=1∨k=2∨k=3∨k=4∨k=5∨k=6∨k=7∨k=8∨k=9∨k=10∨k=11:=by omega
 rcases this with e|e|e|e|e|e|e|e|e|e|e<;>subst e<;>decide+kernel
theorem yA{f:bH}(h:eP f≠[]):eP f=eT f.kind++tK f ((dQ f.kind).elim [] (·.key)):=by unfold eP;rw[if_pos (Bj h)]
theorem rn{f:bH}(h:eC f=true):1≤f.kind∧f.kind≤11:=by obtain⟨s,hs,_⟩:=ln h;obtain⟨_,_,_,_,_,_,h1,h2⟩:=nH hs;exact⟨h1,h2⟩
theorem BU{f h:bH}(hf:eP f≠[])(e:eP f=eP h):f.kind=h.kind:=by
 have hh:eP h≠[]:=fun e2=>hf (e.trans e2);have k1:=rn (Bj hf);have k2:=rn (Bj hh);have h1:=rU k1;have h2:=rU k2;have a1:(eP f).head? =some (UInt8.ofNat (2*f.kind).toNat):=by rw[yA hf,List.head?_append,h1];rfl
 have a2:(eP h).head? =some (UInt8.ofNat (2*h.kind).toNat):=by rw[yA hh,List.head?_append,h2];rfl
 rw[e,a2]at a1;have:=congrArg UInt8.toNat (Option.some.inj a1);simp only[UInt8.toNat_ofNat']at this;omega
theorem BV{day:Int}{l:List bH}: ∀{p},p∈jl day l→p.2∈l:=by
 refine y9 (P:=fun m l=> ∀{p},p∈m→p.2∈l) (fun h=>absurd h List.not_mem_nil) (fun m l f ih p hp=>?_) l;rcases B1 day m f with e|⟨_,e⟩<;>rw[e]at hp
 ·exact List.mem_append_left _ (ih hp)
 rcases y7 hp with rfl|hp
 ·exact List.mem_append_right _ (List.mem_singleton_self _)
 exact List.mem_append_left _ (ih hp)
theorem vR{a:List UInt8}: ∀{m:KF},(∀p∈m,p.1≠a)→AO a m=none
 |[],_=>rfl
 |(k,v)::r,h=>by unfold AO;rw[if_neg fun e=>h _ (List.mem_cons_self ..) e.symm];exact vR fun p hp=>h p (List.mem_cons_of_mem _ hp)
theorem vT{a:List UInt8}{x:bH}: ∀{m:KF},(∀p∈m,p.1≠a)→nr a x m=m++[(a,x)]
 |[],_=>rfl
 |(k,v)::r,h=>by unfold nr;rw[if_neg fun e=>h _ (List.mem_cons_self ..) e.symm,vT fun p hp=>h p (List.mem_cons_of_mem _ hp)];rfl
theorem B5{day:Int}{l:List bH}{f:bH}(hk:eP f≠[])(hd:f.day≤day)(h: ∀x∈l,eP x≠eP f):jl day (l++[f])=jl day l++[(eP f,f)]:=by
 have hn: ∀p∈jl day l,p.1≠eP f:=fun p hp=>by rw[((B2 day l).2 p hp).1];exact h _ (BV hp)
 rw[Ev];unfold gH;rw[if_neg fun h=>h.elim hk fun e=>by omega,vR hn,if_pos rfl,vT hn]
end Go.Proofs.YtgehbndkogohpaaGreatDoor
namespace Go.Proofs.YtgehbndkogohpaaGreatDoor
open Go Go.K
set_option maxRecDepth 10000
attribute [local irreducible] W WL cD bc bK bd bg bh cq ck
def Vk(f:bQ)(waf idn time:Int)(r:List bH):Prop:=∀i (hi:i<r.length),∃c,K4 f (r.take i)≠[]∧r[i]=PB f waf idn time c (r.take i)
theorem Vk.at{f:bQ}{waf idn time:Int}{r:List bH}(h:Vk f waf idn time r){i:Nat}(hi:i<r.length):r[i].kind=1∧r[i].idn=idn+i∧r[i].waf=waf∧r[i].time=time+10*i:=by
 obtain⟨c,_,e⟩:=h i hi;have hl:(r.take i).length=i:=by rw[List.length_take];omega
 rw[e];unfold PB JY;rw[hl];exact⟨rfl,rfl,rfl,rfl⟩
theorem BL{b:gn}(a:jJ)(h:b.holds=[]):mM b a=[]:=by
 have e:Cl b a=[]:=by unfold Cl rO;rw[h];rfl
 unfold mM;rw[e];simp[jH]
end Go.Proofs.YtgehbndkogohpaaGreatDoor
namespace Go.Proofs.YtgehbndkogohpaaGreatDoor
open Go Go.K
set_option maxRecDepth 10000
attribute [local irreducible] W WL cD bc bK bd bg bh cq ck
theorem yL{x:jQ}{r:List jQ}{g:bH}(h: ¬(g.num x.at_<x.lo||x.hi<g.num x.at_)):mz (x::r) g=mz r (g.put x.at_ 0):=by rw[mz];exact if_neg h
theorem GH{f:bH}(h:eC f=true):eP f=eT f.kind++tK f ((dQ f.kind).elim [] (·.key)):=by unfold eP;rw[if_pos h]
theorem Cu{f:bH}(h:eC f=true):eP f≠[]:=by have k:=rn h;rw[GH h];intro e;have h1:=rU k;rw[(List.append_eq_nil_iff.1 e).1]at h1;cases h1
theorem CY{day:Int}{l:List bH}: ∀(r:List bH),(∀x∈r,eP x≠[]∧x.day≤day)→r.Pairwise (fun x y=>eP x≠eP y)→(∀x∈l,∀y∈r,eP x≠eP y)→jl day (l++r)=jl day l++r.map fun x=>(eP x,x):=by
 intro r;suffices hh: ∀(n:Nat) (r:List bH),r.length=n→(∀x∈r,eP x≠[]∧x.day≤day)→r.Pairwise (fun x y=>eP x≠eP y)→(∀x∈l,∀y∈r,eP x≠eP y)→jl day (l++r)=jl day l++r.map fun x=>(eP x,x)from hh _ r rfl
 intro n
 induction n with
 |zero=>intro r hr _ _ _;obtain rfl:=List.eq_nil_of_length_eq_zero hr;simp
 |succ n ih=>
  intro r hr h1 h2 h3;rcases List.eq_nil_or_concat r with rfl|⟨r,x,rfl⟩
  ·cases hr
  rw[List.concat_eq_append]at*;rw[List.length_append,List.length_singleton]at hr;rw[List.pairwise_append]at h2;rw[←List.append_assoc,B5 (h1 x (by simp)).1 (h1 x (by simp)).2,ih r (by omega) (fun y hy=>h1 y (List.mem_append_left _ hy)) h2.1 (fun y hy z hz=>h3 y hy z (List.mem_append_left _ hz))]
  ·simp
  intro y hy;rcases List.mem_append.1 hy with hy|hy
  ·exact h3 y hy x (by simp)
  exact h2.2.2 y hy x (by simp)
end Go.Proofs.YtgehbndkogohpaaGreatDoor
namespace Go.Proofs.YtgehbndkogohpaaGreatDoor
open Go Go.K
set_option maxRecDepth 10000
attribute [local irreducible] W WL cD bc bK bd bg bh cq ck
theorem ua{lo hi:Int}: ∀{p:Int} {l:List Int},iF lo hi p l=true→ ∀n∈l,lo≤n∧n≤hi
 |_,[],_,n,hn=>absurd hn List.not_mem_nil
 |p,m::r,h,n,hn=>by
  simp only[iF,within,Bool.and_eq_true,decide_eq_true_eq]at h;rcases List.mem_cons.1 hn with rfl|hn
  ·exact h.1.1
  exact ua h.2 n hn
theorem AB{lo hi:Int}{l:List Int}(h:ascending l lo hi=true): ∀n∈l,lo≤n∧n≤hi:=by
 cases l with
 |nil=>exact fun n hn=>absurd hn List.not_mem_nil
 |cons m r=>
  simp only[ascending,within,Bool.and_eq_true,decide_eq_true_eq]at h;intro n hn;rcases List.mem_cons.1 hn with rfl|hn
  ·exact h.1
  exact ua h.2 n hn
theorem CZ{f:bQ}(h:valid f=true){n:Int}{s:Step}(hs:dS f.steps n=some s):0≤n∧n≤39∧(1≤s.cE∧s.cE≤1000000)∧(∀t∈s.dt,0≤t∧t≤59):=by obtain⟨h0,_,h2⟩:=rR hs;have bC:=(List.getElem?_eq_some_iff.1 h2).1;simp only[valid,within,Bool.and_eq_true,decide_eq_true_eq]at h;have hr:=List.all_eq_true.1 h.1.2 s (List.mem_of_getElem? h2);have Sx:=h.1.1.1.2.2;simp only[bT,within,Bool.and_eq_true,decide_eq_true_eq]at hr;refine⟨h0,by omega,hr.1.1.1.1.1.2,AB hr.1.1.1.1.2⟩
structure Vl(F S:List bH):Prop where
 f: ∀i (hi:i<F.length),i<6∧eC F[i]=true∧F[i].kind=1∧F[i].day=0∧F[i].gone=false∧F[i].idn=500+i∧F[i].waf=1∧F[i].time=10+10*i∧eP F[i]=2::eT (500+i)
 s: ∀i (hi:i<S.length),i<6∧eC S[i]=true∧S[i].kind=1∧S[i].day=0∧S[i].gone=false∧S[i].idn=600+i∧S[i].waf=2∧S[i].time=12+10*i∧eP S[i]=2::eT (600+i)
def T9(k:Nat):Int:=if k<6 then 500+k else 594+k
theorem Vl.key{F S:List bH}(h:Vl F S){x:bH}(hx:x∈F++S): ∃k,k<12∧eP x=2::eT (T9 k)∧eC x=true∧x.kind=1∧x.day=0∧x.gone=false∧((x.waf=1∧x.idn<600)∨(x.waf=2∧600≤x.idn))∧0≤x.time∧x.time≤100:=by
 rcases List.mem_append.1 hx with hx|hx
 ·obtain⟨i,hi,rfl⟩:=List.mem_iff_getElem.1 hx;obtain⟨h1,h2,h3,h4,h5,h6,h7,h8,h9⟩:=h.f i hi;exact⟨i,by omega,by rw[h9,T9,if_pos h1],h2,h3,h4,h5,.inl ⟨h7,by omega⟩,by omega,by omega⟩
 obtain⟨i,hi,rfl⟩:=List.mem_iff_getElem.1 hx;obtain⟨h1,h2,h3,h4,h5,h6,h7,h8,h9⟩:=h.s i hi;refine⟨i+6,by omega,?_,h2,h3,h4,h5,.inr ⟨h7,by omega⟩,by omega,by omega⟩;rw[h9,T9,if_neg (by omega)];congr 2;omega
end Go.Proofs.YtgehbndkogohpaaGreatDoor
