/- Parts of the proof, from: Make: a step. -/
import Derived.Test.YtgehbndkogohpaaGreatDoorYl
namespace Go.Proofs.YtgehbndkogohpaaGreatDoor
open Go Go.K
set_option maxRecDepth 10000
attribute [local irreducible] W WL cD bc bK bd bg bh cq ck
set_option maxHeartbeats 8000000
theorem GR{B e k q m c:Nat}{ad:Option Addr}{xs:List Value}{w:World}(h:Row B e k (.slice ad m c) q xs w)(hm:m≠0): ∃b p,ad=some ⟨b,p,none⟩:=by
 rcases h.2 with⟨_,a',hv⟩|⟨b,p,cap,cur,hv,_⟩
 ·simp only[Value.slice.injEq]at hv;omega
 simp only[Value.slice.injEq]at hv;exact⟨b,p,hv.1⟩
theorem K6(v u:Value)(x:List Y6)(zs:List Y3)(g:G)(aH:Rs g v x)(aU:Rs g u zs)(hx: ∀y∈x,y.fit)(hz: ∀z∈zs,z.fit):
  CallsIn Wd 0 Tryz.prog 22 #[v,u] g.w (cF g fun g' r=>ff g' r (mk x zs)):=by
 obtain⟨a,c,rfl⟩:=aH.isSlice;obtain⟨a2,c2,rfl⟩:=aU.isSlice;have hlen:=aH.dJ;have zH:=aU.dJ;unfold maxLen at hlen zH;have hs:=St.start g;have aq:=G.le.refl g;have hn:=rU x;refine enter Tryz.func22 rfl Tryz.ntmps22 rfl ?_;apply cM;refine ak rfl rfl (aK T.ok rfl hs rfl rfl ?_);clear hs;rintro br g1 hs ah;obtain⟨aH,aU⟩:=cf ah aH aU;apply bW;refine aY rfl ?_;apply cM;have hN:(if(1:Int)<(if(8:Int)<(x.length:Int)then 8 else(x.length:Int))then(if(8:Int)<(x.length:Int)then 8 else(x.length:Int))else 1)=(eM x:Int):=by unfold eM;split<;>split<;>omega
 refine kz (.int .i64 (eM x)) (t:=5) rfl (congrArg (Value.int .i64) hN) ?_;refine ak rfl rfl (aQ T.ok rfl (vs:=[(0,.int .i64 2),(1,.int .i64 5)]) (cells:=[.int .i64 2,.int .i64 5,.slice none 0 0,.slice none 0 0]) rfl rfl rfl rfl [(0,1),(1,1),(2,1),(3,1)] rfl (by kernel_rfl) ?_);skip;refine ak rfl rfl (aK T.ok rfl hs rfl rfl ?_);clear hs;rintro bf g1 hs ah;obtain⟨aH,aU⟩:=cf ah aH aU;skip;refine bA rfl (az T.ok 0 rfl hs rfl rfl rfl rfl rfl rfl rfl rfl rfl ?_);replace hs:=hs;rintro g1 hs ah;obtain⟨aH,aU⟩:=cf ah aH aU;apply bW;apply aD;refine aY rfl ?_;apply aG;have nL:=aH;have uD:=aU;have gM:=G.le.refl g1;replace hs:=hs.iN 60 7 none;refine bM (fun m a' w=> ∃(k:Nat) (sv:Value) (cells:List Value) (g3:G),w=g3.w∧St g g3 [.row 60 7 sv k cells,.obj bf (.cells [.int .i64 2,.int .i64 5,sv,.slice none 0 0].toArray 28 (0,0)),.obj br (.cells [.int .i64 0,.int .i64 0,.slice none 0 0,.slice none 0 0].toArray 28 (0,0))]∧G.le g1 g3∧k≤eM x∧m=eM x-k∧cG g3 cells (jT x k)∧
   Fr 193 [] [(0,.slice a x.length c),(1,.slice a2 zs.length c2),(4,.pointer (some ⟨br,0,none⟩)),(5,.int .i64 (eM x)),(6,.pointer (some ⟨bf,0,none⟩)),(7,.int .i64 k)] a') (eM x)
  (fun a' ha=>⟨0,_,[],g1,rfl,hs,gM,Nat.zero_le _,rfl,rfl,ha.keep (by(repeat (first|exact trivial|refine⟨rfl,?_⟩)))⟩) ?_
 clear hs gM aH aU;rintro m a' _ ⟨k,sv,cells,g3,rfl,hs,gM,hk,rfl,d_,eF⟩;have aH:=nL.mono gM;obtain⟨sa,sc,rfl⟩:=(hs.own 0 _ rfl).1.form;revert a';apply cI;apply aD;refine aY rfl ?_;by_cases bC:k<eM x
 ·refine aM (b:=decide ((k:Int)<(eM x:Int))) (by simp;omega) rfl ?_;have dH:=yA x k;have K':=d_;have jY:=gM;have cC:=G.le.refl g3;apply aF;apply ar;apply aD;apply aG;apply cM;refine ak rfl rfl (aK T.ok rfl hs rfl rfl ?_);clear hs;rintro bY g1 hs ah;obtain⟨cC,aH⟩:=cf ah cC aH;apply bW;apply aD;refine aY rfl ?_;refine pb (fun a' w=> ∃(g4:G),w=g4.w∧G.le g3 g4∧(x.getD k zF).fit∧EP g4 bY 0 [.int .i64 (x.getD k zF).y0,.int .i64 (x.getD k zF).y1,.int .i64 (x.getD k zF).y2,.int .i64 (x.getD k zF).y3,.int .i64 (x.getD k zF).y4,.int .i64 (x.getD k zF).y5]∧
   St g g4 [.row 60 7 (.slice sa k sc) k cells,.obj bf (.cells [.int .i64 2,.int .i64 5,.slice sa k sc,.slice none 0 0].toArray 28 (0,0)),.obj br (.cells [.int .i64 0,.int .i64 0,.slice none 0 0,.slice none 0 0].toArray 28 (0,0))]∧
   Fr 193 [] [(0,.slice a x.length c),(1,.slice a2 zs.length c2),(4,.pointer (some ⟨br,0,none⟩)),(5,.int .i64 (eM x)),(6,.pointer (some ⟨bf,0,none⟩)),(7,.int .i64 k),(8,.pointer (some ⟨bY,0,none⟩))] a') ?_ ?_
  ·by_cases Ro:k<x.length
   ·refine aM (b:=decide ((k:Int)<(x.length:Int))) (by simp;omega) rfl ?_;have jh:=hx _ (List.getElem_mem Ro);have K8:x.getD k zF=x[k]:=by rw[List.getD_eq_getElem?_getD,List.getElem?_eq_getElem Ro];rfl
    have jG:dS x (k:Int)=some x[k]:=by simp[dS,Ro]
    rw[K8];generalize x[k]=y at*;apply aA;refine Wp 2 rfl ?_;refine ak rfl rfl (aW T.ok rfl aH (y:=y) jG rfl rfl rfl rfl rfl rfl ?_);rintro b p ys aL rfl;refine Wm 1 [.e aL 0] (St.start _) rfl ?_;skip;refine bA rfl (az T.ok 0 rfl hs rfl rfl rfl rfl rfl rfl rfl rfl rfl ?_);replace hs:=hs;rintro g1 hs ah;replace cC:=G.le.trans cC ah;obtain⟨g2,bL,aT,ah,aL⟩:=hs.ba (i:=0) rfl;replace hs:=aT;clear aT;rw[←bL];replace cC:=G.le.trans cC ah;apply aE;exact fun a ha=>⟨_,rfl,cC,jh,aL,hs,ha.keep (by(repeat (first|exact trivial|refine⟨rfl,?_⟩)))⟩
   refine aV (b:=decide ((k:Int)<(x.length:Int))) (by simp;omega) rfl ?_;have K8:x.getD k zF=zF:=by rw[List.getD_eq_getElem?_getD,List.getElem?_eq_none (by omega)];rfl
   rw[K8];obtain⟨g2,bL,aT,ah,aL⟩:=hs.ba (i:=0) rfl;replace hs:=aT;clear aT;rw[←bL];replace cC:=G.le.trans cC ah;apply aF;exact fun a ha=>⟨_,rfl,cC,IW,aL,hs,ha.keep (by(repeat (first|exact trivial|refine⟨rfl,?_⟩)))⟩
  clear hs cC aH d_ gM;rintro a' _ ⟨g4,rfl,cC,jh,aC,hs,eF⟩;have X7:mP (x.getD k zF) (eM x) k=mP (x.getD k zF) (eM x) k:=rfl;generalize hy:x.getD k zF=y at*;clear X7;revert a';have p0:=b_ (c:=y.y0) (n:=5) (by omega);have p1:=b_ (c:=y.y1) (n:=30) (by omega);have p2:=b_ (c:=y.y1.tdiv 30) (n:=20) (by omega);have p3:=b_ (c:=y.y2) (n:=6) (by omega);have p4:=b_ (c:=y.y2.tdiv 12) (n:=3) (by omega);have p5:=b_ (c:=y.y3.tdiv 12) (n:=3) (by omega);have p6:=b_ (c:=y.y4.tdiv 4) (n:=(k:Int)+1) (by omega);have p7:=b_ (c:=y.y5) (n:=3) (by omega);have q1:=lb (n:=30) jh.h1 (by omega);have q2:=lb (n:=6) jh.h2 (by omega);have q3:=lb (n:=12) jh.h2 (by omega);have q4:=lb (n:=12) jh.h3 (by omega);have q5:=lb (n:=36) jh.h3 (by omega);have q6:=lb (n:=4) jh.h4 (by omega);apply cI;apply aD;have s7:=hs;apply ea (eO (fe (.f (Bd g4.dr.w.heap.size [.int .i64 0,.slice none 0 0,.int .i64 0,.int .i64 0,.slice none 0 0,.int .i64 0,.int .i64 0] 60)::[]))) 10 [(8,41),(9,9)] (by kernel_rfl)
  ·refine ay (an (js:=[]) (by kernel_rfl) fun gd hf=>?_) ?_
   ·skip;apply aj
    (refine aB rfl ?_;refine cA T.ok (q:=0) rfl rfl rfl rfl rfl rfl (by decide) ?_;refine⟨_,rfl,a_.refl _,?_⟩;exact rfl)
   refine Dm [[0]] [.e aC 0] (St.start _) (by kernel_rfl) rfl ?_;refine ay (an (js:=[(1,34)]) (by kernel_rfl) fun gd hf=>?_) ?_
   ·skip;refine ai rfl ?_;apply aj;refine aB rfl ?_;refine au pF aJ rfl rfl rfl rfl rfl (iW (y.y0) (5) _ (jh.h0) (by decide)) fun g' v h1 h2=>⟨g',rfl,h1,?_⟩
    exact h2
   refine ay (an (js:=[(2,35)]) (by kernel_rfl) fun gd hf=>?_) ?_
   ·skip;refine ai rfl ?_;apply aj;refine aB rfl ?_;refine aN _ T.ok rfl ?_;refine⟨_,rfl,a_.refl _,?_⟩;exact congrArg (Value.int .i64) (show _=1+aS y.y0 5 from wr (by omega) (by omega))
   refine ay (an (js:=[]) (by kernel_rfl) fun gd hf=>?_) ?_
   ·skip;apply aj
    (refine aB rfl ?_;refine cA T.ok (q:=1) rfl rfl rfl rfl rfl rfl (by decide) ?_;refine⟨_,rfl,a_.refl _,?_⟩;exact rfl)
   refine Dm [[4]] [.e aC 1] (St.start _) (by kernel_rfl) rfl ?_;refine ay (an (js:=[(5,38)]) (by kernel_rfl) fun gd hf=>?_) ?_
   ·skip;refine ai rfl ?_;apply aj;refine aB rfl ?_;refine au pF aJ rfl rfl rfl rfl rfl (iW (y.y1) (30) _ (jh.h1) (by decide)) fun g' v h1 h2=>⟨g',rfl,h1,?_⟩
    exact h2
   refine ay (an (js:=[(6,39)]) (by kernel_rfl) fun gd hf=>?_) ?_
   ·skip;refine ai rfl ?_;apply aj;refine aB rfl ?_;refine aN _ T.ok rfl ?_;refine⟨_,rfl,a_.refl _,?_⟩;exact congrArg (Value.int .i64) (show _=1+aS y.y1 30 from wr (by omega) (by omega))
   refine ay (an (js:=[(3,36),(7,40)]) (by kernel_rfl) fun gd hf=>?_) ?_
   ·skip;refine ai rfl ?_;refine ai rfl ?_;apply aj;refine aB rfl ?_;refine aQ T.ok rfl (vs:=[(0,.int .i64 (1+aS y.y0 5)),(2,.int .i64 (1+aS y.y1 30)),(5,.int .i64 (-1))]) (cells:=[.int .i64 (1+aS y.y0 5),.slice none 0 0,.int .i64 (1+aS y.y1 30),.int .i64 0,.slice none 0 0,.int .i64 (-1),.int .i64 0]) rfl rfl rfl rfl [(0,1),(1,1),(2,1),(3,1),(4,1),(5,1),(6,1)] rfl (by kernel_rfl) ?_;exact⟨_,rfl,a_.refl _,rfl⟩
   refine ay (an (js:=[]) (by kernel_rfl) fun gd hf=>?_) ?_
   ·skip;apply aj;refine aB rfl ?_;refine aK T.ok rfl (St.start gd) rfl rfl ?_;intro b g' jo hle;have ho:=jo.own 0 _ rfl;exact⟨g',rfl,jo.nC,b,rfl,Nat.le_trans hf.below.size ho.1,ho.2⟩
   exact fD
  intro g1 aP;refine ai rfl ?_;refine aZ fun v9 h9=>?_;apply aj;replace hs:=hs.dr.call aP;have ah:=(G.bu _).trans aP.le;obtain⟨cC,aC⟩:=cf ah cC aC;obtain⟨bs,rfl,rS⟩:=h9;replace hs:=s7.dr.ft aP rS;clear s7;skip;refine bA rfl (az T.ok 0 rfl hs rfl rfl rfl rfl rfl rfl rfl rfl rfl ?_);replace hs:=hs;rintro g1 hs ah;obtain⟨cC,aC⟩:=cf ah cC aC;apply bW;apply aD;apply bP hs (iY (eQ (fe []))) 7 [(6,48)] (by kernel_rfl) rfl
  ·refine Dm [[],[0]] [.o 0] hs (by kernel_rfl) rfl ?_;refine ay (an (js:=[]) (by kernel_rfl) fun gd hf=>?_) ?_
   ·skip;apply aj
    (refine aB rfl ?_;refine cA T.ok (q:=1) rfl rfl rfl rfl rfl rfl (by decide) ?_;refine⟨_,rfl,a_.refl _,?_⟩;exact rfl)
   refine Dm [[2]] [.e aC 1] (St.start _) (by kernel_rfl) rfl ?_;refine ay (an (js:=[(3,45)]) (by kernel_rfl) fun gd hf=>?_) ?_
   ·skip;refine ai rfl ?_;apply aj;refine aB rfl ?_;refine aN _ T.ok rfl ?_;refine⟨_,rfl,a_.refl _,?_⟩;exact congrArg (Value.int .i64) (show _=y.y1.tdiv 30 from wr q1.1 q1.2)
   refine ay (an (js:=[(4,46)]) (by kernel_rfl) fun gd hf=>?_) ?_
   ·skip;refine ai rfl ?_;apply aj;refine aB rfl ?_;refine au pF aJ rfl rfl rfl rfl rfl (iW (y.y1.tdiv 30) (20) _ (q1) (by decide)) fun g' v h1 h2=>⟨g',rfl,h1,?_⟩
    exact h2
   refine ay (an (js:=[(1,43),(5,47)]) (by kernel_rfl) fun gd hf=>?_) ?_
   ·skip;refine ai rfl ?_;refine ai rfl ?_;apply aj;refine aB rfl ?_;refine aN _ T.ok rfl ?_;refine⟨_,rfl,a_.refl _,?_⟩;exact congrArg (Value.int .i64) (show _=1+aS y.y1 30+aS (y.y1.tdiv 30) 20 from wr (by omega) (by omega))
   exact fD
  clear hs;intro g1 hs ah;obtain⟨cC,aC⟩:=cf ah cC aC;refine Wp 1 rfl ?_;refine bA rfl (az T.ok 0 rfl hs rfl rfl rfl rfl rfl rfl rfl rfl rfl ?_);replace hs:=hs;rintro g1 hs ah;obtain⟨cC,aC⟩:=cf ah cC aC;apply bW;apply cM;refine ak rfl rfl (cA T.ok (q:=2) rfl rfl rfl rfl rfl rfl (by decide) ?_);refine Wm 1 [.z aC] (St.start _) rfl ?_;refine ak rfl rfl (au pF aJ rfl rfl rfl rfl rfl (iW y.y2 6 _ jh.h2 (by decide)) ?_);rintro g1 _ aP rfl;replace hs:=hs.call aP;have ah:=aP.le;obtain⟨cC,aC⟩:=cf ah cC aC;refine bj rfl ?_;refine cN 1 rfl ?_;refine ak rfl rfl (bD T.ok rfl hs (vs:=[(0,.int .i64 (aS y.y2 6))]) (cells:=[.int .i64 (aS y.y2 6)]) rfl rfl rfl rfl rfl rfl (by decide) (by decide) (by kernel_rfl) rfl ?_);clear hs;rintro bt gl hs ah;obtain⟨cC,aC⟩:=cf ah cC aC;obtain⟨gz,iQ,cP,jq,bS⟩:=hs.cK (α:=Int) (xs:=[aS y.y2 6]) (i:=0) rfl (cG.ints _ [aS y.y2 6]);have ah:=jq;rw[←iQ];replace hs:=cP;clear cP;obtain⟨cC,aC⟩:=cf ah cC aC;refine Wp 1 rfl ?_;refine bA rfl (az T.ok 0 rfl hs rfl rfl rfl rfl rfl rfl rfl rfl rfl ?_);replace hs:=hs;rintro g1 hs ah;obtain⟨cC,aC,bS⟩:=dy ah cC aC bS;apply bW;apply aD;apply cM;refine ak rfl rfl (cA T.ok (q:=2) rfl rfl rfl rfl rfl rfl (by decide) ?_);refine Wm 2 [.z aC] (St.start _) rfl ?_;refine kz (.int .i64 (y.y2.tdiv 6)) (t:=58) rfl (congrArg (Value.int .i64) (wr q2.1 q2.2)) ?_;refine ak rfl rfl (au pF aJ rfl rfl rfl rfl rfl (iW (y.y2.tdiv 6) 2 _ q2 (by decide)) ?_);rintro g1 _ aP rfl;replace hs:=hs.call aP;have ah:=aP.le;obtain⟨cC,aC,bS⟩:=dy ah cC aC bS;refine bj rfl ?_;have fF:=G.le.refl g1;refine pb (fun a' w=> ∃(ta:Option Addr) (tc:Nat) (g5:G),w=g5.w∧g1.le g5∧Rs g5 (.slice ta (eV y).length tc) (eV y)∧St g g5 [.obj bs (.cells [.int .i64 (1+aS y.y0 5),.slice ta (eV y).length tc,.int .i64 (1+aS y.y1 30),.int .i64 (1+aS y.y1 30+aS (y.y1.tdiv 30) 20),.slice none 0 0,.int .i64 (-1),.int .i64 (0)].toArray 60 (0,0)),.row 60 7 (.slice sa k sc) k cells,.obj bf (.cells [.int .i64 2,.int .i64 5,.slice sa k sc,.slice none 0 0].toArray 28 (0,0)),.obj br (.cells [.int .i64 0,.int .i64 0,.slice none 0 0,.slice none 0 0].toArray 28 (0,0))]∧
   Fr 193 [] [(0,.slice a x.length c),(1,.slice a2 zs.length c2),(4,.pointer (some ⟨br,0,none⟩)),(5,.int .i64 (eM x)),(6,.pointer (some ⟨bf,0,none⟩)),(7,.int .i64 k),(8,.pointer (some ⟨bY,0,none⟩)),(9,.pointer (some ⟨bs,0,none⟩))] a') ?_ ?_
  ·by_cases ht:aS (y.y2.tdiv 6) 2=0
   ·have Rp:eV y=[aS y.y2 6]++[aS y.y2 6+1+aS (y.y2.tdiv 12) 3]:=by unfold eV;rw[if_pos ht];rfl
    refine aM (b:=_) ?_ rfl ?_
    ·simp[ht]
    skip;apply ea (eO (fe (.f (Fact.rs [aS y.y2 6+1+aS (y.y2.tdiv 12) 3])::(.f (Fact.rs ([aS y.y2 6]++[aS y.y2 6+1+aS (y.y2.tdiv 12) 3]))::[])))) 11 [(10,71)] (by kernel_rfl)
    ·refine Dm [[],[0],[]] [.o 0] hs (by kernel_rfl) rfl ?_;refine ay (an (js:=[(2,63)]) (by kernel_rfl) fun gd hf=>?_) ?_
     ·skip;refine ai rfl ?_;apply aj;refine aB rfl ?_;refine aN _ T.ok rfl ?_;refine⟨_,rfl,a_.refl _,?_⟩;exact congrArg (Value.int .i64) (show _=aS y.y2 6+1 from wr (by omega) (by omega))
     refine ay (an (js:=[]) (by kernel_rfl) fun gd hf=>?_) ?_
     ·skip;apply aj
      (refine aB rfl ?_;refine cA T.ok (q:=2) rfl rfl rfl rfl rfl rfl (by decide) ?_;refine⟨_,rfl,a_.refl _,?_⟩;exact rfl)
     refine Dm [[4]] [.e aC 2] (St.start _) (by kernel_rfl) rfl ?_;refine ay (an (js:=[(5,66)]) (by kernel_rfl) fun gd hf=>?_) ?_
     ·skip;refine ai rfl ?_;apply aj;refine aB rfl ?_;refine aN _ T.ok rfl ?_;refine⟨_,rfl,a_.refl _,?_⟩;exact congrArg (Value.int .i64) (show _=y.y2.tdiv 12 from wr q3.1 q3.2)
     refine ay (an (js:=[(6,67)]) (by kernel_rfl) fun gd hf=>?_) ?_
     ·skip;refine ai rfl ?_;apply aj;refine aB rfl ?_;refine au pF aJ rfl rfl rfl rfl rfl (iW (y.y2.tdiv 12) (3) _ (q3) (by decide)) fun g' v h1 h2=>⟨g',rfl,h1,?_⟩
      exact h2
     refine ay (an (js:=[(3,64),(7,68)]) (by kernel_rfl) fun gd hf=>?_) ?_
     ·skip;refine ai rfl ?_;refine ai rfl ?_;apply aj;refine aB rfl ?_;refine aN _ T.ok rfl ?_;refine⟨_,rfl,a_.refl _,?_⟩;exact congrArg (Value.int .i64) (show _=aS y.y2 6+1+aS (y.y2.tdiv 12) 3 from wr (by omega) (by omega))
     refine ay (an (js:=[(8,69)]) (by kernel_rfl) fun gd hf=>?_) ?_
     ·skip;refine ai rfl ?_;apply aj;refine aB rfl ?_;refine bD T.ok rfl (St.start gd) (vs:=[(0,.int .i64 (aS y.y2 6+1+aS (y.y2.tdiv 12) 3))]) (cells:=[.int .i64 (aS y.y2 6+1+aS (y.y2.tdiv 12) 3)]) rfl rfl rfl rfl rfl rfl (by decide) (by decide) (by kernel_rfl) rfl ?_;intro b2 g2 nz FU;obtain⟨g3,pf,vn,qI,ny⟩:=nz.cK (α:=Int) (xs:=[aS y.y2 6+1+aS (y.y2.tdiv 12) 3]) (i:=0) rfl (cG.ints _ [aS y.y2 6+1+aS (y.y2.tdiv 12) 3]);exact⟨g3,pf,vn.nC,ny⟩
     refine ay (an (js:=[(1,62),(9,70)]) (by kernel_rfl) fun gd hf=>?_) ?_
     ·have dG:=(G.bu _).trans hf.le;refine ai rfl ?_;refine aZ fun v9 h9=>?_;apply aj;obtain⟨ua,uc,rfl⟩:=Rs.isSlice h9;refine aB rfl ?_;exact sI T.ok rfl rfl rfl (bS.mono dG) h9 (by decide) (by simp) rfl rfl rfl rfl rfl (by show(1+1)*8≤_;decide) (by show 1+1≤_;decide) fun v g' eu hr=>⟨g',rfl,eu,hr⟩
     exact fD
    intro g1 aP;refine aZ fun v10 AT=>?_;apply aj;replace hs:=hs.dr.call aP;have ah:=(G.bu _).trans aP.le;obtain⟨fF,cC,aC,bS⟩:=eS ah fF cC aC bS;have cH:Rs g1 v10 (eV y):=by rw[Rp];exact AT
    clear AT;obtain⟨ta,tc,rfl⟩:=cH.isSlice;refine Wp 1 rfl ?_;refine bA rfl (az T.ok 0 rfl hs rfl rfl rfl rfl rfl rfl rfl rfl rfl ?_);replace hs:=hs;rintro g6 hs ah;obtain⟨fF,cC,aC,bS,cH⟩:=kO ah fF cC aC bS cH;apply aE;exact fun a ha=>⟨ta,tc,g6,rfl,fF,cH,hs,ha.keep (by(repeat (first|exact trivial|refine⟨rfl,?_⟩)))⟩
   have Rp:eV y=[aS y.y2 6]:=by unfold eV;rw[if_neg ht]
   refine aV (b:=_) ?_ rfl ?_
   ·simp[ht]
   apply aF;exact fun a ha=>⟨some ⟨bt,0,none⟩,1,g1,rfl,fF,by rw[Rp];exact bS,by rw[Rp];exact hs,ha.keep (by(repeat (first|exact trivial|refine⟨rfl,?_⟩)))⟩
  clear hs bS;rintro a' _ ⟨ta,tc,g5,rfl,ah,bS,hs,eF⟩;obtain⟨fF,cC,aC⟩:=dy ah fF cC aC;clear fF;revert a';have fF:=G.le.refl g5;apply cI;apply aD;have E1:fX y (eM x) k=if(k:Int)<eM x-1∧0<aS y.y3 12 then((k:Int)+1)::(if(k:Int)+2+aS (y.y3.tdiv 12) 3<eM x∧aS (y.y3.tdiv 36) 3=0 then [(k:Int)+2+aS (y.y3.tdiv 12) 3]else [])else []:=rfl
  refine pb (fun a' w=> ∃(na:Option Addr) (nc:Nat) (g6:G),w=g6.w∧g5.le g6∧Rs g6 (.slice na (fX y (eM x) k).length nc) (fX y (eM x) k)∧St g g6 [.obj bs (.cells [.int .i64 (1+aS y.y0 5),.slice ta (eV y).length tc,.int .i64 (1+aS y.y1 30),.int .i64 (1+aS y.y1 30+aS (y.y1.tdiv 30) 20),.slice na (fX y (eM x) k).length nc,.int .i64 (-1),.int .i64 (0)].toArray 60 (0,0)),.row 60 7 (.slice sa k sc) k cells,.obj bf (.cells [.int .i64 2,.int .i64 5,.slice sa k sc,.slice none 0 0].toArray 28 (0,0)),.obj br (.cells [.int .i64 0,.int .i64 0,.slice none 0 0,.slice none 0 0].toArray 28 (0,0))]∧
   Fr 193 [] [(0,.slice a x.length c),(1,.slice a2 zs.length c2),(4,.pointer (some ⟨br,0,none⟩)),(5,.int .i64 (eM x)),(6,.pointer (some ⟨bf,0,none⟩)),(7,.int .i64 k),(8,.pointer (some ⟨bY,0,none⟩)),(9,.pointer (some ⟨bs,0,none⟩))] a') ?_ ?_
  ·by_cases d1:(k:Int)<eM x-1
   ·refine cN 5 rfl ?_;refine cO 77 (b':=true) (by rw[wr (by omega) (by omega)];exact decide_eq_true d1) rfl ?_;refine ak rfl rfl (cA T.ok (q:=3) rfl rfl rfl rfl rfl rfl (by decide) ?_);refine Wm 1 [.z aC] (St.start _) rfl ?_;refine ak rfl rfl (au pF aJ rfl rfl rfl rfl rfl (iW y.y3 12 _ jh.h3 (by decide)) ?_);rintro g1 _ aP rfl;replace hs:=hs.call aP;have ah:=aP.le;obtain⟨fF,cC,aC,bS⟩:=eS ah fF cC aC bS;refine bj rfl ?_;by_cases d2:0<aS y.y3 12
    ·rw[if_pos ⟨d1,d2⟩]at E1;refine aM (b:=_) ?_ rfl ?_
     ·simp[d2]
     refine cN 2 rfl ?_;refine kz (.int .i64 ((k:Int)+1)) (t:=84) rfl (congrArg (Value.int .i64) (wr (by omega) (by omega))) ?_;refine ak rfl rfl (bD T.ok rfl hs (vs:=[(0,.int .i64 ((k:Int)+1))]) (cells:=[.int .i64 ((k:Int)+1)]) rfl rfl rfl rfl rfl rfl (by decide) (by decide) (by kernel_rfl) rfl ?_);clear hs;rintro bn gl hs ah;obtain⟨fF,cC,aC,bS⟩:=eS ah fF cC aC bS;obtain⟨gz,iQ,cP,jq,cH⟩:=hs.cK (α:=Int) (xs:=[(k:Int)+1]) (i:=0) rfl (cG.ints _ [(k:Int)+1]);have ah:=jq;rw[←iQ];replace hs:=cP;clear cP;obtain⟨fF,cC,aC,bS⟩:=eS ah fF cC aC bS;refine Wp 1 rfl ?_;refine bA rfl (az T.ok 0 rfl hs rfl rfl rfl rfl rfl rfl rfl rfl rfl ?_);replace hs:=hs;rintro g1 hs ah;obtain⟨fF,cC,aC,bS,cH⟩:=kO ah fF cC aC bS cH;apply bW;refine cN 2 rfl ?_;refine kz (.int .i64 ((k:Int)+2)) (t:=88) rfl (congrArg (Value.int .i64) (wr (by omega) (by omega))) ?_;refine ak rfl rfl (cA T.ok (q:=3) rfl rfl rfl rfl rfl rfl (by decide) ?_);refine Wm 2 [.z aC] (St.start _) rfl ?_;refine kz (.int .i64 (y.y3.tdiv 12)) (t:=91) rfl (congrArg (Value.int .i64) (wr q4.1 q4.2)) ?_;refine ak rfl rfl (au pF aJ rfl rfl rfl rfl rfl (iW (y.y3.tdiv 12) 3 _ q4 (by decide)) ?_);rintro g1 _ aP rfl;replace hs:=hs.call aP;have ah:=aP.le;obtain⟨fF,cC,aC,bS,cH⟩:=kO ah fF cC aC bS cH;refine bj rfl ?_;refine cN 4 rfl ?_;by_cases d3:(k:Int)+2+aS (y.y3.tdiv 12) 3<eM x
     ·refine cO 97 (b':=true) (by rw[wr (by omega) (by omega)];exact decide_eq_true d3) rfl ?_;refine ak rfl rfl (cA T.ok (q:=3) rfl rfl rfl rfl rfl rfl (by decide) ?_);refine Wm 2 [.z aC] (St.start _) rfl ?_;refine kz (.int .i64 (y.y3.tdiv 36)) (t:=100) rfl (congrArg (Value.int .i64) (wr q5.1 q5.2)) ?_;refine ak rfl rfl (au pF aJ rfl rfl rfl rfl rfl (iW (y.y3.tdiv 36) 3 _ q5 (by decide)) ?_);rintro g1 _ aP rfl;replace hs:=hs.call aP;have ah:=aP.le;obtain⟨fF,cC,aC,bS,cH⟩:=kO ah fF cC aC bS cH;refine bj rfl ?_;by_cases d4:aS (y.y3.tdiv 36) 3=0
      ·have Ue:fX y (eM x) k=[(k:Int)+1]++[(k:Int)+2+aS (y.y3.tdiv 12) 3]:=by rw[E1,if_pos ⟨d3,d4⟩];rfl
       refine aM (b:=_) ?_ rfl ?_
       ·simp[d4]
       apply aA;refine Wm 3 [.o 0] hs rfl ?_;refine kz (.int .i64 ((k:Int)+2+aS (y.y3.tdiv 12) 3)) (t:=106) rfl (congrArg (Value.int .i64) (wr (by omega) (by omega))) ?_;refine ak rfl rfl (bD T.ok rfl hs (vs:=[(0,.int .i64 ((k:Int)+2+aS (y.y3.tdiv 12) 3))]) (cells:=[.int .i64 ((k:Int)+2+aS (y.y3.tdiv 12) 3)]) rfl rfl rfl rfl rfl rfl (by decide) (by decide) (by kernel_rfl) rfl ?_);clear hs;rintro ZC gl hs ah;obtain⟨fF,cC,aC,bS,cH⟩:=kO ah fF cC aC bS cH;obtain⟨gz,iQ,cP,jq,o5⟩:=hs.cK (α:=Int) (xs:=[(k:Int)+2+aS (y.y3.tdiv 12) 3]) (i:=0) rfl (cG.ints _ [(k:Int)+2+aS (y.y3.tdiv 12) 3]);have ah:=jq;rw[←iQ];replace hs:=cP;clear cP;obtain⟨fF,cC,aC,bS,cH⟩:=kO ah fF cC aC bS cH;refine ak rfl rfl (sI T.ok rfl rfl rfl cH o5 (by decide) (by simp) rfl rfl rfl rfl rfl (by show(1+1)*8≤_;decide) (by show 1+1≤_;decide) ?_);rintro v g9 JU lC;rw[←Ue]at lC;obtain⟨na,nc,rfl⟩:=lC.isSlice;replace hs:=hs.call JU;have ah:=JU.le;obtain⟨fF,cC,aC,bS,cH⟩:=kO ah fF cC aC bS cH;refine Wp 1 rfl ?_;refine bA rfl (az T.ok 0 rfl hs rfl rfl rfl rfl rfl rfl rfl rfl rfl ?_);replace hs:=hs;rintro g6 hs ah;obtain⟨fF,cC,aC,bS,cH,lC⟩:=lR ah fF cC aC bS cH lC;apply aE;exact fun a ha=>⟨na,nc,g6,rfl,fF,lC,hs,ha.keep (by(repeat (first|exact trivial|refine⟨rfl,?_⟩)))⟩
      have nv:fX y (eM x) k=[(k:Int)+1]:=by rw[E1,if_neg fun h=>d4 h.2]
      refine aV (b:=_) ?_ rfl ?_
      ·simp[d4]
      apply aF;exact fun a ha=>⟨some ⟨bn,0,none⟩,1,_,rfl,fF,by rw[nv];exact cH,by rw[nv];exact hs,ha.keep (by(repeat (first|exact trivial|refine⟨rfl,?_⟩)))⟩
     have nv:fX y (eM x) k=[(k:Int)+1]:=by rw[E1,if_neg fun h=>d3 h.1]
     refine cO 97 (b':=false) (by rw[wr (by omega) (by omega)];exact decide_eq_false d3) rfl ?_;refine bj rfl ?_;refine aV rfl rfl ?_;apply aF;exact fun a ha=>⟨some ⟨bn,0,none⟩,1,_,rfl,fF,by rw[nv];exact cH,by rw[nv];exact hs,ha.keep (by(repeat (first|exact trivial|refine⟨rfl,?_⟩)))⟩
    have GS:fX y (eM x) k=[]:=by rw[E1,if_neg fun h=>d2 h.2]
    refine aV (b:=_) ?_ rfl ?_
    ·simp;omega
    apply aF;exact fun a ha=>⟨none,0,_,rfl,fF,by rw[GS];exact Rs.nil _,by rw[GS];exact hs,ha.keep (by(repeat (first|exact trivial|refine⟨rfl,?_⟩)))⟩
   have GS:fX y (eM x) k=[]:=by rw[E1,if_neg fun h=>d1 h.1]
   refine cN 5 rfl ?_;refine cO 77 (b':=false) (by rw[wr (by omega) (by omega)];exact decide_eq_false d1) rfl ?_;refine bj rfl ?_;refine aV rfl rfl ?_;apply aF;exact fun a ha=>⟨none,0,_,rfl,fF,by rw[GS];exact Rs.nil _,by rw[GS];exact hs,ha.keep (by(repeat (first|exact trivial|refine⟨rfl,?_⟩)))⟩
  clear hs;rintro a' _ ⟨na,nc,g6,rfl,ah,cH,hs,eF⟩;obtain⟨fF,cC,aC,bS⟩:=eS ah fF cC aC bS;clear fF;revert a';have fF:=G.le.refl g6;apply cI;apply aD;refine pb (fun a' w=> ∃(g7:G),w=g7.w∧g6.le g7∧St g g7 [.obj bs (.cells [.int .i64 (1+aS y.y0 5),.slice ta (eV y).length tc,.int .i64 (1+aS y.y1 30),.int .i64 (1+aS y.y1 30+aS (y.y1.tdiv 30) 20),.slice na (fX y (eM x) k).length nc,.int .i64 (if aS y.y4 4=0 then aS (y.y4.tdiv 4) (k+1)else -1),.int .i64 (if aS y.y4 4=0 then 1+aS y.y5 3 else 0)].toArray 60 (0,0)),.row 60 7 (.slice sa k sc) k cells,.obj bf (.cells [.int .i64 2,.int .i64 5,.slice sa k sc,.slice none 0 0].toArray 28 (0,0)),.obj br (.cells [.int .i64 0,.int .i64 0,.slice none 0 0,.slice none 0 0].toArray 28 (0,0))]∧
   Fr 193 [] [(0,.slice a x.length c),(1,.slice a2 zs.length c2),(4,.pointer (some ⟨br,0,none⟩)),(5,.int .i64 (eM x)),(6,.pointer (some ⟨bf,0,none⟩)),(7,.int .i64 k),(8,.pointer (some ⟨bY,0,none⟩)),(9,.pointer (some ⟨bs,0,none⟩))] a') ?_ ?_
  ·apply cM;refine ak rfl rfl (cA T.ok (q:=4) rfl rfl rfl rfl rfl rfl (by decide) ?_);refine Wm 1 [.z aC] (St.start _) rfl ?_;refine ak rfl rfl (au pF aJ rfl rfl rfl rfl rfl (iW y.y4 4 _ jh.h4 (by decide)) ?_);rintro g1 _ aP rfl;replace hs:=hs.call aP;have ah:=aP.le;obtain⟨fF,cC,aC,bS,cH⟩:=kO ah fF cC aC bS cH;refine bj rfl ?_;by_cases d5:aS y.y4 4=0
   ·rw[if_pos d5,if_pos d5];refine aM (b:=_) ?_ rfl ?_
    ·simp[d5]
    apply cM;refine ak rfl rfl (cA T.ok (q:=4) rfl rfl rfl rfl rfl rfl (by decide) ?_);refine Wm 4 [.z aC] (St.start _) rfl ?_;refine kz (.int .i64 (y.y4.tdiv 4)) (t:=116) rfl (congrArg (Value.int .i64) (wr q6.1 q6.2)) ?_;refine kz (.int .i64 ((k:Int)+1)) (t:=118) rfl (congrArg (Value.int .i64) (wr (by omega) (by omega))) ?_;refine ak rfl rfl (au pF aJ rfl rfl rfl rfl rfl (iW (y.y4.tdiv 4) ((k:Int)+1) _ q6 (by omega)) ?_);rintro g1 _ aP rfl;replace hs:=hs.call aP;have ah:=aP.le;obtain⟨fF,cC,aC,bS,cH⟩:=kO ah fF cC aC bS cH;refine Wp 1 rfl ?_;refine bA rfl (az T.ok 0 rfl hs rfl rfl rfl rfl rfl rfl rfl rfl rfl ?_);replace hs:=hs;rintro g1 hs ah;obtain⟨fF,cC,aC,bS,cH⟩:=kO ah fF cC aC bS cH;apply bW;apply aA;refine ak rfl rfl (cA T.ok (q:=5) rfl rfl rfl rfl rfl rfl (by decide) ?_);refine Wm 1 [.z aC] (St.start _) rfl ?_;refine ak rfl rfl (au pF aJ rfl rfl rfl rfl rfl (iW y.y5 3 _ jh.h5 (by decide)) ?_);rintro g1 _ aP rfl;replace hs:=hs.call aP;have ah:=aP.le;obtain⟨fF,cC,bS,cH⟩:=eS ah fF cC bS cH;refine Wp 2 rfl ?_;rw[wr (n:=1+aS y.y5 3) (by omega) (by omega)];refine bA rfl (az T.ok 0 rfl hs rfl rfl rfl rfl rfl rfl rfl rfl rfl ?_);replace hs:=hs;rintro g1 hs ah;obtain⟨fF,cC,bS,cH⟩:=eS ah fF cC bS cH;apply aE;exact fun a ha=>⟨_,rfl,fF,hs,ha.keep (by(repeat (first|exact trivial|refine⟨rfl,?_⟩)))⟩
   rw[if_neg d5,if_neg d5];refine aV (b:=_) ?_ rfl ?_
   ·simp[d5]
   apply aF;exact fun a ha=>⟨_,rfl,fF,hs,ha.keep (by(repeat (first|exact trivial|refine⟨rfl,?_⟩)))⟩
  clear hs;rintro a' _ ⟨g7,rfl,ah,hs,eF⟩;obtain⟨fF,cC,bS,cH⟩:=eS ah fF cC bS cH;clear fF;revert a';have d_:=K'.mono cC;replace gM:=jY.trans cC;clear aq cC;apply cI;apply aA;refine Wm 3 [.o 2,.o 0] hs rfl ?_;refine ak rfl rfl (bD T.ok rfl hs (vs:=[(0,.agg #[.int .i64 (1+aS y.y0 5),.slice ta (eV y).length tc,.int .i64 (1+aS y.y1 30),.int .i64 (1+aS y.y1 30+aS (y.y1.tdiv 30) 20),.slice na (fX y (eM x) k).length nc,.int .i64 (if aS y.y4 4=0 then aS (y.y4.tdiv 4) (k+1)else -1),.int .i64 (if aS y.y4 4=0 then 1+aS y.y5 3 else 0)])]) (cells:=[.int .i64 (1+aS y.y0 5),.slice ta (eV y).length tc,.int .i64 (1+aS y.y1 30),.int .i64 (1+aS y.y1 30+aS (y.y1.tdiv 30) 20),.slice na (fX y (eM x) k).length nc,.int .i64 (if aS y.y4 4=0 then aS (y.y4.tdiv 4) (k+1)else -1),.int .i64 (if aS y.y4 4=0 then 1+aS y.y5 3 else 0)]) rfl rfl rfl rfl rfl rfl (by decide) (by decide) (by kernel_rfl) rfl ?_);clear hs;rintro b2 g4 hs ah;obtain⟨bS,cH⟩:=cf ah bS cH;replace gM:=gM.trans ah;replace d_:=d_.mono ah;skip;refine ak rfl rfl (cd T.ok 2 rfl hs rfl rfl rfl rfl rfl rfl rfl (by decide) rfl (Src.fL (hs.own 0 _ rfl).1).2 (by simp[Value.oneCell']) (by show(k+1)*88≤_;omega) (by unfold maxLen;show k+1≤_;omega) ?_);clear hs;rintro a9 c9 g8 hs ah;obtain⟨bS,cH⟩:=cf ah bS cH;replace gM:=gM.trans ah;replace d_:=d_.mono ah;refine Wp 1 rfl ?_;refine bA rfl (az T.ok 3 rfl hs rfl rfl rfl rfl rfl rfl rfl rfl rfl ?_);replace hs:=hs;rintro g1 hs ah;obtain⟨bS,cH⟩:=cf ah bS cH;replace gM:=gM.trans ah;replace d_:=d_.mono ah;have aT:St g _ [.row 60 7 (.slice a9 (k+1) c9) (k+1) (cells++[.int .i64 (1+aS y.y0 5),.slice ta (eV y).length tc,.int .i64 (1+aS y.y1 30),.int .i64 (1+aS y.y1 30+aS (y.y1.tdiv 30) 20),.slice na (fX y (eM x) k).length nc,.int .i64 (if aS y.y4 4=0 then aS (y.y4.tdiv 4) (k+1)else -1),.int .i64 (if aS y.y4 4=0 then 1+aS y.y5 3 else 0)]),.obj bf (.cells [.int .i64 2,.int .i64 5,.slice a9 (k+1) c9,.slice none 0 0].toArray 28 (0,0)),.obj br (.cells [.int .i64 0,.int .i64 0,.slice none 0 0,.slice none 0 0].toArray 28 (0,0))]:=hs.re [2,3,4] (by decide) rfl;apply aE;apply bR;apply ar;apply aA;refine Wp 3 rfl ?_;apply aE;refine fun a ha=>⟨eM x-(k+1),by omega,k+1,_,_,_,rfl,aT,gM,by omega,rfl,?_,ha.keep ⟨rfl,rfl,rfl,rfl,rfl,kI rfl (by rw[wr (by omega) (by omega)];omega),trivial⟩⟩
  rw[dH];exact cG.app (α:=Step) (ys:=[mP y (eM x) k]) ⟨_,[],(List.append_nil _).symm,(show qD _ _ _ from⟨_,_,_,_,_,_,rfl,bS,cH⟩),rfl⟩ d_
 refine aV (b:=decide ((k:Int)<(eM x:Int))) (by simp;omega) rfl ?_;obtain rfl:k=eM x:=by omega
 apply bF;apply bG;apply bG;apply c_;apply ar;apply aD;refine aY rfl ?_;apply aG;have aU:=uD.mono gM;have QK:=d_;have GU:=aU;have X8:=gM;have aT:St g g3 [.row 58 3 (.slice none (gg (eM x) zs 0).length 0) (gg (eM x) zs 0).length (kL (gg (eM x) zs 0)),.row 60 7 (.slice sa (eM x) sc) (eM x) cells,.obj bf (.cells [.int .i64 2,.int .i64 5,.slice sa (eM x) sc,.slice none (gg (eM x) zs 0).length 0].toArray 28 (0,0)),.obj br (.cells [.int .i64 0,.int .i64 0,.slice none 0 0,.slice none 0 0].toArray 28 (0,0))]:=hs.iN 58 3 none;replace hs:=aT;clear aT;refine bM (fun m a' w=> ∃(k:Nat) (wa:Option Addr) (wc:Nat) (g4:G),w=g4.w∧St g g4 [.row 58 3 (.slice wa (gg (eM x) zs k).length wc) (gg (eM x) zs k).length (kL (gg (eM x) zs k)),.row 60 7 (.slice sa (eM x) sc) (eM x) cells,.obj bf (.cells [.int .i64 2,.int .i64 5,.slice sa (eM x) sc,.slice wa (gg (eM x) zs k).length wc].toArray 28 (0,0)),.obj br (.cells [.int .i64 0,.int .i64 0,.slice none 0 0,.slice none 0 0].toArray 28 (0,0))]∧G.le g3 g4∧k≤min zs.length 4∧m=min zs.length 4-k∧
   Fr 193 [] [(1,.slice a2 zs.length c2),(4,.pointer (some ⟨br,0,none⟩)),(5,.int .i64 (eM x)),(6,.pointer (some ⟨bf,0,none⟩)),(12,.int .i64 k)] a') (min zs.length 4)
  (fun a' ha=>⟨0,none,0,g3,rfl,hs,G.le.refl _,Nat.zero_le _,rfl,ha.keep (by(repeat (first|exact trivial|refine⟨rfl,?_⟩)))⟩) ?_
 clear hs d_ aH aU aq;rintro m a' _ ⟨k,wa,wc,g4,rfl,hs,fF,hk,rfl,eF⟩;have aU:=GU.mono fF;have Ih:=qd (eM x) zs k (by omega);revert a';by_cases bC:k<min zs.length 4
 ·apply cI;apply aD;refine cN 5 rfl ?_;refine cO 136 (b':=true) (by simp;omega) rfl ?_;refine bj rfl ?_;refine aM (b:=_) ?_ rfl ?_
  ·simp;omega
  have Uf:k<zs.length:=by omega
  have dH:=oA (eM x) zs k Uf;have jh:=hz _ (List.getElem_mem Uf);have jG:dS zs (k:Int)=some zs[k]:=by simp[dS,Uf]
  generalize zs[k]=z at*;generalize gg (eM x) zs k=wl at*;have p0:=b_ (c:=z.z0) (n:=eM x) (by omega);have p1:=b_ (c:=z.z1) (n:=eM x) (by omega);have p2:=b_ (c:=z.z2) (n:=150) (by omega);have Lt:(eM x:Int)≠0:=by omega
  have L9:sQ (eM x) z=⟨aS z.z0 (eM x),aS z.z1 (eM x),10+aS z.z2 150⟩:=rfl;generalize hw:sQ (eM x) z=w0 at*;apply aF;apply ar;apply aD;apply aG;apply aD;have s7:=hs;apply ea (eQ (.f (Ud z)::(.f (jU (z.z0))::(iY (fe (.f (Ud z)::(.f (jU (z.z1))::(iY (fe (.f (Ud z)::(.f (jU (z.z2))::(iY (.f (Bd g4.dr.w.heap.size [.int .i64 0,.int .i64 0,.int .i64 0] 58)::[]))))))))))))) 23 [(21,163),(22,13)] (by kernel_rfl)
  ·refine Dx [[],[]] (by kernel_rfl) rfl ?_;refine ay (an (js:=[(0,142),(1,143)]) (by kernel_rfl) fun gd hf=>?_) ?_
   ·have dG:=(G.bu _).trans hf.le;refine ai rfl ?_;refine ai rfl ?_;apply aj;refine aB rfl ?_;refine aW T.ok rfl (aU.mono dG) (y:=z) jG rfl rfl rfl rfl rfl rfl ?_;intro b p ys aL d_;exact⟨_,rfl,a_.refl _,b,p,rfl,d_▸aL⟩
   refine ay (an (js:=[(2,144)]) (by kernel_rfl) fun gd hf=>?_) ?_
   ·skip;refine aZ fun v2 h2=>?_;apply aj;obtain⟨b,p,rfl,aL⟩:=h2;refine aB rfl ?_;refine cA T.ok (q:=0) rfl rfl rfl rfl rfl rfl (by decide) ?_;exact⟨_,rfl,a_.refl _,b,_,rfl,aL.sub 0 rfl⟩
   refine ay (an (js:=[(3,145)]) (by kernel_rfl) fun gd hf=>?_) ?_
   ·skip;refine aZ fun v3 h3=>?_;apply aj;obtain⟨b,p,rfl,aL⟩:=h3;refine aB rfl ?_;refine bJ T.ok 0 rfl aL rfl rfl ?_;refine⟨_,rfl,a_.refl _,?_⟩;exact rfl
   refine Dx [[]] (by kernel_rfl) rfl ?_;refine ay (an (js:=[(4,146),(5,147)]) (by kernel_rfl) fun gd hf=>?_) ?_
   ·skip;refine ai rfl ?_;refine ai rfl ?_;apply aj;refine aB rfl ?_;refine au pF aJ rfl rfl rfl rfl rfl (iW z.z0 (eM x) _ jh.h0 Lt) fun g' v h1 h2=>⟨g',rfl,h1,?_⟩
    exact h2
   refine Dx [[],[]] (by kernel_rfl) rfl ?_;refine ay (an (js:=[(7,149),(8,150)]) (by kernel_rfl) fun gd hf=>?_) ?_
   ·have dG:=(G.bu _).trans hf.le;refine ai rfl ?_;refine ai rfl ?_;apply aj;refine aB rfl ?_;refine aW T.ok rfl (aU.mono dG) (y:=z) jG rfl rfl rfl rfl rfl rfl ?_;intro b p ys aL d_;exact⟨_,rfl,a_.refl _,b,p,rfl,d_▸aL⟩
   refine ay (an (js:=[(9,151)]) (by kernel_rfl) fun gd hf=>?_) ?_
   ·skip;refine aZ fun v9 h9=>?_;apply aj;obtain⟨b,p,rfl,aL⟩:=h9;refine aB rfl ?_;refine cA T.ok (q:=1) rfl rfl rfl rfl rfl rfl (by decide) ?_;exact⟨_,rfl,a_.refl _,b,_,rfl,aL.sub 1 rfl⟩
   refine ay (an (js:=[(10,152)]) (by kernel_rfl) fun gd hf=>?_) ?_
   ·skip;refine aZ fun v10 AT=>?_;apply aj;obtain⟨b,p,rfl,aL⟩:=AT;refine aB rfl ?_;refine bJ T.ok 0 rfl aL rfl rfl ?_;refine⟨_,rfl,a_.refl _,?_⟩;exact rfl
   refine Dx [[]] (by kernel_rfl) rfl ?_;refine ay (an (js:=[(11,153),(12,154)]) (by kernel_rfl) fun gd hf=>?_) ?_
   ·skip;refine ai rfl ?_;refine ai rfl ?_;apply aj;refine aB rfl ?_;refine au pF aJ rfl rfl rfl rfl rfl (iW z.z1 (eM x) _ jh.h1 Lt) fun g' v h1 h2=>⟨g',rfl,h1,?_⟩
    exact h2
   refine Dx [[],[]] (by kernel_rfl) rfl ?_;refine ay (an (js:=[(14,156),(15,157)]) (by kernel_rfl) fun gd hf=>?_) ?_
   ·have dG:=(G.bu _).trans hf.le;refine ai rfl ?_;refine ai rfl ?_;apply aj;refine aB rfl ?_;refine aW T.ok rfl (aU.mono dG) (y:=z) jG rfl rfl rfl rfl rfl rfl ?_;intro b p ys aL d_;exact⟨_,rfl,a_.refl _,b,p,rfl,d_▸aL⟩
   refine ay (an (js:=[(16,158)]) (by kernel_rfl) fun gd hf=>?_) ?_
   ·skip;refine aZ fun Ve QC=>?_;apply aj;obtain⟨b,p,rfl,aL⟩:=QC;refine aB rfl ?_;refine cA T.ok (q:=2) rfl rfl rfl rfl rfl rfl (by decide) ?_;exact⟨_,rfl,a_.refl _,b,_,rfl,aL.sub 2 rfl⟩
   refine ay (an (js:=[(17,159)]) (by kernel_rfl) fun gd hf=>?_) ?_
   ·skip;refine aZ fun WG S3=>?_;apply aj;obtain⟨b,p,rfl,aL⟩:=S3;refine aB rfl ?_;refine bJ T.ok 0 rfl aL rfl rfl ?_;refine⟨_,rfl,a_.refl _,?_⟩;exact rfl
   refine ay (an (js:=[(18,160)]) (by kernel_rfl) fun gd hf=>?_) ?_
   ·skip;refine ai rfl ?_;apply aj;refine aB rfl ?_;refine au pF aJ rfl rfl rfl rfl rfl (iW (z.z2) (150) _ (jh.h2) (by decide)) fun g' v h1 h2=>⟨g',rfl,h1,?_⟩
    exact h2
   refine ay (an (js:=[(19,161)]) (by kernel_rfl) fun gd hf=>?_) ?_
   ·skip;refine ai rfl ?_;apply aj;refine aB rfl ?_;refine aN _ T.ok rfl ?_;refine⟨_,rfl,a_.refl _,?_⟩;exact congrArg (Value.int .i64) (show _=10+aS z.z2 150 from wr (by omega) (by omega))
   refine ay (an (js:=[(6,148),(13,155),(20,162)]) (by kernel_rfl) fun gd hf=>?_) ?_
   ·skip;refine ai rfl ?_;refine ai rfl ?_;refine ai rfl ?_;apply aj;refine aB rfl ?_;refine aQ T.ok rfl (vs:=[(0,.int .i64 (aS z.z0 (eM x))),(1,.int .i64 (aS z.z1 (eM x))),(2,.int .i64 (10+aS z.z2 150))]) (cells:=[.int .i64 (aS z.z0 (eM x)),.int .i64 (aS z.z1 (eM x)),.int .i64 (10+aS z.z2 150)]) rfl rfl rfl rfl [(0,1),(1,1),(2,1)] rfl (by kernel_rfl) ?_;exact⟨_,rfl,a_.refl _,rfl⟩
   refine ay (an (js:=[]) (by kernel_rfl) fun gd hf=>?_) ?_
   ·skip;apply aj;refine aB rfl ?_;refine aK T.ok rfl (St.start gd) rfl rfl ?_;intro b g' jo hle;have ho:=jo.own 0 _ rfl;exact⟨g',rfl,jo.nC,b,rfl,Nat.le_trans hf.below.size ho.1,ho.2⟩
   exact fD
  intro g1 aP;refine ai rfl ?_;refine aZ fun v22 X9=>?_;apply aj;replace hs:=hs.dr.call aP;have ah:=(G.bu _).trans aP.le;replace fF:=G.le.trans fF ah;obtain⟨bw,rfl,rS⟩:=X9;replace hs:=s7.dr.ft aP rS;clear s7;skip;refine bA rfl (az T.ok 0 rfl hs rfl rfl rfl rfl rfl rfl rfl rfl rfl ?_);replace hs:=hs;rintro g1 hs ah;replace fF:=G.le.trans fF ah;apply bW;refine l_ [.o 3] hs rfl ?_;apply aD;have QL:sg (eM x) wl z=if w0.src≠w0.dst∧follows wl w0=true then wl++[w0]else wl:=by unfold sg;rw[hw]
  rw[QL]at dH;clear QL;have g_:w0.src=aS z.z0 (eM x):=by rw[L9]
  have Ug:w0.dst=aS z.z1 (eM x):=by rw[L9]
  have Uh:w0.dI=10+aS z.z2 150:=by rw[L9]
  rw[←g_,←Ug,←Uh]at hs;replace hs:St g g1 [.obj bw (.cells [.int .i64 w0.src,.int .i64 w0.dst,.int .i64 w0.dI].toArray 58 (0,0)),.row 58 3 (.slice wa (wl).length wc) (wl).length (kL (wl)),.row 60 7 (.slice sa (eM x) sc) (eM x) cells,.obj bf (.cells [.int .i64 2,.int .i64 5,.slice sa (eM x) sc,.slice wa (wl).length wc].toArray 28 (0,0)),.obj br (.cells [.int .i64 0,.int .i64 0,.slice none 0 0,.slice none 0 0].toArray 28 (0,0))]:=hs;cases e1:(w0.src !=w0.dst)with
  |false=>
   have Rq: ¬(w0.src≠w0.dst):=by simpa using e1
   rw[if_neg fun h=>Rq h.1]at dH;apply bP hs (eO (eO (eQ (fe [])))) 19 [(18,185)] (by kernel_rfl) rfl
   ·refine Dm [[],[0],[],[2]] [.o 0,.o 0] hs (by kernel_rfl) rfl ?_;refine ay (an (js:=[(1,168),(3,170)]) (by kernel_rfl) fun gd hf=>?_) ?_
    ·skip;refine ai rfl ?_;refine ai rfl ?_;apply aj;refine aB rfl ?_;refine aN _ T.ok rfl ?_;exact⟨_,rfl,a_.refl _,congrArg Value.bool e1⟩
    exact Dy [[4],[5],[6,5],[7,5,5],[8],[9,8],[8],[11,8],[10,12,8],[13,8],[8],[14,15,8,8],[8,16,5],[5,17]] (by kernel_rfl) rfl
   clear hs;intro g1 hs ah;replace fF:=G.le.trans fF ah;apply bW;refine aV rfl rfl ?_;apply aF;apply bR;apply ar;apply aA;refine Wp 3 rfl ?_;apply aE;refine fun a ha=>⟨min zs.length 4-(k+1),by omega,k+1,wa,wc,_,rfl,?_,fF,by omega,rfl,ha.keep ⟨rfl,rfl,rfl,rfl,kI rfl (by rw[wr (by omega) (by omega)];omega),trivial⟩⟩
   rw[dH];exact hs.drop 0
  |true=>
   have Rq:w0.src≠w0.dst:=by simpa using e1
   cases e2:((wl.length:Int)==0)with
   |true=>
    have Mp:(wl.length:Int)=0:=by simpa using e2
    have En:wl=[]:=List.eq_nil_of_length_eq_zero (by omega);rw[if_pos ⟨Rq,by rw[En];rfl⟩]at dH;apply bP hs (eO (eO (eQ (fe [])))) 19 [(18,185)] (by kernel_rfl) rfl
    ·refine Dm [[],[0],[],[2]] [.o 0,.o 0] hs (by kernel_rfl) rfl ?_;refine ay (an (js:=[(1,168),(3,170)]) (by kernel_rfl) fun gd hf=>?_) ?_
     ·skip;refine ai rfl ?_;refine ai rfl ?_;apply aj;refine aB rfl ?_;refine aN _ T.ok rfl ?_;exact⟨_,rfl,a_.refl _,congrArg Value.bool e1⟩
     refine Dx [[4],[5]] (by kernel_rfl) rfl ?_;refine ay (an (js:=[(6,173),(5,172)]) (by kernel_rfl) fun gd hf=>?_) ?_
     ·skip;refine ai rfl ?_;refine ai rfl ?_;apply aj;refine aB rfl ?_;refine aN _ T.ok rfl ?_;exact⟨_,rfl,a_.refl _,congrArg Value.bool e2⟩
     exact Dy [[7,5,5],[8],[9,8],[8],[11,8],[10,12,8],[13,8],[8],[14,15,8,8],[8,16,5],[5,17]] (by kernel_rfl) rfl
    clear hs;intro g1 hs ah;replace fF:=G.le.trans fF ah;apply bW;refine aM rfl rfl ?_;apply aA;refine Wm 3 [.o 3,.o 0] hs rfl ?_;refine ak rfl rfl (bD T.ok rfl hs (vs:=[(0,.agg (kh w0).toArray)]) (cells:=kh w0) rfl rfl rfl rfl rfl rfl (by decide) (by decide) (by kernel_rfl) rfl ?_);clear hs;rintro b2 g9 hs ah;replace fF:=G.le.trans fF ah;skip;refine ak rfl rfl (cd T.ok 2 rfl hs rfl rfl rfl rfl rfl rfl rfl (by decide) rfl (Src.fL (hs.own 0 _ rfl).1).2 (by simp[kh,Value.oneCell']) (by show(wl.length+1)*24≤_;omega) (by unfold maxLen;show wl.length+1≤_;omega) ?_);clear hs;rintro a9 c9 g8 hs ah;replace fF:=G.le.trans fF ah;refine Wp 1 rfl ?_;refine bA rfl (az T.ok 4 rfl hs rfl rfl rfl rfl rfl rfl rfl rfl rfl ?_);replace hs:=hs;rintro g1 hs ah;replace fF:=G.le.trans fF ah;apply aE;apply bR;apply ar;apply aA;refine Wp 3 rfl ?_;apply aE;refine fun a ha=>⟨min zs.length 4-(k+1),by omega,k+1,a9,c9,_,rfl,?_,fF,by omega,rfl,ha.keep ⟨rfl,rfl,rfl,rfl,kI rfl (by rw[wr (by omega) (by omega)];omega),trivial⟩⟩
    have aT:=hs.re [2,3,4,5] (by decide) (L':=[.row 58 3 (.slice a9 (wl++[w0]).length c9) (wl++[w0]).length (kL (wl++[w0])),.row 60 7 (.slice sa (eM x) sc) (eM x) cells,.obj bf (.cells [.int .i64 2,.int .i64 5,.slice sa (eM x) sc,.slice a9 (wl++[w0]).length c9].toArray 28 (0,0)),.obj br (.cells [.int .i64 0,.int .i64 0,.slice none 0 0,.slice none 0 0].toArray 28 (0,0))]) (by rw[rm,List.length_append];rfl);rw[dH];exact aT
   |false=>
    have En:wl.length≠0:=by intro h;rw[h]at e2;cases e2
    obtain⟨lw,Vw⟩: ∃v,wl.getLast? =some v:=by
     cases hg:wl.getLast? with
     |none=>rw[List.getLast?_eq_none_iff]at hg;rw[hg]at En;exact absurd rfl En
     |some v=>exact⟨v,rfl⟩
    have yS:follows wl w0=ly lw w0:=by unfold follows;rw[Vw]
    have Kb:=Ee Vw;obtain⟨wb,wp,rfl⟩:=GR (hs.own 1 _ rfl).1 En;have Em:((wl.length:Int)-1).toNat=wl.length-1:=by omega
    rw[←Em]at Kb;rw[yS]at dH;cases e3:ly lw w0 with
    |true=>
     rw[if_pos ⟨Rq,e3⟩]at dH;apply bP hs (eO (eO (eQ (fe [])))) 19 [(18,185)] (by kernel_rfl) rfl
     ·refine Dm [[],[0],[],[2]] [.o 0,.o 0] hs (by kernel_rfl) rfl ?_;refine ay (an (js:=[(1,168),(3,170)]) (by kernel_rfl) fun gd hf=>?_) ?_
      ·skip;refine ai rfl ?_;refine ai rfl ?_;apply aj;refine aB rfl ?_;refine aN _ T.ok rfl ?_;exact⟨_,rfl,a_.refl _,congrArg Value.bool e1⟩
      refine Dx [[4],[5]] (by kernel_rfl) rfl ?_;refine ay (an (js:=[(6,173),(5,172)]) (by kernel_rfl) fun gd hf=>?_) ?_
      ·skip;refine ai rfl ?_;refine ai rfl ?_;apply aj;refine aB rfl ?_;refine aN _ T.ok rfl ?_;exact⟨_,rfl,a_.refl _,congrArg Value.bool e2⟩
      refine Dm [[7,5,5],[8],[9,8],[8]] [.o 3] hs (by kernel_rfl) rfl ?_;refine ay (an (js:=[(11,178),(8,175)]) (by kernel_rfl) fun gd hf=>?_) ?_
      ·skip;refine ai rfl ?_;refine ai rfl ?_;apply aj;refine aB rfl ?_;refine aN _ T.ok rfl ?_;refine⟨_,rfl,a_.refl _,?_⟩;exact congrArg (Value.int .i64) (show _=(wl.length:Int)-1 from wr (by omega) (by omega))
      refine ay (an (js:=[(10,177),(12,179),(8,175)]) (by kernel_rfl) fun gd hf=>?_) ?_
      ·have eJ:=hs.dr.call hf;refine ai rfl ?_;refine ai rfl ?_;refine ai rfl ?_;apply aj;refine aB rfl ?_;refine dC T.ok (n:=(wl.length:Int)-1) rfl (eJ.own 1 _ rfl).1 (by omega) (by omega) rfl rfl rfl rfl rfl rfl ?_;rintro b p hh;obtain⟨rfl,rfl⟩:wb=b∧wp=p:=by simpa using hh
       exact⟨_,rfl,a_.refl _,rfl⟩
      refine ay (an (js:=[(13,180),(8,175)]) (by kernel_rfl) fun gd hf=>?_) ?_
      ·have eJ:=hs.dr.call hf;refine ai rfl ?_;refine ai rfl ?_;apply aj;refine aB rfl ?_;refine dL T.ok (((wl.length:Int)-1).toNat*3) rfl (eJ.own 1 _ rfl).1 rfl (v:=.agg (kh lw).toArray) Kb ?_;exact⟨_,rfl,a_.refl _,rfl⟩
      refine Dm [[8]] [.o 0] hs (by kernel_rfl) rfl ?_;refine ay (an (js:=[(14,181),(15,182),(8,175),(8,175)]) (by kernel_rfl) fun gd hf=>?_) ?_
      ·skip;refine ai rfl ?_;refine ai rfl ?_;refine ai rfl ?_;refine ai rfl ?_;apply aj;refine aB rfl ?_;refine au Hw aJ rfl rfl rfl rfl rfl (rk lw w0 _) fun g' v h1 h2=>⟨g',rfl,h1,?_⟩
       rw[h2];exact congrArg Value.bool e3
      exact Dy [[8,16,5],[5,17]] (by kernel_rfl) rfl
     clear hs;intro g1 hs ah;replace fF:=G.le.trans fF ah;apply bW;refine aM rfl rfl ?_;apply aA;refine Wm 3 [.o 3,.o 0] hs rfl ?_;refine ak rfl rfl (bD T.ok rfl hs (vs:=[(0,.agg (kh w0).toArray)]) (cells:=kh w0) rfl rfl rfl rfl rfl rfl (by decide) (by decide) (by kernel_rfl) rfl ?_);clear hs;rintro b2 g9 hs ah;replace fF:=G.le.trans fF ah;skip;refine ak rfl rfl (cd T.ok 2 rfl hs rfl rfl rfl rfl rfl rfl rfl (by decide) rfl (Src.fL (hs.own 0 _ rfl).1).2 (by simp[kh,Value.oneCell']) (by show(wl.length+1)*24≤_;omega) (by unfold maxLen;show wl.length+1≤_;omega) ?_);clear hs;rintro a9 c9 g8 hs ah;replace fF:=G.le.trans fF ah;refine Wp 1 rfl ?_;refine bA rfl (az T.ok 4 rfl hs rfl rfl rfl rfl rfl rfl rfl rfl rfl ?_);replace hs:=hs;rintro g1 hs ah;replace fF:=G.le.trans fF ah;apply aE;apply bR;apply ar;apply aA;refine Wp 3 rfl ?_;apply aE;refine fun a ha=>⟨min zs.length 4-(k+1),by omega,k+1,a9,c9,_,rfl,?_,fF,by omega,rfl,ha.keep ⟨rfl,rfl,rfl,rfl,kI rfl (by rw[wr (by omega) (by omega)];omega),trivial⟩⟩
     have aT:=hs.re [2,3,4,5] (by decide) (L':=[.row 58 3 (.slice a9 (wl++[w0]).length c9) (wl++[w0]).length (kL (wl++[w0])),.row 60 7 (.slice sa (eM x) sc) (eM x) cells,.obj bf (.cells [.int .i64 2,.int .i64 5,.slice sa (eM x) sc,.slice a9 (wl++[w0]).length c9].toArray 28 (0,0)),.obj br (.cells [.int .i64 0,.int .i64 0,.slice none 0 0,.slice none 0 0].toArray 28 (0,0))]) (by rw[rm,List.length_append];rfl);rw[dH];exact aT
    |false=>
     rw[if_neg fun h=>by rw[e3]at h;cases h.2]at dH;apply bP hs (eO (eO (eQ (fe [])))) 19 [(18,185)] (by kernel_rfl) rfl
     ·refine Dm [[],[0],[],[2]] [.o 0,.o 0] hs (by kernel_rfl) rfl ?_;refine ay (an (js:=[(1,168),(3,170)]) (by kernel_rfl) fun gd hf=>?_) ?_
      ·skip;refine ai rfl ?_;refine ai rfl ?_;apply aj;refine aB rfl ?_;refine aN _ T.ok rfl ?_;exact⟨_,rfl,a_.refl _,congrArg Value.bool e1⟩
      refine Dx [[4],[5]] (by kernel_rfl) rfl ?_;refine ay (an (js:=[(6,173),(5,172)]) (by kernel_rfl) fun gd hf=>?_) ?_
      ·skip;refine ai rfl ?_;refine ai rfl ?_;apply aj;refine aB rfl ?_;refine aN _ T.ok rfl ?_;exact⟨_,rfl,a_.refl _,congrArg Value.bool e2⟩
      refine Dm [[7,5,5],[8],[9,8],[8]] [.o 3] hs (by kernel_rfl) rfl ?_;refine ay (an (js:=[(11,178),(8,175)]) (by kernel_rfl) fun gd hf=>?_) ?_
      ·skip;refine ai rfl ?_;refine ai rfl ?_;apply aj;refine aB rfl ?_;refine aN _ T.ok rfl ?_;refine⟨_,rfl,a_.refl _,?_⟩;exact congrArg (Value.int .i64) (show _=(wl.length:Int)-1 from wr (by omega) (by omega))
      refine ay (an (js:=[(10,177),(12,179),(8,175)]) (by kernel_rfl) fun gd hf=>?_) ?_
      ·have eJ:=hs.dr.call hf;refine ai rfl ?_;refine ai rfl ?_;refine ai rfl ?_;apply aj;refine aB rfl ?_;refine dC T.ok (n:=(wl.length:Int)-1) rfl (eJ.own 1 _ rfl).1 (by omega) (by omega) rfl rfl rfl rfl rfl rfl ?_;rintro b p hh;obtain⟨rfl,rfl⟩:wb=b∧wp=p:=by simpa using hh
       exact⟨_,rfl,a_.refl _,rfl⟩
      refine ay (an (js:=[(13,180),(8,175)]) (by kernel_rfl) fun gd hf=>?_) ?_
      ·have eJ:=hs.dr.call hf;refine ai rfl ?_;refine ai rfl ?_;apply aj;refine aB rfl ?_;refine dL T.ok (((wl.length:Int)-1).toNat*3) rfl (eJ.own 1 _ rfl).1 rfl (v:=.agg (kh lw).toArray) Kb ?_;exact⟨_,rfl,a_.refl _,rfl⟩
      refine Dm [[8]] [.o 0] hs (by kernel_rfl) rfl ?_;refine ay (an (js:=[(14,181),(15,182),(8,175),(8,175)]) (by kernel_rfl) fun gd hf=>?_) ?_
      ·skip;refine ai rfl ?_;refine ai rfl ?_;refine ai rfl ?_;refine ai rfl ?_;apply aj;refine aB rfl ?_;refine au Hw aJ rfl rfl rfl rfl rfl (rk lw w0 _) fun g' v h1 h2=>⟨g',rfl,h1,?_⟩
       rw[h2];exact congrArg Value.bool e3
      exact Dy [[8,16,5],[5,17]] (by kernel_rfl) rfl
     clear hs;intro g1 hs ah;replace fF:=G.le.trans fF ah;apply bW;refine aV rfl rfl ?_;apply aF;apply bR;apply ar;apply aA;refine Wp 3 rfl ?_;apply aE;refine fun a ha=>⟨min zs.length 4-(k+1),by omega,k+1,some ⟨wb,wp,none⟩,wc,_,rfl,?_,fF,by omega,rfl,ha.keep ⟨rfl,rfl,rfl,rfl,kI rfl (by rw[wr (by omega) (by omega)];omega),trivial⟩⟩
     rw[dH];exact hs.drop 0
 obtain rfl:k=min zs.length 4:=by omega
 apply cI;apply aD;refine cN 5 rfl ?_;by_cases ZD:min zs.length 4<zs.length
 ·refine cO 136 (b':=true) (by simp;omega) rfl ?_;refine bj rfl ?_;refine aV (b:=_) ?_ rfl ?_
  ·simp;omega
  obtain⟨gx,Ui,nz,Uj,lC⟩:=hs.cK (α:=bZ) (xs:=gg (eM x) zs (min zs.length 4)) (i:=0) rfl (cG.win _ _);obtain⟨gy,QM,aT,Rr,Eh⟩:=nz.cK (α:=Step) (xs:=jT x (eM x)) (i:=0) rfl (QK.mono (fF.trans Uj));replace lC:=lC.mono Rr;rw[←Ui,←QM];replace hs:=aT;clear nz aT;apply bF;apply bG;apply bG;apply c_;apply ar;refine dz 1 [.o 0] hs rfl ?_;refine bA rfl (az T.ok 1 rfl hs rfl rfl rfl rfl rfl rfl rfl rfl rfl ?_);replace hs:=hs;rintro g1 hs ah;obtain⟨lC,Eh⟩:=cf ah lC Eh;apply bW;refine aI ?_;skip;exact kC T.ok 1 rfl hs rfl rfl rfl (hs.ret ⟨_,_,_,_,_,_,rfl,Eh,lC⟩)
 refine cO 136 (b':=false) (by simp;omega) rfl ?_;refine bj rfl ?_;refine aV rfl rfl ?_;obtain⟨gx,Ui,nz,Uj,lC⟩:=hs.cK (α:=bZ) (xs:=gg (eM x) zs (min zs.length 4)) (i:=0) rfl (cG.win _ _);obtain⟨gy,QM,aT,Rr,Eh⟩:=nz.cK (α:=Step) (xs:=jT x (eM x)) (i:=0) rfl (QK.mono (fF.trans Uj));replace lC:=lC.mono Rr;rw[←Ui,←QM];replace hs:=aT;clear nz aT;apply bF;apply bG;apply bG;apply c_;apply ar;refine dz 1 [.o 0] hs rfl ?_;refine bA rfl (az T.ok 1 rfl hs rfl rfl rfl rfl rfl rfl rfl rfl rfl ?_);replace hs:=hs;rintro g1 hs ah;obtain⟨lC,Eh⟩:=cf ah lC Eh;apply bW;refine aI ?_;skip;exact kC T.ok 1 rfl hs rfl rfl rfl (hs.ret ⟨_,_,_,_,_,_,rfl,Eh,lC⟩)
end Go.Proofs.YtgehbndkogohpaaGreatDoor
namespace Go.Proofs.YtgehbndkogohpaaGreatDoor
open Go Go.K
set_option maxRecDepth 10000
attribute [local irreducible] W WL cD bc bK bd bg bh cq ck
set_option maxHeartbeats 4000000
theorem gh(n lo hi:Int)(g:G):CallsIn Wd 0 Tryz.prog 154 #[.int .i64 n,.int .i64 lo,.int .i64 hi] g.w (cF g fun _ v=>v= .bool (within n lo hi)):=by
 have hs:=St.start g;refine enter Tryz.func154 rfl Tryz.ntmps154 rfl ?_;refine aY rfl ?_;refine cN 4 rfl ?_;refine cp (want:=true) (x:=decide (n≤hi)) 3 aJ rfl rfl rfl rfl (.inl ⟨rfl,rfl,rfl⟩) rfl rfl rfl rfl (fun hb Q' eG=>?_) (fun g' hf=>?_)
 ·refine Wp 3 rfl ?_;apply aE;exact fun a ha=>eG _ a (a_.refl _) (ha.keep (by(repeat (first|exact trivial|refine⟨rfl,?_⟩))))
 replace hs:=hs.call hf;refine bj rfl ?_;exact aI (aX rfl rfl (hs.ret rfl))
theorem GF(a b:Int)(g:G):CallsIn Wd 0 Tryz.prog 153 #[.int .i64 a,.int .i64 b] g.w (cF g fun _ v=>v= .bool (dA ⟨a,b,[],[]⟩)):=by
 have hs:=St.start g;refine enter Tryz.func153 rfl Tryz.ntmps153 rfl ?_;refine aY rfl ?_;refine cN 3 rfl ?_;refine cp (want:=true) (x:=decide (a≤b)) 3 aJ rfl rfl rfl rfl (.inl ⟨rfl,rfl,rfl⟩) rfl rfl rfl rfl (fun hb Q' eG=>?_) (fun g' hf=>?_)
 ·refine Wp 3 rfl ?_;apply aE;exact fun a ha=>eG _ a (a_.refl _) (ha.keep (by(repeat (first|exact trivial|refine⟨rfl,?_⟩))))
 replace hs:=hs.call hf;refine Wp 1 rfl ?_;refine cp (want:=true) (x:=decide (b≤10000)) 2 aJ rfl rfl rfl rfl (.inl ⟨rfl,rfl,rfl⟩) rfl rfl rfl rfl (fun hb Q' eG=>?_) (fun g' hf=>?_)
 ·refine Wp 2 rfl ?_;apply aE;exact fun a ha=>eG _ a (a_.refl _) (ha.keep (by(repeat (first|exact trivial|refine⟨rfl,?_⟩))))
 replace hs:=hs.call hf;refine bj rfl ?_;exact aI (aX rfl rfl (hs.ret rfl))
theorem rj(v:Value)(l:List Int)(lo hi:Int)(g:G)(hl:Rs g v l):
  CallsIn Wd 0 Tryz.prog 243 #[v,.int .i64 lo,.int .i64 hi] g.w (cF g fun _ r=>r= .bool (ascending l lo hi)):=by
 obtain⟨a,c,rfl⟩:=hl.isSlice;have hlen:=hl.dJ;unfold maxLen at hlen;have hs:=St.start g;refine enter Tryz.func243 rfl Tryz.ntmps243 rfl ?_;refine aY rfl ?_;apply aD;refine aY rfl ?_;apply aG;refine bM (fun m a' w=> ∃(k:Nat) (g':G),w=g'.w∧St g g' []∧G.le g g'∧k≤l.length∧m=l.length-k∧((if k=0 then ascending l lo hi else iF lo hi (l.getD (k-1) 0) (l.drop k))=ascending l lo hi)∧
  Fr 38 [] [(0,.slice a l.length c),(1,.int .i64 lo),(2,.int .i64 hi),(7,.int .i64 k)] a') l.length (fun a' ha=>⟨0,g,rfl,hs,G.le.refl g,Nat.zero_le _,rfl,by simp,ha.keep (by(repeat (first|exact trivial|refine⟨rfl,?_⟩)))⟩) ?_
 clear hs;rintro m a' _ ⟨k,g',rfl,hs,aq,hk,rfl,dx,eF⟩;have aH:=hl.mono aq;revert a';apply cI;apply aD;refine aY rfl ?_;by_cases bC:k<l.length
 ·refine aM (b:=decide ((k:Int)<(l.length:Int))) (by simp;omega) rfl ?_;rw[xk l lo hi k bC]at dx;have jG:dS l (k:Int)=some l[k]:=by simp[dS,bC]
  have lO:l.getD (k+1-1) 0=l[k]:=by simp[List.getD_eq_getElem?_getD,bC]
  have Hq: ∀(h:0<k),dS l ((k-1:Nat):Int)=some (l.getD (k-1) 0):=by
   intro h;have h1:k-1<l.length:=by omega
   rw[cZ (n:=((k-1:Nat):Int)) rfl h1,List.getD_eq_getElem?_getD,List.getElem?_eq_getElem h1];rfl
  generalize l.getD (k-1) 0=y at*;generalize l[k]=x at*;cases e1:within x lo hi with
  |false=>
   rw[e1,Bool.false_and,Bool.false_and]at dx;apply aF;apply ar;apply aD;apply aG;apply aD;apply bP hs (eQ (.f (jU (x))::(eO (eO (iY (fe [])))))) 24 [(23,37)] (by kernel_rfl) rfl
   ·refine Dx [[],[]] (by kernel_rfl) rfl ?_;refine ay (an (js:=[(0,14),(1,15)]) (by kernel_rfl) fun gd hf=>?_) ?_
    ·have dG:=(G.bu _).trans hf.le;refine ai rfl ?_;refine ai rfl ?_;apply aj;refine aB rfl ?_;refine aW T.ok rfl (aH.mono dG) (y:=x) jG rfl rfl rfl rfl rfl rfl ?_;rintro b p ys aL rfl;exact⟨_,rfl,a_.refl _,b,p,rfl,aL⟩
    refine ay (an (js:=[(2,16)]) (by kernel_rfl) fun gd hf=>?_) ?_
    ·skip;refine aZ fun v2 h2=>?_;apply aj;obtain⟨b,p,rfl,aL⟩:=h2;refine aB rfl ?_;refine bJ T.ok 0 rfl aL rfl rfl ?_;refine⟨_,rfl,a_.refl _,?_⟩;exact rfl
    refine Dx [[],[]] (by kernel_rfl) rfl ?_;refine ay (an (js:=[(3,17),(4,18),(5,19)]) (by kernel_rfl) fun gd hf=>?_) ?_
    ·skip;refine ai rfl ?_;refine ai rfl ?_;refine ai rfl ?_;apply aj;refine aB rfl ?_;refine au nJ aJ rfl rfl rfl rfl rfl (gh x lo hi _) fun g' v h1 h2=>⟨g',rfl,h1,?_⟩
     rw[h2];exact congrArg Value.bool e1
    exact Dy [[6],[7],[8],[9,8],[10,8,8],[11],[11],[12,13,11],[14,11],[11],[11],[17,11],[16,18,11],[19,11],[15,20,11],[11,21,8],[8,22]] (by kernel_rfl) rfl
   clear hs;intro g1 hs ah;obtain⟨aq,aH⟩:=cf ah aq aH;apply bW;refine aM rfl rfl ?_;refine aY rfl ?_;refine aI (aX rfl rfl (hs.ret ?_));rw[←dx]
  |true=>
   rw[e1,Bool.true_and]at dx;cases e2:decide (0<(k:Int))with
   |false=>
    have e3:decide (k=0)=true:=by simp at e2⊢;omega
    rw[e3,Bool.true_or,Bool.true_and]at dx;apply aF;apply ar;apply aD;apply aG;apply aD;apply bP hs (eQ (.f (jU (x))::(eO (eO (iY (fe [])))))) 24 [(23,37)] (by kernel_rfl) rfl
    ·refine Dx [[],[]] (by kernel_rfl) rfl ?_;refine ay (an (js:=[(0,14),(1,15)]) (by kernel_rfl) fun gd hf=>?_) ?_
     ·have dG:=(G.bu _).trans hf.le;refine ai rfl ?_;refine ai rfl ?_;apply aj;refine aB rfl ?_;refine aW T.ok rfl (aH.mono dG) (y:=x) jG rfl rfl rfl rfl rfl rfl ?_;rintro b p ys aL rfl;exact⟨_,rfl,a_.refl _,b,p,rfl,aL⟩
     refine ay (an (js:=[(2,16)]) (by kernel_rfl) fun gd hf=>?_) ?_
     ·skip;refine aZ fun v2 h2=>?_;apply aj;obtain⟨b,p,rfl,aL⟩:=h2;refine aB rfl ?_;refine bJ T.ok 0 rfl aL rfl rfl ?_;refine⟨_,rfl,a_.refl _,?_⟩;exact rfl
     refine Dx [[],[]] (by kernel_rfl) rfl ?_;refine ay (an (js:=[(3,17),(4,18),(5,19)]) (by kernel_rfl) fun gd hf=>?_) ?_
     ·skip;refine ai rfl ?_;refine ai rfl ?_;refine ai rfl ?_;apply aj;refine aB rfl ?_;refine au nJ aJ rfl rfl rfl rfl rfl (gh x lo hi _) fun g' v h1 h2=>⟨g',rfl,h1,?_⟩
      rw[h2];exact congrArg Value.bool e1
     refine Dx [[6],[7],[8]] (by kernel_rfl) rfl ?_;refine ay (an (js:=[(9,23),(8,22)]) (by kernel_rfl) fun gd hf=>?_) ?_
     ·skip;refine ai rfl ?_;refine ai rfl ?_;apply aj;refine aB rfl ?_;refine aN _ T.ok rfl ?_;exact⟨_,rfl,a_.refl _,congrArg Value.bool e2⟩
     exact Dy [[10,8,8],[11],[11],[12,13,11],[14,11],[11],[11],[17,11],[16,18,11],[19,11],[15,20,11],[11,21,8],[8,22]] (by kernel_rfl) rfl
    clear hs;intro g1 hs ah;obtain⟨aq,aH⟩:=cf ah aq aH;apply bW;refine aV rfl rfl ?_;apply aF;apply bR;apply ar;apply aA;refine Wp 3 rfl ?_;apply aE;refine fun a ha=>⟨l.length-(k+1),by omega,k+1,_,rfl,hs,aq,by omega,rfl,?_,ha.keep ⟨rfl,rfl,rfl,kI rfl (by rw[wr (by omega) (by omega)];omega),trivial⟩⟩
    rw[←dx,if_neg (by omega),lO]
   |true=>
    have AH:0<k:=by simpa using e2
    have e3:decide (k=0)=false:=by simp;omega
    rw[e3,Bool.false_or]at dx;have Hq:=Hq AH;apply aF;apply ar;apply aD;apply aG;apply aD;apply bP hs (eQ (.f (jU (x))::(eO (eQ (fe (.f (jU (x))::(iY (.f (jU (y))::(iY []))))))))) 24 [(23,37)] (by kernel_rfl) rfl
    ·refine Dx [[],[]] (by kernel_rfl) rfl ?_;refine ay (an (js:=[(0,14),(1,15)]) (by kernel_rfl) fun gd hf=>?_) ?_
     ·have dG:=(G.bu _).trans hf.le;refine ai rfl ?_;refine ai rfl ?_;apply aj;refine aB rfl ?_;refine aW T.ok rfl (aH.mono dG) (y:=x) jG rfl rfl rfl rfl rfl rfl ?_;rintro b p ys aL rfl;exact⟨_,rfl,a_.refl _,b,p,rfl,aL⟩
     refine ay (an (js:=[(2,16)]) (by kernel_rfl) fun gd hf=>?_) ?_
     ·skip;refine aZ fun v2 h2=>?_;apply aj;obtain⟨b,p,rfl,aL⟩:=h2;refine aB rfl ?_;refine bJ T.ok 0 rfl aL rfl rfl ?_;refine⟨_,rfl,a_.refl _,?_⟩;exact rfl
     refine Dx [[],[]] (by kernel_rfl) rfl ?_;refine ay (an (js:=[(3,17),(4,18),(5,19)]) (by kernel_rfl) fun gd hf=>?_) ?_
     ·skip;refine ai rfl ?_;refine ai rfl ?_;refine ai rfl ?_;apply aj;refine aB rfl ?_;refine au nJ aJ rfl rfl rfl rfl rfl (gh x lo hi _) fun g' v h1 h2=>⟨g',rfl,h1,?_⟩
      rw[h2];exact congrArg Value.bool e1
     refine Dx [[6],[7],[8]] (by kernel_rfl) rfl ?_;refine ay (an (js:=[(9,23),(8,22)]) (by kernel_rfl) fun gd hf=>?_) ?_
     ·skip;refine ai rfl ?_;refine ai rfl ?_;apply aj;refine aB rfl ?_;refine aN _ T.ok rfl ?_;exact⟨_,rfl,a_.refl _,congrArg Value.bool e2⟩
     refine Dx [[10,8,8],[11],[11]] (by kernel_rfl) rfl ?_;refine ay (an (js:=[(12,26),(13,27),(11,25)]) (by kernel_rfl) fun gd hf=>?_) ?_
     ·have dG:=(G.bu _).trans hf.le;refine ai rfl ?_;refine ai rfl ?_;refine ai rfl ?_;apply aj;refine aB rfl ?_;refine aW T.ok rfl (aH.mono dG) (y:=x) jG rfl rfl rfl rfl rfl rfl ?_;rintro b p ys aL rfl;exact⟨_,rfl,a_.refl _,b,p,rfl,aL⟩
     refine ay (an (js:=[(14,28),(11,25)]) (by kernel_rfl) fun gd hf=>?_) ?_
     ·skip;refine aZ fun VH Sq=>?_;refine ai rfl ?_;apply aj;obtain⟨b,p,rfl,aL⟩:=Sq;refine aB rfl ?_;refine bJ T.ok 0 rfl aL rfl rfl ?_;refine⟨_,rfl,a_.refl _,?_⟩;exact rfl
     refine Dx [[11],[11]] (by kernel_rfl) rfl ?_;refine ay (an (js:=[(17,31),(11,25)]) (by kernel_rfl) fun gd hf=>?_) ?_
     ·skip;refine ai rfl ?_;refine ai rfl ?_;apply aj;refine aB rfl ?_;refine aN _ T.ok rfl ?_;refine⟨_,rfl,a_.refl _,?_⟩;exact congrArg (Value.int .i64) (show _=((k-1:Nat):Int)from by rw[wr (by omega) (by omega)];omega)
     refine ay (an (js:=[(16,30),(18,32),(11,25)]) (by kernel_rfl) fun gd hf=>?_) ?_
     ·have dG:=(G.bu _).trans hf.le;refine ai rfl ?_;refine ai rfl ?_;refine ai rfl ?_;apply aj;refine aB rfl ?_;refine aW T.ok rfl (aH.mono dG) (y:=y) Hq rfl rfl rfl rfl rfl rfl ?_;rintro b p ys aL rfl;exact⟨_,rfl,a_.refl _,b,p,rfl,aL⟩
     refine ay (an (js:=[(19,33),(11,25)]) (by kernel_rfl) fun gd hf=>?_) ?_
     ·skip;refine aZ fun Zx Sr=>?_;refine ai rfl ?_;apply aj;obtain⟨b,p,rfl,aL⟩:=Sr;refine aB rfl ?_;refine bJ T.ok 0 rfl aL rfl rfl ?_;refine⟨_,rfl,a_.refl _,?_⟩;exact rfl
     exact Dy [[15,20,11],[11,21,8],[8,22]] (by kernel_rfl) rfl
    clear hs;intro g1 hs ah;replace aq:=G.le.trans aq ah;by_cases Kq:x≤y
    ·have e4:decide (y<x)=false:=by simp;omega
     rw[e4,Bool.false_and]at dx;apply bW;refine aM (by simp[Kq]) rfl ?_;refine aY rfl ?_;refine aI (aX rfl rfl (hs.ret ?_));rw[←dx]
    have e4:decide (y<x)=true:=by simp;omega
    rw[e4,Bool.true_and]at dx;apply bW;refine aV (b:=_) ?_ rfl ?_
    ·simp;omega
    apply aF;apply bR;apply ar;apply aA;refine Wp 3 rfl ?_;apply aE;refine fun a ha=>⟨l.length-(k+1),by omega,k+1,_,rfl,hs,aq,by omega,rfl,?_,ha.keep ⟨rfl,rfl,rfl,kI rfl (by rw[wr (by omega) (by omega)];omega),trivial⟩⟩
    rw[←dx,if_neg (by omega),lO]
 refine aV (b:=decide ((k:Int)<(l.length:Int))) (by simp;omega) rfl ?_;apply bF;apply bG;apply bG;apply c_;apply ar;refine aY rfl ?_;obtain rfl:k=l.length:=by omega
 refine aI (aX rfl rfl (hs.ret ?_));rw[←dx];by_cases h0:l.length=0
 ·rw[if_pos h0,List.eq_nil_of_length_eq_zero h0];rfl
 rw[if_neg h0];simp[iF]
theorem IY(v:Value)(s:Step)(n:Int)(g:G)(hv:fV g v s)(h1:0≤n)(h2:n≤9223372036854775807):
  CallsIn Wd 0 Tryz.prog 155 #[v,.int .i64 n] g.w (cF g fun _ r=>r= .bool (bT s n)):=by
 obtain⟨cs,rfl,a1,n1,c1,a2,n2,c2,rfl,sF,zK⟩:=hv;obtain⟨_,_,e⟩:=sF.isSlice;obtain⟨rfl,rfl,rfl⟩:=Value.slice.inj e;clear e;obtain⟨_,_,e⟩:=zK.isSlice;obtain⟨rfl,rfl,rfl⟩:=Value.slice.inj e;clear e;have hs:=St.start g;have aq:=G.le.refl g;have hn:IntKind.i64.wrap (n-1)=n-1:=wr (by omega) (by omega);refine enter Tryz.func155 rfl Tryz.ntmps155 rfl ?_;apply cM;refine ak rfl rfl (aO rfl hs rfl rfl ?_);clear hs;rintro b1 g1 hs ah;replace aq:=G.le.trans aq ah;refine bj rfl ?_;refine dz 2 [.o 0] hs rfl ?_;refine ak rfl rfl (au JF aJ rfl rfl rfl rfl rfl (rj _ s.dt 0 59 _ (sF.mono aq)) ?_);rintro g1 _ aP rfl;replace hs:=hs.call aP;have ah:=aP.le;replace aq:=G.le.trans aq ah;refine bj rfl ?_;refine dz 4 [.o 0] hs rfl ?_;rw[hn];refine ak rfl rfl (au JF aJ rfl rfl rfl rfl rfl (rj _ s.next 0 (n-1) _ (zK.mono aq)) ?_);rintro g1 _ aP rfl;replace hs:=hs.call aP;have ah:=aP.le;refine bj rfl ?_;refine dz 4 [.o 0] hs rfl ?_;refine cp (want:=true) (x:=s.dI==0) 3 aJ rfl rfl rfl rfl (.inl ⟨rfl,rfl,rfl⟩) rfl rfl rfl rfl (fun hb Q' eG=>?_) (fun g' hf=>?_)
 ·refine Wm 3 [.o 0] hs rfl ?_;apply aE;exact fun a ha=>eG _ a (a_.refl _) (ha.keep (by(repeat (first|exact trivial|refine⟨rfl,?_⟩))))
 replace hs:=hs.call hf;have ah:=hf.le;refine Wp 1 rfl ?_;refine cp (want:=false) (x:=within s.back 0 (n-1)&&within s.dI 1 9) 10 aJ rfl rfl rfl rfl (.inr ⟨rfl,rfl,rfl⟩) rfl rfl rfl rfl (fun hb Q' eG=>?_) (fun g' hf=>?_)
 ·refine Wm 4 [.o 0] hs rfl ?_;rw[hn];refine ak rfl rfl (au nJ aJ rfl rfl rfl rfl rfl (gh _ _ _ _) ?_);rintro g1 _ aP rfl;replace hs:=hs.call aP;have ah:=aP.le;refine Wp 1 rfl ?_;refine cp (want:=true) (x:=within s.dI 1 9) 3 aJ rfl rfl rfl rfl (.inl ⟨rfl,rfl,rfl⟩) rfl rfl rfl rfl (fun hb Q' eG=>?_) (fun g' hf=>?_)
  ·refine Wm 2 [.o 0] hs rfl ?_;refine ak rfl rfl (au nJ aJ rfl rfl rfl rfl rfl (gh _ _ _ _) ?_);rintro g1 _ aP rfl;replace hs:=hs.call aP;have ah:=aP.le;apply aE;exact fun a ha=>eG _ a aP (ha.keep (by(repeat (first|exact trivial|refine⟨rfl,?_⟩))))
  exact aE fun a ha=>eG _ a (aP.trans hf) (ha.keep (by(repeat (first|exact trivial|refine⟨rfl,?_⟩))))
 replace hs:=hs.call hf;have ah:=hf.le;refine bj rfl ?_;refine cN 2 rfl ?_;refine cp (want:=true) (x:=ascending s.next 0 (n-1)) 1 aJ rfl rfl rfl rfl (.inl ⟨rfl,rfl,rfl⟩) rfl rfl rfl rfl (fun hb Q' eG=>?_) (fun g' hf=>?_)
 ·refine Wp 1 rfl ?_;apply aE;exact fun a ha=>eG _ a (a_.refl _) (ha.keep (by(repeat (first|exact trivial|refine⟨rfl,?_⟩))))
 replace hs:=hs.call hf;have ah:=hf.le;refine Wp 1 rfl ?_;refine cp (want:=true) (x:=(s.back== -1&&s.dI==0)||(within s.back 0 (n-1)&&within s.dI 1 9)) 1 aJ rfl rfl rfl rfl (.inl ⟨rfl,rfl,rfl⟩) rfl rfl rfl rfl (fun hb Q' eG=>?_) (fun g' hf=>?_)
 ·refine Wp 1 rfl ?_;apply aE;exact fun a ha=>eG _ a (a_.refl _) (ha.keep (by(repeat (first|exact trivial|refine⟨rfl,?_⟩))))
 replace hs:=hs.call hf;have ah:=hf.le;refine Wp 1 rfl ?_;refine cp (want:=true) (x:=within s.cE 1 1000000) 3 aJ rfl rfl rfl rfl (.inl ⟨rfl,rfl,rfl⟩) rfl rfl rfl rfl (fun hb Q' eG=>?_) (fun g' hf=>?_)
 ·refine Wm 2 [.o 0] hs rfl ?_;refine ak rfl rfl (au nJ aJ rfl rfl rfl rfl rfl (gh _ _ _ _) ?_);rintro g1 _ aP rfl;replace hs:=hs.call aP;have ah:=aP.le;apply aE;exact fun a ha=>eG _ a aP (ha.keep (by(repeat (first|exact trivial|refine⟨rfl,?_⟩))))
 replace hs:=hs.call hf;have ah:=hf.le;refine Wp 1 rfl ?_;refine cp (want:=true) (x:=within (↑s.dt.length) 1 8) 4 aJ rfl rfl rfl rfl (.inl ⟨rfl,rfl,rfl⟩) rfl rfl rfl rfl (fun hb Q' eG=>?_) (fun g' hf=>?_)
 ·refine Wm 3 [.o 0] hs rfl ?_;refine ak rfl rfl (au nJ aJ rfl rfl rfl rfl rfl (gh _ _ _ _) ?_);rintro g1 _ aP rfl;replace hs:=hs.call aP;have ah:=aP.le;apply aE;exact fun a ha=>eG _ a aP (ha.keep (by(repeat (first|exact trivial|refine⟨rfl,?_⟩))))
 replace hs:=hs.call hf;have ah:=hf.le;refine Wp 1 rfl ?_;refine cp (want:=true) (x:=decide ((s.next.length:Int)≤4)) 4 aJ rfl rfl rfl rfl (.inl ⟨rfl,rfl,rfl⟩) rfl rfl rfl rfl (fun hb Q' eG=>?_) (fun g' hf=>?_)
 ·refine Wm 4 [.o 0] hs rfl ?_;apply aE;exact fun a ha=>eG _ a (a_.refl _) (ha.keep (by(repeat (first|exact trivial|refine⟨rfl,?_⟩))))
 replace hs:=hs.call hf;have ah:=hf.le;refine Wp 1 rfl ?_;refine cp (want:=true) (x:=decide (1≤s.min)) 3 aJ rfl rfl rfl rfl (.inl ⟨rfl,rfl,rfl⟩) rfl rfl rfl rfl (fun hb Q' eG=>?_) (fun g' hf=>?_)
 ·refine Wm 3 [.o 0] hs rfl ?_;apply aE;exact fun a ha=>eG _ a (a_.refl _) (ha.keep (by(repeat (first|exact trivial|refine⟨rfl,?_⟩))))
 replace hs:=hs.call hf;have ah:=hf.le;refine Wp 1 rfl ?_;refine cp (want:=true) (x:=decide (s.min≤s.max)) 5 aJ rfl rfl rfl rfl (.inl ⟨rfl,rfl,rfl⟩) rfl rfl rfl rfl (fun hb Q' eG=>?_) (fun g' hf=>?_)
 ·refine Wm 5 [.o 0,.o 0] hs rfl ?_;apply aE;exact fun a ha=>eG _ a (a_.refl _) (ha.keep (by(repeat (first|exact trivial|refine⟨rfl,?_⟩))))
 replace hs:=hs.call hf;have ah:=hf.le;refine Wp 1 rfl ?_;refine cp (want:=true) (x:=decide (s.max≤10000)) 3 aJ rfl rfl rfl rfl (.inl ⟨rfl,rfl,rfl⟩) rfl rfl rfl rfl (fun hb Q' eG=>?_) (fun g' hf=>?_)
 ·refine Wm 3 [.o 0] hs rfl ?_;apply aE;exact fun a ha=>eG _ a (a_.refl _) (ha.keep (by(repeat (first|exact trivial|refine⟨rfl,?_⟩))))
 replace hs:=hs.call hf;have ah:=hf.le;refine bj rfl ?_;refine aI (aX rfl rfl (hs.ret ?_));unfold bT;refine congrArg Value.bool ?_;simp only[cond_true];ac_rfl
theorem o0(w:bZ)(n:Int)(g:G)(h1:0≤n)(h2:n≤9223372036854775807):
  CallsIn Wd 0 Tryz.prog 156 #[.agg #[.int .i64 w.src,.int .i64 w.dst,.int .i64 w.dI],.int .i64 n] g.w (cF g fun _ r=>r= .bool (de w n)):=by
 have hs:=St.start g;have hn:IntKind.i64.wrap (n-1)=n-1:=wr (by omega) (by omega);refine enter Tryz.func156 rfl Tryz.ntmps156 rfl ?_;apply cM;refine ak rfl rfl (aO rfl hs rfl rfl ?_);clear hs;rintro b1 g1 hs ah;skip;refine bj rfl ?_;refine dz 4 [.o 0] hs rfl ?_;rw[hn];refine ak rfl rfl (au nJ aJ rfl rfl rfl rfl rfl (gh _ _ _ _) ?_);rintro g1 _ aP rfl;replace hs:=hs.call aP;have ah:=aP.le;skip;refine Wp 1 rfl ?_;refine cp (want:=true) (x:=within w.dst 0 (n-1)) 5 aJ rfl rfl rfl rfl (.inl ⟨rfl,rfl,rfl⟩) rfl rfl rfl rfl (fun hb Q' eG=>?_) (fun g' hf=>?_)
 ·refine Wm 4 [.o 0] hs rfl ?_;rw[hn];refine ak rfl rfl (au nJ aJ rfl rfl rfl rfl rfl (gh _ _ _ _) ?_);rintro g1 _ aP rfl;replace hs:=hs.call aP;have ah:=aP.le;skip;apply aE;exact fun a ha=>eG _ a aP (ha.keep (by(repeat (first|exact trivial|refine⟨rfl,?_⟩))))
 replace hs:=hs.call hf;refine Wp 1 rfl ?_;refine cp (want:=true) (x:=w.src !=w.dst) 5 aJ rfl rfl rfl rfl (.inl ⟨rfl,rfl,rfl⟩) rfl rfl rfl rfl (fun hb Q' eG=>?_) (fun g' hf=>?_)
 ·refine Wm 5 [.o 0,.o 0] hs rfl ?_;apply aE;exact fun a ha=>eG _ a (a_.refl _) (ha.keep (by(repeat (first|exact trivial|refine⟨rfl,?_⟩))))
 replace hs:=hs.call hf;refine Wp 1 rfl ?_;refine cp (want:=true) (x:=within w.dI 0 1000000) 3 aJ rfl rfl rfl rfl (.inl ⟨rfl,rfl,rfl⟩) rfl rfl rfl rfl (fun hb Q' eG=>?_) (fun g' hf=>?_)
 ·refine Wm 2 [.o 0] hs rfl ?_;refine ak rfl rfl (au nJ aJ rfl rfl rfl rfl rfl (gh _ _ _ _) ?_);rintro g1 _ aP rfl;replace hs:=hs.call aP;have ah:=aP.le;skip;apply aE;exact fun a ha=>eG _ a aP (ha.keep (by(repeat (first|exact trivial|refine⟨rfl,?_⟩))))
 replace hs:=hs.call hf;refine bj rfl ?_;exact aI (aX rfl rfl (hs.ret rfl))
end Go.Proofs.YtgehbndkogohpaaGreatDoor
namespace Go.Proofs.YtgehbndkogohpaaGreatDoor
open Go Go.K
set_option maxRecDepth 10000
attribute [local irreducible] W WL cD bc bK bd bg bh cq ck
set_option maxHeartbeats 8000000
theorem ve{n:Int}: ∀(a pre b:List bZ),dB n pre (a++b)=(dB n pre a&&dB n (pre++a) b)
 |[],pre,b=>by simp[dB]
 |w::a,pre,b=>by rw[List.cons_append,dB,dB,ve a,List.append_assoc];simp only[Bool.and_assoc,List.singleton_append]
theorem D5{ws:List bZ}{k:Nat}(hk:k<ws.length)(h0:0<k):(ws.take k).getLast? =some (ws[k-1]'(by omega)):=by rw[List.getLast?_eq_getElem?,List.length_take,Nat.min_eq_left (by omega),List.getElem?_take_of_lt (by omega),List.getElem?_eq_getElem (by omega)]
theorem Ak{n:Int}{ws:List bZ}{k:Nat}(hk:k<ws.length)(h:dB n [] (ws.take k)=true):
  dB n [] (ws.take (k+1))=(de ws[k] n&&(decide (k=0)||(k≠0&&ly (ws[k-1]'(by omega)) ws[k]))):=by
 rw[List.take_succ_eq_append_getElem hk,oB,h,Bool.true_and,List.nil_append];congr 1;by_cases h0:k=0
 ·subst h0;rfl
 unfold follows;rw[D5 hk (by omega)];simp[h0]
theorem BU{n:Int}{ws:List bZ}{k:Nat}(h:dB n [] (ws.take k)=false):dB n [] ws=false:=by
 conv=>lhs;rw[←List.take_append_drop k ws]
 rw[ve,h,Bool.false_and]
theorem IZ{ss:List Step}{n:Int}{k:Nat}(hk:k<ss.length)(h:bT ss[k] n=false):(ss.all fun s=>bT s n)=false:=by rw[List.all_eq_false];exact⟨ss[k],List.getElem_mem hk,by rw[h];decide⟩
def Al(w:bZ):Fact:=⟨fun v g=> ∃b p,v= .pointer (some ⟨b,p,none⟩)∧EP g b p (kh w),fun _ _ _ hf ⟨b,p,e,h⟩=>⟨b,p,e,h.mono hf.le⟩⟩
theorem GG(v:Value)(f:bQ)(g:G)(dj:ff g v f):CallsIn Wd 0 Tryz.prog 64 #[v] g.w (cF g fun _ r=>r= .bool (valid f)):=by
 obtain⟨a1,n1,c1,a2,n2,c2,rfl,aH,aU⟩:=id dj;obtain⟨_,_,e⟩:=aH.isSlice;obtain⟨rfl,rfl,rfl⟩:=Value.slice.inj e;clear e;obtain⟨_,_,e⟩:=aU.isSlice;obtain⟨rfl,rfl,rfl⟩:=Value.slice.inj e;clear e;clear dj;have rP:=aH.dJ;have Qz:=aU.dJ;unfold maxLen at rP Qz;have hs:=St.start g;have aq:=G.le.refl g;refine enter Tryz.func64 rfl Tryz.ntmps64 rfl ?_;apply cM;refine ak rfl rfl (aO rfl hs rfl rfl ?_);clear hs;rintro bx g1 hs ah;obtain⟨aq,aH,aU⟩:=dy ah aq aH aU;obtain⟨g2,bL,aT,ah,aL⟩:=hs.ba (i:=0) rfl;replace hs:=aT;clear aT;rw[←bL];obtain⟨aq,aH,aU⟩:=dy ah aq aH aU;have aC:=aL;clear aL bL ah;refine bj rfl ?_;refine l_ [.z aC] (St.start _) rfl ?_;apply aD;refine dz 4 [.z aC,.z aC] (St.start _) rfl ?_;refine ak rfl rfl (au Ny aJ rfl rfl rfl rfl rfl (GF f.bB f.bU _) ?_);rintro g1 _ aP rfl;replace hs:=hs.call aP;have ah:=aP.le;obtain⟨aq,aC,aH,aU⟩:=eS ah aq aC aH aU;refine Wp 2 rfl ?_;have yX:dA ⟨f.bB,f.bU,[],[]⟩=dA f:=rfl;rw[yX];refine cp (want:=false) (x:=!within f.steps.length 1 40) 3 aJ rfl rfl rfl rfl (.inr ⟨rfl,rfl,rfl⟩) rfl rfl rfl rfl (fun hb Q' eG=>?_) (fun g' hf=>?_)
 ·refine Wp 1 rfl ?_;refine ak rfl rfl (au nJ aJ rfl rfl rfl rfl rfl (gh _ _ _ _) ?_);rintro g1 _ aP rfl;replace hs:=hs.call aP;have ah:=aP.le;obtain⟨aq,aC,aH,aU⟩:=eS ah aq aC aH aU;refine Wp 1 rfl ?_;apply aE;exact fun a ha=>eG _ a aP (ha.keep (by(repeat (first|exact trivial|refine⟨rfl,?_⟩))))
 replace hs:=hs.call hf;have ah:=hf.le;obtain⟨aq,aC,aH,aU⟩:=eS ah aq aC aH aU;refine Wp 1 rfl ?_;refine cp (want:=false) (x:=decide (20<(f.windows.length:Int))) 4 aJ rfl rfl rfl rfl (.inr ⟨rfl,rfl,rfl⟩) rfl rfl rfl rfl (fun hb Q' eG=>?_) (fun g' hf=>?_)
 ·refine Wm 4 [.z aC] (St.start _) rfl ?_;apply aE;exact fun a ha=>eG _ a (a_.refl _) (ha.keep (by(repeat (first|exact trivial|refine⟨rfl,?_⟩))))
 replace hs:=hs.call hf;have ah:=hf.le;obtain⟨aq,aC,aH,aU⟩:=eS ah aq aC aH aU;apply bW;have hvalid:valid f=(dA f&&within f.steps.length 1 40&&decide ((f.windows.length:Int)≤20)&&f.steps.all (fun s=>bT s f.steps.length)&&dB f.steps.length [] f.windows):=rfl;by_cases hc:(!dA f|| !within f.steps.length 1 40||decide (20<(f.windows.length:Int)))=true
 ·refine aM hc rfl ?_;refine aY rfl ?_;refine aI (aX rfl rfl (hs.ret ?_));rw[hvalid];simp only[Bool.or_eq_true,Bool.not_eq_true',decide_eq_true_eq]at hc;rcases hc with(h|h)|h
  ·rw[h];simp
  ·rw[h];simp
  have e:decide ((f.windows.length:Int)≤20)=false:=by simp;omega
  rw[e];simp
 refine aV (Bool.eq_false_iff.2 hc) rfl ?_;simp only[Bool.not_eq_true,Bool.or_eq_false_iff,Bool.not_eq_false',decide_eq_false_iff_not]at hc;obtain⟨⟨hm,hw⟩,Ss⟩:=hc;have XW:decide ((f.windows.length:Int)≤20)=true:=by simp;omega
 rw[hm,hw,XW,Bool.true_and,Bool.true_and,Bool.true_and]at hvalid;apply aF;apply ar;apply aD;refine aY rfl ?_;apply aG;have nL:=aH;have uD:=aU;have pK:=aC;have SP:=aq;refine bM (fun m a' w=> ∃(k:Nat) (g4:G),w=g4.w∧St g g4 []∧G.le g' g4∧k≤f.steps.length∧m=f.steps.length-k∧(∀j (h:j<f.steps.length),j<k→bT f.steps[j] f.steps.length=true)∧
  Fr 73 [] [(1,.pointer (some ⟨bx,0,none⟩)),(3,.int .i64 f.steps.length),(4,.int .i64 k)] a') f.steps.length (fun a' ha=>⟨0,g',rfl,hs,G.le.refl _,Nat.zero_le _,rfl,fun _ _ h=>by omega,ha.keep (by(repeat (first|exact trivial|refine⟨rfl,?_⟩)))⟩) ?_
 clear hs aq aH aU aC;rintro m a' _ ⟨k,g4,rfl,hs,kN,hk,rfl,dx,eF⟩;have aH:=nL.mono kN;have aU:=uD.mono kN;have aC:=pK.mono kN;revert a';apply cI;apply aD;refine aY rfl ?_;by_cases bC:k<f.steps.length
 ·refine aM (b:=_) ?_ rfl ?_
  ·simp;omega
  have jG:dS f.steps (k:Int)=some f.steps[k]:=by simp[dS,bC]
  have oD:=IZ (ss:=f.steps) (n:=f.steps.length) bC;have lO:bT f.steps[k] f.steps.length=true→ ∀j (h:j<f.steps.length),j<k+1→bT f.steps[j] f.steps.length=true:=by
   intro h1 j h h2;by_cases hj:j=k
   ·subst hj;exact h1
   exact dx j h (by omega)
  generalize f.steps[k]=s at*;apply aF;apply ar;apply aD;apply aG;refine dz 3 [.z aC] (St.start _) rfl ?_;refine ak rfl rfl (aW T.ok rfl aH (y:=s) jG rfl rfl rfl rfl rfl rfl ?_);rintro bq pq ys aL ⟨ta,tn,tc,na,nn,nc,rfl,bS,cH⟩;refine Wm 1 [.e aL 0] (St.start _) rfl ?_;refine Wp 1 rfl ?_;refine ak rfl rfl (au Nz aJ rfl rfl rfl rfl rfl (IY _ s f.steps.length _ ⟨_,rfl,_,_,_,_,_,_,rfl,bS,cH⟩ (by omega) (by omega)) ?_);rintro g1 _ aP rfl;replace hs:=hs.call aP;have ah:=aP.le;obtain⟨kN,aC,aU⟩:=dy ah kN aC aU;refine bj rfl ?_;cases e1:bT s f.steps.length with
  |false=>
   refine aM rfl rfl ?_;refine aY rfl ?_;refine aI (aX rfl rfl (hs.ret ?_));rw[hvalid,oD e1,Bool.false_and]
  |true=>
   refine aV rfl rfl ?_;apply aF;apply bR;apply ar;apply aA;refine Wp 3 rfl ?_;apply aE;exact fun a ha=>⟨f.steps.length-(k+1),by omega,k+1,_,rfl,hs,kN,by omega,rfl,lO e1,ha.keep ⟨rfl,rfl,kI rfl (by rw[wr (by omega) (by omega)];omega),trivial⟩⟩
 refine aV (b:=_) ?_ rfl ?_
 ·simp;omega
 have cR:(f.steps.all fun s=>bT s f.steps.length)=true:=by rw[List.all_eq_true];intro s hs;obtain⟨j,hj,rfl⟩:=List.getElem_of_mem hs;exact dx j hj (by omega)
 rw[cR,Bool.true_and]at hvalid;clear dx cR;apply bF;apply bG;apply bG;apply c_;apply ar;apply aD;refine aY rfl ?_;apply aG;have LY:=aU;have uF:=aC;have s7:=hs;refine bM (fun m a' w=> ∃(k:Nat) (g5:G),w=g5.w∧St g g5 []∧G.le g4 g5∧k≤f.windows.length∧m=f.windows.length-k∧dB f.steps.length [] (f.windows.take k)=true∧
  Fr 73 [] [(1,.pointer (some ⟨bx,0,none⟩)),(3,.int .i64 f.steps.length),(5,.int .i64 k)] a') f.windows.length (fun a' ha=>⟨0,g4,rfl,hs,G.le.refl _,Nat.zero_le _,rfl,rfl,ha.keep (by(repeat (first|exact trivial|refine⟨rfl,?_⟩)))⟩) ?_
 clear hs s7 aH aU aC kN bC hk;rintro m a' _ ⟨k,g5,rfl,hs,kN,hk,rfl,dx,eF⟩;have aU:=LY.mono kN;have aC:=uF.mono kN;revert a';apply cI;apply aD;refine l_ [.z aC] (St.start _) rfl ?_;by_cases bC:k<f.windows.length
 ·refine aM (b:=_) ?_ rfl ?_
  ·simp;omega
  have jG:dS f.windows (k:Int)=some f.windows[k]:=by simp[dS,bC]
  have GH:=Ak (n:=f.steps.length) bC dx;have Fy:=fun h=>BU (n:=f.steps.length) (ws:=f.windows) (k:=k+1) h;have Hq:0<k→dS f.windows ((k-1:Nat):Int)=some (f.windows[k-1]'(by omega)):=fun h=>cZ rfl (by omega);generalize f.windows[k-1]'(by omega)=wp at*;generalize f.windows[k]=w0 at*;cases e1:de w0 f.steps.length with
  |false=>
   rw[e1,Bool.false_and]at GH;have T3:valid f=false:=by rw[hvalid,Fy GH]
   apply aF;apply ar;apply aD;apply aG;apply aD;apply bP hs (eQ (fe (.f (Al (w0))::(eO (eO (iY (eQ (fe [])))))))) 27 [(26,72)] (by kernel_rfl) rfl
   ·refine Dm [[],[0],[]] [.e aC 3] (St.start _) (by kernel_rfl) rfl ?_;refine ay (an (js:=[(1,47),(2,48)]) (by kernel_rfl) fun gd hf=>?_) ?_
    ·have dG:=(G.bu _).trans hf.le;refine ai rfl ?_;refine ai rfl ?_;apply aj;refine aB rfl ?_;refine aW T.ok rfl (aU.mono dG) (y:=w0) jG rfl rfl rfl rfl rfl rfl ?_;rintro b p ys aL rfl;exact⟨_,rfl,a_.refl _,b,p,rfl,aL⟩
    refine ay (an (js:=[(3,49)]) (by kernel_rfl) fun gd hf=>?_) ?_
    ·skip;refine aZ fun v3 h3=>?_;apply aj;obtain⟨b,p,rfl,aL⟩:=h3;refine aB rfl ?_;refine bJ T.ok 0 rfl aL rfl rfl ?_;refine⟨_,rfl,a_.refl _,?_⟩;exact rfl
    refine Dx [[]] (by kernel_rfl) rfl ?_;refine ay (an (js:=[(4,50),(5,51)]) (by kernel_rfl) fun gd hf=>?_) ?_
    ·skip;refine ai rfl ?_;refine ai rfl ?_;apply aj;refine aB rfl ?_;refine au B5 aJ rfl rfl rfl rfl rfl (o0 w0 f.steps.length _ (by omega) (by omega)) fun g' v h1 h2=>⟨g',rfl,h1,?_⟩
     rw[h2];exact congrArg Value.bool e1
    exact Dy [[6],[7],[8],[9,8],[10,8,8],[11],[12,11],[11],[14,11],[13,15,11],[16,11],[11],[18,11],[11],[19,20,11],[21,11],[17,22,11,11],[23,11],[11,24,8],[8,25]] (by kernel_rfl) rfl
   clear hs;intro g1 hs ah;obtain⟨kN,aC,aU⟩:=dy ah kN aC aU;apply bW;refine aM rfl rfl ?_;refine aY rfl ?_;refine aI (aX rfl rfl (hs.ret ?_));rw[T3]
  |true=>
   rw[e1,Bool.true_and]at GH;cases e2:decide (0<(k:Int))with
   |false=>
    have AH:k=0:=by simpa using e2
    have lO:dB f.steps.length [] (f.windows.take (k+1))=true:=by rw[GH];simp[AH]
    apply aF;apply ar;apply aD;apply aG;apply aD;apply bP hs (eQ (fe (.f (Al (w0))::(eO (eO (iY (eQ (fe [])))))))) 27 [(26,72)] (by kernel_rfl) rfl
    ·refine Dm [[],[0],[]] [.e aC 3] (St.start _) (by kernel_rfl) rfl ?_;refine ay (an (js:=[(1,47),(2,48)]) (by kernel_rfl) fun gd hf=>?_) ?_
     ·have dG:=(G.bu _).trans hf.le;refine ai rfl ?_;refine ai rfl ?_;apply aj;refine aB rfl ?_;refine aW T.ok rfl (aU.mono dG) (y:=w0) jG rfl rfl rfl rfl rfl rfl ?_;rintro b p ys aL rfl;exact⟨_,rfl,a_.refl _,b,p,rfl,aL⟩
     refine ay (an (js:=[(3,49)]) (by kernel_rfl) fun gd hf=>?_) ?_
     ·skip;refine aZ fun v3 h3=>?_;apply aj;obtain⟨b,p,rfl,aL⟩:=h3;refine aB rfl ?_;refine bJ T.ok 0 rfl aL rfl rfl ?_;refine⟨_,rfl,a_.refl _,?_⟩;exact rfl
     refine Dx [[]] (by kernel_rfl) rfl ?_;refine ay (an (js:=[(4,50),(5,51)]) (by kernel_rfl) fun gd hf=>?_) ?_
     ·skip;refine ai rfl ?_;refine ai rfl ?_;apply aj;refine aB rfl ?_;refine au B5 aJ rfl rfl rfl rfl rfl (o0 w0 f.steps.length _ (by omega) (by omega)) fun g' v h1 h2=>⟨g',rfl,h1,?_⟩
      rw[h2];exact congrArg Value.bool e1
     refine Dx [[6],[7],[8]] (by kernel_rfl) rfl ?_;refine ay (an (js:=[(9,55),(8,54)]) (by kernel_rfl) fun gd hf=>?_) ?_
     ·skip;refine ai rfl ?_;refine ai rfl ?_;apply aj;refine aB rfl ?_;refine aN _ T.ok rfl ?_;exact⟨_,rfl,a_.refl _,congrArg Value.bool e2⟩
     exact Dy [[10,8,8],[11],[12,11],[11],[14,11],[13,15,11],[16,11],[11],[18,11],[11],[19,20,11],[21,11],[17,22,11,11],[23,11],[11,24,8],[8,25]] (by kernel_rfl) rfl
    clear hs;intro g1 hs ah;obtain⟨kN,aC,aU⟩:=dy ah kN aC aU;apply bW;refine aV rfl rfl ?_;apply aF;apply bR;apply ar;apply aA;refine Wp 3 rfl ?_;apply aE;refine fun a ha=>⟨f.windows.length-(k+1),by omega,k+1,_,rfl,hs,kN,by omega,rfl,lO,ha.keep ⟨rfl,rfl,kI rfl (by rw[wr (by omega) (by omega)];omega),trivial⟩⟩
   |true=>
    have AH:0<k:=by simpa using e2
    have Hq:=Hq AH;have QB:dB f.steps.length [] (f.windows.take (k+1))=ly wp w0:=by rw[GH,decide_eq_false (show ¬k=0 by omega),decide_eq_true (show k≠0 by omega)];rfl
    cases e3:ly wp w0 with
    |false=>
     have T3:valid f=false:=by rw[hvalid,Fy (QB.trans e3)]
     apply aF;apply ar;apply aD;apply aG;apply aD;apply bP hs (eQ (fe (.f (Al (w0))::(eO (iY (.f (Al (wp))::(iY (.f (Al (w0))::(iY (fe [])))))))))) 27 [(26,72)] (by kernel_rfl) rfl
     ·refine Dm [[],[0],[]] [.e aC 3] (St.start _) (by kernel_rfl) rfl ?_;refine ay (an (js:=[(1,47),(2,48)]) (by kernel_rfl) fun gd hf=>?_) ?_
      ·have dG:=(G.bu _).trans hf.le;refine ai rfl ?_;refine ai rfl ?_;apply aj;refine aB rfl ?_;refine aW T.ok rfl (aU.mono dG) (y:=w0) jG rfl rfl rfl rfl rfl rfl ?_;rintro b p ys aL rfl;exact⟨_,rfl,a_.refl _,b,p,rfl,aL⟩
      refine ay (an (js:=[(3,49)]) (by kernel_rfl) fun gd hf=>?_) ?_
      ·skip;refine aZ fun v3 h3=>?_;apply aj;obtain⟨b,p,rfl,aL⟩:=h3;refine aB rfl ?_;refine bJ T.ok 0 rfl aL rfl rfl ?_;refine⟨_,rfl,a_.refl _,?_⟩;exact rfl
      refine Dx [[]] (by kernel_rfl) rfl ?_;refine ay (an (js:=[(4,50),(5,51)]) (by kernel_rfl) fun gd hf=>?_) ?_
      ·skip;refine ai rfl ?_;refine ai rfl ?_;apply aj;refine aB rfl ?_;refine au B5 aJ rfl rfl rfl rfl rfl (o0 w0 f.steps.length _ (by omega) (by omega)) fun g' v h1 h2=>⟨g',rfl,h1,?_⟩
       rw[h2];exact congrArg Value.bool e1
      refine Dx [[6],[7],[8]] (by kernel_rfl) rfl ?_;refine ay (an (js:=[(9,55),(8,54)]) (by kernel_rfl) fun gd hf=>?_) ?_
      ·skip;refine ai rfl ?_;refine ai rfl ?_;apply aj;refine aB rfl ?_;refine aN _ T.ok rfl ?_;exact⟨_,rfl,a_.refl _,congrArg Value.bool e2⟩
      refine Dm [[10,8,8],[11],[12,11],[11]] [.e aC 3] (St.start _) (by kernel_rfl) rfl ?_;refine ay (an (js:=[(14,60),(11,57)]) (by kernel_rfl) fun gd hf=>?_) ?_
      ·skip;refine ai rfl ?_;refine ai rfl ?_;apply aj;refine aB rfl ?_;refine aN _ T.ok rfl ?_;refine⟨_,rfl,a_.refl _,?_⟩;exact congrArg (Value.int .i64) (show _=((k-1:Nat):Int)from by rw[wr (by omega) (by omega)];omega)
      refine ay (an (js:=[(13,59),(15,61),(11,57)]) (by kernel_rfl) fun gd hf=>?_) ?_
      ·have dG:=(G.bu _).trans hf.le;refine ai rfl ?_;refine ai rfl ?_;refine ai rfl ?_;apply aj;refine aB rfl ?_;refine aW T.ok rfl (aU.mono dG) (y:=wp) Hq rfl rfl rfl rfl rfl rfl ?_;rintro b p ys aL rfl;exact⟨_,rfl,a_.refl _,b,p,rfl,aL⟩
      refine ay (an (js:=[(16,62),(11,57)]) (by kernel_rfl) fun gd hf=>?_) ?_
      ·skip;refine aZ fun Ve QC=>?_;refine ai rfl ?_;apply aj;obtain⟨b,p,rfl,aL⟩:=QC;refine aB rfl ?_;refine bJ T.ok 0 rfl aL rfl rfl ?_;refine⟨_,rfl,a_.refl _,?_⟩;exact rfl
      refine Dm [[11],[18,11],[11]] [.e aC 3] (St.start _) (by kernel_rfl) rfl ?_;refine ay (an (js:=[(19,65),(20,66),(11,57)]) (by kernel_rfl) fun gd hf=>?_) ?_
      ·have dG:=(G.bu _).trans hf.le;refine ai rfl ?_;refine ai rfl ?_;refine ai rfl ?_;apply aj;refine aB rfl ?_;refine aW T.ok rfl (aU.mono dG) (y:=w0) jG rfl rfl rfl rfl rfl rfl ?_;rintro b p ys aL rfl;exact⟨_,rfl,a_.refl _,b,p,rfl,aL⟩
      refine ay (an (js:=[(21,67),(11,57)]) (by kernel_rfl) fun gd hf=>?_) ?_
      ·skip;refine aZ fun v21 OR=>?_;refine ai rfl ?_;apply aj;obtain⟨b,p,rfl,aL⟩:=OR;refine aB rfl ?_;refine bJ T.ok 0 rfl aL rfl rfl ?_;refine⟨_,rfl,a_.refl _,?_⟩;exact rfl
      refine ay (an (js:=[(17,63),(22,68),(11,57),(11,57)]) (by kernel_rfl) fun gd hf=>?_) ?_
      ·skip;refine ai rfl ?_;refine ai rfl ?_;refine ai rfl ?_;refine ai rfl ?_;apply aj;refine aB rfl ?_;refine au Hw aJ rfl rfl rfl rfl rfl (rk wp w0 _) fun g' v h1 h2=>⟨g',rfl,h1,?_⟩
       rw[h2];exact congrArg Value.bool e3
      exact Dy [[23,11],[11,24,8],[8,25]] (by kernel_rfl) rfl
     clear hs;intro g1 hs ah;obtain⟨kN,aC,aU⟩:=dy ah kN aC aU;apply bW;refine aM rfl rfl ?_;refine aY rfl ?_;refine aI (aX rfl rfl (hs.ret ?_));rw[T3]
    |true=>
     have lO:=QB.trans e3;apply aF;apply ar;apply aD;apply aG;apply aD;apply bP hs (eQ (fe (.f (Al (w0))::(eO (iY (.f (Al (wp))::(iY (.f (Al (w0))::(iY (fe [])))))))))) 27 [(26,72)] (by kernel_rfl) rfl
     ·refine Dm [[],[0],[]] [.e aC 3] (St.start _) (by kernel_rfl) rfl ?_;refine ay (an (js:=[(1,47),(2,48)]) (by kernel_rfl) fun gd hf=>?_) ?_
      ·have dG:=(G.bu _).trans hf.le;refine ai rfl ?_;refine ai rfl ?_;apply aj;refine aB rfl ?_;refine aW T.ok rfl (aU.mono dG) (y:=w0) jG rfl rfl rfl rfl rfl rfl ?_;rintro b p ys aL rfl;exact⟨_,rfl,a_.refl _,b,p,rfl,aL⟩
      refine ay (an (js:=[(3,49)]) (by kernel_rfl) fun gd hf=>?_) ?_
      ·skip;refine aZ fun v3 h3=>?_;apply aj;obtain⟨b,p,rfl,aL⟩:=h3;refine aB rfl ?_;refine bJ T.ok 0 rfl aL rfl rfl ?_;refine⟨_,rfl,a_.refl _,?_⟩;exact rfl
      refine Dx [[]] (by kernel_rfl) rfl ?_;refine ay (an (js:=[(4,50),(5,51)]) (by kernel_rfl) fun gd hf=>?_) ?_
      ·skip;refine ai rfl ?_;refine ai rfl ?_;apply aj;refine aB rfl ?_;refine au B5 aJ rfl rfl rfl rfl rfl (o0 w0 f.steps.length _ (by omega) (by omega)) fun g' v h1 h2=>⟨g',rfl,h1,?_⟩
       rw[h2];exact congrArg Value.bool e1
      refine Dx [[6],[7],[8]] (by kernel_rfl) rfl ?_;refine ay (an (js:=[(9,55),(8,54)]) (by kernel_rfl) fun gd hf=>?_) ?_
      ·skip;refine ai rfl ?_;refine ai rfl ?_;apply aj;refine aB rfl ?_;refine aN _ T.ok rfl ?_;exact⟨_,rfl,a_.refl _,congrArg Value.bool e2⟩
      refine Dm [[10,8,8],[11],[12,11],[11]] [.e aC 3] (St.start _) (by kernel_rfl) rfl ?_;refine ay (an (js:=[(14,60),(11,57)]) (by kernel_rfl) fun gd hf=>?_) ?_
      ·skip;refine ai rfl ?_;refine ai rfl ?_;apply aj;refine aB rfl ?_;refine aN _ T.ok rfl ?_;refine⟨_,rfl,a_.refl _,?_⟩;exact congrArg (Value.int .i64) (show _=((k-1:Nat):Int)from by rw[wr (by omega) (by omega)];omega)
      refine ay (an (js:=[(13,59),(15,61),(11,57)]) (by kernel_rfl) fun gd hf=>?_) ?_
      ·have dG:=(G.bu _).trans hf.le;refine ai rfl ?_;refine ai rfl ?_;refine ai rfl ?_;apply aj;refine aB rfl ?_;refine aW T.ok rfl (aU.mono dG) (y:=wp) Hq rfl rfl rfl rfl rfl rfl ?_;rintro b p ys aL rfl;exact⟨_,rfl,a_.refl _,b,p,rfl,aL⟩
      refine ay (an (js:=[(16,62),(11,57)]) (by kernel_rfl) fun gd hf=>?_) ?_
      ·skip;refine aZ fun Ve QC=>?_;refine ai rfl ?_;apply aj;obtain⟨b,p,rfl,aL⟩:=QC;refine aB rfl ?_;refine bJ T.ok 0 rfl aL rfl rfl ?_;refine⟨_,rfl,a_.refl _,?_⟩;exact rfl
      refine Dm [[11],[18,11],[11]] [.e aC 3] (St.start _) (by kernel_rfl) rfl ?_;refine ay (an (js:=[(19,65),(20,66),(11,57)]) (by kernel_rfl) fun gd hf=>?_) ?_
      ·have dG:=(G.bu _).trans hf.le;refine ai rfl ?_;refine ai rfl ?_;refine ai rfl ?_;apply aj;refine aB rfl ?_;refine aW T.ok rfl (aU.mono dG) (y:=w0) jG rfl rfl rfl rfl rfl rfl ?_;rintro b p ys aL rfl;exact⟨_,rfl,a_.refl _,b,p,rfl,aL⟩
      refine ay (an (js:=[(21,67),(11,57)]) (by kernel_rfl) fun gd hf=>?_) ?_
      ·skip;refine aZ fun v21 OR=>?_;refine ai rfl ?_;apply aj;obtain⟨b,p,rfl,aL⟩:=OR;refine aB rfl ?_;refine bJ T.ok 0 rfl aL rfl rfl ?_;refine⟨_,rfl,a_.refl _,?_⟩;exact rfl
      refine ay (an (js:=[(17,63),(22,68),(11,57),(11,57)]) (by kernel_rfl) fun gd hf=>?_) ?_
      ·skip;refine ai rfl ?_;refine ai rfl ?_;refine ai rfl ?_;refine ai rfl ?_;apply aj;refine aB rfl ?_;refine au Hw aJ rfl rfl rfl rfl rfl (rk wp w0 _) fun g' v h1 h2=>⟨g',rfl,h1,?_⟩
       rw[h2];exact congrArg Value.bool e3
      exact Dy [[23,11],[11,24,8],[8,25]] (by kernel_rfl) rfl
     clear hs;intro g1 hs ah;replace kN:=G.le.trans kN ah;apply bW;refine aV rfl rfl ?_;apply aF;apply bR;apply ar;apply aA;refine Wp 3 rfl ?_;apply aE;refine fun a ha=>⟨f.windows.length-(k+1),by omega,k+1,_,rfl,hs,kN,by omega,rfl,lO,ha.keep ⟨rfl,rfl,kI rfl (by rw[wr (by omega) (by omega)];omega),trivial⟩⟩
 refine aV (b:=_) ?_ rfl ?_
 ·simp;omega
 obtain rfl:k=f.windows.length:=by omega
 rw[List.take_length]at dx;apply bF;apply bG;apply bG;apply c_;apply ar;refine aY rfl ?_;refine aI (aX rfl rfl (hs.ret ?_));rw[hvalid,dx]
end Go.Proofs.YtgehbndkogohpaaGreatDoor
namespace Go.Proofs.YtgehbndkogohpaaGreatDoor
open Go Go.K
set_option maxRecDepth 10000
attribute [local irreducible] W WL cD bc bK bd bg bh cq ck
set_option maxHeartbeats 4000000
theorem tF(v u:Value)(l r:List Int)(g:G)(aH:Rs g v l)(aU:Rs g u r):CallsIn Wd 0 Tryz.prog 12 #[v,u] g.w (cF g fun _ x=>x= .bool (decide (l=r))):=by
  obtain⟨a,c,rfl⟩:=aH.isSlice;obtain⟨a2,c2,rfl⟩:=aU.isSlice;have hlen:=aH.dJ;unfold maxLen at hlen;have hs:=St.start g;refine enter Tryz.func12 rfl Tryz.ntmps12 rfl ?_;refine aY rfl ?_;apply aD;refine aY rfl ?_;by_cases Ej:l.length=r.length
  ·refine aV (b:=(l.length:Int) !=(r.length:Int)) (by simp;omega) rfl ?_;apply aF;apply ar;apply aD;refine aY rfl ?_;apply aG;have nL:=aH;have uD:=aU;have gM:=G.le.refl g;refine bM (fun m a' w=> ∃(k:Nat) (g2:G),w=g2.w∧St g g2 []∧G.le g g2∧k≤l.length∧m=l.length-k∧l.take k=r.take k∧
     Fr 26 [] [(0,.slice a l.length c),(1,.slice a2 r.length c2),(5,.int .i64 k)] a') l.length
    (fun a' ha=>⟨0,g,rfl,hs,gM,Nat.zero_le _,rfl,by simp,ha.keep (by(repeat (first|exact trivial|refine⟨rfl,?_⟩)))⟩) ?_
   clear hs gM aH aU;rintro m a' _ ⟨k,g2,rfl,hs,gM,hk,rfl,dx,eF⟩;have aH:=nL.mono gM;have aU:=uD.mono gM;revert a';apply cI;apply aD;refine aY rfl ?_;by_cases bC:k<l.length
   ·refine aM (b:=decide ((k:Int)<(l.length:Int))) (by simp;omega) rfl ?_;have Vf:k<r.length:=by omega
    apply aF;apply ar;apply aD;apply aG;apply aD;apply bP hs (eQ (.f (jU l[k])::(eQ (fe (.f (jU r[k])::(eQ [])))))) 9 [(8,25)] (by kernel_rfl) rfl
    ·refine Dx [[],[]] (by kernel_rfl) rfl ?_;refine ay (an (js:=[(0,17),(1,18)]) (by kernel_rfl) fun gd hf=>?_) ?_
     ·have dG:=(G.bu _).trans hf.le;refine ai rfl ?_;refine ai rfl ?_;apply aj;refine aB rfl ?_;refine aW T.ok rfl (aH.mono dG) (y:=l[k]) (cZ rfl bC) rfl rfl rfl rfl rfl rfl ?_;intro b p ys aL d_;exact⟨_,rfl,a_.refl _,b,p,rfl,by rw[←show ys=[Value.int .i64 l[k]]from d_];exact aL⟩
     refine ay (an (js:=[(2,19)]) (by kernel_rfl) fun gd hf=>?_) ?_
     ·skip;refine aZ fun v2 h2=>?_;apply aj;obtain⟨b,p,rfl,aL⟩:=h2;refine aB rfl ?_;refine bJ T.ok 0 rfl aL rfl rfl ?_;refine⟨_,rfl,a_.refl _,?_⟩;exact rfl
     refine Dx [[],[]] (by kernel_rfl) rfl ?_;refine ay (an (js:=[(4,21),(5,22)]) (by kernel_rfl) fun gd hf=>?_) ?_
     ·have dG:=(G.bu _).trans hf.le;refine ai rfl ?_;refine ai rfl ?_;apply aj;refine aB rfl ?_;refine aW T.ok rfl (aU.mono dG) (y:=r[k]) (cZ rfl Vf) rfl rfl rfl rfl rfl rfl ?_;intro b p ys aL d_;exact⟨_,rfl,a_.refl _,b,p,rfl,by rw[←show ys=[Value.int .i64 r[k]]from d_];exact aL⟩
     refine ay (an (js:=[(6,23)]) (by kernel_rfl) fun gd hf=>?_) ?_
     ·skip;refine aZ fun v6 h6=>?_;apply aj;obtain⟨b,p,rfl,aL⟩:=h6;refine aB rfl ?_;refine bJ T.ok 0 rfl aL rfl rfl ?_;refine⟨_,rfl,a_.refl _,?_⟩;exact rfl
     exact Dy [[3,7]] (by kernel_rfl) rfl
    clear hs;intro g1 hs ah;replace gM:=gM.trans ah;apply bW;by_cases he:l[k]=r[k]
    ·refine aV (b:=l[k] !=r[k]) (by simp[he]) rfl ?_;apply aF;apply bR;apply ar;apply aA;refine Wp 3 rfl ?_;apply aE;refine fun a ha=>⟨l.length-(k+1),by omega,k+1,_,rfl,hs,gM,by omega,rfl,?_,ha.keep ⟨rfl,rfl,kI rfl (by rw[wr (by omega) (by omega)];omega),trivial⟩⟩
     rw[List.take_succ_eq_append_getElem bC,List.take_succ_eq_append_getElem Vf,dx,he]
    refine aM (b:=l[k] !=r[k]) (by simp[he]) rfl ?_;refine aY rfl ?_;refine aI (aX rfl rfl (hs.ret ?_));rw[decide_eq_false (fun e=>he (by subst e;rfl))]
   refine aV (b:=decide ((k:Int)<(l.length:Int))) (by simp;omega) rfl ?_;rw[List.take_of_length_le (by omega),List.take_of_length_le (by omega)]at dx;apply bF;apply bG;apply bG;apply c_;apply ar;refine aY rfl ?_;refine aI (aX rfl rfl (hs.ret ?_));rw[decide_eq_true dx]
  refine aM (b:=(l.length:Int) !=(r.length:Int)) (by simp;omega) rfl ?_;refine aY rfl ?_;refine aI (aX rfl rfl (hs.ret ?_));rw[decide_eq_false (fun e=>Ej (by rw[e]))]
end Go.Proofs.YtgehbndkogohpaaGreatDoor
