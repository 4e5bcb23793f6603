/- Parts of the proof, from: The reference's Valid. -/
import Derived.Test.YtbfjdfecgiegpaaGreatDoorYa
import Derived.Test.YtbfjdfecgiegpaaGreatDoorYc
import Derived.Test.YtbfjdfecgiegpaaGreatDoorYl
import Derived.Test.YtbfjdfecgiegpaaGreatDoorYj
import Derived.Test.YtbfjdfecgiegpaaGreatDoorYh
import Derived.Test.YtbfjdfecgiegpaaGreatDoorYk
namespace Go.Proofs.YtbfjdfecgiegpaaGreatDoor
open Go Go.K Tryz
set_option maxRecDepth 10000
attribute [local irreducible] W WL cS bh bY bB bA bC cL cD
set_option maxHeartbeats 8000000
theorem yc{n:Int}: ∀(a pre b:List cQ),fq n pre (a++b)=(fq n pre a&&fq n (pre++a) b)
 |[],pre,b=>by simp[fq]
 |w::a,pre,b=>by rw[List.cons_append,fq,fq,yc a,List.append_assoc];simp only[Bool.and_assoc,List.singleton_append]
theorem GS{ws:List cQ}{k:Nat}(hk:k<ws.length)(h0:0<k):(ws.take k).getLast? =some (ws[k-1]'(by omega)):=by rw[List.getLast?_eq_getElem?,List.length_take,Nat.min_eq_left (by omega),List.getElem?_take_of_lt (by omega),List.getElem?_eq_getElem (by omega)]
theorem CF{n:Int}{ws:List cQ}{k:Nat}(hk:k<ws.length)(h:fq n [] (ws.take k)=true):
  fq n [] (ws.take (k+1))=(dA ws[k] n&&(decide (k=0)||(k≠0&&oa (ws[k-1]'(by omega)) ws[k]))):=by
 rw[List.take_succ_eq_append_getElem hk,vn,h,Bool.true_and,List.nil_append];congr 1;by_cases h0:k=0
 ·subst h0;rfl
 unfold follows;rw[GS hk (by omega)];simp[h0]
theorem Eh{n:Int}{ws:List cQ}{k:Nat}(h:fq n [] (ws.take k)=false):fq n [] ws=false:=by
 conv=>lhs;rw[←List.take_append_drop k ws]
 rw[yc,h,Bool.false_and]
theorem Mg{ss:List Step}{n:Int}{k:Nat}(hk:k<ss.length)(h:cf ss[k] n=false):(ss.all fun s=>cf s n)=false:=by rw[List.all_eq_false];exact⟨ss[k],List.getElem_mem hk,by rw[h];decide⟩
def CG(w:cQ):Fact:=⟨fun v g=> ∃b p,v= .pointer (some ⟨b,p,none⟩)∧EP g b p (pf w),fun _ _ _ hf ⟨b,p,e,h⟩=>⟨b,p,e,h.mono hf.le⟩⟩
theorem BI(v:Value)(f:bG)(g:G)(dt:fP g v f):cN prog 172 #[v] g fun _ r=>r= .bool (valid f):=by
 obtain⟨a1,n1,c1,a2,n2,c2,rfl,aH,aW⟩:=id dt;obtain⟨_,_,e⟩:=aH.isSlice;obtain⟨rfl,rfl,rfl⟩:=Value.slice.inj e;clear e;obtain⟨_,_,e⟩:=aW.isSlice;obtain⟨rfl,rfl,rfl⟩:=Value.slice.inj e;clear e;clear dt;have rK:=aH.ef;have Uo:=aW.ef;unfold maxLen at rK Uo;have hs:=St.start g;have ar:=G.le.refl g;refine enter func172 rfl ntmps172 rfl<|cR<|EH hs rfl fun bx g1 hs ai=>?_;obtain⟨ar,aH,aW⟩:=dR ai ar aH aW;obtain⟨g2,bS,aV,ai,aL⟩:=hs.bd (i:=0) rfl;replace hs:=aV;clear aV;rw[←bS];obtain⟨ar,aH,aW⟩:=dR ai ar aH aW;have aD:=aL;clear aL bS ai;refine aX rfl<|Hw [.z aD] rfl<|az<|sP 4 [.z aD,.z aD] rfl<|Ev rfl (CB f.dm f.dv _) hs fun g1 hs ai=>?_;obtain⟨ar,aD,aH,aW⟩:=dK ai ar aD aH aW;refine Wp 2 rfl ?_;have Fw:eg ⟨f.dm,f.dv,[],[]⟩=eg f:=rfl;rw[Fw];refine cH (want:=false) (x:=!within f.steps.length 1 40) 3 aK rfl rfl rfl rfl (.inr ⟨rfl,rfl,rfl⟩) rfl rfl rfl rfl (fun hb Q' eS=>?_) (fun g' hf=>?_)
 ·refine Wp 1 rfl<|sO rfl (gO _ _ _ _) ?_;rintro g1 _ aP rfl;replace hs:=hs.call aP;have ai:=aP.le;obtain⟨ar,aD,aH,aW⟩:=dK ai ar aD aH aW;exact Wp 1 rfl<|aA<|fun a ha=>eS _ a aP (ha.kp rfl)
 replace hs:=hs.call hf;have ai:=hf.le;obtain⟨ar,aD,aH,aW⟩:=dK ai ar aD aH aW;refine Wp 1 rfl<|cH (want:=false) (x:=decide (20<(f.windows.length:Int))) 4 aK rfl rfl rfl rfl (.inr ⟨rfl,rfl,rfl⟩) rfl rfl rfl rfl (fun hb Q' eS=>?_) (fun g' hf=>?_)
 ·exact q5 4 [.z aD] rfl<|aA<|fun a ha=>eS _ a (a_.refl _) (ha.kp rfl)
 replace hs:=hs.call hf;have ai:=hf.le;obtain⟨ar,aD,aH,aW⟩:=dK ai ar aD aH aW;apply b_;have hvalid:valid f=(eg f&&within f.steps.length 1 40&&decide ((f.windows.length:Int)≤20)&&f.steps.all (fun s=>cf s f.steps.length)&&fq f.steps.length [] f.windows):=rfl;by_cases hc:(!eg f|| !within f.steps.length 1 40||decide (20<(f.windows.length:Int)))=true
 ·refine aJ hc rfl<|aZ rfl<|aG<|nw rfl hs ?_;rw[hvalid];simp only[Bool.or_eq_true,Bool.not_eq_true',decide_eq_true_eq]at hc;rcases hc with(h|h)|h
  ·rw[h];simp
  ·rw[h];simp
  have e:decide ((f.windows.length:Int)≤20)=false:=by simp;omega
  rw[e];simp
 refine aQ (Bool.eq_false_iff.2 hc) rfl ?_;simp only[Bool.not_eq_true,Bool.or_eq_false_iff,Bool.not_eq_false',decide_eq_false_iff_not]at hc;obtain⟨⟨hm,hw⟩,YV⟩:=hc;have Sb:decide ((f.windows.length:Int)≤20)=true:=by simp;omega
 rw[hm,hw,Sb,Bool.true_and,Bool.true_and,Bool.true_and]at hvalid;refine aF<|aq<|az<|aZ rfl<|aI ?_;have pL:=aH;have JM:=aW;have mP:=aD;have OH:=ar
 refine bK (fun m a' w=> ∃(k:Nat) (g4:G),w=g4.w∧St g g4 []∧G.le g' g4∧k≤f.steps.length∧m=f.steps.length-k∧(∀j (h:j<f.steps.length),j<k→cf f.steps[j] f.steps.length=true)∧
  Fr 73 [] [(1,vP bx),(3,vI f.steps.length),(4,vI k)] a') f.steps.length (fun a' ha=>⟨0,g',rfl,hs,G.le.refl _,Nat.zero_le _,rfl,fun _ _ h=>by omega,ha.kp rfl⟩) ?_
 clear hs ar aH aW aD;rintro m a' _ ⟨k,g4,rfl,hs,fN,hk,rfl,de,dW⟩;have aH:=pL.mono fN;have aW:=JM.mono fN;have aD:=mP.mono fN;revert a';refine ct<|az<|aZ rfl ?_;by_cases bt:k<f.steps.length
 ·refine aJ (b:=_) ?_ rfl ?_
  ·simp;omega
  have eH:dJ f.steps (k:Int)=some f.steps[k]:=by simp[dJ,bt]
  have mO:=Mg (ss:=f.steps) (n:=f.steps.length) bt;have j_:cf f.steps[k] f.steps.length=true→ ∀j (h:j<f.steps.length),j<k+1→cf f.steps[j] f.steps.length=true:=by
   intro h1 j h h2;by_cases hj:j=k
   ·subst hj;exact h1
   exact de j h (by omega)
  generalize f.steps[k]=s at*;refine aF<|aq<|az<|aI<|sP 3 [.z aD] rfl<|zc (y:=s) aH eH rfl ?_;rintro bq pq ys aL ⟨ta,tn,tc,na,nn,nc,rfl,cd,bR⟩;refine q5 1 [.e aL 0] rfl<|Wp 1 rfl<|Ev rfl (Fv _ s f.steps.length _ ⟨_,rfl,_,_,_,_,_,_,rfl,cd,bR⟩ (by omega) (by omega)) hs fun g1 hs ai=>?_;obtain⟨fN,aD,aW⟩:=dR ai fN aD aW;refine aX rfl ?_;cases e1:cf s f.steps.length with
  |false=>
   refine aas rfl<|aZ rfl<|aG<|nw rfl hs ?_;rw[hvalid,mO e1,Bool.false_and]
  |true=>
   exact aar rfl<|aF<|bJ<|aq<|an<|Wp 3 rfl<|aA<|fun a ha=>⟨f.steps.length-(k+1),by omega,k+1,_,rfl,hs,fN,by omega,rfl,j_ e1,ha.keep ⟨rfl,rfl,kW rfl,trivial⟩⟩
 refine aQ (b:=_) ?_ rfl ?_
 ·simp;omega
 have dj:(f.steps.all fun s=>cf s f.steps.length)=true:=by rw[List.all_eq_true];intro s hs;obtain⟨j,hj,rfl⟩:=List.getElem_of_mem hs;exact de j hj (by omega)
 rw[dj,Bool.true_and]at hvalid;clear de dj;refine bc<|bg<|bg<|cA<|aq<|az<|aZ rfl<|aI ?_;have Yi:=aW;have pN:=aD;have yH:=hs
 refine bK (fun m a' w=> ∃(k:Nat) (g5:G),w=g5.w∧St g g5 []∧G.le g4 g5∧k≤f.windows.length∧m=f.windows.length-k∧fq f.steps.length [] (f.windows.take k)=true∧
  Fr 73 [] [(1,vP bx),(3,vI f.steps.length),(5,vI k)] a') f.windows.length (fun a' ha=>⟨0,g4,rfl,hs,G.le.refl _,Nat.zero_le _,rfl,rfl,ha.kp rfl⟩) ?_
 clear hs yH aH aW aD fN bt hk;rintro m a' _ ⟨k,g5,rfl,hs,fN,hk,rfl,de,dW⟩;have aW:=Yi.mono fN;have aD:=pN.mono fN;revert a';refine ct<|az<|Hw [.z aD] rfl ?_;by_cases bt:k<f.windows.length
 ·refine aJ (b:=_) ?_ rfl ?_
  ·simp;omega
  have eH:dJ f.windows (k:Int)=some f.windows[k]:=by simp[dJ,bt]
  have JN:=CF (n:=f.steps.length) bt de;have No:=fun h=>Eh (n:=f.steps.length) (ws:=f.windows) (k:=k+1) h;have Ks:0<k→dJ f.windows ((k-1:Nat):Int)=some (f.windows[k-1]'(by omega)):=fun h=>bZ rfl (by omega);generalize f.windows[k-1]'(by omega)=wp at*;generalize f.windows[k]=w0 at*;cases e1:dA w0 f.steps.length with
  |false=>
   rw[e1,Bool.false_and]at JN;have Yj:valid f=false:=by rw[hvalid,No JN]
   refine aF<|aq<|az<|aI<|az ?_;apply bD hs (eF (fe (.f (CG (w0))::(dn (dn (gU (eF (fe [])))))))) 27 [(26,72)] (by kernel_rfl) rfl
   ·refine pO [[],[0],[]] [.e aD 3] (St.start _) rfl<|fR [(1,47),(2,48)] (fun gd hf=>?_) ?_
    ·have eT:=(G.bI _).trans hf.le;refine aat rfl<|aj<|ay rfl<|aR T.ok rfl (aW.mono eT) (y:=w0) eH rfl rfl rfl rfl rfl rfl ?_;rintro b p ys aL rfl;exact⟨_,rfl,a_.refl _,b,p,rfl,aL⟩
    refine fR [(3,49)] (fun gd hf=>?_) ?_
    ·skip;refine ba fun v3 h3=>?_;apply aj;obtain⟨b,p,rfl,aL⟩:=h3;refine ay rfl<|cI T.ok 0 rfl aL rfl rfl<|⟨_,rfl,a_.refl _,?_⟩;exact rfl
    refine EF [[]] rfl<|fR [(4,50),(5,51)] (fun gd hf=>?_) ?_
    ·skip;refine aat rfl<|aj<|ay rfl<|aC (Wc 227) aK rfl rfl rfl rfl rfl (nL w0 f.steps.length _ (by omega) (by omega)) fun g' v h1 h2=>⟨g',rfl,h1,?_⟩
     rw[h2];exact congrArg Value.bool e1
    exact HW [[6],[7],[8],[9,8],[10,8,8],[11],[12,11],[11],[14,11],[13,15,11],[16,11],[11],[18,11],[11],[19,20,11],[21,11],[17,22,11,11],[23,11],[11,24,8],[8,25]] rfl
   clear hs;intro g1 hs ai;obtain⟨fN,aD,aW⟩:=dR ai fN aD aW;refine b_<|aas rfl<|aZ rfl<|aG<|nw rfl hs ?_;rw[Yj]
  |true=>
   rw[e1,Bool.true_and]at JN;cases e2:decide (0<(k:Int))with
   |false=>
    have De:k=0:=by simpa using e2
    have j_:fq f.steps.length [] (f.windows.take (k+1))=true:=by rw[JN];simp[De]
    refine aF<|aq<|az<|aI<|az ?_;apply bD hs (eF (fe (.f (CG (w0))::(dn (dn (gU (eF (fe [])))))))) 27 [(26,72)] (by kernel_rfl) rfl
    ·refine pO [[],[0],[]] [.e aD 3] (St.start _) rfl<|fR [(1,47),(2,48)] (fun gd hf=>?_) ?_
     ·have eT:=(G.bI _).trans hf.le;refine aat rfl<|aj<|ay rfl<|aR T.ok rfl (aW.mono eT) (y:=w0) eH rfl rfl rfl rfl rfl rfl ?_;rintro b p ys aL rfl;exact⟨_,rfl,a_.refl _,b,p,rfl,aL⟩
     refine fR [(3,49)] (fun gd hf=>?_) ?_
     ·skip;refine ba fun v3 h3=>?_;apply aj;obtain⟨b,p,rfl,aL⟩:=h3;refine ay rfl<|cI T.ok 0 rfl aL rfl rfl<|⟨_,rfl,a_.refl _,?_⟩;exact rfl
     refine EF [[]] rfl<|fR [(4,50),(5,51)] (fun gd hf=>?_) ?_
     ·skip;refine aat rfl<|aj<|ay rfl<|aC (Wc 227) aK rfl rfl rfl rfl rfl (nL w0 f.steps.length _ (by omega) (by omega)) fun g' v h1 h2=>⟨g',rfl,h1,?_⟩
      rw[h2];exact congrArg Value.bool e1
     exact EF [[6],[7],[8]] rfl<|fR [(9,55),(8,54)] (fun gd hf=>aaw rfl (aaL rfl (congrArg Value.bool e2)))<|HW [[10,8,8],[11],[12,11],[11],[14,11],[13,15,11],[16,11],[11],[18,11],[11],[19,20,11],[21,11],[17,22,11,11],[23,11],[11,24,8],[8,25]] rfl
    clear hs;intro g1 hs ai;obtain⟨fN,aD,aW⟩:=dR ai fN aD aW;refine b_<|aar rfl<|aF<|bJ<|aq<|an<|Wp 3 rfl<|aA<|fun a ha=>⟨f.windows.length-(k+1),by omega,k+1,_,rfl,hs,fN,by omega,rfl,j_,ha.keep ⟨rfl,rfl,kW rfl,trivial⟩⟩
   |true=>
    have De:0<k:=by simpa using e2
    have Ks:=Ks De;have Up:fq f.steps.length [] (f.windows.take (k+1))=oa wp w0:=by rw[JN,decide_eq_false (show ¬k=0 by omega),decide_eq_true (show k≠0 by omega)];rfl
    cases e3:oa wp w0 with
    |false=>
     have Yj:valid f=false:=by rw[hvalid,No (Up.trans e3)]
     refine aF<|aq<|az<|aI<|az ?_;apply bD hs (eF (fe (.f (CG (w0))::(dn (gU (.f (CG (wp))::(gU (.f (CG (w0))::(gU (fe [])))))))))) 27 [(26,72)] (by kernel_rfl) rfl
     ·refine pO [[],[0],[]] [.e aD 3] (St.start _) rfl<|fR [(1,47),(2,48)] (fun gd hf=>?_) ?_
      ·have eT:=(G.bI _).trans hf.le;refine aat rfl<|aj<|ay rfl<|aR T.ok rfl (aW.mono eT) (y:=w0) eH rfl rfl rfl rfl rfl rfl ?_;rintro b p ys aL rfl;exact⟨_,rfl,a_.refl _,b,p,rfl,aL⟩
      refine fR [(3,49)] (fun gd hf=>?_) ?_
      ·skip;refine ba fun v3 h3=>?_;apply aj;obtain⟨b,p,rfl,aL⟩:=h3;refine ay rfl<|cI T.ok 0 rfl aL rfl rfl<|⟨_,rfl,a_.refl _,?_⟩;exact rfl
      refine EF [[]] rfl<|fR [(4,50),(5,51)] (fun gd hf=>?_) ?_
      ·skip;refine aat rfl<|aj<|ay rfl<|aC (Wc 227) aK rfl rfl rfl rfl rfl (nL w0 f.steps.length _ (by omega) (by omega)) fun g' v h1 h2=>⟨g',rfl,h1,?_⟩
       rw[h2];exact congrArg Value.bool e1
      refine EF [[6],[7],[8]] rfl<|fR [(9,55),(8,54)] (fun gd hf=>aaw rfl (aaL rfl (congrArg Value.bool e2)))<|pO [[10,8,8],[11],[12,11],[11]] [.e aD 3] (St.start _) rfl<|fR [(14,60),(11,57)] (fun gd hf=>aaw rfl (aaL rfl (congrArg (Value.int .i64) (show _=((k-1:Nat):Int)from by rw[wq];omega))))<|fR [(13,59),(15,61),(11,57)] (fun gd hf=>?_) ?_
      ·have eT:=(G.bI _).trans hf.le;refine aau rfl<|aj<|ay rfl<|aR T.ok rfl (aW.mono eT) (y:=wp) Ks rfl rfl rfl rfl rfl rfl ?_;rintro b p ys aL rfl;exact⟨_,rfl,a_.refl _,b,p,rfl,aL⟩
      refine fR [(16,62),(11,57)] (fun gd hf=>?_) ?_
      ·skip;refine ba fun Sc Qo=>?_;refine ah rfl ?_;apply aj;obtain⟨b,p,rfl,aL⟩:=Qo;refine ay rfl<|cI T.ok 0 rfl aL rfl rfl<|⟨_,rfl,a_.refl _,?_⟩;exact rfl
      refine pO [[11],[18,11],[11]] [.e aD 3] (St.start _) rfl<|fR [(19,65),(20,66),(11,57)] (fun gd hf=>?_) ?_
      ·have eT:=(G.bI _).trans hf.le;refine aau rfl<|aj<|ay rfl<|aR T.ok rfl (aW.mono eT) (y:=w0) eH rfl rfl rfl rfl rfl rfl ?_;rintro b p ys aL rfl;exact⟨_,rfl,a_.refl _,b,p,rfl,aL⟩
      refine fR [(21,67),(11,57)] (fun gd hf=>?_) ?_
      ·skip;refine ba fun v21 SX=>?_;refine ah rfl ?_;apply aj;obtain⟨b,p,rfl,aL⟩:=SX;refine ay rfl<|cI T.ok 0 rfl aL rfl rfl<|⟨_,rfl,a_.refl _,?_⟩;exact rfl
      refine fR [(17,63),(22,68),(11,57),(11,57)] (fun gd hf=>?_) ?_
      ·skip;refine aau rfl<|ah rfl<|aj<|ay rfl<|aC (Wc 171) aK rfl rfl rfl rfl rfl (ya wp w0 _) fun g' v h1 h2=>⟨g',rfl,h1,?_⟩
       rw[h2];exact congrArg Value.bool e3
      exact HW [[23,11],[11,24,8],[8,25]] rfl
     clear hs;intro g1 hs ai;obtain⟨fN,aD,aW⟩:=dR ai fN aD aW;refine b_<|aas rfl<|aZ rfl<|aG<|nw rfl hs ?_;rw[Yj]
    |true=>
     have j_:=Up.trans e3;refine aF<|aq<|az<|aI<|az ?_;apply bD hs (eF (fe (.f (CG (w0))::(dn (gU (.f (CG (wp))::(gU (.f (CG (w0))::(gU (fe [])))))))))) 27 [(26,72)] (by kernel_rfl) rfl
     ·refine pO [[],[0],[]] [.e aD 3] (St.start _) rfl<|fR [(1,47),(2,48)] (fun gd hf=>?_) ?_
      ·have eT:=(G.bI _).trans hf.le;refine aat rfl<|aj<|ay rfl<|aR T.ok rfl (aW.mono eT) (y:=w0) eH rfl rfl rfl rfl rfl rfl ?_;rintro b p ys aL rfl;exact⟨_,rfl,a_.refl _,b,p,rfl,aL⟩
      refine fR [(3,49)] (fun gd hf=>?_) ?_
      ·skip;refine ba fun v3 h3=>?_;apply aj;obtain⟨b,p,rfl,aL⟩:=h3;refine ay rfl<|cI T.ok 0 rfl aL rfl rfl<|⟨_,rfl,a_.refl _,?_⟩;exact rfl
      refine EF [[]] rfl<|fR [(4,50),(5,51)] (fun gd hf=>?_) ?_
      ·skip;refine aat rfl<|aj<|ay rfl<|aC (Wc 227) aK rfl rfl rfl rfl rfl (nL w0 f.steps.length _ (by omega) (by omega)) fun g' v h1 h2=>⟨g',rfl,h1,?_⟩
       rw[h2];exact congrArg Value.bool e1
      refine EF [[6],[7],[8]] rfl<|fR [(9,55),(8,54)] (fun gd hf=>aaw rfl (aaL rfl (congrArg Value.bool e2)))<|pO [[10,8,8],[11],[12,11],[11]] [.e aD 3] (St.start _) rfl<|fR [(14,60),(11,57)] (fun gd hf=>aaw rfl (aaL rfl (congrArg (Value.int .i64) (show _=((k-1:Nat):Int)from by rw[wq];omega))))<|fR [(13,59),(15,61),(11,57)] (fun gd hf=>?_) ?_
      ·have eT:=(G.bI _).trans hf.le;refine aau rfl<|aj<|ay rfl<|aR T.ok rfl (aW.mono eT) (y:=wp) Ks rfl rfl rfl rfl rfl rfl ?_;rintro b p ys aL rfl;exact⟨_,rfl,a_.refl _,b,p,rfl,aL⟩
      refine fR [(16,62),(11,57)] (fun gd hf=>?_) ?_
      ·skip;refine ba fun Sc Qo=>?_;refine ah rfl ?_;apply aj;obtain⟨b,p,rfl,aL⟩:=Qo;refine ay rfl<|cI T.ok 0 rfl aL rfl rfl<|⟨_,rfl,a_.refl _,?_⟩;exact rfl
      refine pO [[11],[18,11],[11]] [.e aD 3] (St.start _) rfl<|fR [(19,65),(20,66),(11,57)] (fun gd hf=>?_) ?_
      ·have eT:=(G.bI _).trans hf.le;refine aau rfl<|aj<|ay rfl<|aR T.ok rfl (aW.mono eT) (y:=w0) eH rfl rfl rfl rfl rfl rfl ?_;rintro b p ys aL rfl;exact⟨_,rfl,a_.refl _,b,p,rfl,aL⟩
      refine fR [(21,67),(11,57)] (fun gd hf=>?_) ?_
      ·skip;refine ba fun v21 SX=>?_;refine ah rfl ?_;apply aj;obtain⟨b,p,rfl,aL⟩:=SX;refine ay rfl<|cI T.ok 0 rfl aL rfl rfl<|⟨_,rfl,a_.refl _,?_⟩;exact rfl
      refine fR [(17,63),(22,68),(11,57),(11,57)] (fun gd hf=>?_) ?_
      ·skip;refine aau rfl<|ah rfl<|aj<|ay rfl<|aC (Wc 171) aK rfl rfl rfl rfl rfl (ya wp w0 _) fun g' v h1 h2=>⟨g',rfl,h1,?_⟩
       rw[h2];exact congrArg Value.bool e3
      exact HW [[23,11],[11,24,8],[8,25]] rfl
     clear hs;intro g1 hs ai;replace fN:=G.le.trans fN ai;refine b_<|aar rfl<|aF<|bJ<|aq<|an<|Wp 3 rfl<|aA<|fun a ha=>⟨f.windows.length-(k+1),by omega,k+1,_,rfl,hs,fN,by omega,rfl,j_,ha.keep ⟨rfl,rfl,kW rfl,trivial⟩⟩
 refine aQ (b:=_) ?_ rfl ?_
 ·simp;omega
 obtain rfl:k=f.windows.length:=by omega
 rw[List.take_length]at de;refine bc<|bg<|bg<|cA<|aq<|aZ rfl<|aG<|nw rfl hs ?_;rw[hvalid,de]
end Go.Proofs.YtbfjdfecgiegpaaGreatDoor
namespace Go.Proofs.YtbfjdfecgiegpaaGreatDoor
def later(y:Y6)(i k:Nat):Bool:=
 (decide (k=i+1)&&decide (0<iX y.y2 8))||(decide (i+1<k)&&decide (iX (y.y2.fdiv (2^k)) 4=0))||(decide (k≤i)&&decide (iX (y.y2.fdiv (2^k)) 41=0))
theorem rf(l:List Int)(lo hi:Int):ascending l lo hi=true↔(∀m∈l,lo≤m∧m≤hi)∧l.Pairwise (· < ·):=by
 have go: ∀(l:List Int) (p:Int),kN lo hi p l=true↔(∀m∈l,lo≤m∧m≤hi)∧(p::l).Pairwise (· < ·):=by
  intro l
  induction l with
  |nil=>simp[kN]
  |cons n r ih=>
   intro p;simp only[kN,within,Bool.and_eq_true,decide_eq_true_eq,ih,List.pairwise_cons,List.mem_cons];constructor
   ·rintro⟨⟨⟨h1,h2⟩,h3⟩,h4,h5,h6⟩;refine⟨?_,?_,h5,h6⟩
    ·rintro m (rfl|hm)
     ·exact⟨h1,h2⟩
     exact h4 m hm
    rintro m (rfl|hm)
    ·exact h3
    have:=h5 m hm;omega
   rintro⟨h1,h2,h3,h4⟩;exact⟨⟨h1 n (.inl rfl),h2 n (.inl rfl)⟩,fun m hm=>h1 m (.inr hm),h3,h4⟩
 cases l with
 |nil=>simp[ascending]
 |cons n r=>
  simp only[ascending,within,Bool.and_eq_true,decide_eq_true_eq,go,List.mem_cons];constructor
  ·rintro⟨h1,h2,h3⟩;refine⟨?_,h3⟩;rintro m (rfl|hm)
   ·exact h1
   exact h2 m hm
  rintro⟨h1,h2⟩;exact⟨h1 n (.inl rfl),fun m hm=>h1 m (.inr hm),h2⟩
def GC(f:bG)(live:List Bool)(first n:Int):Prop:=gH f n∧first<n∧dh live n
inductive Wk(f:bG)(live:List Bool)(first:Int):Nat→Int→Prop where
 |start:Wk f live first 0 first
 |step {j:Nat} {u n:Int}:Wk f live first j u→n∈(bj f u).next→GC f live first n→Wk f live first (j+1) n
structure NC(f:bG)(live:List Bool)(first:Int)(p:List Int):Prop where
 head:p.head? =some first
 ok: ∀n∈p,n=first∨GC f live first n
 nodup:p.Nodup
 link: ∀i (h:i+1<p.length),p[i+1]∈(bj f p[i]).next
theorem fK(l:List Int)(n:Int):ck (l++[n])=n:=by unfold ck;simp
theorem uI{l:List Int}(h:l≠[]):ck l=l[l.length-1]'(by have:=List.length_pos_iff.2 h;omega):=by unfold ck;rw[List.getLastD_eq_getLast?,List.getLast?_eq_getElem?,List.getElem?_eq_getElem (by have:=List.length_pos_iff.2 h;omega)];rfl
theorem zK{l:List Int}(h:l≠[]):ck l∈l:=by rw[uI h];exact List.getElem_mem _
theorem NC.ne{f:bG}{live:List Bool}{first:Int}{p:List Int}(h:NC f live first p):p≠[]:=by intro e;have:=h.head;rw[e]at this;simp at this
theorem NC.snoc{f:bG}{live:List Bool}{first:Int}{p:List Int}(h:NC f live first p){n:Int}(hn:n∈(bj f (ck p)).next)(ha:GC f live first n)(X9:n∉p):NC f live first (p++[n]):=by
 have eO:=h.ne;have lK:=List.length_pos_iff.2 eO;refine⟨?_,fun m hm=>?_,?_,fun i hi=>?_⟩
 ·have:=h.head;cases p with
  |nil=>simp at this
  |cons a r=>simpa using this
 ·rcases List.mem_append.1 hm with h1|h1
  ·exact h.ok m h1
  rw[List.mem_singleton]at h1;exact .inr (h1▸ha)
 ·rw[List.nodup_append];exact⟨h.nodup,by simp,fun a dW b hb=>by rw[List.mem_singleton]at hb;subst hb;exact fun e=>X9 (e▸dW)⟩
 have hlen:(p++[n]).length=p.length+1:=by simp
 by_cases hl:i+1<p.length
 ·rw[List.getElem_append_left hl,List.getElem_append_left (by omega)];exact h.link i hl
 have e:i=p.length-1:=by omega
 subst e;rw[List.getElem_append_right (show p.length≤p.length-1+1 from by omega),List.getElem_append_left (show p.length-1<p.length from by omega)];simp only[show p.length-1+1-p.length=0 from by omega,List.getElem_cons_zero];rw[uI eO]at hn;exact hn
theorem Cx{f:bG}{o:List Bool}(hl:o.length=f.steps.length){m:Int}(hm:gH f m):o.getD m.toNat true=false↔ ¬dh o m:=by rw[←uG hl hm true];simp
theorem qR{live:List Bool}{first:Int}{l:List Int}: ∀{nx:List Int} {q:List (List Int)} {seen:List Bool},fM live first l nx q seen=none↔first∈nx
 |[],q,seen=>by simp[fM]
 |n::r,q,seen=>by
  unfold fM;by_cases h:n=first
  ·simp[h]
  rw[if_neg h];have:first∈n::r↔first∈r:=by rw[List.mem_cons];exact⟨fun h'=>h'.resolve_left (fun e=>h e.symm),.inr⟩
  rw[this];split
  ·exact qR
  exact qR
theorem qQ{f:bG}{live:List Bool}{first:Int}{l:List Int}(hl:live.length=f.steps.length): ∀{nx:List Int} {q:List (List Int)} {seen:List Bool},seen.length=f.steps.length→(∀n∈nx,gH f n)→first∉nx→
  ∃(news:List Int) (du:List Bool),fM live first l nx q seen=some (q++news.map (fun n=>l++[n]),du)∧(∀n∈news,n∈nx∧GC f live first n∧ ¬dh seen n)∧
   (∀m,gH f m→(dh du m↔dh seen m∨m∈news))∧(∀n∈nx,GC f live first n→dh du n)∧du.length=f.steps.length∧news.length+du.count false=seen.count false
 |[],q,seen,hs,_,_=>⟨[],seen,by simp[fM],by simp,by simp,by simp,hs,by simp⟩
 |n::r,q,seen,hs,hr,hf=>by
  have lx:=hr n (by simp);have HM: ∀m∈r,gH f m:=fun m hm=>hr m (by simp[hm]);have q_:first∉r:=fun h=>hf (by simp[h])
  have Nq: ¬n=first:=fun e=>hf (by simp[e])
  unfold fM;rw[if_neg Nq];by_cases hc:first<n∧live.getD n.toNat false=true∧seen.getD n.toNat true=false
  ·rw[if_pos hc];obtain⟨c1,c2,c3⟩:=hc;have ha:GC f live first n:=⟨lx,c1,c2⟩;have IY: ¬dh seen n:=(Cx hs lx).1 c3
   have Xi:seen[n.toNat]? =some false:=by
    have bt:n.toNat<seen.length:=by have:=lx.1;have:=lx.2;omega
    rw[List.getD_eq_getElem?_getD,List.getElem?_eq_getElem bt]at c3;rw[List.getElem?_eq_getElem bt];exact congrArg some c3
   have ph:=iK Xi;obtain⟨news,du,h1,h2,h3,h4,h5,h6⟩:=qQ hl (l:=l) (q:=q++[l++[n]]) (seen:=seen.set n.toNat true) (by simpa using hs) HM q_;refine⟨n::news,du,by rw[h1];simp,fun m hm=>?_,fun m hm=>?_,fun m hm Uk=>?_,h5,by simp;omega⟩
   ·rcases List.mem_cons.1 hm with rfl|hm
    ·exact⟨by simp,ha,IY⟩
    obtain⟨a1,a2,a3⟩:=h2 m hm;exact⟨by simp[a1],a2,fun h=>a3 ((iz hs lx (HM m a1)).2 (.inr h))⟩
   ·rw[h3 m hm,iz hs lx hm,List.mem_cons];constructor
    ·rintro((h|h)|h)
     ·exact .inr (.inl h)
     ·exact .inl h
     exact .inr (.inr h)
    rintro(h|h|h)
    ·exact .inl (.inr h)
    ·exact .inl (.inl h)
    exact .inr h
   rcases List.mem_cons.1 hm with rfl|hm
   ·rw[h3 m lx];exact .inl ((iz hs lx lx).2 (.inl rfl))
   exact h4 m hm Uk
  rw[if_neg hc];obtain⟨news,du,h1,h2,h3,h4,h5,h6⟩:=qQ hl (l:=l) (q:=q) hs HM q_;refine⟨news,du,h1,fun m hm=>?_,h3,fun m hm Uk=>?_,h5,h6⟩
  ·obtain⟨a1,a2,a3⟩:=h2 m hm;exact⟨by simp[a1],a2,a3⟩
  rcases List.mem_cons.1 hm with rfl|hm
  ·by_cases nd:dh seen m
   ·rw[h3 m lx];exact .inl nd
   exact absurd ⟨Uk.2.1,Uk.2.2,(Cx hs lx).2 nd⟩ hc
  exact h4 m hm Uk
structure GF(f:bG)(live:List Bool)(first:Int)(q:List (List Int))(seen:List Bool)(D:Int→Nat)(P:Int→Prop):Prop where
 ls:seen.length=f.steps.length
 s1: ∀n,gH f n→dh seen n→GC f live first n∧(P n∨ ∃p∈q,ck p=n)
 s2:P first∨ ∃p∈q,ck p=first
 s3: ∀u,P u→u=first∨(gH f u∧dh seen u)
 d0:D first=0
 GD: ∀p∈q,NC f live first p∧(∀n∈p,n=first∨dh seen n)∧D (ck p)+1=p.length
 done: ∀u,P u→first∉(bj f u).next∧ ∀n∈(bj f u).next,GC f live first n→dh seen n∧D n≤D u+1
 Px:q.Pairwise fun a b=>a.length≤b.length
 yS: ∀a∈q,∀b∈q,b.length≤a.length+1
 past: ∀u,P u→ ∀p∈q,D u+1≤p.length
theorem nt{f:bG}(cF:valid f=true){u:Int}(hu:gH f u): ∀n∈(bj f u).next,gH f n:=fun n hn=>rT (kz cF hu.1 hu.2) n hn
theorem GF.step{f:bG}(cF:valid f=true){live:List Bool}{first:Int}(hf:gH f first)(hl:live.length=f.steps.length){l:List Int}{rest:List (List Int)}{seen:List Bool}{D:Int→Nat}{P:Int→Prop}
  (h:GF f live first (l::rest) seen D P) (de:first∉(bj f (ck l)).next):
  ∃q' du D' P',fM live first l (bj f (ck l)).next rest seen=some (q',du)∧GF f live first q' du D' P'∧q'.length+du.count false+1=(l::rest).length+seen.count false:=by
 obtain⟨hp,sw,ZA⟩:=h.GD l (by simp);have eO:=hp.ne;have Kf:=zK eO;have zb:gH f (ck l):=by
  rcases hp.ok _ Kf with e|e
  ·rw[e];exact hf
  exact e.1
 have Pz:=sw _ Kf;obtain⟨news,du,h1,h2,h3,h4,h5,h6⟩:=qQ (f:=f) (live:=live) (first:=first) (l:=l) hl (q:=rest) h.ls (nt cF zb) de;have wk: ∀u,(u=first∨dh seen u)→u∉news:=fun u hu hn=>by
  obtain⟨_,a2,a3⟩:=h2 u hn;rcases hu with rfl|hu
  ·have:=a2.2.1;omega
  exact a3 hu
 have hD: ∀u,(u=first∨dh seen u)→(if u∈news then l.length else D u)=D u:=fun u hu=>if_neg (wk u hu);have my: ∀m,gH f m→dh seen m→dh du m:=fun m hm hs=>(h3 m hm).2 (.inl hs);have uH: ∀p∈rest,l.length≤p.length:=fun p hp=>(List.pairwise_cons.1 h.Px).1 p hp;have kP: ∀p,p∈rest++news.map (fun n=>l++[n])↔p∈rest∨ ∃n∈news,p=l++[n]:=fun p=>by
  rw[List.mem_append,List.mem_map];constructor
  ·rintro(h|⟨n,hn,rfl⟩)
   ·exact .inl h
   exact .inr ⟨n,hn,rfl⟩
  rintro(h|⟨n,hn,rfl⟩)
  ·exact .inl h
  exact .inr ⟨n,hn,rfl⟩
 have hlen: ∀p,p∈rest++news.map (fun n=>l++[n])→l.length≤p.length∧p.length≤l.length+1:=fun p hp=>by
  rcases(kP p).1 hp with hp|⟨n,_,rfl⟩
  ·exact⟨uH p hp,h.yS l (by simp) p (by simp[hp])⟩
  simp
 have dI: ∀u,P u→(u=first∨dh seen u):=fun u hu=>(h.s3 u hu).imp id (·.2);refine⟨_,du,fun u=>if u∈news then l.length else D u,fun u=>P u∨u=ck l,h1,⟨h5,fun n hn hs=>?_,?_,fun u hu=>?_,?_,fun p mh=>?_,fun u hu=>?_,?_,fun a ha b hb=>?_,fun u hu p mh=>?_⟩,?_⟩
 ·rcases(h3 n hn).1 hs with hs|hs
  ·obtain⟨a1,a2⟩:=h.s1 n hn hs;refine⟨a1,?_⟩;rcases a2 with a2|⟨p,mh,e⟩
   ·exact .inl (.inl a2)
   rcases List.mem_cons.1 mh with rfl|mh
   ·exact .inl (.inr e.symm)
   exact .inr ⟨p,(kP p).2 (.inl mh),e⟩
  exact⟨(h2 n hs).2.1,.inr ⟨l++[n],(kP _).2 (.inr ⟨n,hs,rfl⟩),fK _ _⟩⟩
 ·rcases h.s2 with h'|⟨p,mh,e⟩
  ·exact .inl (.inl h')
  rcases List.mem_cons.1 mh with rfl|mh
  ·exact .inl (.inr e.symm)
  exact .inr ⟨p,(kP p).2 (.inl mh),e⟩
 ·rcases hu with hu|rfl
  ·rcases h.s3 u hu with e|⟨a1,a2⟩
   ·exact .inl e
   exact .inr ⟨a1,my u a1 a2⟩
  rcases Pz with e|e
  ·exact .inl e
  exact .inr ⟨zb,my _ zb e⟩
 ·show(if first∈news then l.length else D first)=0;rw[hD first (.inl rfl)];exact h.d0
 ·rcases(kP p).1 mh with mh|⟨n,hn,rfl⟩
  ·obtain⟨a1,a2,a3⟩:=h.GD p (by simp[mh]);refine⟨a1,fun m hm=>?_,?_⟩
   ·rcases a2 m hm with e|e
    ·exact .inl e
    rcases a1.ok m hm with e'|e'
    ·exact .inl e'
    exact .inr (my m e'.1 e)
   show(if ck p∈news then l.length else D (ck p))+1=p.length;rw[hD _ (a2 _ (zK a1.ne))];exact a3
  obtain⟨b1,b2,b3⟩:=h2 n hn;refine⟨hp.snoc b1 b2 (fun hm=>wk n (sw n hm) hn),fun m hm=>?_,?_⟩
  ·rcases List.mem_append.1 hm with hm|hm
   ·rcases sw m hm with e|e
    ·exact .inl e
    rcases hp.ok m hm with e'|e'
    ·exact .inl e'
    exact .inr (my m e'.1 e)
   rw[List.mem_singleton]at hm;subst hm;exact .inr ((h3 m b2.1).2 (.inr hn))
  show(if ck (l++[n])∈news then l.length else D (ck (l++[n])))+1=(l++[n]).length;rw[fK,if_pos hn];simp
 ·rcases hu with hu|rfl
  ·obtain⟨a1,a2⟩:=h.done u hu;refine⟨a1,fun n hn ha=>?_⟩;obtain⟨b1,b2⟩:=a2 n hn ha;refine⟨my n ha.1 b1,?_⟩;show(if n∈news then l.length else D n)≤(if u∈news then l.length else D u)+1;rw[hD n (.inr b1),hD u (dI u hu)];exact b2
  refine⟨de,fun n hn ha=>⟨h4 n hn ha,?_⟩⟩;show(if n∈news then l.length else D n)≤(if ck l∈news then l.length else D (ck l))+1;rw[hD (ck l) Pz];by_cases L9:n∈news
  ·rw[if_pos L9];omega
  rw[if_neg L9];have nd:dh seen n:=((h3 n ha.1).1 (h4 n hn ha)).resolve_right L9;rcases(h.s1 n ha.1 nd).2 with a|⟨p,mh,e⟩
  ·have:=h.past n a l (by simp);omega
  have e1:=(h.GD p mh).2.2;have e2:=h.yS l (by simp) p mh;rw[e]at e1;omega
 ·rw[List.pairwise_append];refine⟨(List.pairwise_cons.1 h.Px).2,?_,fun a ha b hb=>?_⟩
  ·rw[List.pairwise_map];exact List.pairwise_of_forall (by simp)
  obtain⟨n,_,rfl⟩:=List.mem_map.1 hb;have:=h.yS l (by simp) a (by simp[ha]);simpa using this
 ·have h7:=hlen a ha;have h8:=hlen b hb;omega
 ·have h7:=hlen p mh;rcases hu with hu|rfl
  ·have:=h.past u hu l (by simp);show(if u∈news then l.length else D u)+1≤p.length;rw[hD u (dI u hu)];omega
  show(if ck l∈news then l.length else D (ck l))+1≤p.length;rw[hD _ Pz];omega
 simp only[List.length_append,List.length_map,List.length_cons];omega
theorem GF.walk{f:bG}{live:List Bool}{first:Int}{q:List (List Int)}{seen:List Bool}{D:Int→Nat}{P:Int→Prop}(h:GF f live first q seen D P){b:Nat}(hb: ∀p∈q,b<p.length):
  ∀{j:Nat} {u:Int},Wk f live first j u→j<b→P u∧D u≤j:=by
 intro j u hw
 induction hw with
 |start=>
  intro hj;refine⟨?_,by rw[h.d0];exact Nat.zero_le _⟩;rcases h.s2 with h'|⟨p,hp,e⟩
  ·exact h'
  have e1:=(h.GD p hp).2.2;rw[e,h.d0]at e1;have:=hb p hp;omega
 | @step j u n hu hn ha ih=>
  intro hj;obtain⟨h1,h2⟩:=ih (by omega);obtain⟨h3,h4⟩:=(h.done u h1).2 n hn ha;refine⟨?_,by omega⟩;rcases(h.s1 n ha.1 h3).2 with h'|⟨p,hp,e⟩
  ·exact h'
  have e1:=(h.GD p hp).2.2;rw[e]at e1;have:=hb p hp;omega
theorem D9{f:bG}(cF:valid f=true){live:List Bool}{first:Int}(hf:gH f first)(hl:live.length=f.steps.length): ∀(k:Nat) (q:List (List Int)) (seen:List Bool) (D:Int→Nat) (P:Int→Prop),
  GF f live first q seen D P→q.length+seen.count false≤k→
  (je f live first k q seen=[]→ ∀j u,Wk f live first j u→first∉(bj f u).next)∧
  (je f live first k q seen≠[]→NC f live first (je f live first k q seen)∧first∈(bj f (ck (je f live first k q seen))).next∧ ∀j u,Wk f live first j u→first∈(bj f u).next→(je f live first k q seen).length≤j+1):=by
 intro k
 induction k with
 |zero=>
  intro q seen D P h hk;have:q=[]:=List.eq_nil_of_length_eq_zero (by omega);subst this;unfold je;exact⟨fun _ j u hw=>(h.done u (h.walk (b:=j+1) (by simp) hw (by omega)).1).1,fun h=>absurd rfl h⟩
 |succ k ih=>
  intro q seen D P h hk;cases q with
  |nil=>
   unfold je;exact⟨fun _ j u hw=>(h.done u (h.walk (b:=j+1) (by simp) hw (by omega)).1).1,fun h=>absurd rfl h⟩
  |cons l rest=>
   unfold je;obtain⟨hp,_,_⟩:=h.GD l (by simp);by_cases sK:first∈(bj f (ck l)).next
   ·rw[qR.2 sK];refine⟨fun e=>absurd e hp.ne,fun _=>⟨hp,sK,fun j u hw KT=>?_⟩⟩;rcases Nat.lt_or_ge (j+1) l.length with bt|CU
    ·exfalso;have uH: ∀p∈l::rest,j+1<p.length:=fun p mh=>by
      rcases List.mem_cons.1 mh with rfl|mh
      ·exact bt
      have:=(List.pairwise_cons.1 h.Px).1 p mh;omega
     exact(h.done u (h.walk uH hw (by omega)).1).1 KT
    exact CU
   obtain⟨q',du,D',P',h1,h2,h3⟩:=h.step cF hf hl sK;rw[h1];exact ih q' du D' P' h2 (by omega)
theorem D7{f:bG}(cF:valid f=true){live:List Bool}{first:Int}(hf:gH f first)(hl:live.length=f.steps.length):
  (dT f live first=[]→ ∀j u,Wk f live first j u→first∉(bj f u).next)∧
  (dT f live first≠[]→NC f live first (dT f live first)∧first∈(bj f (ck (dT f live first))).next∧ ∀j u,Wk f live first j u→first∈(bj f u).next→(dT f live first).length≤j+1):=by
 unfold dT;refine D9 cF hf hl _ _ _ (fun _=>0) (fun _=>False) ⟨by simp,fun n _ h=>absurd h (gI _ _),.inr ⟨[first],by simp,rfl⟩,fun _ h=>h.elim,rfl,fun p hp=>?_,fun _ h=>h.elim,by simp,by simp,fun _ h=>h.elim⟩ (by simp);rw[List.mem_singleton]at hp;subst hp;exact⟨⟨rfl,by simp,by simp,fun i hi=>by simp at hi⟩,by simp,rfl⟩
def cmpL:List Int→List Int→Int
 |[],[]=>0
 |[],_::_=> -1
 |_::_,[]=>1
 |a::l,b::r=>if ff a b=0 then cmpL l r else ff a b
structure Wy where
 time:Int
 steps:List Int
def order(a b:Wy):Int:=ER [ff a.time b.time,ff a.steps.length b.steps.length,cmpL a.steps b.steps]
def better(w:Wy)(o:Option Wy):Bool:=match o with
 |none=>true
 |some x=>decide (order w x<0)
def ES(w:Wy)(o:List (Option Wy))(n:Int):List (Option Wy):=if better w (o.getD n.toNat none)=true then o.set n.toNat (some w)else o
def OL(p:Wy→Prop)(out:List (Option Wy)):Prop:=∀w,some w∈out→p w
theorem OL.add{p:Wy→Prop}{out:List (Option Wy)}(h:OL p out){w:Wy}(hw:p w)(n:Int):OL p (ES w out n):=by
 intro x hx;unfold ES at hx;split at hx
 ·rcases List.mem_or_eq_of_mem_set hx with h1|h1
  ·exact h x h1
  obtain rfl:=Option.some.inj h1;exact hw
 exact h x hx
theorem qj(a b:Int):ff a b<0↔a<b:=by
 unfold ff;by_cases h:a<b
 ·simp[h]
 by_cases h2:b<a<;>simp[h,h2]
theorem iQ(a b:Int):ff a b=0↔a=b:=by
 unfold ff;by_cases h:a<b
 ·simp[h];omega
 by_cases h2:b<a
 ·simp[h,h2];omega
 simp[h,h2];omega
theorem uJ(a b:Int):ff b a= -ff a b:=by
 unfold ff;by_cases h:a<b
 ·simp[h,show ¬b<a from by omega]
 by_cases h2:b<a<;>simp[h,h2]
theorem uK: ∀(a b:List Int),cmpL b a= -cmpL a b
 |[],[]=>rfl
 |[],_::_=>rfl
 |_::_,[]=>rfl
 |a::PA,b::bs=>by
  simp only[cmpL,uJ a b];by_cases h:ff a b=0
  ·rw[if_pos h,if_pos (by omega)];exact uK PA bs
  rw[if_neg h,if_neg (by omega)]
theorem uL: ∀(a b:List Int),cmpL a b=0↔a=b
 |[],[]=>by simp[cmpL]
 |[],_::_=>by simp[cmpL]
 |_::_,[]=>by simp[cmpL]
 |a::PA,b::bs=>by
  simp only[cmpL];by_cases h:ff a b=0
  ·rw[if_pos h,uL PA bs,(iQ a b).1 h];simp
  rw[if_neg h];have:a≠b:=fun e=>h ((iQ a b).2 e);simp[h,this]
theorem xS: ∀(a b c:List Int),cmpL a b<0→cmpL b c<0→cmpL a c<0
 |[],b,[],h1,h2=>by
  cases b with
  |nil=>simp[cmpL]at h1
  |cons x xs=>simp[cmpL]at h2
 |[],_,_::_,_,_=>by simp[cmpL]
 |_::_,[],_,h1,_=>by simp[cmpL]at h1
 |_::_,_::_,[],_,h2=>by simp[cmpL]at h2
 |a::PA,b::bs,c::cs,h1,h2=>by
  simp only[cmpL]at h1 h2⊢;have e1:=qj a b;have e2:=qj b c;have e3:=qj a c;have z1:=iQ a b;have z2:=iQ b c;have z3:=iQ a c;by_cases p1:ff a b=0
  ·rw[if_pos p1]at h1;have Fh:=z1.1 p1;subst Fh;by_cases p2:ff a c=0
   ·rw[if_pos p2]at h2⊢;exact xS PA bs cs h1 h2
   rw[if_neg p2]at h2⊢;exact h2
  rw[if_neg p1]at h1;have Fh:=e1.1 h1;by_cases p2:ff b c=0
  ·have Vk:=z2.1 p2;subst Vk;rw[if_neg p1];exact h1
  rw[if_neg p2]at h2;have Vk:=e2.1 h2;have:ff a c<0:=e3.2 (by omega);rw[if_neg (by omega)];exact this
def Le(a b:Wy):Prop:=order a b≤0
def Lt(a b:Wy):Prop:=order a b<0
theorem xT(a b:Wy):order b a= -order a b:=by
 unfold order;simp only[ER,uJ a.time b.time,uJ (a.steps.length:Int) b.steps.length,uK a.steps b.steps];by_cases h1:ff a.time b.time=0
 ·rw[if_pos h1,if_pos (by omega)];by_cases h2:ff (a.steps.length:Int) b.steps.length=0
  ·rw[if_pos h2,if_pos (by omega)];by_cases h3:cmpL a.steps b.steps=0
   ·rw[if_pos h3,if_pos (by omega)];rfl
   rw[if_neg h3,if_neg (by omega)]
  rw[if_neg h2,if_neg (by omega)]
 rw[if_neg h1,if_neg (by omega)]
theorem Bc(a b:Wy):Lt a b↔a.time<b.time∨(a.time=b.time∧(a.steps.length<b.steps.length∨(a.steps.length=b.steps.length∧cmpL a.steps b.steps<0))):=by
 unfold Lt order;simp only[ER];have e1:=qj a.time b.time;have z1:=iQ a.time b.time;have e2:=qj (a.steps.length:Int) b.steps.length;have z2:=iQ (a.steps.length:Int) b.steps.length;by_cases h1:ff a.time b.time=0
 ·rw[if_pos h1];have:=z1.1 h1;by_cases h2:ff (a.steps.length:Int) b.steps.length=0
  ·rw[if_pos h2];have:=z2.1 h2;by_cases h3:cmpL a.steps b.steps=0
   ·rw[if_pos h3];constructor
    ·intro h;simp at h
    rintro(h|⟨_,h|⟨_,h⟩⟩)<;>omega
   rw[if_neg h3];constructor
   ·intro h;exact .inr ⟨by omega,.inr ⟨by omega,h⟩⟩
   rintro(h|⟨_,h|⟨_,h⟩⟩)<;>omega
  rw[if_neg h2,e2];have h3: ¬((a.steps.length:Int)=b.steps.length):=fun e=>h2 (z2.2 e);constructor
  ·intro h;exact .inr ⟨by omega,.inl (by omega)⟩
  rintro(h|⟨_,h|⟨_,h⟩⟩)<;>omega
 rw[if_neg h1,e1];have h3: ¬(a.time=b.time):=fun e=>h1 (z1.2 e);constructor
 ·intro h;exact .inl h
 rintro(h|⟨_,_⟩)<;>omega
theorem D8(a b:Wy):order a b=0↔a=b:=by
 constructor
 ·intro h;have h1: ¬Lt a b:=by unfold Lt;omega
  have h2: ¬Lt b a:=by unfold Lt;rw[xT];omega
  rw[Bc]at h1 h2;have ht:a.time=b.time:=by
   rcases Int.lt_trichotomy a.time b.time with h|h|h
   ·exact absurd (.inl h) h1
   ·exact h
   exact absurd (.inl h) h2
  have hl:a.steps.length=b.steps.length:=by
   rcases Nat.lt_trichotomy a.steps.length b.steps.length with h|h|h
   ·exact absurd (.inr ⟨ht,.inl h⟩) h1
   ·exact h
   exact absurd (.inr ⟨ht.symm,.inl h⟩) h2
  have hs:cmpL a.steps b.steps=0:=by have h3: ¬cmpL a.steps b.steps<0:=fun h=>h1 (.inr ⟨ht,.inr ⟨hl,h⟩⟩);have h4: ¬cmpL b.steps a.steps<0:=fun h=>h2 (.inr ⟨ht.symm,.inr ⟨hl.symm,h⟩⟩);rw[uK]at h4;omega
  cases a;cases b;simp only[Wy.mk.injEq];exact⟨ht,(uL _ _).1 hs⟩
 rintro rfl;unfold order;have h1:=(iQ a.time a.time).2 rfl;have h2:=(iQ (a.steps.length:Int) a.steps.length).2 rfl;have h3:=(uL a.steps a.steps).2 rfl;simp[ER,h1,h2,h3]
theorem Lt.trans{a b c:Wy}(h1:Lt a b)(h2:Lt b c):Lt a c:=by
 rw[Bc]at h1 h2⊢;rcases h1 with h1|⟨h1,Qt|⟨Qt,X7⟩⟩<;>rcases h2 with h2|⟨h2,Qh|⟨Qh,X8⟩⟩
 ·exact .inl (by omega)
 ·exact .inl (by omega)
 ·exact .inl (by omega)
 ·exact .inl (by omega)
 ·exact .inr ⟨by omega,.inl (by omega)⟩
 ·exact .inr ⟨by omega,.inl (by omega)⟩
 ·exact .inl (by omega)
 ·exact .inr ⟨by omega,.inl (by omega)⟩
 exact .inr ⟨by omega,.inr ⟨by omega,xS _ _ _ X7 X8⟩⟩
theorem xQ(a b:Wy):Le a b↔Lt a b∨a=b:=by unfold Le Lt;rw[←D8 a b];omega
theorem Le.refl(a:Wy):Le a a:=(xQ a a).2 (.inr rfl)
theorem Le.trans{a b c:Wy}(h1:Le a b)(h2:Le b c):Le a c:=by
 rw[xQ]at h1 h2⊢;rcases h1 with h1|rfl
 ·rcases h2 with h2|rfl
  ·exact .inl (h1.trans h2)
  exact .inl h1
 exact h2
theorem Lt.le{a b:Wy}(h:Lt a b):Le a b:=(xQ a b).2 (.inl h)
theorem Pw{a b:Wy}: ¬Lt a b↔Le b a:=by unfold Lt Le;rw[xT a b];omega
theorem Le.time{a b:Wy}(h:Le a b):a.time≤b.time:=by
 rcases(xQ a b).1 h with h|rfl
 ·rcases(Bc a b).1 h with h|⟨h,_⟩<;>omega
 omega
def ext(f:bG)(w:Wy)(u:Int):Wy:=⟨w.time+(bj f u).min+f.dm,w.steps++[u]⟩
inductive Cw(f:bG)(a:Int):Int→Wy→Prop where
 |base {v:Int}:v∈eB (bj f a)→Cw f a v ⟨f.dm,[]⟩
 |step {u v:Int} {w:Wy}:Cw f a u w→v∈eB (bj f u)→Cw f a v (ext f w u)
theorem Cw.VC{f:bG}(cF:valid f=true){a v:Int}{w:Wy}(ha:gH f a)(h:Cw f a v w):gH f v:=by
 induction h with
 |base h=>exact gS cF ha.1 ha.2 _ h
 |step _ h ih=>exact gS cF ih.1 ih.2 _ h
def oy(a b:List Int):Prop:=a.length<b.length∨(a.length=b.length∧cmpL a b<0)
def vN(a b:List Int):Prop:=oy a b∨a=b
theorem Bb(a b:List Int):oy a b↔Lt ⟨0,a⟩ ⟨0,b⟩:=by
 rw[Bc];unfold oy;constructor
 ·intro h;exact .inr ⟨rfl,h⟩
 rintro(h|⟨_,h⟩)
 ·simp at h
 exact h
theorem Fm(a b:List Int):vN a b↔Le ⟨0,a⟩ ⟨0,b⟩:=by unfold vN;rw[Bb,xQ];simp
theorem oy.trans{a b c:List Int}(h1:oy a b)(h2:oy b c):oy a c:=by rw[Bb]at*;exact h1.trans h2
theorem vN.trans{a b c:List Int}(h1:vN a b)(h2:vN b c):vN a c:=by rw[Fm]at*;exact h1.trans h2
theorem vN.refl(a:List Int):vN a a:=.inr rfl
theorem wj{a b:List Int}: ¬oy a b↔vN b a:=by rw[Bb,Fm];exact Pw
theorem oy.le{a b:List Int}(h:oy a b):vN a b:=.inl h
theorem oy.irrefl(a:List Int): ¬oy a a:=wj.2 (.refl a)
theorem oy.snoc{a b:List Int}(h:oy a b)(x y:Int):oy (a++[x]) (b++[y]):=by
 rcases h with h|⟨h,h2⟩
 ·exact .inl (by simpa using h)
 refine .inr ⟨by simpa using h,?_⟩;have gen: ∀(a b:List Int),a.length=b.length→cmpL a b<0→cmpL (a++[x]) (b++[y])<0:=by
  intro a
  induction a with
  |nil=>intro b hb h;cases b with
   |nil=>simp[cmpL]at h
   |cons _ _=>simp at hb
  |cons c r ih=>intro b hb h;cases b with
   |nil=>simp at hb
   |cons d s=>
    simp only[List.cons_append,cmpL]at h⊢;by_cases e:ff c d=0
    ·rw[if_pos e]at h⊢;exact ih s (by simpa using hb) h
    rw[if_neg e]at h⊢;exact h
 exact gen a b h h2
theorem vN.snoc{a b:List Int}(h:vN a b)(x:Int):vN (a++[x]) (b++[x]):=by
 rcases h with h|rfl
 ·exact .inl (h.snoc x x)
 exact .refl _
theorem oy.last(a:List Int){x y:Int}(h:x<y):oy (a++[x]) (a++[y]):=by
 refine .inr ⟨by simp,?_⟩
 induction a with
 |nil=>simp[cmpL,ff,h]
 |cons c r ih=>
  simp only[List.cons_append,cmpL];rw[if_pos (by simp[ff])];exact ih
inductive AP(f:bG)(live:List Bool)(first:Int):List Int→Prop where
 |start:AP f live first [first]
 |step {s:List Int} {n:Int}:AP f live first s→n∈(bj f (ck s)).next→GC f live first n→AP f live first (s++[n])
structure nF(f:bG)(live:List Bool)(first:Int)(q:List (List Int))(seen:List Bool)(R:Int→List Int)(P:Int→Prop):Prop where
 ls:seen.length=f.steps.length
 r0:R first=[first]
 s1: ∀n,gH f n→dh seen n→GC f live first n∧(P n∨ ∃p∈q,ck p=n)
 s2:P first∨ ∃p∈q,ck p=first
 s3: ∀u,P u→u=first∨(gH f u∧dh seen u)
 GD: ∀p∈q,AP f live first p∧(ck p=first∨(gH f (ck p)∧dh seen (ck p)))∧R (ck p)=p
 done: ∀u,P u→first∉(bj f u).next∧ ∀n∈(bj f u).next,GC f live first n→dh seen n∧vN (R n) (R u++[n])
 Px:q.Pairwise oy
 past: ∀u,P u→ ∀p∈q,oy (R u) p
 yS: ∀a∈q,∀b∈q,b.length≤a.length+1∧(b.length=a.length+1→oy b.dropLast a)
theorem nF.begin(f:bG)(live:List Bool)(first:Int):nF f live first [[first]] (List.replicate f.steps.length false) (fun _=>[first]) fun _=>False:=
 ⟨by simp,rfl,fun n _ h=>absurd h (gI _ _),.inr ⟨[first],by simp,rfl⟩,fun _ h=>h.elim,fun p hp=>by
  rw[List.mem_singleton]at hp;subst hp;exact⟨.start,.inl rfl,rfl⟩,fun _ h=>h.elim,by simp,fun _ h=>h.elim,fun a ha b hb=>by
  rw[List.mem_singleton]at ha hb;subst ha;subst hb;simp⟩
theorem oy.nG(s:List Int)(n:Int):oy s (s++[n]):=.inl (by simp)
theorem vN.lt{a b c:List Int}(h1:vN a b)(h2:oy b c):oy a c:=by
 rcases h1 with h|rfl
 ·exact h.trans h2
 exact h2
theorem nF.ahead{f:bG}{live:List Bool}{first:Int}{q:List (List Int)}{seen:List Bool}{R:Int→List Int}{P:Int→Prop}(h:nF f live first q seen R P){t:List Int}(ht: ∀p∈q,vN t p):
  ∀{s:List Int},AP f live first s→oy s t→P (ck s)∧vN (R (ck s)) s:=by
 intro s hs
 induction hs with
 |start=>
  intro bt;have e:ck [first]=first:=rfl;rw[e,h.r0];refine⟨?_,.refl _⟩;rcases h.s2 with h'|⟨p,hp,e⟩
  ·exact h'
  have e2:=(h.GD p hp).2.2;rw[e,h.r0]at e2;exact absurd bt (wj.2 (by rw[e2];exact ht _ hp))
 | @step s n hs hn ha ih=>
  intro bt;obtain⟨h1,h2⟩:=ih ((oy.nG s n).trans bt);obtain⟨h3,h4⟩:=(h.done _ h1).2 n hn ha;have h5:vN (R n) (s++[n]):=h4.trans (h2.snoc n);rw[fK];refine⟨?_,h5⟩;rcases(h.s1 n ha.1 h3).2 with h'|⟨p,hp,e⟩
  ·exact h'
  have e2:=(h.GD p hp).2.2;rw[e]at e2;exact absurd (h5.lt bt) (wj.2 (by rw[e2];exact ht _ hp))
theorem nF.least{f:bG}{live:List Bool}{first:Int}{l:List Int}{rest:List (List Int)}{seen:List Bool}{R:Int→List Int}{P:Int→Prop}(h:nF f live first (l::rest) seen R P){s:List Int}(hs:AP f live first s)(hc:first∈(bj f (ck s)).next):vN l s:=by
 refine wj.1 fun bt=>?_;have hp:=(h.ahead (t:=l) (fun p hp=>by
  rcases List.mem_cons.1 hp with rfl|hp
  ·exact .refl _
  exact .inl ((List.pairwise_cons.1 h.Px).1 p hp)) hs bt).1
 exact(h.done _ hp).1 hc
theorem nF.none{f:bG}{live:List Bool}{first:Int}{seen:List Bool}{R:Int→List Int}{P:Int→Prop}(h:nF f live first [] seen R P){s:List Int}(hs:AP f live first s):first∉(bj f (ck s)).next:=
 (h.done _ (h.ahead (t:=s++[0]) (fun p hp=>by simp at hp) hs (oy.nG s 0)).1).1
theorem xR{live:List Bool}{first:Int}{l:List Int}: ∀{nx:List Int} {q:List (List Int)} {seen:List Bool},first∉nx→
  ∃(news:List Int) (du:List Bool),fM live first l nx q seen=some (q++news.map (fun n=>l++[n]),du)∧news.Sublist nx
 |[],q,seen,_=>⟨[],seen,by simp[fM],.slnil⟩
 |n::r,q,seen,hf=>by
  have q_:first∉r:=fun h=>hf (by simp[h])
  have Nq: ¬n=first:=fun e=>hf (by simp[e])
  unfold fM;rw[if_neg Nq];by_cases hc:first<n∧live.getD n.toNat false=true∧seen.getD n.toNat true=false
  ·rw[if_pos hc];obtain⟨news,du,h1,h2⟩:=xR (live:=live) (l:=l) (q:=q++[l++[n]]) (seen:=seen.set n.toNat true) q_;exact⟨n::news,du,by rw[h1];simp,h2.cons_cons n⟩
  rw[if_neg hc];obtain⟨news,du,h1,h2⟩:=xR (live:=live) (l:=l) (q:=q) (seen:=seen) q_;exact⟨news,du,h1,h2.cons n⟩
theorem vh{f:bG}(cF:valid f=true){u:Int}(hu:gH f u):(bj f u).next.Pairwise (· < ·):=by have h:=kz cF hu.1 hu.2;unfold cf at h;simp only[Bool.and_eq_true]at h;exact((rf _ _ _).1 h.1.1.1.2).2
theorem nF.step{f:bG}(cF:valid f=true){live:List Bool}{first:Int}(hf:gH f first)(hl:live.length=f.steps.length){l:List Int}{rest:List (List Int)}{seen:List Bool}{R:Int→List Int}{P:Int→Prop}
  (h:nF f live first (l::rest) seen R P) (de:first∉(bj f (ck l)).next):
  ∃q' du R' P',fM live first l (bj f (ck l)).next rest seen=some (q',du)∧nF f live first q' du R' P'∧q'.length+du.count false+1=(l::rest).length+seen.count false:=by
 obtain⟨Qn,sw,ZC⟩:=h.GD l (by simp);have zb:gH f (ck l):=by
  rcases sw with e|e
  ·rw[e];exact hf
  exact e.1
 obtain⟨news,du,h1,h2,h3,h4,h5,h6⟩:=qQ (f:=f) (live:=live) (first:=first) (l:=l) hl (q:=rest) h.ls (nt cF zb) de;obtain⟨Uj,ZD,k1,k2⟩:=xR (live:=live) (l:=l) (q:=rest) (seen:=seen) de;have L9:Uj=news:=by rw[h1]at k1;have e:=(Prod.mk.inj (Option.some.inj k1)).1;have e2:=List.append_cancel_left e;exact((List.map_inj_right (fun a b Fh=>by simpa using Fh)).1 e2).symm
 rw[L9]at k2;have Py:news.Pairwise (· < ·):=(vh cF zb).sublist k2;have wk: ∀u,(u=first∨dh seen u)→u∉news:=fun u hu hn=>by
  obtain⟨_,a2,a3⟩:=h2 u hn;rcases hu with rfl|hu
  ·have:=a2.2.1;omega
  exact a3 hu
 have hR: ∀u,(u=first∨dh seen u)→(if u∈news then l++[u]else R u)=R u:=fun u hu=>if_neg (wk u hu);have my: ∀m,gH f m→dh seen m→dh du m:=fun m hm hs=>(h3 m hm).2 (.inl hs);have uH: ∀p∈rest,oy l p:=fun p hp=>(List.pairwise_cons.1 h.Px).1 p hp;have kP: ∀p,p∈rest++news.map (fun n=>l++[n])↔p∈rest∨ ∃n∈news,p=l++[n]:=fun p=>by
  rw[List.mem_append,List.mem_map];constructor
  ·rintro(h|⟨n,hn,rfl⟩)
   ·exact .inl h
   exact .inr ⟨n,hn,rfl⟩
  rintro(h|⟨n,hn,rfl⟩)
  ·exact .inl h
  exact .inr ⟨n,hn,rfl⟩
 have dI: ∀u,P u→(u=first∨dh seen u):=fun u hu=>(h.s3 u hu).imp id (·.2);have Pz:ck l=first∨dh seen (ck l):=sw.imp id (·.2)
 have Jp: ∀p∈rest,∀n,oy p (l++[n]):=fun p hp n=>by
  obtain⟨n1,n2⟩:=h.yS l (by simp) p (by simp[hp]);by_cases e:p.length=l.length+1
  ·have hd:=n2 e;have X0:p≠[]:=fun e'=>by rw[e']at e;simp at e
   have:=hd.snoc (p.getLast X0) n;rwa [List.dropLast_concat_getLast]at this
  exact .inl (by simp;omega)
 refine⟨_,du,fun u=>if u∈news then l++[u]else R u,fun u=>P u∨u=ck l,h1,⟨h5,?_,fun n hn hs=>?_,?_,fun u hu=>?_,fun p mh=>?_,fun u hu=>?_,?_,fun u hu p mh=>?_,fun a ha b hb=>?_⟩,?_⟩
 ·show(if first∈news then l++[first]else R first)=[first];rw[hR first (.inl rfl)];exact h.r0
 ·rcases(h3 n hn).1 hs with hs|hs
  ·obtain⟨a1,a2⟩:=h.s1 n hn hs;refine⟨a1,?_⟩;rcases a2 with a2|⟨p,mh,e⟩
   ·exact .inl (.inl a2)
   rcases List.mem_cons.1 mh with rfl|mh
   ·exact .inl (.inr e.symm)
   exact .inr ⟨p,(kP p).2 (.inl mh),e⟩
  exact⟨(h2 n hs).2.1,.inr ⟨l++[n],(kP _).2 (.inr ⟨n,hs,rfl⟩),fK _ _⟩⟩
 ·rcases h.s2 with h'|⟨p,mh,e⟩
  ·exact .inl (.inl h')
  rcases List.mem_cons.1 mh with rfl|mh
  ·exact .inl (.inr e.symm)
  exact .inr ⟨p,(kP p).2 (.inl mh),e⟩
 ·rcases hu with hu|rfl
  ·rcases h.s3 u hu with e|⟨a1,a2⟩
   ·exact .inl e
   exact .inr ⟨a1,my u a1 a2⟩
  rcases Pz with e|e
  ·exact .inl e
  exact .inr ⟨zb,my _ zb e⟩
 ·show _∧_∧(if ck p∈news then l++[ck p]else R (ck p))=p;rcases(kP p).1 mh with mh|⟨n,hn,rfl⟩
  ·obtain⟨a1,a2,a3⟩:=h.GD p (by simp[mh]);rw[hR _ (a2.imp id (·.2))];refine⟨a1,?_,a3⟩;rcases a2 with e|⟨e1,e2⟩
   ·exact .inl e
   exact .inr ⟨e1,my _ e1 e2⟩
  obtain⟨b1,b2,b3⟩:=h2 n hn;rw[fK,if_pos hn];exact⟨.step Qn b1 b2,.inr ⟨b2.1,(h3 n b2.1).2 (.inr hn)⟩,rfl⟩
 ·rcases hu with hu|rfl
  ·obtain⟨a1,a2⟩:=h.done u hu;refine⟨a1,fun n hn ha=>?_⟩;obtain⟨b1,b2⟩:=a2 n hn ha;refine⟨my n ha.1 b1,?_⟩;show vN (if n∈news then l++[n]else R n) ((if u∈news then l++[u]else R u)++[n]);rw[hR n (.inr b1),hR u (dI u hu)];exact b2
  refine⟨de,fun n hn ha=>⟨h4 n hn ha,?_⟩⟩;show vN (if n∈news then l++[n]else R n) ((if ck l∈news then l++[ck l]else R (ck l))++[n]);rw[hR (ck l) Pz,ZC];by_cases L9:n∈news
  ·rw[if_pos L9];exact .refl _
  rw[if_neg L9];have nd:dh seen n:=((h3 n ha.1).1 (h4 n hn ha)).resolve_right L9;rcases(h.s1 n ha.1 nd).2 with a|⟨p,mh,e⟩
  ·exact((h.past n a l (by simp)).trans (oy.nG l n)).le
  have e1:=(h.GD p mh).2.2;rw[e]at e1;rw[e1];rcases List.mem_cons.1 mh with rfl|mh
  ·exact(oy.nG _ n).le
  exact(Jp p mh n).le
 ·rw[List.pairwise_append];refine⟨(List.pairwise_cons.1 h.Px).2,?_,fun a ha b hb=>?_⟩
  ·rw[List.pairwise_map];exact Py.imp fun Fh=>oy.last l Fh
  obtain⟨n,_,rfl⟩:=List.mem_map.1 hb;exact Jp a ha n
 ·show oy (if u∈news then l++[u]else R u) p;have QO:vN (R u) l∧(u=first∨dh seen u):=by
   rcases hu with hu|rfl
   ·exact⟨(h.past u hu l (by simp)).le,dI u hu⟩
   rw[ZC];exact⟨.refl _,Pz⟩
  rw[hR u QO.2];rcases(kP p).1 mh with mh|⟨n,_,rfl⟩
  ·exact QO.1.lt (uH p mh)
  exact QO.1.lt (oy.nG l n)
 ·have hlen: ∀p,p∈rest++news.map (fun n=>l++[n])→l.length≤p.length∧p.length≤l.length+1:=fun p hp=>by
   rcases(kP p).1 hp with hp|⟨n,_,rfl⟩
   ·refine⟨?_,(h.yS l (by simp) p (by simp[hp])).1⟩;rcases uH p hp with e|e<;>omega
   simp
  have h7:=hlen a ha;have h8:=hlen b hb;refine⟨by omega,fun e=>?_⟩;have vE:a.length=l.length:=by omega
  have MI:a∈rest:=by
   rcases(kP a).1 ha with ha|⟨n,_,rfl⟩
   ·exact ha
   simp at vE
  rcases(kP b).1 hb with hb|⟨n,_,rfl⟩
  ·exact(h.yS a (by simp[MI]) b (by simp[hb])).2 e
  rw[List.dropLast_concat];exact uH a MI
 simp only[List.length_append,List.length_map,List.length_cons];omega
theorem AP.ne{f:bG}{live:List Bool}{first:Int}{s:List Int}(h:AP f live first s):s≠[]:=by cases h<;>simp
theorem Cv{f:bG}(cF:valid f=true){live:List Bool}{first:Int}(hf:gH f first)(hl:live.length=f.steps.length): ∀(k:Nat) (q:List (List Int)) (seen:List Bool) (R:Int→List Int) (P:Int→Prop),
  nF f live first q seen R P→q.length+seen.count false≤k→
  (je f live first k q seen=[]→ ∀s,AP f live first s→first∉(bj f (ck s)).next)∧
  (je f live first k q seen≠[]→AP f live first (je f live first k q seen)∧first∈(bj f (ck (je f live first k q seen))).next∧ ∀s,AP f live first s→first∈(bj f (ck s)).next→vN (je f live first k q seen) s):=by
 intro k
 induction k with
 |zero=>
  intro q seen R P h hk;have:q=[]:=List.eq_nil_of_length_eq_zero (by omega);subst this;unfold je;exact⟨fun _ s hs=>h.none hs,fun h=>absurd rfl h⟩
 |succ k ih=>
  intro q seen R P h hk;cases q with
  |nil=>
   unfold je;exact⟨fun _ s hs=>h.none hs,fun h=>absurd rfl h⟩
  |cons l rest=>
   unfold je;obtain⟨hp,_,_⟩:=h.GD l (by simp);by_cases sK:first∈(bj f (ck l)).next
   ·rw[qR.2 sK];exact⟨fun e=>absurd e hp.ne,fun _=>⟨hp,sK,fun s hs hc=>h.least hs hc⟩⟩
   obtain⟨q',du,R',P',h1,h2,h3⟩:=h.step cF hf hl sK;rw[h1];exact ih q' du R' P' h2 (by omega)
theorem jz{f:bG}(cF:valid f=true){live:List Bool}{first:Int}(hf:gH f first)(hl:live.length=f.steps.length):
  (dT f live first=[]→ ∀s,AP f live first s→first∉(bj f (ck s)).next)∧
  (dT f live first≠[]→AP f live first (dT f live first)∧first∈(bj f (ck (dT f live first))).next∧ ∀s,AP f live first s→first∈(bj f (ck s)).next→vN (dT f live first) s):=by
 unfold dT;exact Cv cF hf hl _ _ _ _ _ (nF.begin f live first) (by simp)
inductive Cl(f:bG)(live:List Bool)(first:Int):Nat→Int→Prop where
 |one {n:Int}:first∈(bj f n).next→Cl f live first 1 n
 |more {d:Nat} {n c:Int}:Cl f live first d c→c∈(bj f n).next→GC f live first c→Cl f live first (d+1) n
theorem AP.cl{f:bG}{live:List Bool}{first:Int}{s:List Int}(h:AP f live first s): ∀{d:Nat},Cl f live first d (ck s)→Cl f live first (s.length-1+d) first:=by
 induction h with
 |start=>intro d hc;rw[show [first].length-1+d=d from by simp];exact hc
 | @step s n hs hn ha ih=>
  intro d hc;rw[fK]at hc;have:=ih (.more hc hn ha);have hp:=List.length_pos_iff.2 hs.ne;rw[List.length_append,List.length_singleton,show s.length+1-1+d=s.length-1+(d+1)from by omega];exact this
theorem AP.Jq{f:bG}{live:List Bool}{first:Int}{s:List Int}(h:AP f live first s)(hc:first∈(bj f (ck s)).next):Cl f live first s.length first:=by have:=h.cl (.one hc);have hp:=List.length_pos_iff.2 h.ne;rwa [show s.length-1+1=s.length from by omega]at this
theorem Cl.pos{f:bG}{live:List Bool}{first:Int}{d:Nat}{n:Int}(h:Cl f live first d n):0<d:=by cases h<;>omega
def dg(dist:List Int)(n:Int):Int:=dist.getD n.toNat 0
def L_(first:Int)(d:Nat)(dist:List Int)(c:Int):Prop:=(d=1∧c=first)∨(1<d∧first<c∧dg dist c=(d:Int)-1)
structure ki(f:bG)(live:List Bool)(first:Int)(dist:List Int)(d u:Nat):Prop where
 len:dist.length=f.steps.length
 val: ∀n,gH f n→dg dist n=0∨ ∃e:Nat,dg dist n=e∧Cl f live first e n∧(∀e',e'<e→ ¬Cl f live first e' n)∧dh live n∧first≤n
 full: ∀n,gH f n→dh live n→first≤n→ ∀e,Cl f live first e n→(e<d∨(e=d∧n<u))→dg dist n≠0
theorem ki.skip{f:bG}{live:List Bool}{first:Int}{dist:List Int}{d u:Nat}(h:ki f live first dist d u)(hs: ¬dh live (u:Int)∨dg dist u≠0):ki f live first dist d (u+1):=by
 refine⟨h.len,h.val,fun n hn hl hf e hc he=>?_⟩;by_cases Qs:n=u
 ·subst Qs;rcases hs with hs|hs
  ·exact absurd hl hs
  exact hs
 exact h.full n hn hl hf e hc (by omega)
theorem Jr{dist:List Int}{n m:Int}{x:Int}(hn:0≤n∧n<dist.length)(hm:0≤m):dg (dist.set n.toNat x) m=if m=n then x else dg dist m:=by
 unfold dg;rw[List.getD_eq_getElem?_getD,List.getD_eq_getElem?_getD,List.getElem?_set];by_cases e:m=n
 ·subst e;rw[if_pos rfl,if_pos (by omega),if_pos rfl];rfl
 rw[if_neg e,if_neg (by omega)]
theorem ki.hit{f:bG}{live:List Bool}{first:Int}{dist:List Int}{d u:Nat}(h:ki f live first dist d u)(hu:gH f (u:Int))(hl:dh live (u:Int))(hf:first≤u)(h0:dg dist u=0){c:Int}(BL:gH f c)(hc:c∈(bj f u).next)(hh:L_ first d dist c):
  ki f live first (dist.set (u:Int).toNat d) d (u+1):=by
 have gL: ∀m,gH f m→dg (dist.set (u:Int).toNat d) m=if m=u then(d:Int)else dg dist m:=fun m hm=>Jr (by rw[h.len];exact hu) hm.1
 have fw:Cl f live first d u:=by
  rcases hh with⟨rfl,rfl⟩|⟨h1,h2,h3⟩
  ·exact .one hc
  rcases h.val c BL with e|⟨e,e1,e2,_,e4,_⟩
  ·omega
  have:d=e+1:=by omega
  subst this;exact .more e2 hc ⟨BL,h2,e4⟩
 have uH: ∀e',e'<d→ ¬Cl f live first e' u:=fun e' FF Vj=>h.full u hu hl hf e' Vj (.inl FF) h0
 refine⟨by rw[List.length_set];exact h.len,fun n hn=>?_,fun n hn X3 Ga e Np he=>?_⟩
 ·rw[gL n hn];by_cases e:n=u
  ·rw[if_pos e];subst e;exact .inr ⟨d,rfl,fw,uH,hl,hf⟩
  rw[if_neg e];exact h.val n hn
 rw[gL n hn];by_cases Qs:n=u
 ·rw[if_pos Qs];have:=fw.pos;omega
 rw[if_neg Qs];exact h.full n hn X3 Ga e Np (by omega)
theorem ki.X4{f:bG}{live:List Bool}{first:Int}{dist:List Int}{d u:Nat}(h:ki f live first dist d u)(hu:gH f (u:Int))(hl:dh live (u:Int))(hf:first≤u)(h0:dg dist u=0)(hh: ∀c∈(bj f u).next,¬L_ first d dist c):
  ki f live first dist d (u+1):=by
 refine⟨h.len,h.val,fun n hn X3 Ga e Np he=>?_⟩;by_cases Qs:n=u∧e=d
 ·exfalso;obtain⟨rfl,rfl⟩:=Qs;cases Np with
  |one hc=>exact hh _ hc (.inl ⟨rfl,rfl⟩)
  |more hd hc ha=>
   rename_i d' c;have YM:=h.full c ha.1 ha.2.2 (Int.le_of_lt ha.2.1) d' hd (.inl (by omega));rcases h.val c ha.1 with e|⟨e,e1,e2,e3,_,_⟩
   ·exact YM e
   have hle:e≤d':=Nat.le_of_not_lt fun bt=>e3 d' bt hd;rcases Nat.lt_or_ge e d' with bt|CU
   ·exact h.full _ hu hl hf (e+1) (.more e2 hc ha) (.inl (by omega)) h0
   have:=hd.pos;exact hh c hc (.inr ⟨by omega,ha.2.1,by omega⟩)
 exact h.full n hn X3 Ga e Np (by omega)
theorem ki.begin(f:bG)(live:List Bool){first:Int}(h0:0≤first):ki f live first (List.replicate f.steps.length 0) 1 first.toNat:=by
 refine⟨by simp,fun n _=> .inl ?_,fun n _ _ hf e hc he=>?_⟩
 ·unfold dg;rw[List.getD_eq_getElem?_getD,List.getElem?_replicate];split<;>rfl
 have:=hc.pos;omega
theorem ki.round{f:bG}{live:List Bool}{first:Int}(h0:0≤first){dist:List Int}{d:Nat}(h:ki f live first dist d f.steps.length):ki f live first dist (d+1) first.toNat:=by refine⟨h.len,h.val,fun n hn hl hf e hc he=>h.full n hn hl hf e hc ?_⟩;have:=hn.2;omega
end Go.Proofs.YtbfjdfecgiegpaaGreatDoor
namespace Go.Proofs.YtbfjdfecgiegpaaGreatDoor
theorem zH: ∀(n:Nat) (l:List Int),l.Nodup→(∀x∈l,0≤x∧x<n)→l.length≤n
 |0,l,_,h=>by
  cases l with
  |nil=>simp
  |cons a r=>have:=h a (by simp);omega
 |n+1,l,hd,h=>by have ih:=zH n (l.erase (n:Int)) (hd.erase _) (fun x hx=>by have h1:=(hd.mem_erase_iff).1 hx;have h2:=h x h1.2;have h3:=h1.1;omega);rw[List.length_erase]at ih;split at ih<;>omega
theorem jZ{s:List Int}{n:Int}{j:Nat}(h:j<s.length):(s++[n]).getD j 0=s.getD j 0:=by rw[List.getD_eq_getElem?_getD,List.getD_eq_getElem?_getD,List.getElem?_append_left h]
theorem tA(s:List Int)(n:Int):(s++[n]).getD s.length 0=n:=by rw[List.getD_eq_getElem?_getD,List.getElem?_append_right (Nat.le_refl _)];simp
theorem D5{s:List Int}(h:s≠[]):s.getD (s.length-1) 0=ck s:=by rw[uI h,List.getD_eq_getElem?_getD,List.getElem?_eq_getElem (by have:=List.length_pos_iff.2 h;omega)];rfl
theorem qD{s:List Int}{k:Nat}(h:k<s.length):s.take (k+1)=s.take k++[s.getD k 0]:=by rw[List.take_succ_eq_append_getElem h,List.getD_eq_getElem?_getD,List.getElem?_eq_getElem h];rfl
theorem D6{s:List Int}{k:Nat}(h:k<s.length):ck (s.take (k+1))=s.getD k 0:=by rw[qD h,fK]
theorem AP.take{f:bG}{live:List Bool}{first:Int}{s:List Int}(h:AP f live first s): ∀{k:Nat},0<k→AP f live first (s.take k):=by
 induction h with
 |start=>intro k hk;rw[List.take_of_length_le (by simp;omega)];exact .start
 | @step s n hs hn ha ih=>
  intro k hk;by_cases h:k≤s.length
  ·rw[List.take_append_of_le_length h];exact ih hk
  rw[List.take_of_length_le (by simp;omega)];exact .step hs hn ha
theorem AP.zero{f:bG}{live:List Bool}{first:Int}{s:List Int}(h:AP f live first s):s.getD 0 0=first:=by
 induction h with
 |start=>rfl
 | @step s n hs hn ha ih=>rw[jZ (List.length_pos_iff.2 hs.ne)];exact ih
theorem AP.link{f:bG}{live:List Bool}{first:Int}{s:List Int}(h:AP f live first s): ∀{j:Nat},j+1<s.length→s.getD (j+1) 0∈(bj f (s.getD j 0)).next∧GC f live first (s.getD (j+1) 0):=by
 induction h with
 |start=>intro j hj;simp at hj
 | @step s n hs hn ha ih=>
  intro j hj;rw[List.length_append,List.length_singleton]at hj;by_cases h:j+1<s.length
  ·rw[jZ h,jZ (by omega)];exact ih h
  have e:j+1=s.length:=by omega
  rw[jZ (show j<s.length from by omega),e,tA,show j=s.length-1 from by omega,D5 hs.ne];exact⟨hn,ha⟩
theorem AP.X5{f:bG}{live:List Bool}{first:Int}{s:List Int}(h:AP f live first s): ∀{d:Nat},Cl f live first d (ck s)→ ∀{j:Nat},j<s.length→Cl f live first (s.length-1-j+d) (s.getD j 0):=by
 induction h with
 |start=>
  intro d hc j hj;have hj:j=0:=by simp at hj;exact hj
  subst hj;rw[show [first].length-1-0+d=d from by simp];exact hc
 | @step s n hs hn ha ih=>
  intro d hc j hj;rw[fK]at hc;rw[List.length_append,List.length_singleton]at hj⊢;by_cases h:j<s.length
  ·rw[jZ h,show s.length+1-1-j+d=s.length-1-j+(d+1)from by omega];exact ih (.more hc hn ha) h
  obtain rfl:j=s.length:=by omega
  rw[tA,show s.length+1-1-s.length+d=d from by omega];exact hc
theorem Cl.Js{f:bG}{live:List Bool}{first:Int}{d:Nat}{n:Int}(h:Cl f live first d n): ∀{s:List Int},AP f live first s→ck s=n→ ∃t,AP f live first (s++t)∧t.length+1=d∧first∈(bj f (ck (s++t))).next:=by
 induction h with
 |one hc=>intro s hs e;exact⟨[],by simpa using hs,rfl,by rw[List.append_nil,e];exact hc⟩
 | @more d n c hd hc ha ih=>
  intro s hs e;obtain⟨t,h1,h2,h3⟩:=ih (s:=s++[c]) (.step hs (by rw[e];exact hc) ha) (fK _ _);exact⟨c::t,by simpa using h1,by simp;omega,by simpa using h3⟩
theorem oy.part{a r t:List Int}{x y:Int}(h:x<y)(hl:r.length=t.length):oy (a++x::r) (a++y::t):=by
 refine .inr ⟨by simp[hl],?_⟩
 induction a with
 |nil=>simp[cmpL,ff,h]
 |cons c s ih=>
  simp only[List.cons_append,cmpL];rw[if_pos (by simp[ff])];exact ih
def nu(live:List Bool)(first:Int)(dist:List Int)(d m:Int):Bool:=(decide (first<m)&&live.getD m.toNat false)&&(dg dist m==d)
variable {f:bG} {live:List Bool} {first:Int} {dist:List Int}
theorem qC(cF:valid f=true)(hf:gH f first)(hl:live.length=f.steps.length)(eO:dT f live first≠[]):(dT f live first).length≤f.steps.length:=by
 have hp:=((D7 cF hf hl).2 eO).1;refine zH _ _ hp.nodup fun x hx=>?_;rcases hp.ok x hx with rfl|h
 ·exact hf
 exact h.1
theorem ki.yS{u:Nat}(h:ki f live first dist (f.steps.length+1) u){x:Int}(hx:gH f x)(OY:dh live x)(w6:first≤x){e:Nat}(hc:Cl f live first e x)(he:e≤f.steps.length)(uH: ∀e',Cl f live first e' x→e≤e'):dg dist x=e:=by
 have h1:=h.full x hx OY w6 e hc (.inl (by omega));rcases h.val x hx with h2|⟨e2,h2,h3,h4,_,_⟩
 ·exact absurd h2 h1
 have:=uH e2 h3;rcases Nat.lt_or_ge e e2 with bt|CU
 ·exact absurd hc (h4 e bt)
 rw[h2];omega
theorem ki.zero{u:Nat}(h:ki f live first dist (f.steps.length+1) u)(cF:valid f=true)(hf:gH f first)(hl:live.length=f.steps.length)(FV:dh live first)(h0:dg dist first=0):dT f live first=[]:=by apply Classical.byContradiction;intro eO;obtain⟨h1,h2,_⟩:=(jz cF hf hl).2 eO;exact h.full first hf FV (Int.le_refl _) _ (h1.Jq h2) (.inl (by have:=qC cF hf hl eO;omega)) h0
theorem zI(cF:valid f=true)(hf:gH f first)(hl:live.length=f.steps.length){e:Nat}(hc:Cl f live first e first):dT f live first≠[]∧(dT f live first).length≤e:=by
 obtain⟨t,h1,h2,h3⟩:=hc.Js .start rfl;have eO:dT f live first≠[]:=fun h=>(jz cF hf hl).1 h _ h1 h3
 refine⟨eO,?_⟩;have hle:=((jz cF hf hl).2 eO).2.2 _ h1 h3;have hlen:([first]++t).length=e:=by simp;omega
 rcases hle with(h|⟨h,_⟩)|h
 ·omega
 ·omega
 rw[h];omega
theorem ki.Oe{u:Nat}(h:ki f live first dist (f.steps.length+1) u)(cF:valid f=true)(hf:gH f first)(hl:live.length=f.steps.length)(FV:dh live first)(h0:dg dist first≠0):dT f live first≠[]∧dg dist first=((dT f live first).length:Int):=by
 rcases h.val first hf with h2|⟨e,h2,h3,_,_,_⟩
 ·exact absurd h2 h0
 have hm:=zI cF hf hl h3;obtain⟨h1,h4,_⟩:=(jz cF hf hl).2 hm.1;refine⟨hm.1,h.yS hf FV (Int.le_refl _) (h1.Jq h4) (qC cF hf hl hm.1) fun e' FF=>(zI cF hf hl FF).2⟩
theorem ki.pick{u:Nat}(h:ki f live first dist (f.steps.length+1) u)(cF:valid f=true)(hf:gH f first)(hl:live.length=f.steps.length)(eO:dT f live first≠[]){k:Nat}(hk:0<k)(yA:k<(dT f live first).length):
  (bj f ((dT f live first).getD (k-1) 0)).next.find? (nu live first dist (((dT f live first).length:Int)-k))=some ((dT f live first).getD k 0)∧gH f ((dT f live first).getD (k-1) 0):=by
 obtain⟨h1,h2,h3⟩:=(jz cF hf hl).2 eO;have hlen:=qC cF hf hl eO;have uH: ∀s,AP f live first s→first∈(bj f (ck s)).next→(dT f live first).length≤s.length:=fun s hs hc=>by
  rcases h3 s hs hc with(h|⟨h,_⟩)|h
  ·omega
  ·omega
  rw[h];omega
 generalize dT f live first=c at*;have FX:=h1.link (j:=k-1) (by omega);rw[show k-1+1=k from by omega]at FX
 have X6:gH f (c.getD (k-1) 0):=by
  by_cases e:k=1
  ·subst e;rw[show 1-1=0 from rfl,h1.zero];exact hf
  have:=(h1.link (j:=k-2) (by omega)).2.1;rwa [show k-2+1=k-1 from by omega]at this
 refine⟨?_,X6⟩;have Qn:AP f live first (c.take k):=h1.take hk
 have E2:ck (c.take k)=c.getD (k-1) 0:=by have:=D6 (s:=c) (k:=k-1) (by omega);rwa [show k-1+1=k from by omega]at this
 have vC:Cl f live first (c.length-k) (c.getD k 0):=by have:=h1.X5 (.one h2) yA;rwa [show c.length-1-k+1=c.length-k from by omega]at this
 have R5:dg dist (c.getD k 0)=((c.length-k:Nat):Int):=h.yS FX.2.1 FX.2.2.2 (Int.le_of_lt FX.2.2.1) vC (by omega) fun e' FF=>by obtain⟨t,t1,t2,t3⟩:=FF.Js (s:=c.take k++[c.getD k 0]) (.step Qn (by rw[E2];exact FX.1) FX.2) (fK _ _);have:=uH _ t1 t3;simp only[List.length_append,List.length_take,List.length_singleton]at this;omega
 have NB:=vh cF X6;obtain⟨PA,bs,Fh⟩:=List.append_of_mem FX.1;rw[List.find?_eq_some_iff_append];refine⟨?_,PA,bs,Fh,fun a ha=>?_⟩
 ·unfold nu;have:=FX.2.2.2;unfold dh at this;rw[decide_eq_true FX.2.2.1,this,R5];simp;omega
 have bt:a<c.getD k 0:=by rw[Fh,List.pairwise_append]at NB;exact NB.2.2 a ha _ (by simp)
 have U':a∈(bj f (c.getD (k-1) 0)).next:=by rw[Fh];simp[ha]
 have MI:=nt cF X6 a U';cases hp:nu live first dist ((c.length:Int)-k) a with
 |false=>rfl
 |true=>
  exfalso;unfold nu at hp;simp only[Bool.and_eq_true,decide_eq_true_eq,beq_iff_eq]at hp;obtain⟨⟨p1,p2⟩,p3⟩:=hp;rcases h.val a MI with e|⟨e,e1,e2,_,_,_⟩
  ·omega
  have:e=c.length-k:=by omega
  subst this;obtain⟨t,t1,t2,t3⟩:=e2.Js (s:=c.take k++[a]) (.step Qn (by rw[E2];exact U') ⟨MI,p1,p2⟩) (fK _ _);have hle:=h3 _ t1 t3;have xf:oy (c.take k++[a]++t) c:=by
   have hc:c=c.take k++c.getD k 0::c.drop (k+1):=by
    have e1:c.take k++[c.getD k 0]++c.drop (k+1)=c:=by rw[←qD yA,List.take_append_drop]
    rw[List.append_assoc]at e1;exact e1.symm
   have e3:c.take k++[a]++t=c.take k++a::t:=by simp
   rw[e3];have:=oy.part (a:=c.take k) (r:=t) (t:=c.drop (k+1)) bt (by rw[List.length_drop];omega);rwa [←hc]at this
  exact oy.irrefl _ (hle.lt xf)
end Go.Proofs.YtbfjdfecgiegpaaGreatDoor
namespace Go.Proofs.YtbfjdfecgiegpaaGreatDoor
def lL(first:Int)(d:Nat)(dist:List Int)(c:Int):Bool:=(decide (d=1)&&decide (c=first))||((decide (1<d)&&decide (first<c))&&decide (dg dist c=(d:Int)-1))
theorem zJ{first:Int}{d:Nat}{dist:List Int}{c:Int}:lL first d dist c=true↔L_ first d dist c:=by unfold lL L_;simp[and_assoc]
def n3(first:Int)(d:Nat)(dist:List Int)(u:Nat)(l:List Int):List Int:=if l.any (lL first d dist)=true then dist.set u (d:Int)else dist
theorem HO(first:Int)(d:Nat)(dist:List Int)(u:Nat)(l:List Int):(n3 first d dist u l).length=dist.length:=by unfold n3;split<;>simp
theorem Jt{first:Int}{d:Nat}{dist:List Int}{u:Nat}{l:List Int}(h0:dg dist u=0)(hu:u<dist.length){c:Int}(hc:0≤c):lL first d (n3 first d dist u l) c=lL first d dist c:=by
 unfold n3;split
 ·have e:=Jr (dist:=dist) (n:=(u:Int)) (m:=c) (x:=(d:Int)) ⟨by omega,by omega⟩ hc;rw[Int.toNat_natCast]at e;unfold lL;rw[e];by_cases US:c=u
  ·subst US;rw[if_pos rfl,h0];congr 1;rw[Bool.eq_iff_iff];simp;omega
  rw[if_neg US]
 rfl
theorem FW{first:Int}{d:Nat}{dist:List Int}{u:Nat}{l:List Int}(h0:dg dist u=0)(hu:u<dist.length){c:Int}(hc:0≤c):
  n3 first d dist u (l++[c])=if lL first d (n3 first d dist u l) c=true then(n3 first d dist u l).set u (d:Int)else n3 first d dist u l:=by
 rw[Jt h0 hu hc];unfold n3;rw[List.any_append];by_cases h1:l.any (lL first d dist)=true
 ·rw[h1];simp
 have Qt:l.any (lL first d dist)=false:=by simpa using h1
 rw[Qt];simp
theorem ki.leave{f:bG}{live:List Bool}{first:Int}{dist:List Int}{d u:Nat}(h:ki f live first dist d u)(cF:valid f=true)(hu:gH f (u:Int))(hl:dh live (u:Int))(hf:first≤u)(h0:dg dist u=0):
  ki f live first (n3 first d dist u (bj f u).next) d (u+1):=by
 unfold n3;split
 ·rename_i PB;obtain⟨c,hc,hh⟩:=List.any_eq_true.1 PB;have:=h.hit hu hl hf h0 (nt cF hu c hc) hc (zJ.1 hh);rwa [Int.toNat_natCast]at this
 rename_i PB;exact h.X4 hu hl hf h0 fun c hc hh=>PB (List.any_eq_true.2 ⟨c,hc,zJ.2 hh⟩)
theorem Dg{live:List Bool}{first:Int}{dist:List Int}{d x:Int}{l:List Int}{i:Nat}(h:(l.drop i).find? (nu live first dist d)=some x): ∃hi:i<l.length,
  (nu live first dist d l[i]=true→l[i]=x)∧(nu live first dist d l[i]=false→(l.drop (i+1)).find? (nu live first dist d)=some x):=by
 have hi:i<l.length:=by apply Classical.byContradiction;intro hn;rw[List.drop_of_length_le (by omega)]at h;simp at h
 refine⟨hi,?_⟩;rw[List.drop_eq_getElem_cons hi,List.find?_cons]at h;constructor
 ·intro hp;rw[hp]at h;simpa using h
 intro hp;rw[hp]at h;exact h
end Go.Proofs.YtbfjdfecgiegpaaGreatDoor
namespace Go.Proofs.YtbfjdfecgiegpaaGreatDoor
open Go Go.K Tryz
set_option maxRecDepth 10000
attribute [local irreducible] W WL cS bh bY bB bA bC cL cD
set_option maxHeartbeats 1000000
theorem qA{f:bG}{j:Int}(hj:gH f j):dJ f.steps j=some (bj f j):=by have h0:=hj.1;have h1:=hj.2;unfold bj;rw[bZ (j:=j.toNat) (by omega) (by omega)];simp[List.getD_eq_getElem?_getD,show j.toNat<f.steps.length from by omega]
theorem sI{f:bG}(h:valid f=true):1≤f.steps.length∧f.steps.length≤40:=by unfold valid within at h;simp only[Bool.and_eq_true,decide_eq_true_eq]at h;omega
theorem BG{l:List Int}: ∀{back m:Int},m∈l→m∈dG back l:=by
 induction l with
 |nil=>intro back m h;simp at h
 |cons n r ih=>
  intro back m h;unfold dG;rw[List.mem_append];right;rcases List.mem_cons.1 h with rfl|h
  ·exact List.mem_cons_self
  exact List.mem_cons_of_mem _ (ih h)
theorem Af{l:List Int}: ∀{back:Int},0≤back→back∈dG back l:=by
 induction l with
 |nil=>intro back h;unfold dG;rw[if_pos h];simp
 |cons n r ih=>
  intro back h;unfold dG;rw[List.mem_append];by_cases h1:back<n
  ·left;rw[if_pos ⟨h,h1⟩];simp
  right;by_cases h2:back≤n
  ·rw[show back=n from by omega];exact List.mem_cons_self
  rw[if_neg h2];exact List.mem_cons_of_mem _ (ih h)
theorem tZ{s:Step}{m:Int}:m∈eB s↔m∈s.next∨(m=s.back∧0≤s.back):=by
 constructor
 ·exact pI
 rintro(h|⟨rfl,h⟩)
 ·exact BG h
 exact Af h
theorem pJ: ∀(l:List Int) (back:Int),back<0→dG back l=l
 |[],back,h=>by unfold dG;rw[if_neg (by omega)]
 |n::r,back,h=>by
  unfold dG;rw[if_neg (by omega),List.nil_append];congr 1;split
  ·exact pJ r _ (by omega)
  exact pJ r _ h
theorem pK: ∀(l:List Int) (back:Int),l.Pairwise (· < ·)→(dG back l).Pairwise (· < ·)
 |[],back,_=>by unfold dG;split<;>simp
 |n::r,back,h=>by
  unfold dG;obtain⟨h1,h2⟩:=List.pairwise_cons.1 h;by_cases hb:back≤n
  ·rw[if_pos hb,pJ r (-1) (by omega)];split
   ·rename_i hc;rw[List.singleton_append,List.pairwise_cons];refine⟨fun m hm=>?_,h⟩;rcases List.mem_cons.1 hm with rfl|hm
    ·exact hc.2
    have:=h1 m hm;omega
   exact h
  rw[if_neg hb,if_neg (by omega),List.nil_append,List.pairwise_cons];refine⟨fun m hm=>?_,pK r back h2⟩;rcases pI hm with hm|⟨rfl,_⟩
  ·exact h1 m hm
  omega
theorem yx(f:bG)(n:Int):(follow f n).Pairwise (· < ·):=by
 unfold follow;split
 ·rename_i hg;obtain⟨cF,hn⟩:=ky.1 hg;have h:=kz cF hn.1 hn.2;unfold cf at h;simp only[Bool.and_eq_true]at h;exact pK _ _ ((rf _ _ _).1 h.1.1.1.2).2
 simp
def mv(s:Step)(k:Nat):List Int:=((List.range k).filter fun m:Nat=>decide ((m:Int)∈s.next)||(s.back==(m:Int))).map fun m:Nat=>(m:Int)
theorem wT(s:Step)(k:Nat):mv s (k+1)=mv s k++(if(k:Int)∈s.next∨s.back=(k:Int)then [(k:Int)]else []):=by
 unfold mv;rw[List.range_succ,List.filter_append,List.map_append];congr 1;by_cases h:(k:Int)∈s.next∨s.back=(k:Int)
 ·rw[if_pos h,List.filter_cons_of_pos (by simpa using h)];rfl
 rw[if_neg h,List.filter_cons_of_neg (by simpa using h)];rfl
theorem FO(s:Step)(k:Nat):(mv s k).length≤k:=by unfold mv;rw[List.length_map];exact Nat.le_trans (List.length_filter_le _ _) (by simp)
theorem za{s:Step}{k:Nat}{m:Int}:m∈mv s k↔(0≤m∧m<k)∧(m∈s.next∨s.back=m):=by
 unfold mv;rw[List.mem_map];constructor
 ·rintro⟨a,ha,rfl⟩;rw[List.mem_filter,List.mem_range]at ha;exact⟨by omega,by simpa using ha.2⟩
 rintro⟨⟨h0,h1⟩,h2⟩;refine⟨m.toNat,?_,by omega⟩;rw[List.mem_filter,List.mem_range];refine⟨by omega,?_⟩;rw[show((m.toNat:Nat):Int)=m from by omega];simpa using h2
theorem Ag(s:Step)(k:Nat):(mv s k).Pairwise (· < ·):=by
 induction k with
 |zero=>simp[mv]
 |succ k ih=>
  rw[wT,List.pairwise_append];refine⟨ih,by split<;>simp,fun a ha b hb=>?_⟩;have:=(za.1 ha).1;split at hb
  ·rw[List.mem_singleton]at hb;omega
  simp at hb
theorem wU: ∀{l r:List Int},l.Pairwise (· < ·)→r.Pairwise (· < ·)→(∀m,m∈l↔m∈r)→l=r
 |[],r,_,_,h=>by
  cases r with
  |nil=>rfl
  |cons b r=>exact absurd ((h b).2 (by simp)) (by simp)
 |a::l,[],_,_,h=>absurd ((h a).1 (by simp)) (by simp)
 |a::l,b::r,hl,hr,h=>by
  obtain⟨h1,h2⟩:=List.pairwise_cons.1 hl;obtain⟨h3,h4⟩:=List.pairwise_cons.1 hr;have e:a=b:=by
   rcases List.mem_cons.1 ((h a).1 (by simp))with e|e
   ·exact e
   rcases List.mem_cons.1 ((h b).2 (by simp))with e'|e'
   ·exact e'.symm
   have:=h1 b e';have:=h3 a e;omega
  subst e;rw[wU h2 h4 fun m=>?_];have hm:=h m;rw[List.mem_cons,List.mem_cons]at hm;constructor
  ·intro KP;rcases hm.1 (.inr KP)with e|e
   ·subst e;exact absurd (h1 m KP) (by omega)
   exact e
  intro FP;rcases hm.2 (.inr FP)with e|e
  ·subst e;exact absurd (h3 m FP) (by omega)
  exact e
theorem BH{f:bG}(cF:valid f=true){n:Int}(hn:gH f n):mv (bj f n) f.steps.length=eB (bj f n):=by
 have hs:=yx f n;rw[follow_eq cF hn]at hs;refine wU (Ag _ _) hs fun m=>?_;rw[za];constructor
 ·rintro⟨h0,h1|h1⟩
  ·exact tZ.2 (.inl h1)
  exact tZ.2 (.inr ⟨h1.symm,by omega⟩)
 intro h;have hr:=gS cF hn.1 hn.2 m h;refine⟨hr,?_⟩;rcases tZ.1 h with h|⟨h,_⟩
 ·exact .inl h
 exact .inr h.symm
theorem HH(v:Value)(f:bG)(n:Int)(g:G)(dt:fP g v f):cN prog 229 #[v,vI n] g fun _ r=>r= .bool (given f [n]):=by
 obtain⟨a1,n1,c1,a2,n2,c2,rfl,aH,aW⟩:=id dt;obtain⟨_,_,e⟩:=aH.isSlice;obtain⟨rfl,rfl,rfl⟩:=Value.slice.inj e;clear e;have hs:=St.start g;have ar:=G.le.refl g;refine enter func229 rfl ntmps229 rfl<|cR<|EH hs rfl fun b1 g1 hs ai=>?_;replace dt:=dt.mono ai;refine aX rfl<|c_ 1 [.o 0] hs rfl<|Ev rfl (BI _ f _ dt) hs fun g1 hs ai=>Wp 1 rfl<|cH (want:=true) (x:=decide (0≤n)) 2 aK rfl rfl rfl rfl (.inl ⟨rfl,rfl,rfl⟩) rfl rfl rfl rfl (fun hb Q' eS=>?_) (fun g' hf=>?_)
 ·exact Wp 2 rfl<|aA<|fun a ha=>eS _ a (a_.refl _) (ha.kp rfl)
 replace hs:=hs.call hf;have ai:=hf.le;refine Wp 1 rfl<|cH (want:=true) (x:=decide (n<(f.steps.length:Int))) 5 aK rfl rfl rfl rfl (.inl ⟨rfl,rfl,rfl⟩) rfl rfl rfl rfl (fun hb Q' eS=>?_) (fun g' hf=>?_)
 ·exact Wm 5 [.o 0] hs rfl<|aA<|fun a ha=>eS _ a (a_.refl _) (ha.kp rfl)
 replace hs:=hs.call hf;have ai:=hf.le;refine aX rfl<|aG<|nw rfl hs ?_
 have:given f [n]=((valid f&&decide (0≤n))&&decide (n<(f.steps.length:Int))):=by rw[Bool.eq_iff_iff,ky];unfold gH;simp[and_assoc]
 rw[this];rfl
theorem FQ(v:Value)(f:bG)(n:Int)(g:G)(dt:fP g v f)(cF:valid f=true)(h1:gH f n):
  cN prog 230 #[v,vI n] g (kh 3 g (eB (bj f n))):=by
 obtain⟨a1,n1,c1,a2,n2,c2,rfl,aH,aW⟩:=id dt;obtain⟨_,_,e⟩:=aH.isSlice;obtain⟨rfl,rfl,rfl⟩:=Value.slice.inj e;clear e;have hs:=St.start g;have ar:=G.le.refl g;have QV:=sI cF;have MB:=h1.1;have vD:=h1.2;rw[←BH cF h1];have eH:=qA h1;generalize bj f n=s at*;refine enter func230 rfl ntmps230 rfl<|cR<|EH hs rfl fun b1 g1 hs ai=>?_;replace aH:=aH.mono ai;refine aX rfl<|aZ rfl<|az<|aZ rfl<|aI ?_;obtain⟨g2,bS,aV,ai,aL⟩:=hs.bd (i:=0) rfl;replace hs:=aV;clear aV;rw[←bS];replace aH:=aH.mono ai;have aD:=aL;clear aL;replace hs:=hs.eP 3 1 none;have mP:=aD;have pL:=aH;have fN:=G.le.refl g2;refine bK (fun m a' w=> ∃(k:Nat) (g3:G) (u:Value),w=g3.w∧St g g3 [.row 3 1 u (mv s k).length ((mv s k).map (Value.int .i64))]∧G.le g2 g3∧k≤f.steps.length∧m=f.steps.length-k∧
   Fr 37 [] [(1,vI n),(2,vP b1),(5,u),(6,vI k)] a') f.steps.length
  (fun a' ha=>⟨0,g2,_,rfl,hs,fN,Nat.zero_le _,rfl,ha.kp rfl⟩) ?_
 clear hs fN aD aH aW;rintro m a' _ ⟨k,g3,u,rfl,hs,fN,hk,rfl,dW⟩;have aD:=mP.mono fN;have aH:=pL.mono fN;revert a';refine ct<|az<|Hw [.z aD] rfl ?_;by_cases bt:k<f.steps.length
 ·refine aJ (b:=decide ((k:Int)<(f.steps.length:Int))) (decide_eq_true (by omega)) rfl ?_;have nd:=wT s k;have vE:=FO s k;refine aF<|aq<|az<|aI<|sP 3 [.z aD] rfl<|zc (y:=s) aH eH rfl ?_;rintro b q ys aL ⟨b1,b2,b3,b4,b5,b6,rfl,_,cj⟩;obtain⟨_,_,e⟩:=cj.isSlice;obtain⟨rfl,rfl,rfl⟩:=Value.slice.inj e;clear e;refine ak rfl rfl<|aE _ T.ok rfl<|q5 1 [.e aL 4] rfl ?_;clear aL;refine Wp 1 rfl<|Ev rfl (N_ _ _ _ _ cj) hs fun g1 hs ai=>?_;obtain⟨fN,aD,aH,cj⟩:=dK ai fN aD aH cj;rw[List.contains_eq_mem];refine Wp 1 rfl<|cH (want:=false) (x:=s.back==(k:Int)) 8 aK rfl rfl rfl rfl (.inr ⟨rfl,rfl,rfl⟩) rfl rfl rfl rfl (fun hb Q' eS=>?_) (fun g' hf=>?_)
  ·refine q5 3 [.z aD] rfl<|zc (y:=s) aH eH rfl ?_;rintro b q ys aL ⟨b1,b2,b3,b4,b5,b6,rfl,_,cj⟩;exact ak rfl rfl<|aE _ T.ok rfl<|q5 1 [.e aL 5] rfl<|Wp 2 rfl<|aA<|fun a ha=>eS _ a (a_.refl _) (ha.kp rfl)
  replace hs:=hs.call hf;have ai:=hf.le;replace fN:=G.le.trans fN ai;apply b_;by_cases hc:(k:Int)∈s.next∨s.back=(k:Int)
  ·rw[if_pos hc]at nd;refine aJ (b:=decide ((k:Int)∈s.next)||(s.back==(k:Int))) (by simpa using hc) rfl<|an<|Wp 2 rfl<|BP [(0,vI k)] [vI k] hs rfl rfl fun bl gl hs ai=>?_;replace fN:=G.le.trans fN ai;refine ak rfl rfl<|bU T.ok 1 rfl hs rfl rfl rfl rfl rfl rfl rfl (by decide) rfl (Src.eI (hs.own 0 _ rfl).1).2 (by simp[Value.oneCell']) (by show((mv s k).length+1)*8≤_;omega) (by unfold maxLen;omega) fun a9 c9 g9 hs ai=>?_;replace fN:=G.le.trans fN ai;exact Wp 1 rfl<|aA<|bJ<|aq<|an<|Wp 3 rfl<|aA<|fun a ha=>⟨f.steps.length-(k+1),by omega,k+1,_,.slice a9 ((mv s k).length+1) c9,rfl,by rw[nd];simpa using hs.drop 0,fN,by omega,rfl,ha.keep ⟨rfl,rfl,rfl,kW rfl,trivial⟩⟩
  rw[if_neg hc,List.append_nil]at nd;exact aQ (b:=decide ((k:Int)∈s.next)||(s.back==(k:Int))) (by simpa using hc) rfl<|aF<|bJ<|aq<|an<|Wp 3 rfl<|aA<|fun a ha=>⟨f.steps.length-(k+1),by omega,k+1,_,u,rfl,by rw[nd];exact hs,fN,by omega,rfl,ha.keep ⟨rfl,rfl,rfl,kW rfl,trivial⟩⟩
 refine aQ (b:=decide ((k:Int)<(f.steps.length:Int))) (decide_eq_false (by omega)) rfl ?_;obtain rfl:k=f.steps.length:=by omega
 exact bc<|bg<|bg<|cA<|aq<|aZ rfl<|aG (nw rfl hs (hs.mw (i:=0) rfl (cY.ints _ _)))
end Go.Proofs.YtbfjdfecgiegpaaGreatDoor
namespace Go.Proofs.YtbfjdfecgiegpaaGreatDoor
open Go Go.K Tryz
set_option maxRecDepth 10000
attribute [local irreducible] W WL cS bh bY bB bA bC cL cD
set_option maxHeartbeats 1000000
structure qZ(f:bG)(a:Int)(out:List Bool)(q:List Int)(E:Int→Prop):Prop where
 len:out.length=f.steps.length
 st:dh out a
 snd: ∀m,gH f m→dh out m→BJ f a m
 qr: ∀m∈q,gH f m∧dh out m
 cl: ∀m,gH f m→dh out m→m∈q∨E m∨ ∀c∈eB (bj f m),dh out c
theorem vR{α:Type}(o:List α)(i:Nat)(c:α→Value)(x:α)(h:i<o.length):nr (o.map c) (i*1) [c x]=(o.set i x).map c:=by rw[Nat.mul_one,List.map_set];unfold nr;rw[List.set_eq_take_append_cons_drop];simp[h]
theorem qZ.start{f:bG}{a:Int}(ha:gH f a):qZ f a ((List.replicate f.steps.length false).set a.toNat true) [a] fun _=>False:=by
 have h: ∀m,gH f m→(dh ((List.replicate f.steps.length false).set a.toNat true) m↔m=a):=fun m hm=>by rw[iz (by simp) ha hm];exact⟨fun h=>h.resolve_right fun h=>gI _ _ h,.inl⟩
 refine⟨by simp,(h a ha).2 rfl,fun m hm hi=>?_,fun m hm=>?_,fun m hm hi=>?_⟩
 ·rw[(h m hm).1 hi];exact .refl _
 ·rw[List.mem_singleton]at hm;subst hm;exact⟨ha,(h m ha).2 rfl⟩
 rw[(h m hm).1 hi];simp
theorem qZ.pop{f:bG}{a u:Int}{out:List Bool}{q:List Int}(h:qZ f a out (u::q) fun _=>False):qZ f a out q (· =u):=by
 refine⟨h.len,h.st,h.snd,fun m hm=>h.qr m (by simp[hm]),fun m hm hi=>?_⟩;rcases h.cl m hm hi with h|h|h
 ·rcases List.mem_cons.1 h with h|h
  ·exact .inr (.inl h)
  exact .inl h
 ·exact h.elim
 exact .inr (.inr h)
theorem qZ.add{f:bG}{a u c:Int}{out:List Bool}{q:List Int}(h:qZ f a out q (· =u))(hu:gH f u)(MC:dh out u)(hc:gH f c)(US:c∈eB (bj f u)):
  qZ f a (out.set c.toNat true) (q++[c]) (· =u):=by
 have hs: ∀m,gH f m→(dh (out.set c.toNat true) m↔m=c∨dh out m):=fun m hm=>iz h.len hc hm;have my: ∀m:Int,dh out m→dh (out.set c.toNat true) m:=fun m hm=>by
  unfold dh at hm⊢;rw[List.getD_eq_getElem?_getD]at hm⊢;rw[List.getElem?_set];split
  ·split<;>simp_all
  exact hm
 refine⟨by rw[List.length_set];exact h.len,my _ h.st,fun m hm hi=>?_,fun m hm=>?_,fun m hm hi=>?_⟩
 ·rcases(hs m hm).1 hi with rfl|hi
  ·exact .step (h.snd u hu MC) US
  exact h.snd m hm hi
 ·rcases List.mem_append.1 hm with hm|hm
  ·exact⟨(h.qr m hm).1,my _ (h.qr m hm).2⟩
  rw[List.mem_singleton]at hm;subst hm;exact⟨hc,(hs m hc).2 (.inl rfl)⟩
 rcases(hs m hm).1 hi with rfl|hi
 ·exact .inl (by simp)
 rcases h.cl m hm hi with h|h|h
 ·exact .inl (by simp[h])
 ·exact .inr (.inl h)
 exact .inr (.inr fun d hd=>my _ (h d hd))
theorem qZ.done{f:bG}{a u:Int}{out:List Bool}{q:List Int}(h:qZ f a out q (· =u))(hd: ∀c∈eB (bj f u),dh out c):qZ f a out q fun _=>False:=by
 refine⟨h.len,h.st,h.snd,h.qr,fun m hm hi=>?_⟩;rcases h.cl m hm hi with h|h|h
 ·exact .inl h
 ·subst h;exact .inr (.inr hd)
 exact .inr (.inr h)
theorem FR{f:bG}{l r:List Bool}(hl:l.length=f.steps.length)(hr:r.length=f.steps.length)(h: ∀m,gH f m→(dh l m↔dh r m)):l=r:=by apply List.ext_getElem (by omega);intro i h1 h2;have hh:=h (i:Int) ⟨by omega,by omega⟩;unfold dh at hh;rw[List.getD_eq_getElem?_getD,List.getD_eq_getElem?_getD,Int.toNat_natCast,List.getElem?_eq_getElem h1,List.getElem?_eq_getElem h2]at hh;simp only[Option.getD_some]at hh;exact Bool.eq_iff_iff.2 hh
theorem qZ.fin{f:bG}(cF:valid f=true){a:Int}(ha:gH f a){out:List Bool}(h:qZ f a out [] fun _=>False):out=cu f a:=by
 refine FR h.len (pM f a) fun m hm=>?_;rw[BK cF ha hm];refine⟨h.snd m hm,fun hr=>?_⟩;clear hm
 induction hr with
 |refl=>exact h.st
 |step hb hc ih=>
  rcases h.cl _ (hb.VC cF ha) ih with h|h|h
  ·simp at h
  ·exact h.elim
  exact h _ hc
def Ah(v:Value)(q:List Int):df:=.row 3 1 v q.length (q.map (Value.int .i64))
def KQ(qa:Option Addr):Fact:=⟨fun v _=> ∃b p,qa=some ⟨b,p,none⟩∧v= .pointer (some ⟨b,p+Int.toNat 0*1,none⟩),fun _ _ _ _ h=>h⟩
theorem rJ(v:Value)(f:bG)(n:Int)(g:G)(dt:fP g v f)(cF:valid f=true)(h1:gH f n):
  cN prog 175 #[v,vI n] g (kh 4 g (cu f n)):=by
 obtain⟨a1,n1,c1,a2,n2,c2,rfl,aH,aW⟩:=id dt;obtain⟨_,_,e⟩:=aH.isSlice;obtain⟨rfl,rfl,rfl⟩:=Value.slice.inj e;clear e;have hs:=St.start g;have ar:=G.le.refl g;have QV:=sI cF;have MB:=h1.1;have vD:=h1.2;refine enter func175 rfl ntmps175 rfl<|cR<|EH hs rfl fun bf g1 hs ai=>?_;replace dt:=dt.mono ai;refine aX rfl<|c_ 3 [.o 0] hs rfl ?_;obtain⟨g2,bS,aV,ai,aL⟩:=hs.bd (i:=0) rfl;replace hs:=aV;clear aV;rw[←bS];replace dt:=dt.mono ai;have aD:=aL;clear aL;refine ak rfl rfl<|sJ T.ok rfl hs rfl rfl rfl rfl rfl rfl (by decide) rfl (by show 1*f.steps.length≤_;omega) (by unfold maxLen;omega) fun ob gm hs ai=>?_;obtain⟨aD,dt⟩:=cr ai aD dt;refine aX rfl<|cG 2 rfl ?_;have pg:(List.replicate f.steps.length [Value.bool false]).flatten=(List.replicate f.steps.length false).map Value.bool:=by simp
 have dI:St g gm [o8 ob f.steps.length (List.replicate f.steps.length false)]:=by unfold o8;rw[←pg];exact hs
 replace hs:=dI;clear dI;refine ak rfl rfl<|eo T.ok rfl (hs.own 0 _ rfl).1 MB (by omega) rfl rfl rfl rfl rfl rfl fun b q hh=>?_;obtain⟨rfl,rfl⟩:ob=b∧0=q:=by simpa using hh
 refine bu rfl<|iA T.ok 0 (n.toNat*1) (us:=[.bool true]) rfl hs rfl rfl rfl rfl rfl rfl rfl (by decide) (by simp;omega) (vR _ _ Value.bool true (by simp;omega)) fun Sz hs ai=>?_;obtain⟨aD,dt⟩:=cr ai aD dt;refine b_<|cG 1 rfl<|BP [(0,vI n)] [vI n] hs rfl rfl fun bl gl hs ai=>?_;obtain⟨aD,dt⟩:=cr ai aD dt;refine aX rfl<|az<|aI ?_;have dI:St g gl [Ah (.slice (vA bl) 1 1) [n],o8 ob f.steps.length ((List.replicate f.steps.length false).set n.toNat true)]:=hs;replace hs:=dI;clear dI;have yy:=qZ.start h1
 have nS:([n]:List Int).length+((List.replicate f.steps.length false).set n.toNat true).count false=f.steps.length:=by have h:=iK (o:=List.replicate f.steps.length false) (i:=n.toNat) (by rw[List.getElem?_replicate,if_pos (by omega)]);simp at h⊢;omega
 generalize(List.replicate f.steps.length false).set n.toNat true=o0 at*;have mP:=aD;have HI:=dt;have fN:=G.le.refl gl;refine bK (fun m a' w=> ∃(q:List Int) (out:List Bool) (qv:Value) (g2:G),w=g2.w∧St g g2 [Ah qv q,o8 ob f.steps.length out]∧G.le gl g2∧qZ f n out q (fun _=>False)∧q.length+out.count false≤f.steps.length∧m=q.length+out.count false∧
   Fr 56 [] [(1,vI n),(2,vP bf),(5,.slice (vA ob) f.steps.length f.steps.length),(6,qv)] a') f.steps.length
  (fun a' ha=>⟨[n],o0,_,gl,rfl,hs,fN,yy,by omega,by omega,ha.kp rfl⟩) ?_
 clear hs fN aD aH aW dt yy nS;rintro m a' _ ⟨q,out,qv,g2,rfl,hs,fN,hb,hle,rfl,dW⟩;have aD:=mP.mono fN;have dt:=HI.mono fN;obtain⟨qa,qc,rfl⟩:=(hs.own 0 _ rfl).1.form;revert a';refine ct<|az<|aZ rfl ?_;cases q with
 |nil=>
  refine aQ (b:=decide ((0:Int)<(([]:List Int).length:Int))) (by simp) rfl<|bc<|bg<|bg<|cA<|aq<|aZ rfl<|aG<|nw rfl hs ?_;rw[←hb.fin cF h1];exact hs.mw (i:=1) rfl (cY.HJ _ _)
 |cons u rest=>
  refine aJ (b:=decide ((0:Int)<((u::rest).length:Int))) (by simp) rfl ?_;obtain⟨zb,MC⟩:=hb.qr u (by simp);replace hb:=hb.pop;have UT:=zb.1;have Ez:=zb.2;have rK:(u::rest).length≤qc:=by
   rcases(hs.own 0 _ rfl).1.2 with⟨h,_⟩|⟨b,p,cap,cur,e1,_,_,h2,_⟩
   ·simp at h
   simp only[Value.slice.injEq]at e1;omega
  refine aF<|aq<|aI<|az ?_;apply ea (eF (.f (KQ qa)::(fe (.f (Fact.rs (eB (bj f u)))::(.f (Fact.rs (eB (bj f u)))::[]))))) 6 [(5,7)] (by kernel_rfl)
  ·refine pO [[],[]] [.e aD 0] (St.start _) rfl<|fR [(1,22)] (fun gd hf=>aax rfl (ay rfl (eo T.ok rfl ((hs.dr.call hf).own 0 _ rfl).1 (by decide) (by simp) rfl rfl rfl rfl rfl rfl (fun b p hh=>⟨_,rfl,a_.refl _,b,p,hh,rfl⟩))))<|fR [(2,23)] (fun gd hf=>?_) ?_
   ·have eJ:=hs.dr.call hf;refine ba fun v2 h2=>?_;apply aj;obtain⟨b,p,e,rfl⟩:=h2;subst e;exact ay rfl<|fB T.ok (Int.toNat 0*1) rfl (eJ.own 0 _ rfl).1 rfl (v:=vI u) rfl<|⟨_,rfl,a_.refl _,rfl⟩
   refine fR [(0,21),(3,24)] (fun gd hf=>?_) ?_
   ·have eT:=(G.bI _).trans hf.le;refine aat rfl<|aj<|ay rfl<|aC (Wc 230) aK rfl rfl rfl rfl rfl (FQ _ f u _ (dt.mono eT) cF zb) fun g' v h1 h2=>?_
    obtain⟨g2,e1,e2,e3,e4⟩:=(St.start gd).jO h1 h2;exact⟨g2,e1,e2.rh,e4⟩
   exact fR [(4,25),(4,25),(4,25)] (fun gd hf=>ba fun v4 h4=>(ba fun v4 h4=>(ba fun v4 h4=>(aj (aaL rfl h4)))))<|gG
  intro g1 aP;refine ba fun v5 h5=>?_;apply aj;replace hs:=hs.dr.call aP;have ai:=(G.bI _).trans aP.le;obtain⟨fN,aD⟩:=cr ai fN aD;have bR:Rs g1 v5 (eB (bj f u)):=h5;clear h5;obtain⟨al,cl,rfl⟩:=bR.isSlice;have vz:=bR.ef;unfold maxLen at vz;have QY:=gS cF UT Ez;generalize rL:eB (bj f u)=l at*;refine b_<|cG 1 rfl<|ak rfl rfl<|gV T.ok rfl rfl rfl rfl rfl (a:=1) (b:=(u::rest).length) ⟨_,rfl⟩ rfl (by simp) rK ?_;replace hs:=hs.cutFrom (i:=0) (a:=1) rfl (by simp);refine aX rfl<|aZ rfl<|aI ?_;have dI:St g g1 [Ah (.slice (if qc=1 then qa else qa.map (·.add (1*1))) ((u::rest).length-1) (qc-1)) rest,o8 ob f.steps.length out]:=hs;clear hs;have Z9:rest.length+out.count false+1=(u::rest).length+out.count false:=by simp;omega
  have pN:=aD;have HK:=bR;have mQ:=G.le.refl g1;refine bK (fun m a' w=> ∃(i:Nat) (q:List Int) (o2:List Bool) (qv:Value) (g3:G),w=g3.w∧St g g3 [Ah qv q,o8 ob f.steps.length o2]∧G.le g1 g3∧qZ f n o2 q (· =u)∧dh o2 u∧(∀c∈l.take i,dh o2 c)∧q.length+o2.count false=rest.length+out.count false∧i≤l.length∧m=l.length-i∧
    Fr 56 [] [(1,vI n),(2,vP bf),(5,.slice (vA ob) f.steps.length f.steps.length),(6,qv),(7,.slice al l.length cl),(8,vI i)] a') l.length
   (fun a' ha=>⟨0,rest,out,_,g1,rfl,dI,mQ,hb,MC,by simp,rfl,Nat.zero_le _,rfl,ha.kp rfl⟩) ?_
  clear dI mQ aD dt bR hb MC;rintro m a' _ ⟨i,q,o2,qv,g3,rfl,hs,mQ,hb,MC,sK,KR,hi,rfl,dW⟩;have aD:=pN.mono mQ;have bR:=HK.mono mQ;obtain⟨qb,qd,rfl⟩:=(hs.own 0 _ rfl).1.form;have Hz:=hb.len;revert a';refine ct<|az<|aZ rfl ?_;by_cases bt:i<l.length
  ·refine aJ (b:=decide ((i:Int)<(l.length:Int))) (decide_eq_true (by omega)) rfl ?_;have eH:=bZ (xs:=l) (n:=(i:Int)) rfl bt;have G7:l.take (i+1)=l.take i++[l[i]]:=List.take_succ_eq_append_getElem bt;have fw:=List.getElem_mem bt;have BL:gH f l[i]:=QY _ fw;generalize l[i]=c at*;have nS:=BL.1;have P6:=BL.2;have MD:c.toNat<o2.length:=by omega
   have QZ:dh o2 c↔o2[c.toNat]=true:=by unfold dh;rw[List.getD_eq_getElem?_getD,List.getElem?_eq_getElem MD];rfl
   refine aF<|aq<|az<|aI<|cG 3 rfl<|zc (y:=c) bR eH rfl ?_;rintro b p ys aL rfl;refine q5 1 [.e aL 0] rfl ?_;clear aL;refine ak rfl rfl<|eo T.ok rfl (hs.own 1 _ rfl).1 nS (by omega) rfl rfl rfl rfl rfl rfl fun b p hh=>?_;obtain⟨rfl,rfl⟩:ob=b∧0=p:=by simpa using hh
   refine ak rfl rfl (fB T.ok (c.toNat*1) rfl (hs.own 1 _ rfl).1 rfl (v:=.bool o2[c.toNat]) (by show(List.map Value.bool _)[c.toNat*1]? =_;rw[Nat.mul_one,List.getElem?_map,List.getElem?_eq_getElem MD];rfl) ?_);refine aX rfl ?_;cases YL:o2[c.toNat]with
   |true=>
    refine aar rfl ?_;have Oa: ∀d∈l.take (i+1),dh o2 d:=fun d hd=>by
     rw[G7]at hd;rcases List.mem_append.1 hd with hd|hd
     ·exact sK d hd
     rw[List.mem_singleton]at hd;subst hd;exact QZ.2 YL
    exact aF<|bJ<|aq<|an<|Wp 3 rfl<|aA<|fun a ha=>⟨l.length-(i+1),by omega,i+1,q,o2,_,_,rfl,hs,mQ,hb,MC,Oa,KR,by omega,rfl,ha.keep ⟨rfl,rfl,rfl,rfl,rfl,kW rfl,trivial⟩⟩
   |false=>
    refine aas rfl ?_;have UU:=hb.add zb MC BL (by rw[rL];exact fw);have VD:dh (o2.set c.toNat true) u:=(iz Hz BL zb).2 (.inr MC);have Oa: ∀d∈l.take (i+1),dh (o2.set c.toNat true) d:=fun d hd=>by
     rw[G7]at hd;rcases List.mem_append.1 hd with hd|hd
     ·exact(iz Hz BL (QY d (List.mem_of_mem_take hd))).2 (.inr (sK d hd))
     rw[List.mem_singleton]at hd;subst hd;exact(iz Hz BL BL).2 (.inl rfl)
    have ph:=iK (o:=o2) (i:=c.toNat) (by rw[List.getElem?_eq_getElem MD,YL]);refine cG 3 rfl<|zc (y:=c) bR eH rfl ?_;rintro b p ys aL rfl;refine q5 1 [.e aL 0] rfl ?_;clear aL;refine ak rfl rfl<|eo T.ok rfl (hs.own 1 _ rfl).1 nS (by omega) rfl rfl rfl rfl rfl rfl fun b p hh=>?_;obtain⟨rfl,rfl⟩:ob=b∧0=p:=by simpa using hh
    refine bu rfl<|iA T.ok 1 (c.toNat*1) (us:=[.bool true]) rfl hs rfl rfl rfl rfl rfl rfl rfl (by decide) (by simp;omega) (vR _ _ Value.bool true (by omega)) fun g9 hs ai=>?_;obtain⟨mQ,bR⟩:=cr ai mQ bR;refine b_<|an<|Wp 3 rfl<|zc (y:=c) bR eH rfl ?_;rintro b p ys aL rfl;refine q5 1 [.e aL 0] rfl ?_;clear aL;refine BP [(0,vI c)] [vI c] hs rfl rfl fun bl gl hs ai=>?_;replace mQ:=G.le.trans mQ ai;refine ak rfl rfl<|bU T.ok 1 rfl hs rfl rfl rfl rfl rfl rfl rfl (by decide) rfl (Src.eI (hs.own 0 _ rfl).1).2 (by simp[Value.oneCell']) (by show(q.length+1)*8≤_;simp at hle;omega) (by unfold maxLen;simp at hle;omega) fun a9 c9 g8 hs ai=>?_;replace mQ:=G.le.trans mQ ai;exact Wp 1 rfl<|aA<|bJ<|aq<|an<|Wp 3 rfl<|aA<|fun a ha=>⟨l.length-(i+1),by omega,i+1,q++[c],o2.set c.toNat true,.slice a9 (q.length+1) c9,_,rfl,by simpa [Ah,o8,List.map_set]using hs.drop 0,mQ,UU,VD,Oa,by rw[List.length_append];simp;omega,by omega,rfl,ha.keep ⟨rfl,rfl,rfl,rfl,rfl,kW rfl,trivial⟩⟩
  refine aQ (b:=decide ((i:Int)<(l.length:Int))) (decide_eq_false (by omega)) rfl ?_;rw[List.take_of_length_le (by omega),←rL]at sK;exact bc<|bg<|bg<|cA<|bJ<|fun a ha=>⟨q.length+o2.count false,by omega,q,o2,_,_,rfl,hs,fN.trans mQ,hb.done sK,by omega,rfl,ha.kp rfl⟩
end Go.Proofs.YtbfjdfecgiegpaaGreatDoor
namespace Go.Proofs.YtbfjdfecgiegpaaGreatDoor
open Go Go.K Tryz
set_option maxRecDepth 10000
attribute [local irreducible] W WL cS bh bY bB bA bC cL cD
set_option maxHeartbeats 1000000
theorem yz{f:bG}{n x:Int}(h:x∈reach f n):gH f x:=by
 unfold reach at h;split at h
 ·have:=(wV.1 h).1;rw[pM]at this;exact this
 simp at h
theorem BM(v:Value)(f:bG)(n:Int)(g:G)(dt:fP g v f):
  cN prog 173 #[v,vI n] g (kh 3 g (reach f n)):=by
 obtain⟨a1,n1,c1,a2,n2,c2,rfl,aH,aW⟩:=id dt;have hs:=St.start g;have ar:=G.le.refl g;refine enter func173 rfl ntmps173 rfl<|cR<|EH hs rfl fun b1 g1 hs ai=>?_;replace dt:=dt.mono ai;refine aX rfl<|az<|c_ 2 [.o 0] hs rfl ?_;obtain⟨g2,bS,aV,ai,aL⟩:=hs.bd (i:=0) rfl;replace hs:=aV;clear aV;rw[←bS];replace dt:=dt.mono ai;have aD:=aL;clear aL;refine Ev rfl (HH _ f n _ dt) hs fun g1 hs ai=>?_;obtain⟨aD,dt⟩:=cr ai aD dt;refine aX rfl ?_;cases hg:given f [n]with
 |false=>
  refine aas rfl<|aZ rfl<|aG<|nw rfl hs ?_;unfold reach;rw[hg];exact kh.nil _ _ _ _
 |true=>
  refine aar rfl ?_;obtain⟨cF,hn⟩:=ky.1 hg;have Ob:=sI cF;refine aF<|aq<|sP 2 [.z aD] rfl<|sO rfl (rJ _ f n _ dt cF hn) fun g1 vo aP wW=>?_;obtain⟨gz,gF,cK,gW,cd⟩:=hs.jO aP wW;have ai:=aP.le.trans gW;rw[←gF];replace hs:=cK;clear cK wW;obtain⟨ab,cb,rfl⟩:=cd.isSlice;have CX:=eG f n;generalize ri:cu f n=bs at*;replace hs:=hs.eP 3 1 none;refine aX rfl<|aZ rfl<|az<|aZ rfl<|aI ?_;have wX:=cd;have fN:=G.le.refl gz
  refine bK (fun m a' w=> ∃(k:Nat) (g':G) (v:Value),w=g'.w∧St g g' [.row 3 1 v (ib 0 (bs.take k)).length ((ib 0 (bs.take k)).map (Value.int .i64))]∧G.le gz g'∧k≤bs.length∧m=bs.length-k∧
   Fr 30 [] [(5,.slice ab bs.length cb),(6,v),(7,vI k)] a') bs.length (fun a' ha=>⟨0,_,_,rfl,hs,fN,Nat.zero_le _,rfl,ha.kp rfl⟩) ?_
  clear hs fN cd;rintro m a' _ ⟨k,g',v,rfl,hs,fN,hk,rfl,dW⟩;have cd:=wX.mono fN;revert a';refine ct<|az<|aZ rfl ?_;by_cases bt:k<bs.length
  ·refine aJ (b:=decide ((k:Int)<(bs.length:Int))) (decide_eq_true (by omega)) rfl ?_;have KI:=t_ (bs.take k) 0;rw[List.length_take]at KI;have nd:=wY bs k bt;have eH:=bZ (xs:=bs) (n:=(k:Int)) rfl bt;refine aF<|aq<|az<|aI<|cG 2 rfl<|zc (y:=bs[k]) cd eH rfl ?_;rintro b p ys aL rfl;refine q5 1 [.e aL 0] rfl<|b_ ?_;cases hb:bs[k]with
   |false=>
    refine aar rfl ?_;rw[hb,if_neg (by simp),List.append_nil]at nd;exact aF<|bJ<|aq<|an<|Wp 3 rfl<|aA<|fun a ha=>⟨bs.length-(k+1),by omega,k+1,_,v,rfl,by rw[nd];exact hs,fN,by omega,rfl,ha.keep ⟨rfl,rfl,kW rfl,trivial⟩⟩
   |true=>
    refine aas rfl ?_;rw[hb,if_pos rfl]at nd;refine an<|Wp 2 rfl<|BP [(0,vI k)] [vI k] hs rfl rfl fun b2 g2 hs ai=>?_;replace fN:=G.le.trans fN ai;refine ak rfl rfl<|bU T.ok 1 rfl hs rfl rfl rfl rfl rfl rfl rfl (by decide) rfl (Src.eI (hs.own 0 _ rfl).1).2 (by simp[Value.oneCell']) (by show((ib 0 (bs.take k)).length+1)*8≤_;omega) (by unfold maxLen;omega) fun a' c' g3 hs ai=>?_;replace fN:=G.le.trans fN ai;exact Wp 1 rfl<|aA<|bJ<|aq<|an<|Wp 3 rfl<|aA<|fun a ha=>⟨bs.length-(k+1),by omega,k+1,_,.slice a' ((ib 0 (bs.take k)).length+1) c',rfl,by rw[nd];simpa using hs.drop 0,fN,by omega,rfl,ha.keep ⟨rfl,rfl,kW rfl,trivial⟩⟩
  refine aQ (b:=decide ((k:Int)<(bs.length:Int))) (decide_eq_false (by omega)) rfl ?_;obtain rfl:k=bs.length:=by omega
  refine bc<|bg<|bg<|cA<|aq<|aZ rfl<|aG<|nw rfl hs ?_;unfold reach;rw[hg,if_pos rfl,ri];rw[List.take_length]at hs;exact hs.mw (i:=0) rfl (cY.ints _ _)
theorem ub(l:List Int)(p:Int→Bool)(k:Nat)(h:k<l.length):(l.take (k+1)).filter p=(l.take k).filter p++(if p l[k]then [l[k]]else []):=by
 rw[List.take_succ_eq_append_getElem h,List.filter_append];congr 1;by_cases hp:p l[k]
 ·rw[if_pos hp,List.filter_cons_of_pos hp];rfl
 rw[if_neg hp,List.filter_cons_of_neg hp];rfl
theorem KS(v:Value)(f:bG)(g:G)(dt:fP g v f):
  cN prog 174 #[v] g (kh 3 g (ends f)):=by
 obtain⟨a1,n1,c1,a2,n2,c2,rfl,aH,aW⟩:=id dt;obtain⟨_,_,e⟩:=aH.isSlice;obtain⟨rfl,rfl,rfl⟩:=Value.slice.inj e;clear e;have hs:=St.start g;have ar:=G.le.refl g;refine enter func174 rfl ntmps174 rfl<|cR<|EH hs rfl fun b1 g1 hs ai=>?_;obtain⟨aH,dt⟩:=cr ai aH dt;refine aX rfl<|c_ 1 [.o 0] hs rfl ?_;obtain⟨g2,bS,aV,ai,aL⟩:=hs.bd (i:=0) rfl;replace hs:=aV;clear aV;rw[←bS];obtain⟨aH,dt⟩:=cr ai aH dt;have aD:=aL;clear aL;refine sO rfl (BM _ f 0 _ dt) fun g1 vo aP wW=>?_;obtain⟨gz,gF,cK,gW,cd⟩:=hs.jO aP wW;have ai:=aP.le.trans gW;rw[←gF];replace hs:=cK;clear cK wW;obtain⟨aD,aH⟩:=cr ai aD aH;obtain⟨ab,cb,rfl⟩:=cd.isSlice;have CX:=qB f 0;unfold ends;have HM: ∀n∈reach f 0,gH f n:=fun n hn=>yz hn;have Ob:(reach f 0).length≤40:=by
  by_cases hv:valid f=true
  ·have:=sI hv;omega
  have:reach f 0=[]:=by unfold reach;rw[if_neg (fun h=>hv (ky.1 h).1)]
  rw[this];simp
 generalize ri:reach f 0=l at*;replace hs:=hs.eP 3 1 none;refine aX rfl<|aZ rfl<|az<|aZ rfl<|aI ?_;have wX:=cd;have mP:=aD;have pL:=aH;have fN:=G.le.refl gz
 refine bK (fun m a' w=> ∃(k:Nat) (g':G) (v:Value),w=g'.w∧St g g' [.row 3 1 v ((l.take k).filter fun n=>oV (bj f n)).length (((l.take k).filter fun n=>oV (bj f n)).map (Value.int .i64))]∧G.le gz g'∧k≤l.length∧m=l.length-k∧
  Fr 33 [] [(1,vP b1),(3,.slice ab l.length cb),(4,v),(5,vI k)] a') l.length (fun a' ha=>⟨0,_,_,rfl,hs,fN,Nat.zero_le _,rfl,ha.kp rfl⟩) ?_
 clear hs fN cd aD aH dt aW;rintro m a' _ ⟨k,g',v,rfl,hs,fN,hk,rfl,dW⟩;have cd:=wX.mono fN;have aD:=mP.mono fN;have aH:=pL.mono fN;revert a';refine ct<|az<|aZ rfl ?_;by_cases bt:k<l.length
 ·refine aJ (b:=decide ((k:Int)<(l.length:Int))) (decide_eq_true (by omega)) rfl ?_;have nd:=ub l (fun n=>oV (bj f n)) k bt;have pg:((l.take k).filter fun n=>oV (bj f n)).length≤k:=Nat.le_trans (List.length_filter_le _ _) (by rw[List.length_take];omega);have eH:=bZ (xs:=l) (n:=(k:Int)) rfl bt;have lx:=HM _ (List.getElem_mem bt);generalize l[k]=n at*;generalize(l.take k).filter (fun n=>oV (bj f n))=fl at*;refine aF<|aq<|az<|aI<|az ?_;apply bD hs (gU (.f (Ai n)::(fe (.f (vS 0 (bj f n))::(.f (vS 4 (bj f n))::(.f (Fact.rs (bj f n).next)::(eF []))))))) 11 [(10,24)] (by kernel_rfl) rfl
  ·refine pO [[],[0],[],[]] [.e aD 2] (St.start _) rfl<|fR [(2,16),(3,17)] (fun gd hf=>?_) ?_
   ·have eT:=(G.bI _).trans hf.le;exact aat rfl<|aj<|ay rfl<|aR T.ok rfl (cd.mono eT) (y:=n) eH rfl rfl rfl rfl rfl rfl fun b p ys aL gw=>⟨_,rfl,a_.refl _,b,p,rfl,by rw[←show ys=[Value.int .i64 n]from gw];exact aL⟩
   refine fR [(4,18)] (fun gd hf=>?_) ?_
   ·skip;refine ba fun v4 h4=>?_;apply aj;obtain⟨b,p,rfl,aL⟩:=h4;refine ay rfl<|cI T.ok 0 rfl aL rfl rfl<|⟨_,rfl,a_.refl _,?_⟩;exact rfl
   refine fR [(1,15),(5,19)] (fun gd hf=>?_) ?_
   ·have eT:=(G.bI _).trans hf.le;exact aat rfl<|aj<|ay rfl<|aR T.ok rfl (aH.mono eT) (y:=bj f n) (qA lx) rfl rfl rfl rfl rfl rfl fun b p ys aL gw=>⟨_,rfl,a_.refl _,b,p,ys,rfl,aL,gw⟩
   refine fR [(6,20)] (fun gd hf=>?_) ?_
   ·skip;refine ba fun v6 h6=>?_;apply aj;obtain⟨b,p,ys,rfl,aL,gw⟩:=h6;exact ay rfl<|aE _ T.ok rfl<|⟨_,rfl,a_.refl _,b,p,ys,rfl,aL,gw⟩
   refine fR [(7,21)] (fun gd hf=>?_) ?_
   ·skip;refine ba fun v7 h7=>?_;apply aj;obtain⟨b,p,ys,rfl,aL,gw⟩:=h7;obtain⟨b1,b2,b3,b4,b5,b6,rfl,Df,P3⟩:=gw;exact ay rfl<|cI T.ok 4 rfl aL rfl rfl<|⟨_,rfl,a_.refl _,P3⟩
   refine fR [(8,22)] (fun gd hf=>?_) ?_
   ·skip;refine ba fun v8 h8=>?_;apply aj;obtain⟨a5,c5,rfl⟩:=Rs.isSlice h8;refine ay rfl<|aE _ T.ok rfl<|⟨_,rfl,a_.refl _,?_⟩;exact rfl
   exact fR [(9,23)] (fun gd hf=>aax rfl (aaL rfl (congrArg Value.bool (show _=oV (bj f n)from rfl))))<|gG
  clear hs;intro g1 hs ai;obtain⟨fN,cd⟩:=cr ai fN cd;apply b_;cases hb:oV (bj f n)with
  |false=>
   refine aar rfl ?_;rw[hb,if_neg (by simp),List.append_nil]at nd;exact aF<|bJ<|aq<|an<|Wp 3 rfl<|aA<|fun a ha=>⟨l.length-(k+1),by omega,k+1,_,v,rfl,by rw[nd];exact hs,fN,by omega,rfl,ha.keep ⟨rfl,rfl,rfl,kW rfl,trivial⟩⟩
  |true=>
   refine aas rfl ?_;rw[hb,if_pos rfl]at nd;refine an<|Wp 3 rfl<|zc (y:=n) cd eH rfl ?_;rintro b p ys aL rfl;refine q5 1 [.e aL 0] rfl<|BP [(0,vI n)] [vI n] hs rfl rfl fun b2 g2 hs ai=>?_;replace fN:=G.le.trans fN ai;refine ak rfl rfl<|bU T.ok 1 rfl hs rfl rfl rfl rfl rfl rfl rfl (by decide) rfl (Src.eI (hs.own 0 _ rfl).1).2 (by simp[Value.oneCell']) (by show(fl.length+1)*8≤_;omega) (by unfold maxLen;omega) fun a' c' g3 hs ai=>?_;replace fN:=G.le.trans fN ai;exact Wp 1 rfl<|aA<|bJ<|aq<|an<|Wp 3 rfl<|aA<|fun a ha=>⟨l.length-(k+1),by omega,k+1,_,.slice a' (fl.length+1) c',rfl,by rw[nd];simpa using hs.drop 0,fN,by omega,rfl,ha.keep ⟨rfl,rfl,rfl,kW rfl,trivial⟩⟩
 refine aQ (b:=decide ((k:Int)<(l.length:Int))) (decide_eq_false (by omega)) rfl ?_;obtain rfl:k=l.length:=by omega
 refine bc<|bg<|bg<|cA<|aq<|aZ rfl<|aG<|nw rfl hs ?_;rw[List.take_length]at hs;exact hs.mw (i:=0) rfl (cY.ints _ _)
end Go.Proofs.YtbfjdfecgiegpaaGreatDoor
