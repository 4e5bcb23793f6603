/- Parts of the proof, from: The walks through the generator of package ref19: Reworks. -/
import Derived.Test.YtkpojaffabjibaaGreatDoorYj
namespace Go.Proofs.YtkpojaffabjibaaGreatDoor
open Go Go.K Tryz
attribute [local irreducible] W WL cQ aP bG aR aQ aS cK ct
set_option maxRecDepth 10000
set_option maxHeartbeats 1000000
theorem NR(v u:Value)(f:aU)(s:Step)(h:List bc)(n:Int)(g:G)(dx:eQ g v f)(aT:Rs g u h)(dj:dq f.steps n=some s)(hl:h.length≤1000000):cN prog 52 #[v,u,vI n] g fun _ r=>r=vI (xk (some f) h n):=by
 have hs:=St.start g;have aj:=G.le.refl g;have YG:xk (some f) h n=((if s.next.contains s.back then 0 else((List.range (h.length-1)).filter (MH h n s.back)).length:Nat):Int):=by unfold xk;rw[show iu (some f) n=some s from dj];show(if s.next.contains s.back=true then(0:Int)else _)=_;cases s.next.contains s.back<;>rfl
 rw[YG];clear YG;obtain⟨a3,c3,rfl⟩:=aT.isSlice;obtain⟨a1,n1,c1,a2,n2,c2,rfl,aE,bB⟩:=dx;clear bB;obtain⟨_,_,e⟩:=aE.isSlice;obtain⟨rfl,rfl,rfl⟩:=aaO e;clear e;refine enter func52 rfl ntmps52 rfl<|cO<|gF hs rfl fun b2 g2 hs ag aq=>?_;obtain⟨aj,aE,aT⟩:=eS ag aj aE aT;refine aF rfl<|aD rfl<|ak<|aD rfl<|aw ?_
 refine aZ (fun m a' w=> ∃(k q:Nat) (g':G),w=g'.w∧St g g' []∧G.le g g'∧Rs g' (.slice a1 f.steps.length c1) f.steps∧Rs g' (.slice a3 h.length c3) h∧EP g' b2 0 [vI f.bS,vI f.cd,.slice a1 f.steps.length c1,.slice a2 n2 c2]∧(k+1≤h.length∨k=0)∧(if s.next.contains s.back then 0 else((List.range k).filter (MH h n s.back)).length)=q∧m=h.length-k∧
   Fr 50 [] [(1,.slice a3 h.length c3),(2,vI n),(3,vP b2),(7,vI (q:Nat)),(8,vI (k+1:Nat))] a') h.length
  (fun a' ha=>⟨0,0,_,rfl,hs,aj,aE,aT,aq,.inr rfl,by simp,rfl,ha.kp rfl⟩) ?_
 (repeat clear hs);(repeat clear aT);(repeat clear aj);(repeat clear aq);(repeat clear aE);rintro m a' _ ⟨k,q,g',rfl,hs,aj,aE,aT,aq,hk,hq,rfl,dT⟩
 have hqk:q≤k:=by
  rw[←hq];split
  ·exact aar _
  exact aaC (abq ..) (by rw[acN];omega)
 revert a';refine bT<|ak<|aD rfl ?_;by_cases aV:k+1<h.length
 ·refine aG (b:=decide (((k+1:Nat):Int)<(h.length:Int))) (by simp;omega) rfl ?_;obtain⟨b0,p0,ys,rfl,xG,hx⟩:=aT.at (i:=k) (aas (by omega));obtain⟨V5,V6,OM,e,Ie,hy⟩:=aT.at (i:=k+1) (aas aV);obtain⟨rfl,rfl⟩:b0=V5∧p0=V6:=by simpa using e
  clear e;have lH:(if s.next.contains s.back then 0 else((List.range (k+1)).filter (MH h n s.back)).length)=q+(if h[k].step==n&&(h[k+1].step==s.back&& !s.next.contains s.back)then 1 else 0):=by
   rw[←hq];cases s.next.contains s.back with
   |true=>simp
   |false=>
    rw[if_neg (by simp),if_neg (by simp),acs,abe,aal,Bool.not_false,Bool.and_true];congr 1;have e:MH h n s.back k=(h[k].step==n&&h[k+1].step==s.back):=by unfold MH;rw[aaP,aaP,aas (by omega),aas aV];rfl
    rw[abU,e];split<;>rfl
  generalize h[k]=x at hx lH;generalize h[k+1]=y at hy lH;obtain rfl:ys=bK x:=hx;obtain rfl:OM=bK y:=hy;clear hq;refine ar<|ai<|ak<|aw<|eO 3 [.z aq] rfl<|fP (y:=s) aE dj rfl fun b6 q6 ys aK fw=>?_;obtain⟨a7,n7,c7,a8,n8,c8,rfl,fg,ij⟩:=fw;clear fg;have cF:=aK;clear aK;refine dE 1 [.e cF 0] rfl<|fA hs rfl fun b9 g1 hs ag=>?_;obtain⟨aj,aq,xG,Ie,aE,aT⟩:=iB ag aj aq xG Ie aE aT;replace ij:=ij.mono ag;refine om 0 hs rfl fun g2 hs ag aB=>?_;obtain⟨aj,aq,xG,Ie,aE,aT⟩:=iB ag aj aq xG Ie aE aT;replace ij:=ij.mono ag;refine bE<|ak ?_;cases h1:x.step==n with
  |false=>
   rw[h1]at lH;apply aO hs (eA (.e (vI (k:Nat))::gR (.e (.bool false)::cV (cV (eA []))))) 26 [(25,46)] (by kernel_rfl) rfl
   ·exact cY [[],[]] [] hs rfl<|aW [(1,22)] (fun gd hf=>cj rfl (bj rfl (congrArg (Value.int .i64) (by rw[wq];omega))))<|aW [(0,21),(2,23)] (fun gd hf=>bN rfl (ay rfl (ff T.ok rfl rfl rfl (by omega) (by omega) rfl rfl rfl (cC rfl))))<|cY [[3],[4],[]] [.e xG 13] hs rfl<|aW [(5,26),(6,27)] (fun gd hf=>bN rfl (bj rfl (congrArg Value.bool h1)))<|mX [[7],[8],[8],[9,10,8],[11,8],[12,8],[8],[14,8],[13,15,8],[8,16],[17],[18],[19,18],[18],[21,18],[20,22,18,18],[23,18],[18,24]] [] hs rfl
   (repeat clear hs);intro g6 hs ag;obtain⟨aj,aq,aB,xG,Ie,aE⟩:=iB ag aj aq aB xG Ie aE;obtain⟨aT,ij⟩:=cA ag aT ij;exact bE<|bI rfl<|ar<|aX<|ai<|ah<|Wp 3 rfl<|an<|fun a ha=>⟨h.length-(k+1),by omega,k+1,q,_,rfl,hs,aj,aE,aT,aq,.inl (by omega),lH,rfl,ha.keep ⟨rfl,rfl,rfl,rfl,kW rfl,trivial⟩⟩
  |true=>
   rw[h1]at lH;cases h2:y.step==s.back with
   |false=>
    rw[h2]at lH;apply aO hs (eA (.e (vI (k:Nat))::gR (.e (.bool true)::cV (.e (.bool false)::cV (fe []))))) 26 [(25,46)] (by kernel_rfl) rfl
    ·exact cY [[],[]] [] hs rfl<|aW [(1,22)] (fun gd hf=>cj rfl (bj rfl (congrArg (Value.int .i64) (by rw[wq];omega))))<|aW [(0,21),(2,23)] (fun gd hf=>bN rfl (ay rfl (ff T.ok rfl rfl rfl (by omega) (by omega) rfl rfl rfl (cC rfl))))<|cY [[3],[4],[]] [.e xG 13] hs rfl<|aW [(5,26),(6,27)] (fun gd hf=>bN rfl (bj rfl (congrArg Value.bool h1)))<|cY [[7],[8],[8]] [] hs rfl<|aW [(9,30),(10,31),(8,29)] (fun gd hf=>dD rfl (ay rfl (ff T.ok rfl rfl rfl (by omega) (by omega) rfl rfl rfl (cC rfl))))<|cY [[11,8],[12,8],[8],[14,8]] [.e Ie 13,.z aB] hs rfl<|aW [(13,34),(15,36),(8,29)] (fun gd hf=>dD rfl (bj rfl (congrArg Value.bool h2)))<|mX [[8,16],[17],[18],[19,18],[18],[21,18],[20,22,18,18],[23,18],[18,24]] [] hs rfl
    (repeat clear hs);intro g6 hs ag;obtain⟨aj,aq,aB,xG,Ie,aE⟩:=iB ag aj aq aB xG Ie aE;obtain⟨aT,ij⟩:=cA ag aT ij;exact bE<|bI rfl<|ar<|aX<|ai<|ah<|Wp 3 rfl<|an<|fun a ha=>⟨h.length-(k+1),by omega,k+1,q,_,rfl,hs,aj,aE,aT,aq,.inl (by omega),lH,rfl,ha.keep ⟨rfl,rfl,rfl,rfl,kW rfl,trivial⟩⟩
   |true=>
    rw[h2]at lH;apply aO hs (eA (.e (vI (k:Nat))::gR (.e (.bool true)::cV (.e (.bool true)::cV (fe []))))) 26 [(25,46)] (by kernel_rfl) rfl
    ·exact cY [[],[]] [] hs rfl<|aW [(1,22)] (fun gd hf=>cj rfl (bj rfl (congrArg (Value.int .i64) (by rw[wq];omega))))<|aW [(0,21),(2,23)] (fun gd hf=>bN rfl (ay rfl (ff T.ok rfl rfl rfl (by omega) (by omega) rfl rfl rfl (cC rfl))))<|cY [[3],[4],[]] [.e xG 13] hs rfl<|aW [(5,26),(6,27)] (fun gd hf=>bN rfl (bj rfl (congrArg Value.bool h1)))<|cY [[7],[8],[8]] [] hs rfl<|aW [(9,30),(10,31),(8,29)] (fun gd hf=>dD rfl (ay rfl (ff T.ok rfl rfl rfl (by omega) (by omega) rfl rfl rfl (cC rfl))))<|cY [[11,8],[12,8],[8],[14,8]] [.e Ie 13,.z aB] hs rfl<|aW [(13,34),(15,36),(8,29)] (fun gd hf=>dD rfl (bj rfl (congrArg Value.bool h2)))<|mX [[8,16],[17],[18],[19,18],[18],[21,18],[20,22,18,18],[23,18],[18,24]] [.z aB,.z aB,.c (cB 92) fun g' h=>Ff _ s.next s.back g' (ij.mono h)] hs rfl
    (repeat clear hs);intro g6 hs ag;obtain⟨aj,aq,aE,aT⟩:=dU ag aj aq aE aT;apply bE;revert lH;generalize s.next.contains s.back=cn;intro lH;cases cn with
    |true=>
     exact bI rfl<|ar<|aX<|ai<|ah<|Wp 3 rfl<|an<|fun a ha=>⟨h.length-(k+1),by omega,k+1,q,_,rfl,hs,aj,aE,aT,aq,.inl (by omega),lH,rfl,ha.keep ⟨rfl,rfl,rfl,rfl,kW rfl,trivial⟩⟩
    |false=>
     exact bZ rfl<|ah<|Wp 3 rfl<|an<|aX<|ai<|ah<|Wp 3 rfl<|an<|fun a ha=>⟨h.length-(k+1),by omega,k+1,q+1,_,rfl,hs,aj,aE,aT,aq,.inl (by omega),lH,rfl,ha.keep ⟨rfl,rfl,rfl,kW rfl,kW rfl,trivial⟩⟩
 refine bg (b:=decide (((k+1:Nat):Int)<(h.length:Int))) (by simp;omega) rfl<|aJ<|aM<|aM<|b_<|ai<|aD rfl<|au<|cg rfl hs ?_;rw[←hq,show k=h.length-1 from by omega]
def kY(f:aU)(h:List bc):List Int:=
 match h.getLast? with
 |none=>[0]
 |some x=>match dq f.steps x.step with
  |none=>[]
  |some s=>if decide (0≤s.back)&&decide (xk (some f) h x.step<s.dv)then km s.next s.back else s.next
theorem BR{f:aU}{hi:List bc}{x:bc}(e:dq f.steps x.step=none):kY f (hi++[x])=[]:=by unfold kY;rw[ac1];simp only[e]
theorem yi{f:aU}{hi:List bc}{x:bc}{s:Step}(e:dq f.steps x.step=some s):kY f (hi++[x])=if decide (0≤s.back)&&decide (xk (some f) (hi++[x]) x.step<s.dv)then km s.next s.back else s.next:=by unfold kY;rw[ac1];simp only[e]
def Vp(f:aU):Prop:=∀s∈f.steps,s.next.length≤100000
theorem vz(v u:Value)(f:aU)(h:List bc)(g:G)(eo:eQ g v f)(aT:Rs g u h)(hl:h.length≤1000000)(hn:Vp f):cN prog 21 #[v,u] g fun g' r=>Rs g' r (kY f h):=by
 have hs:=St.start g;have aj:=G.le.refl g;obtain⟨a3,c3,rfl⟩:=aT.isSlice;have Wa:=eo;obtain⟨a1,n1,c1,a2,n2,c2,rfl,aE,bB⟩:=Wa;clear bB;obtain⟨_,_,e⟩:=aE.isSlice;obtain⟨rfl,rfl,rfl⟩:=aaO e;clear e;refine enter func21 rfl ntmps21 rfl<|cO<|gF hs rfl fun b2 g2 hs ag aq=>?_;obtain⟨aE,aT,eo⟩:=eS ag aE aT eo;refine aF rfl<|ak<|aD rfl ?_;rcases ach h with rfl|⟨hi,x,rfl⟩
 ·refine aG (b:=(([]:List bc).length:Int)==0) rfl rfl<|cO<|iX [(0,vI ((0:Int)))] [vI ((0:Int))] hs rfl rfl fun bl gl hs ag=>?_;obtain⟨aq,aE,aT,eo⟩:=dU ag aq aE aT eo;obtain⟨gz,gX,dk,iw,fg⟩:=hs.cD (α:=Int) (xs:=[(0:Int)]) (i:=0) rfl (cR.ints _ [(0:Int)]);clear ag;have ag:=iw;rw[←gX];replace hs:=dk;clear dk;obtain⟨aq,aE,aT,eo⟩:=dU ag aq aE aT eo;exact aF rfl<|au (cg rfl hs fg)
 rw[ab9]at*;refine bg (b:=((hi++[x]).length:Int)==0) (by simp;omega) rfl ?_;have xm:(hi++[x]).length=hi.length+1:=by simp
 have eI:dq (hi++[x]) (IntKind.i64.wrap (((hi++[x]).length:Nat)-1))=some x:=by rw[wq,xm,show((hi.length+1:Nat):Int)-1=(hi.length:Nat)from by omega];unfold dq;rw[if_neg (by omega)];simp
 refine ar<|ai<|ck 4 rfl<|fP (y:=x) aT eI rfl ?_;rintro b9 q9 ys aK rfl;refine Wp 1 rfl<|dE 1 [.e aK 13] rfl ?_;clear aK;refine aF rfl<|ak<|ck 3 rfl ?_;cases h1:decide (x.step<0)with
 |true=>
  have e:dq f.steps x.step=none:=if_pos (of_decide_eq_true h1);exact aF rfl<|bZ rfl<|aD rfl<|au (cg rfl hs (by rw[BR e];exact Rs.nil _))
 |false=>
  have h1:=of_decide_eq_false h1;refine BS [.z aq] rfl ?_;by_cases h2:(f.steps.length:Int)≤x.step
  ·have e:dq f.steps x.step=none:=(if_neg h1).trans (abx (by omega));exact aG (b:=decide ((f.steps.length:Int)≤x.step)) (decide_eq_true h2) rfl<|aD rfl<|au (cg rfl hs (by rw[BR e];exact Rs.nil _))
  have aV:x.step.toNat<f.steps.length:=by omega
  have dj:dq f.steps x.step=some f.steps[x.step.toNat]:=(if_neg h1).trans (aas aV);refine bg (b:=decide ((f.steps.length:Int)≤x.step)) (decide_eq_false h2) rfl ?_;have Fi:f.steps[x.step.toNat].next.length≤100000:=hn _ (aaQ aV);generalize f.steps[x.step.toNat]=s at*;refine ar<|ai<|eO 3 [.z aq] rfl<|fP (y:=s) aE dj rfl fun b6 q6 ys aK fw=>?_;obtain⟨a7,n7,c7,a8,n8,c8,rfl,fg,ij⟩:=fw;clear fg;have cF:=aK;clear aK;refine dE 1 [.e cF 0] rfl<|fA hs rfl fun b7 g1 hs ag=>?_;obtain⟨aq,aT,ij,eo⟩:=dU ag aq aT ij eo;refine om 0 hs rfl fun g2 hs ag aB=>?_;obtain⟨aq,aT,ij,eo⟩:=dU ag aq aT ij eo;refine bE<|cO<|iX [] [] hs rfl rfl fun b8 g9 hs ag=>?_;obtain⟨aq,aB,aT,ij,eo⟩:=mY ag aq aB aT ij eo;refine dE 2 [.z aB] rfl ?_;obtain⟨hn8,news,fw,iO⟩:=Src.jh ij;refine aN rfl rfl<|ba T.ok 0 rfl hs rfl rfl rfl rfl rfl rfl rfl (by decide) rfl iO fw.rU (by show(0+n8)*8≤_;omega) (by unfold maxLen;omega) fun a6 c6 g10 hs ag=>?_;obtain⟨aq,aB,aT,eo⟩:=dU ag aq aB aT eo;obtain⟨g13,uL,uM,ag,cU⟩:=hs.cD (α:=Int) (i:=0) rfl (xs:=s.next) (by simpa using fw.mono ag);rw[←uL];(repeat clear hs);have hs:=uM;clear uM;replace cU:Rs g13 _ s.next:=cU;obtain⟨aq,aB,aT,eo⟩:=dU ag aq aB aT eo;clear uL;refine aF rfl<|ak<|ak ?_;cases h3:decide (0≤s.back)with
  |false=>
   apply aO hs (eA (.e (.bool false)::cV (fe []))) 12 [(11,48)] (by kernel_rfl) rfl
   ·exact cY [[],[0]] [.z aB] hs rfl<|aW [(1,38)] (fun gd hf=>cj rfl (bj rfl (congrArg Value.bool h3)))<|mX [[2],[3],[3],[3],[4,5,6,3,3],[3],[8,3],[7,9,3],[3,10]] [] hs rfl
   (repeat clear hs);intro g6 hs ag;obtain⟨aq,aB,aT,cU,eo⟩:=mY ag aq aB aT cU eo;exact bE<|bI rfl<|ar<|ai<|aD rfl<|au (cg rfl hs (by rw[yi dj,h3];exact cU))
  |true=>
   apply aO hs (eA (.e (.bool true)::cV (fe []))) 12 [(11,48)] (by kernel_rfl) rfl
   ·exact cY [[],[0]] [.z aB] hs rfl<|aW [(1,38)] (fun gd hf=>cj rfl (bj rfl (congrArg Value.bool h3)))<|mX [[2],[3],[3],[3],[4,5,6,3,3],[3],[8,3],[7,9,3],[3,10]] [.z aq,.c (cB 52) fun g' h=>NR _ _ f s (hi++[x]) x.step g' (eo.mono h) (aT.mono h) dj hl,.z aB] hs rfl
   (repeat clear hs);intro g6 hs ag;obtain⟨aB,cU⟩:=cA ag aB cU;apply bE;cases h4:decide (xk (some f) (hi++[x]) x.step<s.dv)with
   |false=>
    exact bI rfl<|ar<|ai<|aD rfl<|au (cg rfl hs (by rw[yi dj,h3,h4];exact cU))
   |true=>
    refine bZ rfl<|ah<|dE 3 [.z aB] rfl<|d_ rfl (OO _ s.next s.back _ cU (by omega)) fun g1 _ aH sx=>?_;replace hs:=hs.call aH;have ag:=aH.le;exact aF rfl<|aD rfl<|au (cg rfl hs (by rw[yi dj,h3,h4];exact sx))
def DH(s:Step)(tool idn waf step time:Int):bc:=⟨1,idn,1,0,false,time,IntKind.i64.wrap (time+s.min),waf,0,0,0,tool,0,step,s.du,1,0,0,[]⟩
theorem Qw(v:Value)(f:aU)(s:Step)(tool idn waf step time:Int)(g:G)(dx:eQ g v f)(dj:dq f.steps step=some s)(ht:s.cZ[0]? =some tool):cN prog 22 #[v,vI idn,vI waf,vI step,vI time] g fun _ r=>r=fv (DH s tool idn waf step time):=by
 have hs:=St.start g;have aj:=G.le.refl g;obtain⟨a1,n1,c1,a2,n2,c2,rfl,aE,bB⟩:=dx;clear bB;obtain⟨_,_,e⟩:=aE.isSlice;obtain⟨rfl,rfl,rfl⟩:=aaO e;clear e;refine enter func22 rfl ntmps22 rfl<|cO<|gF hs rfl fun b5 g2 hs ag aq=>?_;replace aE:=aE.mono ag;refine fA hs rfl fun PG g1 hs ag=>?_;obtain⟨aq,aE⟩:=cA ag aq aE;refine bE<|eO 3 [.z aq] rfl<|fP (y:=s) aE dj rfl fun b6 q6 ys aK fw=>?_;obtain⟨a7,n7,c7,a8,n8,c8,rfl,fg,ij⟩:=fw;clear ij;have cF:=aK;clear aK;refine dE 1 [.e cF 0] rfl<|fA hs rfl fun zX g1 hs ag=>?_;replace fg:=fg.mono ag;refine om 0 hs rfl fun g2 hs ag aB=>?_;replace fg:=fg.mono ag;refine bE<|ak ?_;obtain⟨rfl,_,_⟩:=fg.mL;obtain⟨b0,p0,ys,rfl,xG,hx⟩:=fg.at (i:=0) ht;obtain rfl:ys=[vI tool]:=hx;have aV:0<s.cZ.length:=(aaN.1 ht).1;apply aO hs (cV (gR (eA (.e (fv (DH s tool idn waf step time))::[])))) 15 [(14,31)] (by kernel_rfl) rfl
 ·exact cY [[],[],[],[2]] [.z aB] hs rfl<|aW [(3,20)] (fun gd hf=>cj rfl (ay rfl (ff T.ok rfl rfl rfl (by omega) aV rfl rfl rfl (cC rfl))))<|cY [[4],[],[],[7],[],[],[],[11],[10,12]] [.e xG 0,.z aB,.z aB] hs rfl<|aW [(0,17),(1,18),(5,22),(6,23),(8,25),(9,26),(13,30)] (fun gd hf=>lJ rfl (su rfl (ay rfl (iS T.ok rfl (vs:=[(0,vI 1),(2,vI 1),(1,vI idn),(7,vI waf),(11,vI tool),(13,vI step),(14,vI s.du),(15,vI 1),(5,vI time),(6,vI (IntKind.i64.wrap (time+s.min)))]) (cells:=bK (DH s tool idn waf step time)) rfl rfl rfl rfl [(0,1),(1,1),(2,1),(3,1),(4,1),(5,1),(6,1),(7,1),(8,1),(9,1),(10,1),(11,1),(12,1),(13,1),(14,1),(15,1),(16,1),(17,1),(18,1)] rfl (by kernel_rfl) (cC rfl)))))<|fk
 (repeat clear hs);intro g6 hs ag;exact dC 0 hs rfl fun g1 hs ag=>bE<|au (my T.ok 0 rfl hs rfl rfl rfl (hs.ret rfl))
theorem CM: ∀(k n:Nat),n<10^(k+1)→(dec n).length≤k+1
 |0,n,h=>by rw[iU (by omega)];simp
 |k+1,n,h=>by
  by_cases h1:n<10
  ·rw[iU h1];simp
  rw[pP h1,aal];have:=CM k (n/10) (by rw[Nat.pow_succ]at h;omega);simp only[aaw,aay];omega
theorem dQ{n:Int}(h:lB n):(cq n).length≤7:=CM 6 n.toNat (by have:=h.1;have:=h.2;simp;omega)
theorem zI{a b:Int}(h1:lB a)(h2:lB b):(jR a b).length≤16:=by have:=dQ h1;have:=dQ h2;unfold jR;simp only[aal,aaw];omega
theorem tU{c:UInt8}{k:Nat}: ∀{l:List (List UInt8)},(∀x∈l,x.length≤k)→(dN c l).length≤l.length*(k+1)
 |[],_=>aar _
 |[x],h=>by have:=h x (by simp);simp only[dN,aaw,aay];omega
 |x::y::r,h=>by have h1:=h x (by simp);have h2:=tU (c:=c) (l:=y::r) fun z hz=>h z (aaR _ hz);rw[show dN c (x::y::r)=x++c::dN c (y::r)from rfl,aal,aaw];simp only[aaw,abh,Nat.one_mul]at h2⊢;omega
theorem sj{l:List Int}(h: ∀n∈l,lB n):(fI l).length≤l.length*8+1:=by
 unfold fI;split
 ·simp
 have:=tU (c:=44) (l:=l.map cq) (k:=7) fun x hx=>by obtain⟨n,hn,rfl⟩:=aaU.1 hx;exact dQ (h n hn)
 rw[aaS]at this;omega
def fR:List UInt8:=[115,116,101,112,32]
def dR:List UInt8:=[32,114,101,99,105,112,101,32]
def gU:List UInt8:=[32,116,111,111,108,115,32]
def mG:List UInt8:=[32,116,105,109,101,32]
def vd:List UInt8:=[32,110,101,120,116,32]
def rk:List UInt8:=[32,98,97,99,107,32]
def tV:List UInt8:=[32,108,105,109,105,116,32]
def jE:List UInt8:=[119,105,110,100,111,119,32]
def qh:List UInt8:=[109,111,118,101,32]
def zJ(i:Nat)(s:Step):List UInt8:=fR++dec i++dR++cq s.du++gU++fI s.cZ++mG++jR s.min s.max++vd++fI s.next
def Ej(s:Step):List UInt8:=if 0≤s.back then rk++cq s.back++tV++cq s.dv else []
theorem rl(i:Nat)(s:Step):fJ i s=zJ i s++Ej s:=by
 unfold fJ rh zJ Ej;by_cases h:0≤s.back
 ·rw[if_pos h,if_pos h];simp[dN,jc,gv,jQ,mS,mT,mU,i_,fR,dR,gU,mG,vd,rk,tV]
 rw[if_neg h,if_neg h];simp[dN,jc,gv,jQ,mS,mT,fR,dR,gU,mG,vd]
theorem oE(w:cz):eG w=jE++cq w.src++[32]++cq w.dst++[32]++cq w.dv:=by unfold eG pS;simp[dN,fV,jE]
theorem w5(a b:Int):iR a b=qh++jR a b:=by unfold iR zA;simp[dN,mD,qh]
def iJ:Nat→List Step→List UInt8
 |_,[]=>[]
 |k,s::r=>fJ k s++10::iJ (k+1) r
def mV:List cz→List UInt8
 |[]=>[]
 |w::r=>eG w++10::mV r
def yX(f:aU):List UInt8:=iR f.bS f.cd++10::(iJ 0 f.steps++mV f.windows)
theorem LX{lo hi:Int}: ∀{l:List Int} {p:Int},kZ lo hi p l=true→ ∀n∈l,lo≤n∧n≤hi
 |[],_,_,_,hn=>by cases hn
 |m::r,p,h,n,hn=>by
  unfold kZ within at h;simp only[aaA,decide_eq_true_eq]at h;rcases aav.1 hn with rfl|hn
  ·exact h.1.1
  exact LX h.2 n hn
theorem ve{lo hi:Int}{l:List Int}(h:ascending l lo hi=true): ∀n∈l,lo≤n∧n≤hi:=by
 cases l with
 |nil=>intro n hn;cases hn
 |cons m r=>
  unfold ascending within at h;simp only[aaA,decide_eq_true_eq]at h;intro n hn;rcases aav.1 hn with rfl|hn
  ·exact h.1
  exact LX h.2 n hn
structure BC(s:Step):Prop where
 n:LO s
 cZ:s.cZ.length≤8
 next:s.next.length≤4
theorem Ek{s:Step}{n:Int}(hn:n≤1000000)(h:bO s n=true):BC s:=by
 unfold bO within at h;simp only[aaA,abz,decide_eq_true_eq,beq_iff_eq]at h;obtain⟨⟨⟨⟨⟨⟨⟨h1,h2,h3⟩,h4⟩,h5⟩,h6⟩,h7⟩,h8⟩,h9⟩:=h;have ht:=ve h5;have hx:=ve h6;refine⟨⟨⟨by omega,by omega⟩,fun e=>?_,fun n hn=>?_,⟨by omega,by omega⟩,⟨by omega,by omega⟩,fun n hn=>?_,?_⟩,by omega,by omega⟩
 ·rw[e]at h2;simp at h2
 ·have:=ht n hn;exact⟨by omega,by omega⟩
 ·have:=hx n hn;exact⟨by omega,by omega⟩
 rcases h1 with h|⟨h,h'⟩
 ·exact .inl h
 exact .inr ⟨⟨by omega,by omega⟩,⟨by omega,by omega⟩⟩
theorem AA{w:cz}{n:Int}(hn:n≤1000000)(h:de w n=true):lB w.src∧lB w.dst∧lB w.dv:=by unfold de within at h;simp only[aaA,decide_eq_true_eq]at h;obtain⟨⟨⟨h1,h2⟩,_⟩,h3⟩:=h;exact⟨⟨by omega,by omega⟩,⟨by omega,by omega⟩,⟨by omega,by omega⟩⟩
theorem vf{f:aU}(h:dV f=true):lB f.bS∧lB f.cd:=by unfold dV at h;simp only[aaA,decide_eq_true_eq]at h;exact⟨⟨by omega,by omega⟩,⟨by omega,by omega⟩⟩
theorem zK{n:Int}: ∀{l pre:List cz},fj n pre l=true→ ∀w∈l,de w n=true
 |[],_,_,_,hw=>by cases hw
 |v::r,pre,h,w,hw=>by
  unfold fj at h;simp only[aaA]at h;rcases aav.1 hw with rfl|hw
  ·exact h.1.1
  exact zK h.2 w hw
structure TW(f:aU):Prop where
 min:lB f.bS
 max:lB f.cd
 n1:1≤f.steps.length
 n40:f.steps.length≤40
 steps: ∀s∈f.steps,BC s
 w20:f.windows.length≤20
 Re: ∀w∈f.windows,lB w.src∧lB w.dst∧lB w.dv
theorem Om{f:aU}(h:valid f=true):TW f:=by unfold valid within at h;simp only[aaA,decide_eq_true_eq,aa2]at h;obtain⟨⟨⟨⟨h1,h2,h3⟩,h4⟩,h5⟩,h6⟩:=h;exact⟨(vf h1).1,(vf h1).2,by omega,by omega,fun s hs=>Ek (by omega) (h5 s hs),by omega,fun w hw=>AA (by omega) (zK h6 w hw)⟩
theorem wy{i:Nat}{s:Step}(hi:i≤1000000)(h:BC s):(zJ i s).length≤160:=by have h1:=CM 6 i (by simp;omega);have h2:=dQ h.n.du;have h3:=sj h.n.tR;have h4:=sj h.n.next;have h5:=zI h.n.min h.n.max;have:=h.cZ;have:=h.next;unfold zJ fR dR gU mG vd;simp only[aal,aaw,aay];omega
theorem BD{s:Step}(h:BC s):(Ej s).length≤27:=by
 unfold Ej;split
 ·rename_i hb;rcases h.n.back with⟨e,_⟩|⟨h1,h2⟩
  ·omega
  have:=dQ h1;have:=dQ h2;unfold rk tV;simp only[aal,aaw,aay];omega
 simp
theorem rm{w:cz}(h:lB w.src∧lB w.dst∧lB w.dv):(eG w).length≤30:=by have:=dQ h.1;have:=dQ h.2.1;have:=dQ h.2.2;rw[oE];unfold jE;simp only[aal,aaw,aay];omega
theorem CN{a b:Int}(h1:lB a)(h2:lB b):(iR a b).length≤21:=by have:=zI h1 h2;rw[w5];unfold qh;simp only[aal,aaw,aay];omega
theorem zL: ∀{l:List Step} {k:Nat},k+l.length≤1000000→(∀s∈l,BC s)→(iJ k l).length≤l.length*188
 |[],_,_,_=>aar _
 |s::r,k,hk,h=>by rw[aaw]at hk;have h1:=wy (i:=k) (by omega) (h s (by simp));have h2:=BD (h s (by simp));have h3:=zL (l:=r) (k:=k+1) (by omega) fun s hs=>h s (aaR _ hs);unfold iJ;rw[rl];simp only[aal,aaw];omega
theorem BE: ∀{l:List cz},(∀w∈l,lB w.src∧lB w.dst∧lB w.dv)→(mV l).length≤l.length*31
 |[],_=>aar _
 |w::r,h=>by have h1:=rm (h w (by simp));have h3:=BE (l:=r) fun s hs=>h s (aaR _ hs);unfold mV;simp only[aal,aaw];omega
def aC(c n:Int):Int:=(if c<0 then -(c+1)else c).tmod n
theorem dM{c n:Int}(hn:0<n):0≤aC c n∧aC c n<n:=by
 unfold aC;have h:0≤(if c<0 then -(c+1)else c):=by split<;>omega
 exact⟨Int.tmod_nonneg _ h,Int.tmod_lt_of_pos _ hn⟩
theorem o9{c n:Int}(h:jJ c)(hn:0<n):jJ (c.tdiv n):=by
 unfold jJ at h⊢;rcases Int.lt_or_le c 0 with h0|h0
 ·have h1:0≤(-c).tdiv n:=Int.tdiv_nonneg (by omega) (by omega);have h2:(-c).tdiv n≤ -c:=Int.tdiv_le_self _ (by omega);rw[Int.neg_tdiv]at h1 h2;omega
 have h1:0≤c.tdiv n:=Int.tdiv_nonneg h0 (by omega);have h2:c.tdiv n≤c:=Int.tdiv_le_self _ h0;omega
structure Y6 where
 y0:Int
 y1:Int
 y2:Int
 y3:Int
 y4:Int
 y5:Int
structure Y6.fit(y:Y6):Prop where
 h0:jJ y.y0
 h1:jJ y.y1
 h2:jJ y.y2
 h3:jJ y.y3
 h4:jJ y.y4
 h5:jJ y.y5
structure Y3 where
 z0:Int
 z1:Int
 z2:Int
structure Y3.fit(z:Y3):Prop where
 h0:jJ z.z0
 h1:jJ z.z1
 h2:jJ z.z2
def DG:Y6:=⟨0,0,0,0,0,0⟩
theorem On:DG.fit:=⟨⟨by decide,by decide⟩,⟨by decide,by decide⟩,⟨by decide,by decide⟩,⟨by decide,by decide⟩,⟨by decide,by decide⟩,⟨by decide,by decide⟩⟩
def h_(y:Y6):List Int:=aC y.y2 6::if aC (y.y2.tdiv 6) 2=0 then [aC y.y2 6+1+aC (y.y2.tdiv 12) 3]else []
def jm(y:Y6)(n i:Nat):List Int:=
 if(i:Int)<n-1∧0<aC y.y3 12 then
  ((i:Int)+1)::if(i:Int)+2+aC (y.y3.tdiv 12) 3<n∧aC (y.y3.tdiv 36) 3=0 then [(i:Int)+2+aC (y.y3.tdiv 12) 3]else []
 else []
def tH(y:Y6)(n i:Nat):Step:=
 ⟨1+aC y.y0 5,h_ y,1+aC y.y1 30,1+aC y.y1 30+aC (y.y1.tdiv 30) 20,jm y n i,if aC y.y4 4=0 then aC (y.y4.tdiv 4) (i+1)else -1,if aC y.y4 4=0 then 1+aC y.y5 3 else 0⟩
def fU(x:List Y6):Nat:=max 1 (min x.length 8)
theorem A9(x:List Y6):1≤fU x∧fU x≤8:=by unfold fU;omega
def nj(x:List Y6)(k:Nat):List Step:=(List.range k).map fun i=>tH (x.getD i DG) (fU x) i
theorem CO(x:List Y6)(k:Nat):nj x (k+1)=nj x k++[tH (x.getD k DG) (fU x) k]:=by unfold nj;rw[acs,aa3];rfl
theorem DF(x:List Y6)(k:Nat):(nj x k).length=k:=by simp[nj]
def BF(n:Nat)(z:Y3):cz:=⟨aC z.z0 n,aC z.z1 n,10+aC z.z2 150⟩
def zM(n:Nat)(l:List cz)(z:Y3):List cz:=if(BF n z).src≠(BF n z).dst∧follows l (BF n z)=true then l++[BF n z]else l
def jr(n:Nat)(zs:List Y3)(k:Nat):List cz:=(zs.take k).foldl (zM n) []
theorem w6(n:Nat)(zs:List Y3)(k:Nat)(h:k<zs.length):jr n zs (k+1)=zM n (jr n zs k) zs[k]:=by unfold jr;rw[aaV,aas h,abK];rfl
theorem zN(n:Nat)(zs:List Y3): ∀k,k≤zs.length→(jr n zs k).length≤k
 |0,_=>by simp[jr]
 |k+1,h=>by
  have ih:=zN n zs k (by omega);rw[w6 n zs k (by omega)];unfold zM;split
  ·rw[aal];simp only[aaw,aay];omega
  omega
def mk(x:List Y6)(zs:List Y3):aU:=⟨2,5,nj x (fU x),jr (fU x) zs (min zs.length 4)⟩
theorem w7{n:Int}{w:cz}: ∀{l pre:List cz},fj n pre (l++[w])=(fj n pre l&&(de w n&&follows (pre++l) w))
 |[],pre=>by simp[fj]
 |v::r,pre=>by rw[aa0];unfold fj;rw[w7,aaG];simp[Bool.and_assoc]
set_option maxHeartbeats 4000000
theorem kE(c n:Int)(g:G)(hc:jJ c)(hn:n≠0):cN prog 46 #[vI c,vI n] g fun _ r=>r=vI (aC c n):=by
 have hs:=St.start g;refine enter func46 rfl ntmps46 rfl ?_;unfold jJ at hc;refine aD rfl<|ak<|aD rfl ?_;by_cases zV:c<0
 ·refine aG (b:=decide (c<0)) (by simp[zV]) rfl<|ah<|aF rfl<|ck 2 rfl<|aN rfl rfl<|rW rfl rfl rfl hn<|aF rfl<|au<|cg rfl hs ?_;unfold aC;rw[if_pos zV,wq (n:=c+1),wq,Int.zero_sub]
 refine bg (b:=decide (c<0)) (by simp;omega) rfl<|ar<|ai<|ck 2 rfl<|aN rfl rfl<|rW rfl rfl rfl hn<|aF rfl<|au<|cg rfl hs ?_;unfold aC;rw[if_neg zV]
theorem jy(c n:Int)(g:G)(hc:jJ c)(hn:n≠0):cN prog 29 #[vI c,vI n] g fun _ r=>r=vI (aC c n):=by
 have hs:=St.start g;refine enter func29 rfl ntmps29 rfl ?_;unfold jJ at hc;refine aD rfl<|ak<|aD rfl ?_;by_cases zV:c<0
 ·refine aG (b:=decide (c<0)) (by simp[zV]) rfl<|ah<|aF rfl<|ck 2 rfl<|aN rfl rfl<|rW rfl rfl rfl hn<|aF rfl<|au<|cg rfl hs ?_;unfold aC;rw[if_pos zV,wq (n:=c+1),wq,Int.zero_sub]
 refine bg (b:=decide (c<0)) (by simp;omega) rfl<|ar<|ai<|ck 2 rfl<|aN rfl rfl<|rW rfl rfl rfl hn<|aF rfl<|au<|cg rfl hs ?_;unfold aC;rw[if_neg zV]
theorem NS(c n:Int)(g:G)(hc:jJ c)(hn:n≠0):cN prog 23 #[vI c,vI n] g fun _ r=>r=vI (aC c n):=by
 have hs:=St.start g;refine enter func23 rfl ntmps23 rfl ?_;unfold jJ at hc;refine aD rfl<|ak<|aD rfl ?_;by_cases zV:c<0
 ·refine aG (b:=decide (c<0)) (by simp[zV]) rfl<|ah<|aF rfl<|ck 2 rfl<|aN rfl rfl<|rW rfl rfl rfl hn<|aF rfl<|au<|cg rfl hs ?_;unfold aC;rw[if_pos zV,wq (n:=c+1),wq,Int.zero_sub]
 refine bg (b:=decide (c<0)) (by simp;omega) rfl<|ar<|ai<|ck 2 rfl<|aN rfl rfl<|rW rfl rfl rfl hn<|aF rfl<|au<|cg rfl hs ?_;unfold aC;rw[if_neg zV]
theorem rp(v w:cz)(g:G):cN prog 47 #[.agg (lP v).toArray,.agg (lP w).toArray] g fun _ r=>r= .bool (ng v w):=by
 have hs:=St.start g;have aj:=G.le.refl g;unfold lP;refine enter func47 rfl ntmps47 rfl<|cO<|nX hs rfl fun bx g1 hs ag=>?_;obtain⟨g2,fm,dm,ag,aK⟩:=hs.fM (i:=0) rfl;replace hs:=dm;clear dm;rw[←fm];have aq:=aK;clear aK fm ag;refine nX hs rfl fun by1 g1 hs ag=>?_;replace aq:=aq.mono ag;obtain⟨g2,fm,dm,ag,aK⟩:=hs.fM (i:=0) rfl;replace hs:=dm;clear dm;rw[←fm];replace aq:=aq.mono ag;have aB:=aK;clear aK fm ag;refine aF rfl<|eO 6 [.z aq,.z aB] rfl ?_;unfold ng;cases h1:decide (v.src<w.src)with
 |true=>
  refine aF rfl<|au<|cg rfl hs ?_
  rfl
 |false=>
  refine dE 6 [.z aq,.z aB] rfl ?_;cases h2:v.src==w.src with
  |false=>
   refine aF rfl<|au<|cg rfl hs ?_
   rfl
  |true=>
   refine BS [.z aq,.z aB] rfl<|au<|cg rfl hs ?_
   rfl
def XO(z:Y3):Fact:=
 ⟨fun v g=> ∃b p,v= .pointer (some ⟨b,p,none⟩)∧EP g b p [vI z.z0,vI z.z1,vI z.z2],fun _ _ _ hf ⟨b,p,e,h1⟩=>⟨b,p,e,h1.mono hf.le⟩⟩
def mr(n:Int):Fact:=⟨fun v g=> ∃b p,v= .pointer (some ⟨b,p,none⟩)∧EP g b p [vI n],fun _ _ _ hf ⟨b,p,e,h1⟩=>⟨b,p,e,h1.mono hf.le⟩⟩
instance:El Y6 where
 k:=6
 pos:=by omega
 rc _ cs y:=cs=[vI y.y0,vI y.y1,vI y.y2,vI y.y3,vI y.y4,vI y.y5]
 len h:=by rw[h];rfl
 mono _ h:=h
 one h:=by rw[h];simp[Value.oneCell']
instance:El Y3 where
 k:=3
 pos:=by omega
 rc _ cs y:=cs=[vI y.z0,vI y.z1,vI y.z2]
 len h:=by rw[h];rfl
 mono _ h:=h
 one h:=by rw[h];simp[Value.oneCell']
theorem rq: ∀(l:List cz) (w:cz),nk (l++[w])=nk l++lP w
 |[],w=>by simp[nk]
 |v::l,w=>by rw[aa0];simp only[nk];rw[rq l w,aaG]
theorem BI{l:List cz}{v:cz}(h:l.getLast? =some v):Ad T 94 (nk l) ((l.length-1)*3)=some (.agg (lP v).toArray):=by
 obtain⟨r,rfl⟩: ∃r,l=r++[v]:=by
  rcases ach l with rfl|⟨r,x,rfl⟩
  ·cases h
  rw[ab9]at h⊢;rw[List.getLast?_append]at h;simp at h;exact⟨r,by rw[h]⟩
 rw[rq,aal];have hl:=zU r;show(bif Nat.ble ((r.length+1-1)*3+3) (nk r++lP v).length then some (Value.agg (((nk r++lP v).drop ((r.length+1-1)*3)).take 3).toArray)else none)=_;rw[Nat.add_sub_cancel,acv (by rw[aal,hl];exact aaz _),←hl,ack];rfl
set_option maxHeartbeats 8000000
theorem Er{B e k q m c:Nat}{ad:Option Addr}{xs:List Value}{w:World}(h:Row B e k (.slice ad m c) q xs w)(hm:m≠0): ∃b p,ad=some ⟨b,p,none⟩:=by
 rcases h.2 with⟨_,a',hv⟩|⟨b,p,cap,cur,hv,_⟩
 ·simp only[aaK]at hv;omega
 simp only[aaK]at hv;exact⟨b,p,hv.1⟩
theorem Qx(v u:Value)(x:List Y6)(zs:List Y3)(g:G)(aA:Rs g v x)(aE:Rs g u zs)(hx: ∀y∈x,y.fit)(hz: ∀z∈zs,z.fit):
  cN prog 19 #[v,u] g fun g' r=>eQ g' r (mk x zs):=by
 obtain⟨a,c,rfl⟩:=aA.isSlice;obtain⟨a2,c2,rfl⟩:=aE.isSlice;have hlen:=aA.ef;have Hv:=aE.ef;unfold maxLen at hlen Hv;have hs:=St.start g;have aj:=G.le.refl g;have hn:=A9 x;refine enter func19 rfl ntmps19 rfl<|cO<|fA hs rfl fun br g1 hs ag=>?_;obtain⟨aA,aE⟩:=cA ag aA aE;refine bE<|aD rfl<|cO ?_;have hN:(if(1:Int)<(if(8:Int)<(x.length:Int)then 8 else(x.length:Int))then(if(8:Int)<(x.length:Int)then 8 else(x.length:Int))else 1)=(fU x:Int):=by unfold fU;split<;>split<;>omega
 refine jK (vI (fU x)) (t:=5) rfl (congrArg (Value.int .i64) hN)<|hZ [(0,vI 2),(1,vI 5)] [vI 2,vI 5,.slice none 0 0,.slice none 0 0] [(0,1),(1,1),(2,1),(3,1)] rfl<|fA hs rfl fun bf g1 hs ag=>?_;obtain⟨aA,aE⟩:=cA ag aA aE;refine dC 0 hs rfl fun g1 hs ag=>?_;obtain⟨aA,aE⟩:=cA ag aA aE;refine bE<|ak<|aD rfl<|aw ?_;have ot:=aA;have CP:=aE;have iN:=G.le.refl g1;replace hs:=hs.eM 91 7 none
 refine aZ (fun m a' w=> ∃(k:Nat) (sv:Value) (cells:List Value) (g3:G),w=g3.w∧St g g3 [.row 91 7 sv k cells,vO bf [vI 2,vI 5,sv,.slice none 0 0] 30,vO br [vI 0,vI 0,.slice none 0 0,.slice none 0 0] 30]∧G.le g1 g3∧k≤fU x∧m=fU x-k∧cR g3 cells (nj x k)∧
   Fr 193 [] [(0,.slice a x.length c),(1,.slice a2 zs.length c2),(4,vP br),(5,vI (fU x)),(6,vP bf),(7,vI k)] a') (fU x)
  (fun a' ha=>⟨0,_,[],g1,rfl,hs,iN,aar _,rfl,rfl,ha.kp rfl⟩) ?_
 clear hs iN aA aE;rintro m a' _ ⟨k,sv,cells,g3,rfl,hs,iN,hk,rfl,fw,dT⟩;have aA:=ot.mono iN;obtain⟨sa,sc,rfl⟩:=(hs.own 0 _ rfl).1.form;revert a';refine bT<|ak<|aD rfl ?_;by_cases aV:k<fU x
 ·refine aG (b:=decide ((k:Int)<(fU x:Int))) (by simp;omega) rfl ?_;have dj:=CO x k;have XP:=fw;have mQ:=iN;have cM:=G.le.refl g3;refine ar<|ai<|ak<|aw<|cO<|fA hs rfl fun bY g1 hs ag=>?_;obtain⟨cM,aA⟩:=cA ag cM aA;refine bE<|ak<|aD rfl ?_
  refine lR (fun a' w=> ∃(g4:G),w=g4.w∧G.le g3 g4∧(x.getD k DG).fit∧EP g4 bY 0 [vI (x.getD k DG).y0,vI (x.getD k DG).y1,vI (x.getD k DG).y2,vI (x.getD k DG).y3,vI (x.getD k DG).y4,vI (x.getD k DG).y5]∧
   St g g4 [.row 91 7 (.slice sa k sc) k cells,vO bf [vI 2,vI 5,.slice sa k sc,.slice none 0 0] 30,vO br [vI 0,vI 0,.slice none 0 0,.slice none 0 0] 30]∧
   Fr 193 [] [(0,.slice a x.length c),(1,.slice a2 zs.length c2),(4,vP br),(5,vI (fU x)),(6,vP bf),(7,vI k),(8,vP bY)] a') ?_ ?_
  ·by_cases XQ:k<x.length
   ·refine aG (b:=decide ((k:Int)<(x.length:Int))) (by simp;omega) rfl ?_;have lN:=hx _ (aaQ XQ);have P5:x.getD k DG=x[k]:=by rw[aaP,aas XQ];rfl
    have eI:dq x (k:Int)=some x[k]:=by simp[dq,XQ]
    rw[P5];generalize x[k]=y at*;refine ah<|Wp 2 rfl<|fP (y:=y) aA eI rfl ?_;rintro b p ys aK rfl;refine dE 1 [.e aK 0] rfl<|om 0 hs rfl fun g2 hs ag aK=>?_;replace cM:=G.le.trans cM ag;exact an<|fun a ha=>⟨_,rfl,cM,lN,aK,hs,ha.kp rfl⟩
   refine bg (b:=decide ((k:Int)<(x.length:Int))) (by simp;omega) rfl ?_;have P5:x.getD k DG=DG:=by rw[aaP,abx (by omega)];rfl
   rw[P5];obtain⟨g2,fm,dm,ag,aK⟩:=hs.fM (i:=0) rfl;replace hs:=dm;clear dm;rw[←fm];replace cM:=G.le.trans cM ag;exact ar<|fun a ha=>⟨_,rfl,cM,On,aK,hs,ha.kp rfl⟩
  clear hs cM aA fw iN;rintro a' _ ⟨g4,rfl,cM,lN,aq,hs,dT⟩;have hms:tH (x.getD k DG) (fU x) k=tH (x.getD k DG) (fU x) k:=rfl;generalize hy:x.getD k DG=y at*;clear hms;revert a';have p0:=dM (c:=y.y0) (n:=5) (by omega);have p1:=dM (c:=y.y1) (n:=30) (by omega);have p2:=dM (c:=y.y1.tdiv 30) (n:=20) (by omega);have p3:=dM (c:=y.y2) (n:=6) (by omega);have p4:=dM (c:=y.y2.tdiv 12) (n:=3) (by omega);have p5:=dM (c:=y.y3.tdiv 12) (n:=3) (by omega);have p6:=dM (c:=y.y4.tdiv 4) (n:=(k:Int)+1) (by omega);have p7:=dM (c:=y.y5) (n:=3) (by omega);have q1:=o9 (n:=30) lN.h1 (by omega);have q2:=o9 (n:=6) lN.h2 (by omega);have q3:=o9 (n:=12) lN.h2 (by omega);have q4:=o9 (n:=12) lN.h3 (by omega);have q5:=o9 (n:=36) lN.h3 (by omega);have q6:=o9 (n:=4) lN.h4 (by omega);refine bT<|ak ?_;have sT:=hs;apply dP (cV (fe (.f (Ia g4.dr.w.heap.size [vI 0,.slice none 0 0,vI 0,vI 0,.slice none 0 0,vI 0,vI 0] 91)::[]))) 10 [(8,41),(9,9)] (by kernel_rfl)
  ·refine aW [] (fun gd hf=>az (ay rfl (dG T.ok (q:=0) rfl rfl rfl rfl rfl rfl (by decide) (cC rfl))))<|cY [[0]] [.e aq 0] (St.start _) rfl<|aW [(1,34)] (fun gd hf=>?_) ?_
   ·skip;refine bU rfl<|az<|ay rfl<|bu (cB 46) bJ rfl rfl rfl rfl rfl (kE (y.y0) (5) _ (lN.h0) (by decide)) fun g' v h1 h2=>⟨g',rfl,h1,?_⟩
    exact h2
   refine aW [(2,35)] (fun gd hf=>cj rfl (bj rfl (congrArg (Value.int .i64) (show _=1+aC y.y0 5 from wq))))<|aW [] (fun gd hf=>az (ay rfl (dG T.ok (q:=1) rfl rfl rfl rfl rfl rfl (by decide) (cC rfl))))<|cY [[4]] [.e aq 1] (St.start _) rfl<|aW [(5,38)] (fun gd hf=>?_) ?_
   ·skip;refine bU rfl<|az<|ay rfl<|bu (cB 46) bJ rfl rfl rfl rfl rfl (kE (y.y1) (30) _ (lN.h1) (by decide)) fun g' v h1 h2=>⟨g',rfl,h1,?_⟩
    exact h2
   refine aW [(6,39)] (fun gd hf=>cj rfl (bj rfl (congrArg (Value.int .i64) (show _=1+aC y.y1 30 from wq))))<|aW [(3,36),(7,40)] (fun gd hf=>bN rfl (ay rfl (iS T.ok rfl (vs:=[(0,vI (1+aC y.y0 5)),(2,vI (1+aC y.y1 30)),(5,vI (-1))]) (cells:=[vI (1+aC y.y0 5),.slice none 0 0,vI (1+aC y.y1 30),vI 0,.slice none 0 0,vI (-1),vI 0]) rfl rfl rfl rfl [(0,1),(1,1),(2,1),(3,1),(4,1),(5,1),(6,1)] rfl (by kernel_rfl) (cC rfl))))<|aW [] (fun gd hf=>?_) ?_
   ·skip;refine az<|ay rfl<|ik T.ok rfl (St.start gd) rfl rfl fun b g' kP hle=>?_;have ho:=kP.own 0 _ rfl;exact⟨g',rfl,kP.p9,b,rfl,aaC hf.below.size ho.1,ho.2⟩
   exact fk
  intro g1 aH;refine bU rfl<|aI fun v9 h9=>?_;apply az
  replace hs:=hs.dr.call aH;have ag:=(G.a_ _).trans aH.le;obtain⟨cM,aq⟩:=cA ag cM aq;obtain⟨bs,rfl,Aj⟩:=h9;replace hs:=sT.dr.jl aH Aj;clear sT;refine dC 0 hs rfl fun g1 hs ag=>?_;obtain⟨cM,aq⟩:=cA ag cM aq;refine bE<|ak ?_;apply aO hs (gR (eA (fe []))) 7 [(6,48)] (by kernel_rfl) rfl
  ·refine cY [[],[0]] [.o 0] hs rfl<|aW [] (fun gd hf=>az (ay rfl (dG T.ok (q:=1) rfl rfl rfl rfl rfl rfl (by decide) (cC rfl))))<|cY [[2]] [.e aq 1] (St.start _) rfl<|aW [(3,45)] (fun gd hf=>cj rfl (bj rfl (congrArg (Value.int .i64) (show _=y.y1.tdiv 30 from wr q1.1 q1.2))))<|aW [(4,46)] (fun gd hf=>?_) ?_
   ·skip;refine bU rfl<|az<|ay rfl<|bu (cB 46) bJ rfl rfl rfl rfl rfl (kE (y.y1.tdiv 30) (20) _ (q1) (by decide)) fun g' v h1 h2=>⟨g',rfl,h1,?_⟩
    exact h2
   exact aW [(1,43),(5,47)] (fun gd hf=>bN rfl (bj rfl (congrArg (Value.int .i64) (show _=1+aC y.y1 30+aC (y.y1.tdiv 30) 20 from wq))))<|fk
  clear hs;intro g1 hs ag;obtain⟨cM,aq⟩:=cA ag cM aq;refine Wp 1 rfl<|dC 0 hs rfl fun g1 hs ag=>?_;obtain⟨cM,aq⟩:=cA ag cM aq;refine bE<|cO<|aN rfl rfl<|dG T.ok (q:=2) rfl rfl rfl rfl rfl rfl (by decide)<|dE 1 [.z aq] rfl<|jN rfl (kE y.y2 6 _ lN.h2 (by decide)) hs fun g1 hs ag=>?_;obtain⟨cM,aq⟩:=cA ag cM aq;refine aF rfl<|ck 1 rfl<|iX [(0,vI (aC y.y2 6))] [vI (aC y.y2 6)] hs rfl rfl fun bt gl hs ag=>?_;obtain⟨cM,aq⟩:=cA ag cM aq;obtain⟨gz,gX,dk,iw,bB⟩:=hs.cD (α:=Int) (xs:=[aC y.y2 6]) (i:=0) rfl (cR.ints _ [aC y.y2 6]);have ag:=iw;rw[←gX];replace hs:=dk;clear dk;obtain⟨cM,aq⟩:=cA ag cM aq;refine Wp 1 rfl<|dC 0 hs rfl fun g1 hs ag=>?_;obtain⟨cM,aq,bB⟩:=eS ag cM aq bB;refine bE<|ak<|cO<|aN rfl rfl<|dG T.ok (q:=2) rfl rfl rfl rfl rfl rfl (by decide)<|dE 2 [.z aq] rfl<|jK (vI (y.y2.tdiv 6)) (t:=58) rfl (congrArg (Value.int .i64) (wr q2.1 q2.2))<|jN rfl (kE (y.y2.tdiv 6) 2 _ q2 (by decide)) hs fun g1 hs ag=>?_;obtain⟨cM,aq,bB⟩:=eS ag cM aq bB;refine aF rfl ?_;have e_:=G.le.refl g1
  refine lR (fun a' w=> ∃(ta:Option Addr) (tc:Nat) (g5:G),w=g5.w∧g1.le g5∧Rs g5 (.slice ta (h_ y).length tc) (h_ y)∧St g g5 [vO bs [vI (1+aC y.y0 5),.slice ta (h_ y).length tc,vI (1+aC y.y1 30),vI (1+aC y.y1 30+aC (y.y1.tdiv 30) 20),.slice none 0 0,vI (-1),vI (0)] 91,.row 91 7 (.slice sa k sc) k cells,vO bf [vI 2,vI 5,.slice sa k sc,.slice none 0 0] 30,vO br [vI 0,vI 0,.slice none 0 0,.slice none 0 0] 30]∧
   Fr 193 [] [(0,.slice a x.length c),(1,.slice a2 zs.length c2),(4,vP br),(5,vI (fU x)),(6,vP bf),(7,vI k),(8,vP bY),(9,vP bs)] a') ?_ ?_
  ·by_cases ht:aC (y.y2.tdiv 6) 2=0
   ·have Vl:h_ y=[aC y.y2 6]++[aC y.y2 6+1+aC (y.y2.tdiv 12) 3]:=by unfold h_;rw[if_pos ht];rfl
    refine aG (b:=_) ?_ rfl ?_
    ·simp[ht]
    apply dP (cV (fe (.f (Fact.rs [aC y.y2 6+1+aC (y.y2.tdiv 12) 3])::(.f (Fact.rs ([aC y.y2 6]++[aC y.y2 6+1+aC (y.y2.tdiv 12) 3]))::[])))) 11 [(10,71)] (by kernel_rfl)
    ·refine cY [[],[0],[]] [.o 0] hs rfl<|aW [(2,63)] (fun gd hf=>cj rfl (bj rfl (congrArg (Value.int .i64) (show _=aC y.y2 6+1 from wq))))<|aW [] (fun gd hf=>az (ay rfl (dG T.ok (q:=2) rfl rfl rfl rfl rfl rfl (by decide) (cC rfl))))<|cY [[4]] [.e aq 2] (St.start _) rfl<|aW [(5,66)] (fun gd hf=>cj rfl (bj rfl (congrArg (Value.int .i64) (show _=y.y2.tdiv 12 from wr q3.1 q3.2))))<|aW [(6,67)] (fun gd hf=>?_) ?_
     ·skip;refine bU rfl<|az<|ay rfl<|bu (cB 46) bJ rfl rfl rfl rfl rfl (kE (y.y2.tdiv 12) (3) _ (q3) (by decide)) fun g' v h1 h2=>⟨g',rfl,h1,?_⟩
      exact h2
     refine aW [(3,64),(7,68)] (fun gd hf=>bN rfl (bj rfl (congrArg (Value.int .i64) (show _=aC y.y2 6+1+aC (y.y2.tdiv 12) 3 from wq))))<|aW [(8,69)] (fun gd hf=>?_) ?_
     ·skip;refine bU rfl<|az<|ay rfl<|iD T.ok rfl (St.start gd) (vs:=[(0,vI (aC y.y2 6+1+aC (y.y2.tdiv 12) 3))]) (cells:=[vI (aC y.y2 6+1+aC (y.y2.tdiv 12) 3)]) rfl rfl rfl rfl rfl rfl (by decide) (by decide) (by kernel_rfl) rfl fun b2 g2 pH OB=>?_;obtain⟨g3,wH,EW,Ac,ph⟩:=pH.cD (α:=Int) (xs:=[aC y.y2 6+1+aC (y.y2.tdiv 12) 3]) (i:=0) rfl (cR.ints _ [aC y.y2 6+1+aC (y.y2.tdiv 12) 3]);exact⟨g3,wH,EW.p9,ph⟩
     refine aW [(1,62),(9,70)] (fun gd hf=>?_) ?_
     ·have eR:=(G.a_ _).trans hf.le;refine bU rfl<|aI fun v9 h9=>?_
      apply az;obtain⟨ua,uc,rfl⟩:=Rs.isSlice h9;exact ay rfl<|qY T.ok rfl rfl rfl (bB.mono eR) h9 (by decide) (by simp) rfl rfl rfl rfl rfl (by show(1+1)*8≤_;decide) (by show 1+1≤_;decide) fun v g' gN hr=>⟨g',rfl,gN,hr⟩
     exact fk
    intro g1 aH;refine aI fun v10 ue=>?_;apply az;replace hs:=hs.dr.call aH;have ag:=(G.a_ _).trans aH.le;obtain⟨e_,cM,aq,bB⟩:=dU ag e_ cM aq bB;have aT:Rs g1 v10 (h_ y):=by rw[Vl];exact ue
    clear ue;obtain⟨ta,tc,rfl⟩:=aT.isSlice;refine Wp 1 rfl<|dC 0 hs rfl fun g6 hs ag=>?_;obtain⟨e_,cM,aq,bB,aT⟩:=mY ag e_ cM aq bB aT;exact an<|fun a ha=>⟨ta,tc,g6,rfl,e_,aT,hs,ha.kp rfl⟩
   have Vl:h_ y=[aC y.y2 6]:=by unfold h_;rw[if_neg ht]
   refine bg (b:=_) ?_ rfl ?_
   ·simp[ht]
   exact ar<|fun a ha=>⟨some ⟨bt,0,none⟩,1,g1,rfl,e_,by rw[Vl];exact bB,by rw[Vl];exact hs,ha.kp rfl⟩
  clear hs bB;rintro a' _ ⟨ta,tc,g5,rfl,ag,bB,hs,dT⟩;obtain⟨e_,cM,aq⟩:=eS ag e_ cM aq;clear e_;revert a';have e_:=G.le.refl g5;refine bT<|ak ?_;have Kk:jm y (fU x) k=if(k:Int)<fU x-1∧0<aC y.y3 12 then((k:Int)+1)::(if(k:Int)+2+aC (y.y3.tdiv 12) 3<fU x∧aC (y.y3.tdiv 36) 3=0 then [(k:Int)+2+aC (y.y3.tdiv 12) 3]else [])else []:=rfl
  refine lR (fun a' w=> ∃(na:Option Addr) (nc:Nat) (g6:G),w=g6.w∧g5.le g6∧Rs g6 (.slice na (jm y (fU x) k).length nc) (jm y (fU x) k)∧St g g6 [vO bs [vI (1+aC y.y0 5),.slice ta (h_ y).length tc,vI (1+aC y.y1 30),vI (1+aC y.y1 30+aC (y.y1.tdiv 30) 20),.slice na (jm y (fU x) k).length nc,vI (-1),vI (0)] 91,.row 91 7 (.slice sa k sc) k cells,vO bf [vI 2,vI 5,.slice sa k sc,.slice none 0 0] 30,vO br [vI 0,vI 0,.slice none 0 0,.slice none 0 0] 30]∧
   Fr 193 [] [(0,.slice a x.length c),(1,.slice a2 zs.length c2),(4,vP br),(5,vI (fU x)),(6,vP bf),(7,vI k),(8,vP bY),(9,vP bs)] a') ?_ ?_
  ·by_cases d1:(k:Int)<fU x-1
   ·refine ck 5 rfl<|bd 77 (b':=true) (by rw[wq];exact decide_eq_true d1) rfl<|aN rfl rfl<|dG T.ok (q:=3) rfl rfl rfl rfl rfl rfl (by decide)<|dE 1 [.z aq] rfl<|jN rfl (kE y.y3 12 _ lN.h3 (by decide)) hs fun g1 hs ag=>?_;obtain⟨e_,cM,aq,bB⟩:=dU ag e_ cM aq bB;refine aF rfl ?_;by_cases d2:0<aC y.y3 12
    ·rw[if_pos ⟨d1,d2⟩]at Kk;refine aG (b:=_) ?_ rfl ?_
     ·simp[d2]
     refine ck 2 rfl<|jK (vI ((k:Int)+1)) (t:=84) rfl (congrArg (Value.int .i64) (wq))<|iX [(0,vI ((k:Int)+1))] [vI ((k:Int)+1)] hs rfl rfl fun bn gl hs ag=>?_;obtain⟨e_,cM,aq,bB⟩:=dU ag e_ cM aq bB;obtain⟨gz,gX,dk,iw,aT⟩:=hs.cD (α:=Int) (xs:=[(k:Int)+1]) (i:=0) rfl (cR.ints _ [(k:Int)+1]);have ag:=iw;rw[←gX];replace hs:=dk;clear dk;obtain⟨e_,cM,aq,bB⟩:=dU ag e_ cM aq bB;refine Wp 1 rfl<|dC 0 hs rfl fun g1 hs ag=>?_;obtain⟨e_,cM,aq,bB,aT⟩:=mY ag e_ cM aq bB aT;refine bE<|ck 2 rfl<|jK (vI ((k:Int)+2)) (t:=88) rfl (congrArg (Value.int .i64) (wq))<|aN rfl rfl<|dG T.ok (q:=3) rfl rfl rfl rfl rfl rfl (by decide)<|dE 2 [.z aq] rfl<|jK (vI (y.y3.tdiv 12)) (t:=91) rfl (congrArg (Value.int .i64) (wr q4.1 q4.2))<|jN rfl (kE (y.y3.tdiv 12) 3 _ q4 (by decide)) hs fun g1 hs ag=>?_;obtain⟨e_,cM,aq,bB,aT⟩:=mY ag e_ cM aq bB aT;refine aF rfl<|ck 4 rfl ?_;by_cases d3:(k:Int)+2+aC (y.y3.tdiv 12) 3<fU x
     ·refine bd 97 (b':=true) (by rw[wq];exact decide_eq_true d3) rfl<|aN rfl rfl<|dG T.ok (q:=3) rfl rfl rfl rfl rfl rfl (by decide)<|dE 2 [.z aq] rfl<|jK (vI (y.y3.tdiv 36)) (t:=100) rfl (congrArg (Value.int .i64) (wr q5.1 q5.2))<|jN rfl (kE (y.y3.tdiv 36) 3 _ q5 (by decide)) hs fun g1 hs ag=>?_;obtain⟨e_,cM,aq,bB,aT⟩:=mY ag e_ cM aq bB aT;refine aF rfl ?_;by_cases d4:aC (y.y3.tdiv 36) 3=0
      ·have XR:jm y (fU x) k=[(k:Int)+1]++[(k:Int)+2+aC (y.y3.tdiv 12) 3]:=by rw[Kk,if_pos ⟨d3,d4⟩];rfl
       refine aG (b:=_) ?_ rfl ?_
       ·simp[d4]
       refine ah<|Wm 3 [.o 0] hs rfl<|jK (vI ((k:Int)+2+aC (y.y3.tdiv 12) 3)) (t:=106) rfl (congrArg (Value.int .i64) (wq))<|iX [(0,vI ((k:Int)+2+aC (y.y3.tdiv 12) 3))] [vI ((k:Int)+2+aC (y.y3.tdiv 12) 3)] hs rfl rfl fun bn2 gl hs ag=>?_;obtain⟨e_,cM,aq,bB,aT⟩:=mY ag e_ cM aq bB aT;obtain⟨gz,gX,dk,iw,bV⟩:=hs.cD (α:=Int) (xs:=[(k:Int)+2+aC (y.y3.tdiv 12) 3]) (i:=0) rfl (cR.ints _ [(k:Int)+2+aC (y.y3.tdiv 12) 3]);have ag:=iw;rw[←gX];replace hs:=dk;clear dk;obtain⟨e_,cM,aq,bB,aT⟩:=mY ag e_ cM aq bB aT;refine aN rfl rfl<|qY T.ok rfl rfl rfl aT bV (by decide) (by simp) rfl rfl rfl rfl rfl (by show(1+1)*8≤_;decide) (by show 1+1≤_;decide) fun v g9 EO cU=>?_;rw[←XR]at cU;obtain⟨na,nc,rfl⟩:=cU.isSlice;replace hs:=hs.call EO;have ag:=EO.le;obtain⟨e_,cM,aq,bB,aT⟩:=mY ag e_ cM aq bB aT;refine Wp 1 rfl<|dC 0 hs rfl fun g6 hs ag=>?_;obtain⟨e_,cM,aq,bB,aT,cU⟩:=iB ag e_ cM aq bB aT cU;exact an<|fun a ha=>⟨na,nc,g6,rfl,e_,cU,hs,ha.kp rfl⟩
      have tu:jm y (fU x) k=[(k:Int)+1]:=by rw[Kk,if_neg fun h=>d4 h.2]
      refine bg (b:=_) ?_ rfl ?_
      ·simp[d4]
      exact ar<|fun a ha=>⟨some ⟨bn,0,none⟩,1,_,rfl,e_,by rw[tu];exact aT,by rw[tu];exact hs,ha.kp rfl⟩
     have tu:jm y (fU x) k=[(k:Int)+1]:=by rw[Kk,if_neg fun h=>d3 h.1]
     exact bd 97 (b':=false) (by rw[wq];exact decide_eq_false d3) rfl<|aF rfl<|bI rfl<|ar<|fun a ha=>⟨some ⟨bn,0,none⟩,1,_,rfl,e_,by rw[tu];exact aT,by rw[tu];exact hs,ha.kp rfl⟩
    have CR:jm y (fU x) k=[]:=by rw[Kk,if_neg fun h=>d2 h.2]
    refine bg (b:=_) ?_ rfl ?_
    ·simp;omega
    exact ar<|fun a ha=>⟨none,0,_,rfl,e_,by rw[CR];exact Rs.nil _,by rw[CR];exact hs,ha.kp rfl⟩
   have CR:jm y (fU x) k=[]:=by rw[Kk,if_neg fun h=>d1 h.1]
   exact ck 5 rfl<|bd 77 (b':=false) (by rw[wq];exact decide_eq_false d1) rfl<|aF rfl<|bI rfl<|ar<|fun a ha=>⟨none,0,_,rfl,e_,by rw[CR];exact Rs.nil _,by rw[CR];exact hs,ha.kp rfl⟩
  clear hs;rintro a' _ ⟨na,nc,g6,rfl,ag,aT,hs,dT⟩;obtain⟨e_,cM,aq,bB⟩:=dU ag e_ cM aq bB;clear e_;revert a';have e_:=G.le.refl g6;refine bT<|ak ?_
  refine lR (fun a' w=> ∃(g7:G),w=g7.w∧g6.le g7∧St g g7 [vO bs [vI (1+aC y.y0 5),.slice ta (h_ y).length tc,vI (1+aC y.y1 30),vI (1+aC y.y1 30+aC (y.y1.tdiv 30) 20),.slice na (jm y (fU x) k).length nc,vI (if aC y.y4 4=0 then aC (y.y4.tdiv 4) (k+1)else -1),vI (if aC y.y4 4=0 then 1+aC y.y5 3 else 0)] 91,.row 91 7 (.slice sa k sc) k cells,vO bf [vI 2,vI 5,.slice sa k sc,.slice none 0 0] 30,vO br [vI 0,vI 0,.slice none 0 0,.slice none 0 0] 30]∧
   Fr 193 [] [(0,.slice a x.length c),(1,.slice a2 zs.length c2),(4,vP br),(5,vI (fU x)),(6,vP bf),(7,vI k),(8,vP bY),(9,vP bs)] a') ?_ ?_
  ·refine cO<|aN rfl rfl<|dG T.ok (q:=4) rfl rfl rfl rfl rfl rfl (by decide)<|dE 1 [.z aq] rfl<|jN rfl (kE y.y4 4 _ lN.h4 (by decide)) hs fun g1 hs ag=>?_;obtain⟨e_,cM,aq,bB,aT⟩:=mY ag e_ cM aq bB aT;refine aF rfl ?_;by_cases d5:aC y.y4 4=0
   ·rw[if_pos d5,if_pos d5];refine aG (b:=_) ?_ rfl ?_
    ·simp[d5]
    refine cO<|aN rfl rfl<|dG T.ok (q:=4) rfl rfl rfl rfl rfl rfl (by decide)<|dE 4 [.z aq] rfl<|jK (vI (y.y4.tdiv 4)) (t:=116) rfl (congrArg (Value.int .i64) (wr q6.1 q6.2))<|jK (vI ((k:Int)+1)) (t:=118) rfl (congrArg (Value.int .i64) (wq))<|jN rfl (kE (y.y4.tdiv 4) ((k:Int)+1) _ q6 (by omega)) hs fun g1 hs ag=>?_;obtain⟨e_,cM,aq,bB,aT⟩:=mY ag e_ cM aq bB aT;refine Wp 1 rfl<|dC 0 hs rfl fun g1 hs ag=>?_;obtain⟨e_,cM,aq,bB,aT⟩:=mY ag e_ cM aq bB aT;refine bE<|ah<|aN rfl rfl<|dG T.ok (q:=5) rfl rfl rfl rfl rfl rfl (by decide)<|dE 1 [.z aq] rfl<|jN rfl (kE y.y5 3 _ lN.h5 (by decide)) hs fun g1 hs ag=>?_;obtain⟨e_,cM,bB,aT⟩:=dU ag e_ cM bB aT;refine Wp 2 rfl ?_;rw[wq (n:=1+aC y.y5 3)];refine dC 0 hs rfl fun g1 hs ag=>?_;obtain⟨e_,cM,bB,aT⟩:=dU ag e_ cM bB aT;exact an<|fun a ha=>⟨_,rfl,e_,hs,ha.kp rfl⟩
   rw[if_neg d5,if_neg d5];refine bg (b:=_) ?_ rfl ?_
   ·simp[d5]
   exact ar<|fun a ha=>⟨_,rfl,e_,hs,ha.kp rfl⟩
  clear hs;rintro a' _ ⟨g7,rfl,ag,hs,dT⟩;obtain⟨e_,cM,bB,aT⟩:=dU ag e_ cM bB aT;clear e_;revert a';have fw:=XP.mono cM;replace iN:=mQ.trans cM;clear aj cM;refine bT<|ah<|Wm 3 [.o 2,.o 0] hs rfl<|iX [(0,.agg #[vI (1+aC y.y0 5),.slice ta (h_ y).length tc,vI (1+aC y.y1 30),vI (1+aC y.y1 30+aC (y.y1.tdiv 30) 20),.slice na (jm y (fU x) k).length nc,vI (if aC y.y4 4=0 then aC (y.y4.tdiv 4) (k+1)else -1),vI (if aC y.y4 4=0 then 1+aC y.y5 3 else 0)])] [vI (1+aC y.y0 5),.slice ta (h_ y).length tc,vI (1+aC y.y1 30),vI (1+aC y.y1 30+aC (y.y1.tdiv 30) 20),.slice na (jm y (fU x) k).length nc,vI (if aC y.y4 4=0 then aC (y.y4.tdiv 4) (k+1)else -1),vI (if aC y.y4 4=0 then 1+aC y.y5 3 else 0)] hs rfl rfl fun b2 g4 hs ag=>?_;obtain⟨bB,aT⟩:=cA ag bB aT;replace iN:=iN.trans ag;replace fw:=fw.mono ag;refine aN rfl rfl<|ba T.ok 2 rfl hs rfl rfl rfl rfl rfl rfl rfl (by decide) rfl (Src.dZ (hs.own 0 _ rfl).1).2 (by simp[Value.oneCell']) (by show(k+1)*88≤_;omega) (by unfold maxLen;show k+1≤_;omega) fun a9 c9 g8 hs ag=>?_;obtain⟨bB,aT⟩:=cA ag bB aT;replace iN:=iN.trans ag;replace fw:=fw.mono ag;refine Wp 1 rfl<|dC 3 hs rfl fun g1 hs ag=>?_;obtain⟨bB,aT⟩:=cA ag bB aT;replace iN:=iN.trans ag;replace fw:=fw.mono ag;have dm:St g _ [.row 91 7 (.slice a9 (k+1) c9) (k+1) (cells++[vI (1+aC y.y0 5),.slice ta (h_ y).length tc,vI (1+aC y.y1 30),vI (1+aC y.y1 30+aC (y.y1.tdiv 30) 20),.slice na (jm y (fU x) k).length nc,vI (if aC y.y4 4=0 then aC (y.y4.tdiv 4) (k+1)else -1),vI (if aC y.y4 4=0 then 1+aC y.y5 3 else 0)]),vO bf [vI 2,vI 5,.slice a9 (k+1) c9,.slice none 0 0] 30,vO br [vI 0,vI 0,.slice none 0 0,.slice none 0 0] 30]:=hs.re [2,3,4] (by decide) rfl;refine an<|aX<|ai<|ah<|Wp 3 rfl<|an<|fun a ha=>⟨fU x-(k+1),by omega,k+1,_,_,_,rfl,dm,iN,by omega,rfl,?_,ha.keep ⟨rfl,rfl,rfl,rfl,rfl,kW rfl,trivial⟩⟩
  rw[dj];exact cR.app (α:=Step) (ys:=[tH y (fU x) k]) ⟨_,[],(aaI _).symm,(show sR _ _ _ from⟨_,_,_,_,_,_,rfl,bB,aT⟩),rfl⟩ fw
 refine bg (b:=decide ((k:Int)<(fU x:Int))) (by simp;omega) rfl ?_;obtain rfl:k=fU x:=by omega
 refine aJ<|aM<|aM<|b_<|ai<|ak<|aD rfl<|aw ?_;have aE:=CP.mono iN;have Uq:=fw;have Mo:=aE;have aaq:=iN;have dm:St g g3 [.row 94 3 (.slice none (jr (fU x) zs 0).length 0) (jr (fU x) zs 0).length (nk (jr (fU x) zs 0)),.row 91 7 (.slice sa (fU x) sc) (fU x) cells,vO bf [vI 2,vI 5,.slice sa (fU x) sc,.slice none (jr (fU x) zs 0).length 0] 30,vO br [vI 0,vI 0,.slice none 0 0,.slice none 0 0] 30]:=hs.eM 94 3 none;replace hs:=dm;clear dm
 refine aZ (fun m a' w=> ∃(k:Nat) (wa:Option Addr) (wc:Nat) (g4:G),w=g4.w∧St g g4 [.row 94 3 (.slice wa (jr (fU x) zs k).length wc) (jr (fU x) zs k).length (nk (jr (fU x) zs k)),.row 91 7 (.slice sa (fU x) sc) (fU x) cells,vO bf [vI 2,vI 5,.slice sa (fU x) sc,.slice wa (jr (fU x) zs k).length wc] 30,vO br [vI 0,vI 0,.slice none 0 0,.slice none 0 0] 30]∧G.le g3 g4∧k≤min zs.length 4∧m=min zs.length 4-k∧
   Fr 193 [] [(1,.slice a2 zs.length c2),(4,vP br),(5,vI (fU x)),(6,vP bf),(12,vI k)] a') (min zs.length 4)
  (fun a' ha=>⟨0,none,0,g3,rfl,hs,G.le.refl _,aar _,rfl,ha.kp rfl⟩) ?_
 clear hs fw aA aE aj;rintro m a' _ ⟨k,wa,wc,g4,rfl,hs,e_,hk,rfl,dT⟩;have aE:=Mo.mono e_;have T3:=zN (fU x) zs k (by omega);revert a';by_cases aV:k<min zs.length 4
 ·refine bT<|ak<|ck 5 rfl<|bd 136 (b':=true) (by simp;omega) rfl<|aF rfl<|aG (b:=_) ?_ rfl ?_
  ·simp;omega
  have XS:k<zs.length:=by omega
  have dj:=w6 (fU x) zs k XS;have lN:=hz _ (aaQ XS);have eI:dq zs (k:Int)=some zs[k]:=by simp[dq,XS]
  generalize zs[k]=z at*;generalize jr (fU x) zs k=wl at*;have p0:=dM (c:=z.z0) (n:=fU x) (by omega);have p1:=dM (c:=z.z1) (n:=fU x) (by omega);have p2:=dM (c:=z.z2) (n:=150) (by omega);have RO:(fU x:Int)≠0:=by omega
  have Rr:BF (fU x) z=⟨aC z.z0 (fU x),aC z.z1 (fU x),10+aC z.z2 150⟩:=rfl;generalize hw:BF (fU x) z=w0 at*;refine ar<|ai<|ak<|aw<|ak ?_;have sT:=hs;apply dP (eA (.f (XO z)::(.f (mr (z.z0))::(gR (fe (.f (XO z)::(.f (mr (z.z1))::(gR (fe (.f (XO z)::(.f (mr (z.z2))::(gR (.f (Ia g4.dr.w.heap.size [vI 0,vI 0,vI 0] 94)::[]))))))))))))) 23 [(21,163),(22,13)] (by kernel_rfl)
  ·refine jV [[],[]] rfl<|aW [(0,142),(1,143)] (fun gd hf=>?_) ?_
   ·have eR:=(G.a_ _).trans hf.le;exact fD rfl<|az<|ay rfl<|dJ T.ok rfl (aE.mono eR) (y:=z) eI rfl rfl rfl rfl rfl rfl fun b p ys aK fw=>⟨_,rfl,bW.refl _,b,p,rfl,fw▸aK⟩
   refine aW [(2,144)] (fun gd hf=>?_) ?_
   ·skip;refine aI fun v2 h2=>?_;apply az;obtain⟨b,p,rfl,aK⟩:=h2;exact ay rfl<|dG T.ok (q:=0) rfl rfl rfl rfl rfl rfl (by decide)<|⟨_,rfl,bW.refl _,b,_,rfl,aK.sub 0 rfl⟩
   refine aW [(3,145)] (fun gd hf=>?_) ?_
   ·skip;refine aI fun v3 h3=>?_;apply az;obtain⟨b,p,rfl,aK⟩:=h3;refine ay rfl<|cu T.ok 0 rfl aK rfl rfl<|⟨_,rfl,bW.refl _,?_⟩;exact rfl
   refine jV [[]] rfl<|aW [(4,146),(5,147)] (fun gd hf=>?_) ?_
   ·skip;refine fD rfl<|az<|ay rfl<|bu (cB 46) bJ rfl rfl rfl rfl rfl (kE z.z0 (fU x) _ lN.h0 RO) fun g' v h1 h2=>⟨g',rfl,h1,?_⟩
    exact h2
   refine jV [[],[]] rfl<|aW [(7,149),(8,150)] (fun gd hf=>?_) ?_
   ·have eR:=(G.a_ _).trans hf.le;exact fD rfl<|az<|ay rfl<|dJ T.ok rfl (aE.mono eR) (y:=z) eI rfl rfl rfl rfl rfl rfl fun b p ys aK fw=>⟨_,rfl,bW.refl _,b,p,rfl,fw▸aK⟩
   refine aW [(9,151)] (fun gd hf=>?_) ?_
   ·skip;refine aI fun v9 h9=>?_;apply az;obtain⟨b,p,rfl,aK⟩:=h9;exact ay rfl<|dG T.ok (q:=1) rfl rfl rfl rfl rfl rfl (by decide)<|⟨_,rfl,bW.refl _,b,_,rfl,aK.sub 1 rfl⟩
   refine aW [(10,152)] (fun gd hf=>?_) ?_
   ·skip;refine aI fun v10 ue=>?_;apply az;obtain⟨b,p,rfl,aK⟩:=ue;refine ay rfl<|cu T.ok 0 rfl aK rfl rfl<|⟨_,rfl,bW.refl _,?_⟩;exact rfl
   refine jV [[]] rfl<|aW [(11,153),(12,154)] (fun gd hf=>?_) ?_
   ·skip;refine fD rfl<|az<|ay rfl<|bu (cB 46) bJ rfl rfl rfl rfl rfl (kE z.z1 (fU x) _ lN.h1 RO) fun g' v h1 h2=>⟨g',rfl,h1,?_⟩
    exact h2
   refine jV [[],[]] rfl<|aW [(14,156),(15,157)] (fun gd hf=>?_) ?_
   ·have eR:=(G.a_ _).trans hf.le;exact fD rfl<|az<|ay rfl<|dJ T.ok rfl (aE.mono eR) (y:=z) eI rfl rfl rfl rfl rfl rfl fun b p ys aK fw=>⟨_,rfl,bW.refl _,b,p,rfl,fw▸aK⟩
   refine aW [(16,158)] (fun gd hf=>?_) ?_
   ·skip;refine aI fun Zf Pc=>?_;apply az;obtain⟨b,p,rfl,aK⟩:=Pc;exact ay rfl<|dG T.ok (q:=2) rfl rfl rfl rfl rfl rfl (by decide)<|⟨_,rfl,bW.refl _,b,_,rfl,aK.sub 2 rfl⟩
   refine aW [(17,159)] (fun gd hf=>?_) ?_
   ·skip;refine aI fun v17 UU=>?_;apply az;obtain⟨b,p,rfl,aK⟩:=UU;refine ay rfl<|cu T.ok 0 rfl aK rfl rfl<|⟨_,rfl,bW.refl _,?_⟩;exact rfl
   refine aW [(18,160)] (fun gd hf=>?_) ?_
   ·skip;refine bU rfl<|az<|ay rfl<|bu (cB 46) bJ rfl rfl rfl rfl rfl (kE (z.z2) (150) _ (lN.h2) (by decide)) fun g' v h1 h2=>⟨g',rfl,h1,?_⟩
    exact h2
   refine aW [(19,161)] (fun gd hf=>cj rfl (bj rfl (congrArg (Value.int .i64) (show _=10+aC z.z2 150 from wq))))<|aW [(6,148),(13,155),(20,162)] (fun gd hf=>dD rfl (ay rfl (iS T.ok rfl (vs:=[(0,vI (aC z.z0 (fU x))),(1,vI (aC z.z1 (fU x))),(2,vI (10+aC z.z2 150))]) (cells:=[vI (aC z.z0 (fU x)),vI (aC z.z1 (fU x)),vI (10+aC z.z2 150)]) rfl rfl rfl rfl [(0,1),(1,1),(2,1)] rfl (by kernel_rfl) (cC rfl))))<|aW [] (fun gd hf=>?_) ?_
   ·skip;refine az<|ay rfl<|ik T.ok rfl (St.start gd) rfl rfl fun b g' kP hle=>?_;have ho:=kP.own 0 _ rfl;exact⟨g',rfl,kP.p9,b,rfl,aaC hf.below.size ho.1,ho.2⟩
   exact fk
  intro g1 aH;refine bU rfl<|aI fun v22 h22=>?_;apply az
  replace hs:=hs.dr.call aH;have ag:=(G.a_ _).trans aH.le;replace e_:=G.le.trans e_ ag;obtain⟨bw,rfl,Aj⟩:=h22;replace hs:=sT.dr.jl aH Aj;clear sT;refine dC 0 hs rfl fun g1 hs ag=>?_;replace e_:=G.le.trans e_ ag;refine bE<|Ja [.o 3] hs rfl<|ak ?_;have Ur:zM (fU x) wl z=if w0.src≠w0.dst∧follows wl w0=true then wl++[w0]else wl:=by unfold zM;rw[hw]
  rw[Ur]at dj;clear Ur;have iO:w0.src=aC z.z0 (fU x):=by rw[Rr]
  have XT:w0.dst=aC z.z1 (fU x):=by rw[Rr]
  have XU:w0.dv=10+aC z.z2 150:=by rw[Rr]
  rw[←iO,←XT,←XU]at hs;replace hs:St g g1 [vO bw [vI w0.src,vI w0.dst,vI w0.dv] 94,.row 94 3 (.slice wa (wl).length wc) (wl).length (nk (wl)),.row 91 7 (.slice sa (fU x) sc) (fU x) cells,vO bf [vI 2,vI 5,.slice sa (fU x) sc,.slice wa (wl).length wc] 30,vO br [vI 0,vI 0,.slice none 0 0,.slice none 0 0] 30]:=hs;cases e1:(w0.src !=w0.dst)with
  |false=>
   have RW: ¬(w0.src≠w0.dst):=by simpa using e1
   rw[if_neg fun h=>RW h.1]at dj;apply aO hs (cV (cV (eA (fe [])))) 19 [(18,185)] (by kernel_rfl) rfl
   ·exact cY [[],[0],[],[2]] [.o 0,.o 0] hs rfl<|aW [(1,168),(3,170)] (fun gd hf=>bN rfl (bj rfl (congrArg Value.bool e1)))<|qo [[4],[5],[6,5],[7,5,5],[8],[9,8],[8],[11,8],[10,12,8],[13,8],[8],[14,15,8,8],[8,16,5],[5,17]] rfl
   clear hs;intro g1 hs ag;replace e_:=G.le.trans e_ ag;refine bE<|bI rfl<|ar<|aX<|ai<|ah<|Wp 3 rfl<|an<|fun a ha=>⟨min zs.length 4-(k+1),by omega,k+1,wa,wc,_,rfl,?_,e_,by omega,rfl,ha.keep ⟨rfl,rfl,rfl,rfl,kW rfl,trivial⟩⟩
   rw[dj];exact hs.drop 0
  |true=>
   have RW:w0.src≠w0.dst:=by simpa using e1
   cases e2:((wl.length:Int)==0)with
   |true=>
    have Sd:(wl.length:Int)=0:=by simpa using e2
    have E3:wl=[]:=aa' (by omega);rw[if_pos ⟨RW,by rw[E3];rfl⟩]at dj;apply aO hs (cV (cV (eA (fe [])))) 19 [(18,185)] (by kernel_rfl) rfl
    ·exact cY [[],[0],[],[2]] [.o 0,.o 0] hs rfl<|aW [(1,168),(3,170)] (fun gd hf=>bN rfl (bj rfl (congrArg Value.bool e1)))<|jV [[4],[5]] rfl<|aW [(6,173),(5,172)] (fun gd hf=>bN rfl (bj rfl (congrArg Value.bool e2)))<|qo [[7,5,5],[8],[9,8],[8],[11,8],[10,12,8],[13,8],[8],[14,15,8,8],[8,16,5],[5,17]] rfl
    clear hs;intro g1 hs ag;replace e_:=G.le.trans e_ ag;refine bE<|bZ rfl<|ah<|Wm 3 [.o 3,.o 0] hs rfl<|iX [(0,.agg (lP w0).toArray)] (lP w0) hs rfl rfl fun b2 g9 hs ag=>?_;replace e_:=G.le.trans e_ ag;refine aN rfl rfl<|ba T.ok 2 rfl hs rfl rfl rfl rfl rfl rfl rfl (by decide) rfl (Src.dZ (hs.own 0 _ rfl).1).2 (by simp[lP,Value.oneCell']) (by show(wl.length+1)*24≤_;omega) (by unfold maxLen;show wl.length+1≤_;omega) fun a9 c9 g8 hs ag=>?_;replace e_:=G.le.trans e_ ag;refine Wp 1 rfl<|dC 4 hs rfl fun g1 hs ag=>?_;replace e_:=G.le.trans e_ ag;refine an<|aX<|ai<|ah<|Wp 3 rfl<|an<|fun a ha=>⟨min zs.length 4-(k+1),by omega,k+1,a9,c9,_,rfl,?_,e_,by omega,rfl,ha.keep ⟨rfl,rfl,rfl,rfl,kW rfl,trivial⟩⟩
    have dm:=hs.re [2,3,4,5] (by decide) (L':=[.row 94 3 (.slice a9 (wl++[w0]).length c9) (wl++[w0]).length (nk (wl++[w0])),.row 91 7 (.slice sa (fU x) sc) (fU x) cells,vO bf [vI 2,vI 5,.slice sa (fU x) sc,.slice a9 (wl++[w0]).length c9] 30,vO br [vI 0,vI 0,.slice none 0 0,.slice none 0 0] 30]) (by rw[rq,aal];rfl);rw[dj];exact dm
   |false=>
    have E3:wl.length≠0:=by intro h;rw[h]at e2;cases e2
    obtain⟨lw,TX⟩: ∃v,wl.getLast? =some v:=by
     cases hg:wl.getLast? with
     |none=>rw[List.getLast?_eq_none_iff]at hg;rw[hg]at E3;exact absurd rfl E3
     |some v=>exact⟨v,rfl⟩
    have qn:follows wl w0=ng lw w0:=by unfold follows;rw[TX]
    have Lk:=BI TX;obtain⟨wb,wp,rfl⟩:=Er (hs.own 1 _ rfl).1 E3;have I_:((wl.length:Int)-1).toNat=wl.length-1:=by omega
    rw[←I_]at Lk;rw[qn]at dj;cases e3:ng lw w0 with
    |true=>
     rw[if_pos ⟨RW,e3⟩]at dj;apply aO hs (cV (cV (eA (fe [])))) 19 [(18,185)] (by kernel_rfl) rfl
     ·refine cY [[],[0],[],[2]] [.o 0,.o 0] hs rfl<|aW [(1,168),(3,170)] (fun gd hf=>bN rfl (bj rfl (congrArg Value.bool e1)))<|jV [[4],[5]] rfl<|aW [(6,173),(5,172)] (fun gd hf=>bN rfl (bj rfl (congrArg Value.bool e2)))<|cY [[7,5,5],[8],[9,8],[8]] [.o 3] hs rfl<|aW [(11,178),(8,175)] (fun gd hf=>bN rfl (bj rfl (congrArg (Value.int .i64) (show _=(wl.length:Int)-1 from wq))))<|aW [(10,177),(12,179),(8,175)] (fun gd hf=>?_) ?_
      ·have jk:=hs.dr.call hf;refine lJ rfl<|az<|ay rfl<|ea T.ok (n:=(wl.length:Int)-1) rfl (jk.own 1 _ rfl).1 (by omega) (by omega) rfl rfl rfl rfl rfl rfl fun b p hh=>?_;obtain⟨rfl,rfl⟩:wb=b∧wp=p:=by simpa using hh
       exact⟨_,rfl,bW.refl _,rfl⟩
      refine aW [(13,180),(8,175)] (fun gd hf=>bN rfl (ay rfl (eW T.ok (((wl.length:Int)-1).toNat*3) rfl ((hs.dr.call hf).own 1 _ rfl).1 rfl (v:=.agg (lP lw).toArray) Lk (cC rfl))))<|cY [[8]] [.o 0] hs rfl<|aW [(14,181),(15,182),(8,175),(8,175)] (fun gd hf=>?_) ?_
      ·skip;refine lJ rfl<|bU rfl<|az<|ay rfl<|bu (cB 47) bJ rfl rfl rfl rfl rfl (rp lw w0 _) fun g' v h1 h2=>⟨g',rfl,h1,?_⟩
       rw[h2];exact congrArg Value.bool e3
      exact qo [[8,16,5],[5,17]] rfl
     clear hs;intro g1 hs ag;replace e_:=G.le.trans e_ ag;refine bE<|bZ rfl<|ah<|Wm 3 [.o 3,.o 0] hs rfl<|iX [(0,.agg (lP w0).toArray)] (lP w0) hs rfl rfl fun b2 g9 hs ag=>?_;replace e_:=G.le.trans e_ ag;refine aN rfl rfl<|ba T.ok 2 rfl hs rfl rfl rfl rfl rfl rfl rfl (by decide) rfl (Src.dZ (hs.own 0 _ rfl).1).2 (by simp[lP,Value.oneCell']) (by show(wl.length+1)*24≤_;omega) (by unfold maxLen;show wl.length+1≤_;omega) fun a9 c9 g8 hs ag=>?_;replace e_:=G.le.trans e_ ag;refine Wp 1 rfl<|dC 4 hs rfl fun g1 hs ag=>?_;replace e_:=G.le.trans e_ ag;refine an<|aX<|ai<|ah<|Wp 3 rfl<|an<|fun a ha=>⟨min zs.length 4-(k+1),by omega,k+1,a9,c9,_,rfl,?_,e_,by omega,rfl,ha.keep ⟨rfl,rfl,rfl,rfl,kW rfl,trivial⟩⟩
     have dm:=hs.re [2,3,4,5] (by decide) (L':=[.row 94 3 (.slice a9 (wl++[w0]).length c9) (wl++[w0]).length (nk (wl++[w0])),.row 91 7 (.slice sa (fU x) sc) (fU x) cells,vO bf [vI 2,vI 5,.slice sa (fU x) sc,.slice a9 (wl++[w0]).length c9] 30,vO br [vI 0,vI 0,.slice none 0 0,.slice none 0 0] 30]) (by rw[rq,aal];rfl);rw[dj];exact dm
    |false=>
     rw[if_neg fun h=>by rw[e3]at h;cases h.2]at dj;apply aO hs (cV (cV (eA (fe [])))) 19 [(18,185)] (by kernel_rfl) rfl
     ·refine cY [[],[0],[],[2]] [.o 0,.o 0] hs rfl<|aW [(1,168),(3,170)] (fun gd hf=>bN rfl (bj rfl (congrArg Value.bool e1)))<|jV [[4],[5]] rfl<|aW [(6,173),(5,172)] (fun gd hf=>bN rfl (bj rfl (congrArg Value.bool e2)))<|cY [[7,5,5],[8],[9,8],[8]] [.o 3] hs rfl<|aW [(11,178),(8,175)] (fun gd hf=>bN rfl (bj rfl (congrArg (Value.int .i64) (show _=(wl.length:Int)-1 from wq))))<|aW [(10,177),(12,179),(8,175)] (fun gd hf=>?_) ?_
      ·have jk:=hs.dr.call hf;refine lJ rfl<|az<|ay rfl<|ea T.ok (n:=(wl.length:Int)-1) rfl (jk.own 1 _ rfl).1 (by omega) (by omega) rfl rfl rfl rfl rfl rfl fun b p hh=>?_;obtain⟨rfl,rfl⟩:wb=b∧wp=p:=by simpa using hh
       exact⟨_,rfl,bW.refl _,rfl⟩
      refine aW [(13,180),(8,175)] (fun gd hf=>bN rfl (ay rfl (eW T.ok (((wl.length:Int)-1).toNat*3) rfl ((hs.dr.call hf).own 1 _ rfl).1 rfl (v:=.agg (lP lw).toArray) Lk (cC rfl))))<|cY [[8]] [.o 0] hs rfl<|aW [(14,181),(15,182),(8,175),(8,175)] (fun gd hf=>?_) ?_
      ·skip;refine lJ rfl<|bU rfl<|az<|ay rfl<|bu (cB 47) bJ rfl rfl rfl rfl rfl (rp lw w0 _) fun g' v h1 h2=>⟨g',rfl,h1,?_⟩
       rw[h2];exact congrArg Value.bool e3
      exact qo [[8,16,5],[5,17]] rfl
     clear hs;intro g1 hs ag;replace e_:=G.le.trans e_ ag;refine bE<|bI rfl<|ar<|aX<|ai<|ah<|Wp 3 rfl<|an<|fun a ha=>⟨min zs.length 4-(k+1),by omega,k+1,some ⟨wb,wp,none⟩,wc,_,rfl,?_,e_,by omega,rfl,ha.keep ⟨rfl,rfl,rfl,rfl,kW rfl,trivial⟩⟩
     rw[dj];exact hs.drop 0
 obtain rfl:k=min zs.length 4:=by omega
 refine bT<|ak<|ck 5 rfl ?_;by_cases hz4:min zs.length 4<zs.length
 ·refine bd 136 (b':=true) (by simp;omega) rfl<|aF rfl<|bg (b:=_) ?_ rfl ?_
  ·simp;omega
  obtain⟨gx,XV,pH,XW,cU⟩:=hs.cD (α:=cz) (xs:=jr (fU x) zs (min zs.length 4)) (i:=0) rfl (cR.win _ _);obtain⟨gy,IW,dm,L6,sx⟩:=pH.cD (α:=Step) (xs:=nj x (fU x)) (i:=0) rfl (Uq.mono (e_.trans XW));replace cU:=cU.mono L6;rw[←XV,←IW];replace hs:=dm;clear pH dm;refine aJ<|aM<|aM<|b_<|ai<|jd 1 [.o 0] hs rfl<|dC 1 hs rfl fun g1 hs ag=>?_;obtain⟨cU,sx⟩:=cA ag cU sx;exact bE<|au<|my T.ok 1 rfl hs rfl rfl rfl (hs.ret ⟨_,_,_,_,_,_,rfl,sx,cU⟩)
 refine bd 136 (b':=false) (by simp;omega) rfl<|aF rfl<|bI rfl ?_;obtain⟨gx,XV,pH,XW,cU⟩:=hs.cD (α:=cz) (xs:=jr (fU x) zs (min zs.length 4)) (i:=0) rfl (cR.win _ _);obtain⟨gy,IW,dm,L6,sx⟩:=pH.cD (α:=Step) (xs:=nj x (fU x)) (i:=0) rfl (Uq.mono (e_.trans XW));replace cU:=cU.mono L6;rw[←XV,←IW];replace hs:=dm;clear pH dm;refine aJ<|aM<|aM<|b_<|ai<|jd 1 [.o 0] hs rfl<|dC 1 hs rfl fun g1 hs ag=>?_;obtain⟨cU,sx⟩:=cA ag cU sx;exact bE<|au<|my T.ok 1 rfl hs rfl rfl rfl (hs.ret ⟨_,_,_,_,_,_,rfl,sx,cU⟩)
theorem ir(n lo hi:Int)(g:G):cN prog 110 #[vI n,vI lo,vI hi] g fun _ v=>v= .bool (within n lo hi):=by
 have hs:=St.start g;refine enter func110 rfl ntmps110 rfl<|aD rfl<|ck 4 rfl<|cI (want:=true) (x:=decide (n≤hi)) 3 bJ rfl rfl rfl rfl (.inl ⟨rfl,rfl,rfl⟩) rfl rfl rfl rfl (fun hb Q' fp=>?_) (fun g' hf=>?_)
 ·exact Wp 3 rfl<|an<|fun a ha=>fp _ a (bW.refl _) (ha.kp rfl)
 replace hs:=hs.call hf;exact aF rfl<|au (cg rfl hs rfl)
theorem Em(a b:Int)(g:G):cN prog 109 #[vI a,vI b] g fun _ v=>v= .bool (dV ⟨a,b,[],[]⟩):=by
 have hs:=St.start g;refine enter func109 rfl ntmps109 rfl<|aD rfl<|ck 3 rfl<|cI (want:=true) (x:=decide (a≤b)) 3 bJ rfl rfl rfl rfl (.inl ⟨rfl,rfl,rfl⟩) rfl rfl rfl rfl (fun hb Q' fp=>?_) (fun g' hf=>?_)
 ·exact Wp 3 rfl<|an<|fun a ha=>fp _ a (bW.refl _) (ha.kp rfl)
 replace hs:=hs.call hf;refine Wp 1 rfl<|cI (want:=true) (x:=decide (b≤10000)) 2 bJ rfl rfl rfl rfl (.inl ⟨rfl,rfl,rfl⟩) rfl rfl rfl rfl (fun hb Q' fp=>?_) (fun g' hf=>?_)
 ·exact Wp 2 rfl<|an<|fun a ha=>fp _ a (bW.refl _) (ha.kp rfl)
 replace hs:=hs.call hf;exact aF rfl<|au (cg rfl hs rfl)
theorem vg(v:Value)(l:List Int)(lo hi:Int)(g:G)(hl:Rs g v l):
  cN prog 195 #[v,vI lo,vI hi] g fun _ r=>r= .bool (ascending l lo hi):=by
 obtain⟨a,c,rfl⟩:=hl.isSlice;have hlen:=hl.ef;unfold maxLen at hlen;have hs:=St.start g;refine enter func195 rfl ntmps195 rfl<|aD rfl<|ak<|aD rfl<|aw ?_;refine aZ (fun m a' w=> ∃(k:Nat) (g':G),w=g'.w∧St g g' []∧G.le g g'∧k≤l.length∧m=l.length-k∧((if k=0 then ascending l lo hi else kZ lo hi (l.getD (k-1) 0) (l.drop k))=ascending l lo hi)∧
  Fr 38 [] [(0,.slice a l.length c),(1,vI lo),(2,vI hi),(7,vI k)] a') l.length (fun a' ha=>⟨0,g,rfl,hs,G.le.refl g,aar _,rfl,by simp,ha.kp rfl⟩) ?_
 clear hs;rintro m a' _ ⟨k,g',rfl,hs,aj,hk,rfl,dt,dT⟩;have aA:=hl.mono aj;revert a';refine bT<|ak<|aD rfl ?_;by_cases aV:k<l.length
 ·refine aG (b:=decide ((k:Int)<(l.length:Int))) (by simp;omega) rfl ?_;rw[BG l lo hi k aV]at dt;have eI:dq l (k:Int)=some l[k]:=by simp[dq,aV]
  have lH:l.getD (k+1-1) 0=l[k]:=by simp[aV]
  have MN: ∀(h:0<k),dq l ((k-1:Nat):Int)=some (l.getD (k-1) 0):=by
   intro h;have h1:k-1<l.length:=by omega
   rw[bM (n:=((k-1:Nat):Int)) rfl h1,aaP,aas h1];rfl
  generalize l.getD (k-1) 0=y at*;generalize l[k]=x at*;cases e1:within x lo hi with
  |false=>
   rw[e1,aa6,aa6]at dt;refine ar<|ai<|ak<|aw<|ak ?_;apply aO hs (eA (.f (mr (x))::(cV (cV (gR (fe [])))))) 24 [(23,37)] (by kernel_rfl) rfl
   ·refine jV [[],[]] rfl<|aW [(0,14),(1,15)] (fun gd hf=>?_) ?_
    ·have eR:=(G.a_ _).trans hf.le;refine fD rfl<|az<|ay rfl<|dJ T.ok rfl (aA.mono eR) (y:=x) eI rfl rfl rfl rfl rfl rfl ?_;rintro b p ys aK rfl;exact⟨_,rfl,bW.refl _,b,p,rfl,aK⟩
    refine aW [(2,16)] (fun gd hf=>?_) ?_
    ·skip;refine aI fun v2 h2=>?_;apply az;obtain⟨b,p,rfl,aK⟩:=h2;refine ay rfl<|cu T.ok 0 rfl aK rfl rfl<|⟨_,rfl,bW.refl _,?_⟩;exact rfl
    refine jV [[],[]] rfl<|aW [(3,17),(4,18),(5,19)] (fun gd hf=>?_) ?_
    ·skip;refine lJ rfl<|az<|ay rfl<|bu (cB 110) bJ rfl rfl rfl rfl rfl (ir x lo hi _) fun g' v h1 h2=>⟨g',rfl,h1,?_⟩
     rw[h2];exact congrArg Value.bool e1
    exact qo [[6],[7],[8],[9,8],[10,8,8],[11],[11],[12,13,11],[14,11],[11],[11],[17,11],[16,18,11],[19,11],[15,20,11],[11,21,8],[8,22]] rfl
   clear hs;intro g1 hs ag;obtain⟨aj,aA⟩:=cA ag aj aA;refine bE<|bZ rfl<|aD rfl<|au<|cg rfl hs ?_;rw[←dt]
  |true=>
   rw[e1,abf]at dt;cases e2:decide (0<(k:Int))with
   |false=>
    have e3:decide (k=0)=true:=by simp at e2⊢;omega
    rw[e3,abH,abf]at dt;refine ar<|ai<|ak<|aw<|ak ?_;apply aO hs (eA (.f (mr (x))::(cV (cV (gR (fe [])))))) 24 [(23,37)] (by kernel_rfl) rfl
    ·refine jV [[],[]] rfl<|aW [(0,14),(1,15)] (fun gd hf=>?_) ?_
     ·have eR:=(G.a_ _).trans hf.le;refine fD rfl<|az<|ay rfl<|dJ T.ok rfl (aA.mono eR) (y:=x) eI rfl rfl rfl rfl rfl rfl ?_;rintro b p ys aK rfl;exact⟨_,rfl,bW.refl _,b,p,rfl,aK⟩
     refine aW [(2,16)] (fun gd hf=>?_) ?_
     ·skip;refine aI fun v2 h2=>?_;apply az;obtain⟨b,p,rfl,aK⟩:=h2;refine ay rfl<|cu T.ok 0 rfl aK rfl rfl<|⟨_,rfl,bW.refl _,?_⟩;exact rfl
     refine jV [[],[]] rfl<|aW [(3,17),(4,18),(5,19)] (fun gd hf=>?_) ?_
     ·skip;refine lJ rfl<|az<|ay rfl<|bu (cB 110) bJ rfl rfl rfl rfl rfl (ir x lo hi _) fun g' v h1 h2=>⟨g',rfl,h1,?_⟩
      rw[h2];exact congrArg Value.bool e1
     exact jV [[6],[7],[8]] rfl<|aW [(9,23),(8,22)] (fun gd hf=>bN rfl (bj rfl (congrArg Value.bool e2)))<|qo [[10,8,8],[11],[11],[12,13,11],[14,11],[11],[11],[17,11],[16,18,11],[19,11],[15,20,11],[11,21,8],[8,22]] rfl
    clear hs;intro g1 hs ag;obtain⟨aj,aA⟩:=cA ag aj aA;refine bE<|bI rfl<|ar<|aX<|ai<|ah<|Wp 3 rfl<|an<|fun a ha=>⟨l.length-(k+1),by omega,k+1,_,rfl,hs,aj,by omega,rfl,?_,ha.keep ⟨rfl,rfl,rfl,kW rfl,trivial⟩⟩
    rw[←dt,if_neg (by omega),lH]
   |true=>
    have C9:0<k:=by simpa using e2
    have e3:decide (k=0)=false:=by simp;omega
    rw[e3,abE]at dt;have MN:=MN C9;refine ar<|ai<|ak<|aw<|ak ?_;apply aO hs (eA (.f (mr (x))::(cV (eA (fe (.f (mr (x))::(gR (.f (mr (y))::(gR []))))))))) 24 [(23,37)] (by kernel_rfl) rfl
    ·refine jV [[],[]] rfl<|aW [(0,14),(1,15)] (fun gd hf=>?_) ?_
     ·have eR:=(G.a_ _).trans hf.le;refine fD rfl<|az<|ay rfl<|dJ T.ok rfl (aA.mono eR) (y:=x) eI rfl rfl rfl rfl rfl rfl ?_;rintro b p ys aK rfl;exact⟨_,rfl,bW.refl _,b,p,rfl,aK⟩
     refine aW [(2,16)] (fun gd hf=>?_) ?_
     ·skip;refine aI fun v2 h2=>?_;apply az;obtain⟨b,p,rfl,aK⟩:=h2;refine ay rfl<|cu T.ok 0 rfl aK rfl rfl<|⟨_,rfl,bW.refl _,?_⟩;exact rfl
     refine jV [[],[]] rfl<|aW [(3,17),(4,18),(5,19)] (fun gd hf=>?_) ?_
     ·skip;refine lJ rfl<|az<|ay rfl<|bu (cB 110) bJ rfl rfl rfl rfl rfl (ir x lo hi _) fun g' v h1 h2=>⟨g',rfl,h1,?_⟩
      rw[h2];exact congrArg Value.bool e1
     refine jV [[6],[7],[8]] rfl<|aW [(9,23),(8,22)] (fun gd hf=>bN rfl (bj rfl (congrArg Value.bool e2)))<|jV [[10,8,8],[11],[11]] rfl<|aW [(12,26),(13,27),(11,25)] (fun gd hf=>?_) ?_
     ·have eR:=(G.a_ _).trans hf.le;refine lJ rfl<|az<|ay rfl<|dJ T.ok rfl (aA.mono eR) (y:=x) eI rfl rfl rfl rfl rfl rfl ?_;rintro b p ys aK rfl;exact⟨_,rfl,bW.refl _,b,p,rfl,aK⟩
     refine aW [(14,28),(11,25)] (fun gd hf=>?_) ?_
     ·skip;refine aI fun ZV RB=>?_;refine bU rfl ?_;apply az;obtain⟨b,p,rfl,aK⟩:=RB;refine ay rfl<|cu T.ok 0 rfl aK rfl rfl<|⟨_,rfl,bW.refl _,?_⟩;exact rfl
     refine jV [[11],[11]] rfl<|aW [(17,31),(11,25)] (fun gd hf=>bN rfl (bj rfl (congrArg (Value.int .i64) (show _=((k-1:Nat):Int)from by rw[wq];omega))))<|aW [(16,30),(18,32),(11,25)] (fun gd hf=>?_) ?_
     ·have eR:=(G.a_ _).trans hf.le;refine lJ rfl<|az<|ay rfl<|dJ T.ok rfl (aA.mono eR) (y:=y) MN rfl rfl rfl rfl rfl rfl ?_;rintro b p ys aK rfl;exact⟨_,rfl,bW.refl _,b,p,rfl,aK⟩
     refine aW [(19,33),(11,25)] (fun gd hf=>?_) ?_
     ·skip;refine aI fun v19 VG=>?_;refine bU rfl ?_;apply az;obtain⟨b,p,rfl,aK⟩:=VG;refine ay rfl<|cu T.ok 0 rfl aK rfl rfl<|⟨_,rfl,bW.refl _,?_⟩;exact rfl
     exact qo [[15,20,11],[11,21,8],[8,22]] rfl
    clear hs;intro g1 hs ag;replace aj:=G.le.trans aj ag;by_cases OI:x≤y
    ·have e4:decide (y<x)=false:=by simp;omega
     rw[e4,aa6]at dt;refine bE<|aG (by simp[OI]) rfl<|aD rfl<|au<|cg rfl hs ?_;rw[←dt]
    have e4:decide (y<x)=true:=by simp;omega
    rw[e4,abf]at dt;refine bE<|bg (b:=_) ?_ rfl ?_
    ·simp;omega
    refine ar<|aX<|ai<|ah<|Wp 3 rfl<|an<|fun a ha=>⟨l.length-(k+1),by omega,k+1,_,rfl,hs,aj,by omega,rfl,?_,ha.keep ⟨rfl,rfl,rfl,kW rfl,trivial⟩⟩
    rw[←dt,if_neg (by omega),lH]
 refine bg (b:=decide ((k:Int)<(l.length:Int))) (by simp;omega) rfl<|aJ<|aM<|aM<|b_<|ai<|aD rfl ?_;obtain rfl:k=l.length:=by omega
 refine au<|cg rfl hs ?_;rw[←dt];by_cases h0:l.length=0
 ·rw[if_pos h0,aa' h0];rfl
 rw[if_neg h0];simp[kZ]
theorem Hs(v:Value)(s:Step)(n:Int)(g:G)(hv:kz g v s)(h1:0≤n)(h2:n≤9223372036854775807):
  cN prog 111 #[v,vI n] g fun _ r=>r= .bool (bO s n):=by
 obtain⟨cs,rfl,a1,n1,c1,a2,n2,c2,rfl,N_,Lp⟩:=hv;obtain⟨_,_,e⟩:=N_.isSlice;obtain⟨rfl,rfl,rfl⟩:=aaO e;clear e;obtain⟨_,_,e⟩:=Lp.isSlice;obtain⟨rfl,rfl,rfl⟩:=aaO e;clear e;have hs:=St.start g;have aj:=G.le.refl g;have hn:IntKind.i64.wrap (n-1)=n-1:=wq;refine enter func111 rfl ntmps111 rfl<|cO<|nX hs rfl fun b1 g1 hs ag=>?_;replace aj:=G.le.trans aj ag;refine aF rfl<|jd 2 [.o 0] hs rfl<|jN rfl (vg _ s.cZ 0 59 _ (N_.mono aj)) hs fun g1 hs ag=>?_;replace aj:=G.le.trans aj ag;refine aF rfl<|jd 4 [.o 0] hs rfl ?_;rw[hn];refine jN rfl (vg _ s.next 0 (n-1) _ (Lp.mono aj)) hs fun g1 hs ag=>aF rfl<|jd 4 [.o 0] hs rfl<|cI (want:=true) (x:=s.dv==0) 3 bJ rfl rfl rfl rfl (.inl ⟨rfl,rfl,rfl⟩) rfl rfl rfl rfl (fun hb Q' fp=>?_) (fun g' hf=>?_)
 ·exact Wm 3 [.o 0] hs rfl<|an<|fun a ha=>fp _ a (bW.refl _) (ha.kp rfl)
 replace hs:=hs.call hf;have ag:=hf.le;refine Wp 1 rfl<|cI (want:=false) (x:=within s.back 0 (n-1)&&within s.dv 1 9) 10 bJ rfl rfl rfl rfl (.inr ⟨rfl,rfl,rfl⟩) rfl rfl rfl rfl (fun hb Q' fp=>?_) (fun g' hf=>?_)
 ·refine Wm 4 [.o 0] hs rfl ?_;rw[hn];refine d_ rfl (ir _ _ _ _) ?_;rintro g1 _ aH rfl;replace hs:=hs.call aH;have ag:=aH.le;refine Wp 1 rfl<|cI (want:=true) (x:=within s.dv 1 9) 3 bJ rfl rfl rfl rfl (.inl ⟨rfl,rfl,rfl⟩) rfl rfl rfl rfl (fun hb Q' fp=>?_) (fun g' hf=>?_)
  ·refine Wm 2 [.o 0] hs rfl<|d_ rfl (ir _ _ _ _) ?_;rintro g1 _ aH rfl;replace hs:=hs.call aH;have ag:=aH.le;exact an<|fun a ha=>fp _ a aH (ha.kp rfl)
  exact an fun a ha=>fp _ a (aH.trans hf) (ha.kp rfl)
 replace hs:=hs.call hf;have ag:=hf.le;refine aF rfl<|ck 2 rfl<|cI (want:=true) (x:=ascending s.next 0 (n-1)) 1 bJ rfl rfl rfl rfl (.inl ⟨rfl,rfl,rfl⟩) rfl rfl rfl rfl (fun hb Q' fp=>?_) (fun g' hf=>?_)
 ·exact Wp 1 rfl<|an<|fun a ha=>fp _ a (bW.refl _) (ha.kp rfl)
 replace hs:=hs.call hf;have ag:=hf.le;refine Wp 1 rfl<|cI (want:=true) (x:=(s.back== -1&&s.dv==0)||(within s.back 0 (n-1)&&within s.dv 1 9)) 1 bJ rfl rfl rfl rfl (.inl ⟨rfl,rfl,rfl⟩) rfl rfl rfl rfl (fun hb Q' fp=>?_) (fun g' hf=>?_)
 ·exact Wp 1 rfl<|an<|fun a ha=>fp _ a (bW.refl _) (ha.kp rfl)
 replace hs:=hs.call hf;have ag:=hf.le;refine Wp 1 rfl<|cI (want:=true) (x:=within s.du 1 1000000) 3 bJ rfl rfl rfl rfl (.inl ⟨rfl,rfl,rfl⟩) rfl rfl rfl rfl (fun hb Q' fp=>?_) (fun g' hf=>?_)
 ·refine Wm 2 [.o 0] hs rfl<|d_ rfl (ir _ _ _ _) ?_;rintro g1 _ aH rfl;replace hs:=hs.call aH;have ag:=aH.le;exact an<|fun a ha=>fp _ a aH (ha.kp rfl)
 replace hs:=hs.call hf;have ag:=hf.le;refine Wp 1 rfl<|cI (want:=true) (x:=within (↑s.cZ.length) 1 8) 4 bJ rfl rfl rfl rfl (.inl ⟨rfl,rfl,rfl⟩) rfl rfl rfl rfl (fun hb Q' fp=>?_) (fun g' hf=>?_)
 ·refine Wm 3 [.o 0] hs rfl<|d_ rfl (ir _ _ _ _) ?_;rintro g1 _ aH rfl;replace hs:=hs.call aH;have ag:=aH.le;exact an<|fun a ha=>fp _ a aH (ha.kp rfl)
 replace hs:=hs.call hf;have ag:=hf.le;refine Wp 1 rfl<|cI (want:=true) (x:=decide ((s.next.length:Int)≤4)) 4 bJ rfl rfl rfl rfl (.inl ⟨rfl,rfl,rfl⟩) rfl rfl rfl rfl (fun hb Q' fp=>?_) (fun g' hf=>?_)
 ·exact Wm 4 [.o 0] hs rfl<|an<|fun a ha=>fp _ a (bW.refl _) (ha.kp rfl)
 replace hs:=hs.call hf;have ag:=hf.le;refine Wp 1 rfl<|cI (want:=true) (x:=decide (1≤s.min)) 3 bJ rfl rfl rfl rfl (.inl ⟨rfl,rfl,rfl⟩) rfl rfl rfl rfl (fun hb Q' fp=>?_) (fun g' hf=>?_)
 ·exact Wm 3 [.o 0] hs rfl<|an<|fun a ha=>fp _ a (bW.refl _) (ha.kp rfl)
 replace hs:=hs.call hf;have ag:=hf.le;refine Wp 1 rfl<|cI (want:=true) (x:=decide (s.min≤s.max)) 5 bJ rfl rfl rfl rfl (.inl ⟨rfl,rfl,rfl⟩) rfl rfl rfl rfl (fun hb Q' fp=>?_) (fun g' hf=>?_)
 ·exact Wm 5 [.o 0,.o 0] hs rfl<|an<|fun a ha=>fp _ a (bW.refl _) (ha.kp rfl)
 replace hs:=hs.call hf;have ag:=hf.le;refine Wp 1 rfl<|cI (want:=true) (x:=decide (s.max≤10000)) 3 bJ rfl rfl rfl rfl (.inl ⟨rfl,rfl,rfl⟩) rfl rfl rfl rfl (fun hb Q' fp=>?_) (fun g' hf=>?_)
 ·exact Wm 3 [.o 0] hs rfl<|an<|fun a ha=>fp _ a (bW.refl _) (ha.kp rfl)
 replace hs:=hs.call hf;have ag:=hf.le;refine aF rfl<|au<|cg rfl hs ?_;unfold bO;refine congrArg Value.bool ?_;simp only[cond_true]
 ac_rfl
theorem o_(w:cz)(n:Int)(g:G)(h1:0≤n)(h2:n≤9223372036854775807):
  cN prog 112 #[.agg #[vI w.src,vI w.dst,vI w.dv],vI n] g fun _ r=>r= .bool (de w n):=by
 have hs:=St.start g;have hn:IntKind.i64.wrap (n-1)=n-1:=wq;refine enter func112 rfl ntmps112 rfl<|cO<|nX hs rfl fun b1 g1 hs ag=>aF rfl<|jd 4 [.o 0] hs rfl ?_;rw[hn];refine jN rfl (ir _ _ _ _) hs fun g1 hs ag=>Wp 1 rfl<|cI (want:=true) (x:=within w.dst 0 (n-1)) 5 bJ rfl rfl rfl rfl (.inl ⟨rfl,rfl,rfl⟩) rfl rfl rfl rfl (fun hb Q' fp=>?_) (fun g' hf=>?_)
 ·refine Wm 4 [.o 0] hs rfl ?_;rw[hn];refine d_ rfl (ir _ _ _ _) ?_;rintro g1 _ aH rfl;replace hs:=hs.call aH;have ag:=aH.le;exact an<|fun a ha=>fp _ a aH (ha.kp rfl)
 replace hs:=hs.call hf;refine Wp 1 rfl<|cI (want:=true) (x:=w.src !=w.dst) 5 bJ rfl rfl rfl rfl (.inl ⟨rfl,rfl,rfl⟩) rfl rfl rfl rfl (fun hb Q' fp=>?_) (fun g' hf=>?_)
 ·exact Wm 5 [.o 0,.o 0] hs rfl<|an<|fun a ha=>fp _ a (bW.refl _) (ha.kp rfl)
 replace hs:=hs.call hf;refine Wp 1 rfl<|cI (want:=true) (x:=within w.dv 0 1000000) 3 bJ rfl rfl rfl rfl (.inl ⟨rfl,rfl,rfl⟩) rfl rfl rfl rfl (fun hb Q' fp=>?_) (fun g' hf=>?_)
 ·refine Wm 2 [.o 0] hs rfl<|d_ rfl (ir _ _ _ _) ?_;rintro g1 _ aH rfl;replace hs:=hs.call aH;have ag:=aH.le;exact an<|fun a ha=>fp _ a aH (ha.kp rfl)
 replace hs:=hs.call hf;exact aF rfl<|au (cg rfl hs rfl)
theorem zO{n:Int}: ∀(a pre b:List cz),fj n pre (a++b)=(fj n pre a&&fj n (pre++a) b)
 |[],pre,b=>by simp[fj]
 |w::a,pre,b=>by rw[aa0,fj,fj,zO a,aaG];simp only[Bool.and_assoc,acr]
theorem IT{ws:List cz}{k:Nat}(hk:k<ws.length)(h0:0<k):(ws.take k).getLast? =some (ws[k-1]'(by omega)):=by rw[ac6,aat,abD (by omega),abt (by omega),aas (by omega)]
theorem Es{n:Int}{ws:List cz}{k:Nat}(hk:k<ws.length)(h:fj n [] (ws.take k)=true):
  fj n [] (ws.take (k+1))=(de ws[k] n&&(decide (k=0)||(k≠0&&ng (ws[k-1]'(by omega)) ws[k]))):=by
 rw[aaX hk,w7,h,abf,aa1];congr 1;by_cases h0:k=0
 ·subst h0;rfl
 unfold follows;rw[IT hk (by omega)];simp[h0]
theorem Gl{n:Int}{ws:List cz}{k:Nat}(h:fj n [] (ws.take k)=false):fj n [] ws=false:=by
 conv=>lhs;rw[←aaY k ws]
 rw[zO,h,aa6]
theorem Ou{ss:List Step}{n:Int}{k:Nat}(hk:k<ss.length)(h:bO ss[k] n=false):(ss.all fun s=>bO s n)=false:=by rw[List.all_eq_false];exact⟨ss[k],aaQ hk,by rw[h];decide⟩
def Et(w:cz):Fact:=⟨fun v g=> ∃b p,v= .pointer (some ⟨b,p,none⟩)∧EP g b p (lP w),fun _ _ _ hf ⟨b,p,e,h⟩=>⟨b,p,e,h.mono hf.le⟩⟩
theorem yy(v:Value)(f:aU)(g:G)(dx:eQ g v f):cN prog 48 #[v] g fun _ r=>r= .bool (valid f):=by
 obtain⟨a1,n1,c1,a2,n2,c2,rfl,aA,aE⟩:=id dx;obtain⟨_,_,e⟩:=aA.isSlice;obtain⟨rfl,rfl,rfl⟩:=aaO e;clear e;obtain⟨_,_,e⟩:=aE.isSlice;obtain⟨rfl,rfl,rfl⟩:=aaO e;clear e;clear dx;have tp:=aA.ef;have TY:=aE.ef;unfold maxLen at tp TY;have hs:=St.start g;have aj:=G.le.refl g;refine enter func48 rfl ntmps48 rfl<|cO<|nX hs rfl fun bx g1 hs ag=>?_;obtain⟨aj,aA,aE⟩:=eS ag aj aA aE;obtain⟨g2,fm,dm,ag,aK⟩:=hs.fM (i:=0) rfl;replace hs:=dm;clear dm;rw[←fm];obtain⟨aj,aA,aE⟩:=eS ag aj aA aE;have aq:=aK;clear aK fm ag;refine aF rfl<|pW [.z aq] rfl<|ak<|eO 4 [.z aq,.z aq] rfl<|jN rfl (Em f.bS f.cd _) hs fun g1 hs ag=>?_;obtain⟨aj,aq,aA,aE⟩:=dU ag aj aq aA aE;refine Wp 2 rfl ?_;have E7:dV ⟨f.bS,f.cd,[],[]⟩=dV f:=rfl;rw[E7];refine cI (want:=false) (x:=!within f.steps.length 1 40) 3 bJ rfl rfl rfl rfl (.inr ⟨rfl,rfl,rfl⟩) rfl rfl rfl rfl (fun hb Q' fp=>?_) (fun g' hf=>?_)
 ·refine Wp 1 rfl<|d_ rfl (ir _ _ _ _) ?_;rintro g1 _ aH rfl;replace hs:=hs.call aH;have ag:=aH.le;obtain⟨aj,aq,aA,aE⟩:=dU ag aj aq aA aE;exact Wp 1 rfl<|an<|fun a ha=>fp _ a aH (ha.kp rfl)
 replace hs:=hs.call hf;have ag:=hf.le;obtain⟨aj,aq,aA,aE⟩:=dU ag aj aq aA aE;refine Wp 1 rfl<|cI (want:=false) (x:=decide (20<(f.windows.length:Int))) 4 bJ rfl rfl rfl rfl (.inr ⟨rfl,rfl,rfl⟩) rfl rfl rfl rfl (fun hb Q' fp=>?_) (fun g' hf=>?_)
 ·exact dE 4 [.z aq] rfl<|an<|fun a ha=>fp _ a (bW.refl _) (ha.kp rfl)
 replace hs:=hs.call hf;have ag:=hf.le;obtain⟨aj,aq,aA,aE⟩:=dU ag aj aq aA aE;apply bE;have hvalid:valid f=(dV f&&within f.steps.length 1 40&&decide ((f.windows.length:Int)≤20)&&f.steps.all (fun s=>bO s f.steps.length)&&fj f.steps.length [] f.windows):=rfl;by_cases hc:(!dV f|| !within f.steps.length 1 40||decide (20<(f.windows.length:Int)))=true
 ·refine aG hc rfl<|aD rfl<|au<|cg rfl hs ?_;rw[hvalid];simp only[abz,ab8,decide_eq_true_eq]at hc;rcases hc with(h|h)|h
  ·rw[h];simp
  ·rw[h];simp
  have e:decide ((f.windows.length:Int)≤20)=false:=by simp;omega
  rw[e];simp
 refine bg (abS.2 hc) rfl ?_;simp only[Bool.not_eq_true,acF,adm,decide_eq_false_iff_not]at hc;obtain⟨⟨hm,hw⟩,VH⟩:=hc;have e20:decide ((f.windows.length:Int)≤20)=true:=by simp;omega
 rw[hm,hw,e20,abf,abf,abf]at hvalid;refine ar<|ai<|ak<|aD rfl<|aw ?_;have ot:=aA;have CP:=aE;have nt:=aq;have Qf:=aj
 refine aZ (fun m a' w=> ∃(k:Nat) (g4:G),w=g4.w∧St g g4 []∧G.le g' g4∧k≤f.steps.length∧m=f.steps.length-k∧(∀j (h:j<f.steps.length),j<k→bO f.steps[j] f.steps.length=true)∧
  Fr 73 [] [(1,vP bx),(3,vI f.steps.length),(4,vI k)] a') f.steps.length (fun a' ha=>⟨0,g',rfl,hs,G.le.refl _,aar _,rfl,fun _ _ h=>by omega,ha.kp rfl⟩) ?_
 clear hs aj aA aE aq;rintro m a' _ ⟨k,g4,rfl,hs,fE,hk,rfl,dt,dT⟩;have aA:=ot.mono fE;have aE:=CP.mono fE;have aq:=nt.mono fE;revert a';refine bT<|ak<|aD rfl ?_;by_cases aV:k<f.steps.length
 ·refine aG (b:=_) ?_ rfl ?_
  ·simp;omega
  have eI:dq f.steps (k:Int)=some f.steps[k]:=by simp[dq,aV]
  have oq:=Ou (ss:=f.steps) (n:=f.steps.length) aV;have lH:bO f.steps[k] f.steps.length=true→ ∀j (h:j<f.steps.length),j<k+1→bO f.steps[j] f.steps.length=true:=by
   intro h1 j h h2;by_cases hj:j=k
   ·subst hj;exact h1
   exact dt j h (by omega)
  generalize f.steps[k]=s at*;refine ar<|ai<|ak<|aw<|eO 3 [.z aq] rfl<|fP (y:=s) aA eI rfl ?_;rintro bq pq ys aK ⟨ta,tn,tc,na,nn,nc,rfl,bB,aT⟩;refine dE 1 [.e aK 0] rfl<|Wp 1 rfl<|jN rfl (Hs _ s f.steps.length _ ⟨_,rfl,_,_,_,_,_,_,rfl,bB,aT⟩ (by omega) (by omega)) hs fun g1 hs ag=>?_;obtain⟨fE,aq,aE⟩:=eS ag fE aq aE;refine aF rfl ?_;cases e1:bO s f.steps.length with
  |false=>
   refine bZ rfl<|aD rfl<|au<|cg rfl hs ?_;rw[hvalid,oq e1,aa6]
  |true=>
   exact bI rfl<|ar<|aX<|ai<|ah<|Wp 3 rfl<|an<|fun a ha=>⟨f.steps.length-(k+1),by omega,k+1,_,rfl,hs,fE,by omega,rfl,lH e1,ha.keep ⟨rfl,rfl,kW rfl,trivial⟩⟩
 refine bg (b:=_) ?_ rfl ?_
 ·simp;omega
 have dW:(f.steps.all fun s=>bO s f.steps.length)=true:=by rw[aa2];intro s hs;obtain⟨j,hj,rfl⟩:=List.getElem_of_mem hs;exact dt j hj (by omega)
 rw[dW,abf]at hvalid;clear dt dW;refine aJ<|aM<|aM<|b_<|ai<|ak<|aD rfl<|aw ?_;have Rg:=aE;have py:=aq;have sT:=hs
 refine aZ (fun m a' w=> ∃(k:Nat) (g5:G),w=g5.w∧St g g5 []∧G.le g4 g5∧k≤f.windows.length∧m=f.windows.length-k∧fj f.steps.length [] (f.windows.take k)=true∧
  Fr 73 [] [(1,vP bx),(3,vI f.steps.length),(5,vI k)] a') f.windows.length (fun a' ha=>⟨0,g4,rfl,hs,G.le.refl _,aar _,rfl,rfl,ha.kp rfl⟩) ?_
 clear hs sT aA aE aq fE aV hk;rintro m a' _ ⟨k,g5,rfl,hs,fE,hk,rfl,dt,dT⟩;have aE:=Rg.mono fE;have aq:=py.mono fE;revert a';refine bT<|ak<|pW [.z aq] rfl ?_;by_cases aV:k<f.windows.length
 ·refine aG (b:=_) ?_ rfl ?_
  ·simp;omega
  have eI:dq f.windows (k:Int)=some f.windows[k]:=by simp[dq,aV]
  have L3:=Es (n:=f.steps.length) aV dt;have Pa:=fun h=>Gl (n:=f.steps.length) (ws:=f.windows) (k:=k+1) h;have MN:0<k→dq f.windows ((k-1:Nat):Int)=some (f.windows[k-1]'(by omega)):=fun h=>bM rfl (by omega);generalize f.windows[k-1]'(by omega)=wp at*;generalize f.windows[k]=w0 at*;cases e1:de w0 f.steps.length with
  |false=>
   rw[e1,aa6]at L3;have Xt:valid f=false:=by rw[hvalid,Pa L3]
   refine ar<|ai<|ak<|aw<|ak ?_;apply aO hs (eA (fe (.f (Et (w0))::(cV (cV (gR (eA (fe [])))))))) 27 [(26,72)] (by kernel_rfl) rfl
   ·refine cY [[],[0],[]] [.e aq 3] (St.start _) rfl<|aW [(1,47),(2,48)] (fun gd hf=>?_) ?_
    ·have eR:=(G.a_ _).trans hf.le;refine fD rfl<|az<|ay rfl<|dJ T.ok rfl (aE.mono eR) (y:=w0) eI rfl rfl rfl rfl rfl rfl ?_;rintro b p ys aK rfl;exact⟨_,rfl,bW.refl _,b,p,rfl,aK⟩
    refine aW [(3,49)] (fun gd hf=>?_) ?_
    ·skip;refine aI fun v3 h3=>?_;apply az;obtain⟨b,p,rfl,aK⟩:=h3;refine ay rfl<|cu T.ok 0 rfl aK rfl rfl<|⟨_,rfl,bW.refl _,?_⟩;exact rfl
    refine jV [[]] rfl<|aW [(4,50),(5,51)] (fun gd hf=>?_) ?_
    ·skip;refine fD rfl<|az<|ay rfl<|bu (cB 112) bJ rfl rfl rfl rfl rfl (o_ w0 f.steps.length _ (by omega) (by omega)) fun g' v h1 h2=>⟨g',rfl,h1,?_⟩
     rw[h2];exact congrArg Value.bool e1
    exact qo [[6],[7],[8],[9,8],[10,8,8],[11],[12,11],[11],[14,11],[13,15,11],[16,11],[11],[18,11],[11],[19,20,11],[21,11],[17,22,11,11],[23,11],[11,24,8],[8,25]] rfl
   clear hs;intro g1 hs ag;obtain⟨fE,aq,aE⟩:=eS ag fE aq aE;refine bE<|bZ rfl<|aD rfl<|au<|cg rfl hs ?_;rw[Xt]
  |true=>
   rw[e1,abf]at L3;cases e2:decide (0<(k:Int))with
   |false=>
    have C9:k=0:=by simpa using e2
    have lH:fj f.steps.length [] (f.windows.take (k+1))=true:=by rw[L3];simp[C9]
    refine ar<|ai<|ak<|aw<|ak ?_;apply aO hs (eA (fe (.f (Et (w0))::(cV (cV (gR (eA (fe [])))))))) 27 [(26,72)] (by kernel_rfl) rfl
    ·refine cY [[],[0],[]] [.e aq 3] (St.start _) rfl<|aW [(1,47),(2,48)] (fun gd hf=>?_) ?_
     ·have eR:=(G.a_ _).trans hf.le;refine fD rfl<|az<|ay rfl<|dJ T.ok rfl (aE.mono eR) (y:=w0) eI rfl rfl rfl rfl rfl rfl ?_;rintro b p ys aK rfl;exact⟨_,rfl,bW.refl _,b,p,rfl,aK⟩
     refine aW [(3,49)] (fun gd hf=>?_) ?_
     ·skip;refine aI fun v3 h3=>?_;apply az;obtain⟨b,p,rfl,aK⟩:=h3;refine ay rfl<|cu T.ok 0 rfl aK rfl rfl<|⟨_,rfl,bW.refl _,?_⟩;exact rfl
     refine jV [[]] rfl<|aW [(4,50),(5,51)] (fun gd hf=>?_) ?_
     ·skip;refine fD rfl<|az<|ay rfl<|bu (cB 112) bJ rfl rfl rfl rfl rfl (o_ w0 f.steps.length _ (by omega) (by omega)) fun g' v h1 h2=>⟨g',rfl,h1,?_⟩
      rw[h2];exact congrArg Value.bool e1
     exact jV [[6],[7],[8]] rfl<|aW [(9,55),(8,54)] (fun gd hf=>bN rfl (bj rfl (congrArg Value.bool e2)))<|qo [[10,8,8],[11],[12,11],[11],[14,11],[13,15,11],[16,11],[11],[18,11],[11],[19,20,11],[21,11],[17,22,11,11],[23,11],[11,24,8],[8,25]] rfl
    clear hs;intro g1 hs ag;obtain⟨fE,aq,aE⟩:=eS ag fE aq aE;refine bE<|bI rfl<|ar<|aX<|ai<|ah<|Wp 3 rfl<|an<|fun a ha=>⟨f.windows.length-(k+1),by omega,k+1,_,rfl,hs,fE,by omega,rfl,lH,ha.keep ⟨rfl,rfl,kW rfl,trivial⟩⟩
   |true=>
    have C9:0<k:=by simpa using e2
    have MN:=MN C9;have TZ:fj f.steps.length [] (f.windows.take (k+1))=ng wp w0:=by rw[L3,decide_eq_false (show ¬k=0 by omega),decide_eq_true (show k≠0 by omega)];rfl
    cases e3:ng wp w0 with
    |false=>
     have Xt:valid f=false:=by rw[hvalid,Pa (TZ.trans e3)]
     refine ar<|ai<|ak<|aw<|ak ?_;apply aO hs (eA (fe (.f (Et (w0))::(cV (gR (.f (Et (wp))::(gR (.f (Et (w0))::(gR (fe [])))))))))) 27 [(26,72)] (by kernel_rfl) rfl
     ·refine cY [[],[0],[]] [.e aq 3] (St.start _) rfl<|aW [(1,47),(2,48)] (fun gd hf=>?_) ?_
      ·have eR:=(G.a_ _).trans hf.le;refine fD rfl<|az<|ay rfl<|dJ T.ok rfl (aE.mono eR) (y:=w0) eI rfl rfl rfl rfl rfl rfl ?_;rintro b p ys aK rfl;exact⟨_,rfl,bW.refl _,b,p,rfl,aK⟩
      refine aW [(3,49)] (fun gd hf=>?_) ?_
      ·skip;refine aI fun v3 h3=>?_;apply az;obtain⟨b,p,rfl,aK⟩:=h3;refine ay rfl<|cu T.ok 0 rfl aK rfl rfl<|⟨_,rfl,bW.refl _,?_⟩;exact rfl
      refine jV [[]] rfl<|aW [(4,50),(5,51)] (fun gd hf=>?_) ?_
      ·skip;refine fD rfl<|az<|ay rfl<|bu (cB 112) bJ rfl rfl rfl rfl rfl (o_ w0 f.steps.length _ (by omega) (by omega)) fun g' v h1 h2=>⟨g',rfl,h1,?_⟩
       rw[h2];exact congrArg Value.bool e1
      refine jV [[6],[7],[8]] rfl<|aW [(9,55),(8,54)] (fun gd hf=>bN rfl (bj rfl (congrArg Value.bool e2)))<|cY [[10,8,8],[11],[12,11],[11]] [.e aq 3] (St.start _) rfl<|aW [(14,60),(11,57)] (fun gd hf=>bN rfl (bj rfl (congrArg (Value.int .i64) (show _=((k-1:Nat):Int)from by rw[wq];omega))))<|aW [(13,59),(15,61),(11,57)] (fun gd hf=>?_) ?_
      ·have eR:=(G.a_ _).trans hf.le;refine lJ rfl<|az<|ay rfl<|dJ T.ok rfl (aE.mono eR) (y:=wp) MN rfl rfl rfl rfl rfl rfl ?_;rintro b p ys aK rfl;exact⟨_,rfl,bW.refl _,b,p,rfl,aK⟩
      refine aW [(16,62),(11,57)] (fun gd hf=>?_) ?_
      ·skip;refine aI fun Zf Pc=>?_;refine bU rfl ?_;apply az;obtain⟨b,p,rfl,aK⟩:=Pc;refine ay rfl<|cu T.ok 0 rfl aK rfl rfl<|⟨_,rfl,bW.refl _,?_⟩;exact rfl
      refine cY [[11],[18,11],[11]] [.e aq 3] (St.start _) rfl<|aW [(19,65),(20,66),(11,57)] (fun gd hf=>?_) ?_
      ·have eR:=(G.a_ _).trans hf.le;refine lJ rfl<|az<|ay rfl<|dJ T.ok rfl (aE.mono eR) (y:=w0) eI rfl rfl rfl rfl rfl rfl ?_;rintro b p ys aK rfl;exact⟨_,rfl,bW.refl _,b,p,rfl,aK⟩
      refine aW [(21,67),(11,57)] (fun gd hf=>?_) ?_
      ·skip;refine aI fun v21 Sm=>?_;refine bU rfl ?_;apply az;obtain⟨b,p,rfl,aK⟩:=Sm;refine ay rfl<|cu T.ok 0 rfl aK rfl rfl<|⟨_,rfl,bW.refl _,?_⟩;exact rfl
      refine aW [(17,63),(22,68),(11,57),(11,57)] (fun gd hf=>?_) ?_
      ·skip;refine lJ rfl<|bU rfl<|az<|ay rfl<|bu (cB 47) bJ rfl rfl rfl rfl rfl (rp wp w0 _) fun g' v h1 h2=>⟨g',rfl,h1,?_⟩
       rw[h2];exact congrArg Value.bool e3
      exact qo [[23,11],[11,24,8],[8,25]] rfl
     clear hs;intro g1 hs ag;obtain⟨fE,aq,aE⟩:=eS ag fE aq aE;refine bE<|bZ rfl<|aD rfl<|au<|cg rfl hs ?_;rw[Xt]
    |true=>
     have lH:=TZ.trans e3;refine ar<|ai<|ak<|aw<|ak ?_;apply aO hs (eA (fe (.f (Et (w0))::(cV (gR (.f (Et (wp))::(gR (.f (Et (w0))::(gR (fe [])))))))))) 27 [(26,72)] (by kernel_rfl) rfl
     ·refine cY [[],[0],[]] [.e aq 3] (St.start _) rfl<|aW [(1,47),(2,48)] (fun gd hf=>?_) ?_
      ·have eR:=(G.a_ _).trans hf.le;refine fD rfl<|az<|ay rfl<|dJ T.ok rfl (aE.mono eR) (y:=w0) eI rfl rfl rfl rfl rfl rfl ?_;rintro b p ys aK rfl;exact⟨_,rfl,bW.refl _,b,p,rfl,aK⟩
      refine aW [(3,49)] (fun gd hf=>?_) ?_
      ·skip;refine aI fun v3 h3=>?_;apply az;obtain⟨b,p,rfl,aK⟩:=h3;refine ay rfl<|cu T.ok 0 rfl aK rfl rfl<|⟨_,rfl,bW.refl _,?_⟩;exact rfl
      refine jV [[]] rfl<|aW [(4,50),(5,51)] (fun gd hf=>?_) ?_
      ·skip;refine fD rfl<|az<|ay rfl<|bu (cB 112) bJ rfl rfl rfl rfl rfl (o_ w0 f.steps.length _ (by omega) (by omega)) fun g' v h1 h2=>⟨g',rfl,h1,?_⟩
       rw[h2];exact congrArg Value.bool e1
      refine jV [[6],[7],[8]] rfl<|aW [(9,55),(8,54)] (fun gd hf=>bN rfl (bj rfl (congrArg Value.bool e2)))<|cY [[10,8,8],[11],[12,11],[11]] [.e aq 3] (St.start _) rfl<|aW [(14,60),(11,57)] (fun gd hf=>bN rfl (bj rfl (congrArg (Value.int .i64) (show _=((k-1:Nat):Int)from by rw[wq];omega))))<|aW [(13,59),(15,61),(11,57)] (fun gd hf=>?_) ?_
      ·have eR:=(G.a_ _).trans hf.le;refine lJ rfl<|az<|ay rfl<|dJ T.ok rfl (aE.mono eR) (y:=wp) MN rfl rfl rfl rfl rfl rfl ?_;rintro b p ys aK rfl;exact⟨_,rfl,bW.refl _,b,p,rfl,aK⟩
      refine aW [(16,62),(11,57)] (fun gd hf=>?_) ?_
      ·skip;refine aI fun Zf Pc=>?_;refine bU rfl ?_;apply az;obtain⟨b,p,rfl,aK⟩:=Pc;refine ay rfl<|cu T.ok 0 rfl aK rfl rfl<|⟨_,rfl,bW.refl _,?_⟩;exact rfl
      refine cY [[11],[18,11],[11]] [.e aq 3] (St.start _) rfl<|aW [(19,65),(20,66),(11,57)] (fun gd hf=>?_) ?_
      ·have eR:=(G.a_ _).trans hf.le;refine lJ rfl<|az<|ay rfl<|dJ T.ok rfl (aE.mono eR) (y:=w0) eI rfl rfl rfl rfl rfl rfl ?_;rintro b p ys aK rfl;exact⟨_,rfl,bW.refl _,b,p,rfl,aK⟩
      refine aW [(21,67),(11,57)] (fun gd hf=>?_) ?_
      ·skip;refine aI fun v21 Sm=>?_;refine bU rfl ?_;apply az;obtain⟨b,p,rfl,aK⟩:=Sm;refine ay rfl<|cu T.ok 0 rfl aK rfl rfl<|⟨_,rfl,bW.refl _,?_⟩;exact rfl
      refine aW [(17,63),(22,68),(11,57),(11,57)] (fun gd hf=>?_) ?_
      ·skip;refine lJ rfl<|bU rfl<|az<|ay rfl<|bu (cB 47) bJ rfl rfl rfl rfl rfl (rp wp w0 _) fun g' v h1 h2=>⟨g',rfl,h1,?_⟩
       rw[h2];exact congrArg Value.bool e3
      exact qo [[23,11],[11,24,8],[8,25]] rfl
     clear hs;intro g1 hs ag;replace fE:=G.le.trans fE ag;refine bE<|bI rfl<|ar<|aX<|ai<|ah<|Wp 3 rfl<|an<|fun a ha=>⟨f.windows.length-(k+1),by omega,k+1,_,rfl,hs,fE,by omega,rfl,lH,ha.keep ⟨rfl,rfl,kW rfl,trivial⟩⟩
 refine bg (b:=_) ?_ rfl ?_
 ·simp;omega
 obtain rfl:k=f.windows.length:=by omega
 rw[aa_]at dt;refine aJ<|aM<|aM<|b_<|ai<|aD rfl<|au<|cg rfl hs ?_;rw[hvalid,dt]
theorem rO(v u:Value)(l r:List Int)(g:G)(aA:Rs g v l)(aE:Rs g u r):cN prog 9 #[v,u] g fun _ x=>x= .bool (decide (l=r)):=by
  obtain⟨a,c,rfl⟩:=aA.isSlice;obtain⟨a2,c2,rfl⟩:=aE.isSlice;have hlen:=aA.ef;unfold maxLen at hlen;have hs:=St.start g;refine enter func9 rfl ntmps9 rfl<|aD rfl<|ak<|aD rfl ?_;by_cases xm:l.length=r.length
  ·refine bg (b:=(l.length:Int) !=(r.length:Int)) (by simp;omega) rfl<|ar<|ai<|ak<|aD rfl<|aw ?_;have ot:=aA;have CP:=aE;have iN:=G.le.refl g
   refine aZ (fun m a' w=> ∃(k:Nat) (g2:G),w=g2.w∧St g g2 []∧G.le g g2∧k≤l.length∧m=l.length-k∧l.take k=r.take k∧
     Fr 26 [] [(0,.slice a l.length c),(1,.slice a2 r.length c2),(5,vI k)] a') l.length
    (fun a' ha=>⟨0,g,rfl,hs,iN,aar _,rfl,by simp,ha.kp rfl⟩) ?_
   clear hs iN aA aE;rintro m a' _ ⟨k,g2,rfl,hs,iN,hk,rfl,dt,dT⟩;have aA:=ot.mono iN;have aE:=CP.mono iN;revert a';refine bT<|ak<|aD rfl ?_;by_cases aV:k<l.length
   ·refine aG (b:=decide ((k:Int)<(l.length:Int))) (by simp;omega) rfl ?_;have R7:k<r.length:=by omega
    refine ar<|ai<|ak<|aw<|ak ?_;apply aO hs (eA (.f (mr l[k])::(eA (fe (.f (mr r[k])::(eA [])))))) 9 [(8,25)] (by kernel_rfl) rfl
    ·refine jV [[],[]] rfl<|aW [(0,17),(1,18)] (fun gd hf=>?_) ?_
     ·have eR:=(G.a_ _).trans hf.le;exact fD rfl<|az<|ay rfl<|dJ T.ok rfl (aA.mono eR) (y:=l[k]) (bM rfl aV) rfl rfl rfl rfl rfl rfl fun b p ys aK fw=>⟨_,rfl,bW.refl _,b,p,rfl,by rw[←show ys=[Value.int .i64 l[k]]from fw];exact aK⟩
     refine aW [(2,19)] (fun gd hf=>?_) ?_
     ·skip;refine aI fun v2 h2=>?_;apply az;obtain⟨b,p,rfl,aK⟩:=h2;refine ay rfl<|cu T.ok 0 rfl aK rfl rfl<|⟨_,rfl,bW.refl _,?_⟩;exact rfl
     refine jV [[],[]] rfl<|aW [(4,21),(5,22)] (fun gd hf=>?_) ?_
     ·have eR:=(G.a_ _).trans hf.le;exact fD rfl<|az<|ay rfl<|dJ T.ok rfl (aE.mono eR) (y:=r[k]) (bM rfl R7) rfl rfl rfl rfl rfl rfl fun b p ys aK fw=>⟨_,rfl,bW.refl _,b,p,rfl,by rw[←show ys=[Value.int .i64 r[k]]from fw];exact aK⟩
     refine aW [(6,23)] (fun gd hf=>?_) ?_
     ·skip;refine aI fun v6 h6=>?_;apply az;obtain⟨b,p,rfl,aK⟩:=h6;refine ay rfl<|cu T.ok 0 rfl aK rfl rfl<|⟨_,rfl,bW.refl _,?_⟩;exact rfl
     exact qo [[3,7]] rfl
    clear hs;intro g1 hs ag;replace iN:=iN.trans ag;apply bE;by_cases he:l[k]=r[k]
    ·refine bg (b:=l[k] !=r[k]) (by simp[he]) rfl<|ar<|aX<|ai<|ah<|Wp 3 rfl<|an<|fun a ha=>⟨l.length-(k+1),by omega,k+1,_,rfl,hs,iN,by omega,rfl,?_,ha.keep ⟨rfl,rfl,kW rfl,trivial⟩⟩
     rw[aaX aV,aaX R7,dt,he]
    refine aG (b:=l[k] !=r[k]) (by simp[he]) rfl<|aD rfl<|au<|cg rfl hs ?_;rw[decide_eq_false (fun e=>he (by subst e;rfl))]
   refine bg (b:=decide ((k:Int)<(l.length:Int))) (by simp;omega) rfl ?_;rw[aaD (by omega),aaD (by omega)]at dt;refine aJ<|aM<|aM<|b_<|ai<|aD rfl<|au<|cg rfl hs ?_;rw[decide_eq_true dt]
  refine aG (b:=(l.length:Int) !=(r.length:Int)) (by simp;omega) rfl<|aD rfl<|au<|cg rfl hs ?_;rw[decide_eq_false (fun e=>xm (by rw[e]))]
end Go.Proofs.YtkpojaffabjibaaGreatDoor
