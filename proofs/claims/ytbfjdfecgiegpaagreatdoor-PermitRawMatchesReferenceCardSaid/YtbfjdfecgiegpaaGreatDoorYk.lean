/- Parts of the proof, from: The walks through package permit: a step of what is known, its reworks, what comes next. -/
import Derived.Test.YtbfjdfecgiegpaaGreatDoorYa
import Derived.Test.YtbfjdfecgiegpaaGreatDoorYc
import Derived.Test.YtbfjdfecgiegpaaGreatDoorYj
import Derived.Test.YtbfjdfecgiegpaaGreatDoorYb
import Derived.Test.YtbfjdfecgiegpaaGreatDoorYh
namespace Go.Proofs.YtbfjdfecgiegpaaGreatDoor
open Go Go.K Tryz
set_option maxRecDepth 10000
attribute [local irreducible] W WL cS bh bY bB bA bC cL cD
set_option maxHeartbeats 1000000
def kR:Step:=⟨0,[],0,0,[],0,0⟩
def gP(o:Option bG)(n:Int):Option Step:=o.bind fun f=>dJ f.steps n
theorem ID(v:Value)(o:Option bG)(h:List bO)(n:Int)(g:G)(kn:Kl g v o h):cN prog 86 #[v,vI n] g fun g' r=> ∃cs,r= .tuple #[.agg cs.toArray,.bool (gP o n).isSome]∧sW g' cs ((gP o n).getD kR):=by
 have hs:=St.start g;have ar:=G.le.refl g;obtain⟨_,rfl,a1,n1,c1,a2,n2,c2,a3,c3,rfl,aW,cd,bR⟩:=kn;refine enter func86 rfl ntmps86 rfl<|cR<|An hs rfl fun b2 g2 hs ai aD=>?_;replace aW:=aW.mono ai;refine w4 hs rfl fun b4 g1 hs ai=>?_;obtain⟨aD,aW⟩:=cr ai aD aW;refine aX rfl<|az<|sP 4 [.z aD] rfl ?_
 cases o with
 |none=>
  refine aX rfl<|aas rfl<|cR<|BO [] [vI 0,.slice none 0 0,vI 0,vI 0,.slice none 0 0,vI 0,vI 0] [(0,1),(1,1),(2,1),(3,1),(4,1),(5,1),(6,1)] rfl<|sN 0 hs rfl fun g1 hs ai=>?_;obtain⟨aD,aW⟩:=cr ai aD aW;refine aX rfl ?_;rw[show gP none n=none from rfl];exact aG (mr T.ok 0 rfl hs rfl rfl rfl rfl (hs.ret ⟨_,rfl,none,0,0,none,0,0,rfl,Rs.nil _,Rs.nil _⟩))
 |some f=>
  obtain⟨_,_,e⟩:=aW.isSlice;obtain⟨rfl,rfl,rfl⟩:=Value.slice.inj e;clear e;refine Wp 4 rfl ?_;cases h1:decide (n<0)with
  |true=>
   have e:gP (some f) n=none:=if_pos (of_decide_eq_true h1);refine aX rfl<|aas rfl<|cR<|BO [] [vI 0,.slice none 0 0,vI 0,vI 0,.slice none 0 0,vI 0,vI 0] [(0,1),(1,1),(2,1),(3,1),(4,1),(5,1),(6,1)] rfl<|sN 0 hs rfl fun g1 hs ai=>?_;obtain⟨aD,aW⟩:=cr ai aD aW;refine aX rfl ?_;rw[e];exact aG (mr T.ok 0 rfl hs rfl rfl rfl rfl (hs.ret ⟨_,rfl,none,0,0,none,0,0,rfl,Rs.nil _,Rs.nil _⟩))
  |false=>
   have h1:=of_decide_eq_false h1;refine KY [.z aD] rfl ?_;by_cases h2:(f.steps.length:Int)≤n
   ·have e:gP (some f) n=none:=(if_neg h1).trans (List.getElem?_eq_none (by omega));refine aJ (b:=decide ((f.steps.length:Int)≤n)) (decide_eq_true h2) rfl<|cR<|BO [] [vI 0,.slice none 0 0,vI 0,vI 0,.slice none 0 0,vI 0,vI 0] [(0,1),(1,1),(2,1),(3,1),(4,1),(5,1),(6,1)] rfl<|sN 0 hs rfl fun g1 hs ai=>?_;obtain⟨aD,aW⟩:=cr ai aD aW;refine aX rfl ?_;rw[e];exact aG (mr T.ok 0 rfl hs rfl rfl rfl rfl (hs.ret ⟨_,rfl,none,0,0,none,0,0,rfl,Rs.nil _,Rs.nil _⟩))
   have bt:n.toNat<f.steps.length:=by omega
   have e:gP (some f) n=some f.steps[n.toNat]:=(if_neg h1).trans (List.getElem?_eq_getElem bt);refine aQ (b:=decide ((f.steps.length:Int)≤n)) (decide_eq_false h2) rfl ?_;rw[e];refine aF<|aq<|sP 4 [.z aD] rfl<|zc (y:=f.steps[n.toNat]) aW e rfl fun b6 q6 ys aL gw=>?_;obtain⟨a7,n7,c7,a8,n8,c8,rfl,h7,h8⟩:=gw;have aM:=aL;clear aL;refine q5 1 [.e aM 0] rfl<|sN 0 hs rfl fun g1 hs ai=>?_;replace h7:=h7.mono ai;replace h8:=h8.mono ai;exact aX rfl<|aG (mr T.ok 0 rfl hs rfl rfl rfl rfl (hs.ret ⟨_,rfl,a7,n7,c7,a8,n8,c8,rfl,h7,h8⟩))
theorem IE(v:Value)(l:List Int)(n:Int)(g:G)(aH:Rs g v l):cN prog 185 #[v,vI n] g fun _ r=> ∃z:Int,r=vI z∧(decide (0≤z))=l.contains n:=by
 have hs:=St.start g;obtain⟨a,c,rfl⟩:=aH.isSlice;have hlen:=aH.ef;unfold maxLen at hlen;refine enter func185 rfl ntmps185 rfl<|aZ rfl<|az<|aZ rfl<|aI ?_
 refine bK (fun m a' w=> ∃(i:Nat),w=g.w∧i≤l.length∧(l.take i).contains n=false∧m=l.length-i∧
   Fr 19 [] [(0,.slice a l.length c),(1,vI n),(7,vI (l.length:Nat)),(8,vI (i:Nat))] a') l.length
  (fun a' ha=>⟨0,rfl,Nat.zero_le _,by simp,rfl,ha.kp rfl⟩) ?_
 rintro m a' _ ⟨i,rfl,hi,de,rfl,dW⟩;revert a';refine ct<|aZ rfl<|az ?_;by_cases bt:i<l.length
 ·refine aJ (b:=decide ((i:Int)<(l.length:Int))) (decide_eq_true (by omega)) rfl ?_;have eH:dJ l (i:Int)=some l[i]:=bZ rfl bt;have dP:l.take (i+1)=l.take i++[l[i]]:=by rw[List.take_add_one,List.getElem?_eq_getElem bt];rfl
  have kP:l[i]∈l:=List.getElem_mem bt;generalize l[i]=x at*;refine aF<|aq<|az<|aI<|aZ rfl<|cG 3 rfl<|zc (y:=x) aH eH rfl fun b p ys aL gw=>?_;obtain rfl:ys=[vI x]:=gw;have aD:=aL;refine KY [.e aD 0] rfl ?_;by_cases hx:n=x
  ·subst hx;exact aJ (b:=n==n) (by simp) rfl<|aZ rfl<|aG (nw rfl hs ⟨_,rfl,by simp[kP]⟩)
  exact aQ (b:=n==x) (by simp[hx]) rfl<|aF<|bJ<|aq<|an<|Wp 2 rfl<|aA<|fun a ha=>⟨l.length-(i+1),by omega,i+1,rfl,by omega,by rw[dP];simp at de⊢;exact⟨de,hx⟩,rfl,ha.keep ⟨rfl,rfl,rfl,kW rfl,trivial⟩⟩
 refine aQ (b:=decide ((i:Int)<(l.length:Int))) (decide_eq_false (by omega)) rfl ?_;rw[List.take_of_length_le (by omega)]at de;exact bc<|bg<|bg<|cA<|aq<|aZ rfl<|aG (nw rfl hs ⟨-1,rfl,de.symm⟩)
theorem pT(v:Value)(l:List Int)(n:Int)(g:G)(aH:Rs g v l):cN prog 133 #[v,vI n] g fun _ r=>r= .bool (l.contains n):=by have hs:=St.start g;refine enter func133 rfl ntmps133 rfl<|aZ rfl<|cG 2 rfl<|sO rfl (IE _ l n _ aH) ?_;rintro g1 _ aP ⟨z,rfl,hz⟩;replace hs:=hs.call aP;have ai:=aP.le;exact aX rfl<|aG (nw rfl hs (congrArg Value.bool hz))
def Km(h:List bO)(n back:Int)(i:Nat):Bool:=(h.getD i fS).step==n&&(h.getD (i+1) fS).step==back
def vy(o:Option bG)(h:List bO)(n:Int):Int:=
 if((gP o n).getD kR).next.contains ((gP o n).getD kR).back then 0 else(((List.range (h.length-1)).filter (Km h n ((gP o n).getD kR).back)).length:Nat)
theorem Th(v:Value)(o:Option bG)(h:List bO)(n:Int)(g:G)(kn:Kl g v o h)(hl:h.length≤1000000):cN prog 88 #[v,vI n] g fun _ r=>r=vI (vy o h n):=by
 have hs:=St.start g;have ar:=G.le.refl g;obtain⟨_,rfl,a1,n1,c1,a2,n2,c2,a3,c3,rfl,aW,cd,bR⟩:=kn;refine enter func88 rfl ntmps88 rfl<|cR<|An hs rfl fun b2 g2 hs ai aD=>?_;obtain⟨ar,aW,cd,bR⟩:=dK ai ar aW cd bR;refine aX rfl<|aZ rfl<|sP 2 [.z aD] rfl<|sO rfl (ID _ o h n _ ⟨_,rfl,a1,n1,c1,a2,n2,c2,a3,c3,rfl,aW,cd,bR⟩) ?_;rintro g6 _ nY ⟨cs,rfl,dI⟩;replace hs:=hs.call nY;have ai:=nY.le;obtain⟨ar,aD,bR⟩:=dR ai ar aD bR;unfold vy;generalize(gP o n).getD kR=s at*;obtain⟨a7,n7,c7,a8,n8,c8,rfl,fh,gn⟩:=dI;clear aW cd nY;refine Wp 3 rfl<|w4 hs rfl fun b6 g1 hs ai=>?_;obtain⟨ar,aD,bR,gn⟩:=dK ai ar aD bR gn;refine Hs 0 hs rfl fun g2 hs ai aM=>?_;obtain⟨ar,aD,bR,gn⟩:=dK ai ar aD bR gn;refine aX rfl<|az<|sP 4 [.z aM,.z aM] rfl<|sO rfl (pT _ s.next s.back _ gn) ?_;rintro g1 _ aP rfl;replace hs:=hs.call aP;have ai:=aP.le;obtain⟨ar,aD,aM,bR⟩:=dK ai ar aD aM bR;clear aP fh gn;apply b_;cases s.next.contains s.back with
 |true=>
  exact aas rfl<|aZ rfl<|aG (nw rfl hs rfl)
 |false=>
  refine aar rfl<|aF<|aq<|az<|aZ rfl<|aI ?_
  refine bK (fun m a' w=> ∃(k q:Nat) (g':G),w=g'.w∧St g g' []∧G.le g g'∧Rs g' (.slice a3 h.length c3) h∧EP g' b2 0 [vI (o.getD zo).dm,vI (o.getD zo).dv,.slice a1 n1 c1,.slice a2 n2 c2,.bool o.isSome,.slice a3 h.length c3]∧EP g' b6 0 [vI s.eQ,.slice a7 n7 c7,vI s.min,vI s.max,.slice a8 n8 c8,vI s.back,vI s.dN]∧(k+1≤h.length∨k=0)∧q=((List.range k).filter (Km h n s.back)).length∧m=h.length-k∧
    Fr 50 [] [(1,vI n),(2,vP b2),(5,vI (q:Nat)),(6,vP b6),(8,vI (k+1:Nat))] a') h.length
   (fun a' ha=>⟨0,0,_,rfl,hs,ar,bR,aD,aM,.inr rfl,rfl,rfl,ha.kp rfl⟩) ?_
  (repeat clear hs);(repeat clear bR);(repeat clear ar);(repeat clear aD);(repeat clear aM);rintro m a' _ ⟨k,q,g',rfl,hs,ar,bR,aD,aM,hk,hq,rfl,dW⟩;have Q3:q≤k:=by rw[hq];exact Nat.le_trans (List.length_filter_le ..) (by rw[List.length_range];omega)
  revert a';refine ct<|az<|Hw [.z aD] rfl ?_;by_cases bt:k+1<h.length
  ·refine aJ (b:=decide (((k+1:Nat):Int)<(h.length:Int))) (by simp;omega) rfl<|aF<|aq<|az<|aI<|az ?_;obtain⟨b0,p0,ys,rfl,Zg,hx⟩:=bR.at (i:=k) (List.getElem?_eq_getElem (by omega));obtain⟨WX,WY,Mx,e,Q4,hy⟩:=bR.at (i:=k+1) (List.getElem?_eq_getElem bt);obtain⟨rfl,rfl⟩:b0=WX∧p0=WY:=by simpa using e
   clear e;have j_:((List.range (k+1)).filter (Km h n s.back)).length=q+(if h[k].step==n&&h[k+1].step==s.back then 1 else 0):=by
    rw[List.range_succ,List.filter_append,List.length_append,←hq];congr 1;have e:Km h n s.back k=(h[k].step==n&&h[k+1].step==s.back):=by unfold Km;rw[List.getD_eq_getElem?_getD,List.getD_eq_getElem?_getD,List.getElem?_eq_getElem (by omega),List.getElem?_eq_getElem bt];rfl
    rw[List.filter_cons,e];split<;>rfl
   generalize h[k]=x at hx j_;generalize h[k+1]=y at hy j_;obtain rfl:ys=cB x:=hx;obtain rfl:Mx=cB y:=hy;clear hq;cases h1:x.step==n with
   |false=>
    rw[h1]at j_;apply bD hs (eF (fe (.e (vI (k:Nat))::gU (.e (.bool false)::dn (eF (fe [])))))) 20 [(19,46)] (by kernel_rfl) rfl
    ·exact pO [[],[0],[]] [.z aD] hs rfl<|fR [(2,29)] (fun gd hf=>aax rfl (aaL rfl (congrArg (Value.int .i64) (by rw[wq];omega))))<|fR [(1,28),(3,30)] (fun gd hf=>aaw rfl (ay rfl (fH T.ok rfl rfl rfl (by omega) (by omega) rfl rfl rfl (aav rfl))))<|pO [[4],[5],[]] [.e Zg 13] hs rfl<|fR [(6,33),(7,34)] (fun gd hf=>aaw rfl (aaL rfl (congrArg Value.bool h1)))<|EG [[8],[9],[10,9],[9],[11,12,9],[13,9],[14,9],[9],[16,9],[15,17,9],[9,18]] [] hs rfl
    clear hs;intro g6 hs ai;obtain⟨ar,aD,aM,bR⟩:=dK ai ar aD aM bR;exact b_<|aar rfl<|aF<|bJ<|aq<|an<|Wp 3 rfl<|aA<|fun a ha=>⟨h.length-(k+1),by omega,k+1,q,_,rfl,hs,ar,bR,aD,aM,.inl (by omega),j_.symm,rfl,ha.keep ⟨rfl,rfl,rfl,rfl,kW rfl,trivial⟩⟩
   |true=>
    rw[h1]at j_;apply bD hs (eF (fe (.e (vI (k:Nat))::gU (.e (.bool true)::dn (eF (fe [])))))) 20 [(19,46)] (by kernel_rfl) rfl
    ·exact pO [[],[0],[]] [.z aD] hs rfl<|fR [(2,29)] (fun gd hf=>aax rfl (aaL rfl (congrArg (Value.int .i64) (by rw[wq];omega))))<|fR [(1,28),(3,30)] (fun gd hf=>aaw rfl (ay rfl (fH T.ok rfl rfl rfl (by omega) (by omega) rfl rfl rfl (aav rfl))))<|pO [[4],[5],[]] [.e Zg 13] hs rfl<|fR [(6,33),(7,34)] (fun gd hf=>aaw rfl (aaL rfl (congrArg Value.bool h1)))<|pO [[8],[9],[10,9],[9]] [.z aD] hs rfl<|fR [(11,38),(12,39),(9,36)] (fun gd hf=>aay rfl (ay rfl (fH T.ok rfl rfl rfl (by omega) (by omega) rfl rfl rfl (aav rfl))))<|EG [[13,9],[14,9],[9],[16,9],[15,17,9],[9,18]] [.e Q4 13,.z aM] hs rfl
    clear hs;intro g6 hs ai;obtain⟨ar,aD,aM,bR⟩:=dK ai ar aD aM bR;apply b_;cases h2:y.step==s.back with
    |false=>
     rw[h2]at j_;exact aar rfl<|aF<|bJ<|aq<|an<|Wp 3 rfl<|aA<|fun a ha=>⟨h.length-(k+1),by omega,k+1,q,_,rfl,hs,ar,bR,aD,aM,.inl (by omega),j_.symm,rfl,ha.keep ⟨rfl,rfl,rfl,rfl,kW rfl,trivial⟩⟩
    |true=>
     rw[h2]at j_;exact aas rfl<|an<|Wp 3 rfl<|aA<|bJ<|aq<|an<|Wp 3 rfl<|aA<|fun a ha=>⟨h.length-(k+1),by omega,k+1,q+1,_,rfl,hs,ar,bR,aD,aM,.inl (by omega),j_.symm,rfl,ha.keep ⟨rfl,rfl,kW rfl,rfl,kW rfl,trivial⟩⟩
  refine aQ (b:=decide (((k+1:Nat):Int)<(h.length:Int))) (by simp;omega) rfl<|bc<|bg<|bg<|cA<|aq<|aZ rfl<|aG<|nw rfl hs ?_;rw[hq,show k=h.length-1 from by omega];rfl
end Go.Proofs.YtbfjdfecgiegpaaGreatDoor
namespace Go.Proofs.YtbfjdfecgiegpaaGreatDoor
open Go Go.K Tryz
set_option maxRecDepth 10000
attribute [local irreducible] W WL cS bh bY bB bA bC cL cD
set_option maxHeartbeats 1000000
theorem qI{ad:Option Addr}{n c:Nat}{zs:List Int}{g0 g:G}{L:List df}(hs:St g0 g (.row 3 1 (.slice ad n c) n (ec zs)::L)):
  CallsIn Wd 0 prog 28 #[.slice ad n c] g.w
   (db g fun g' r=>r= .slice ad (Lib.compact zs).length c∧St g0 g' (.row 3 1 (.slice ad (Lib.compact zs).length c) (Lib.compact zs).length (ec (Lib.compact zs))::L)):=by
 have hr:=hs.own 0 _ rfl;by_cases h0:n=0
 ·subst h0;have hz:zs=[]:=by have:=hr.1.1;rw[nB,Nat.zero_mul]at this;exact List.eq_nil_of_length_eq_zero this
  subst hz;refine callsIn_wide.2<|(Tryz.slices_Compact_int_empty ad c g.w).mono ?_;rintro e w' ⟨rfl,rfl⟩;exact⟨g,_,rfl,rfl,G.le.refl g,rfl,hs⟩
 obtain⟨bk,off,rfl⟩:=hr.1.pos h0;obtain⟨hH,DD,rfl,pU,tJ⟩:=hr.1.IF h0;unfold maxLen at tJ;have fw:=Lib.compact_length_le zs;refine callsIn_wide.2<|(Tryz.slices_Compact_int bk off c zs g.w hH (by omega) pU).mono ?_;rintro e w' ⟨rfl,q,rfl⟩;obtain⟨g2,bS,aV,ai⟩:=hs.putRow (i:=0) (q:=q) (os:=#[]) (d:=Lib.compact zs++List.replicate (zs.length-(Lib.compact zs).length) 0) rfl h0 (by simp;omega);have xk:=aV.B3 (i:=0) (a:=(Lib.compact zs).length) rfl fw;rw[if_neg (by omega),Option.map_some,Addr.add_lit,Nat.zero_mul,Nat.add_zero,Nat.sub_zero,Nat.sub_zero]at xk;refine⟨g2,_,bS,rfl,ai,rfl,?_⟩;have e:(ec (Lib.compact zs++List.replicate (zs.length-(Lib.compact zs).length) 0)).take ((Lib.compact zs).length*1)=ec (Lib.compact zs):=by unfold ec;rw[Nat.mul_one,List.map_append,show(Lib.compact zs).length=((Lib.compact zs).map (Value.int .i64)).length from by simp,List.take_left]
 rw[←e];exact xk
def vx(o:Option bG)(h:List bO)(n:Int)(s:Step):List Int:=
 Lib.compact (if 0≤s.back∧vy o h n<s.dN then iW (s.next++[s.back])else s.next)
def ng(o:Option bG)(h:List bO):List Int:=
 if o.isSome=false then []else if h=[]then [0]else match gP o (h.getLast?.getD fS).step with
  |none=>[]
  |some s=>vx o h (h.getLast?.getD fS).step s
def U1(o:Option bG):Prop:=∀f,o=some f→ ∀s∈f.steps,s.next.length≤100000
theorem IG(v:Value)(o:Option bG)(h:List bO)(g:G)(kn:Kl g v o h)(hl:h.length≤1000000)(ho:U1 o):cN prog 34 #[v] g fun g' r=>Rs g' r (ng o h):=by
 have hs:=St.start g;have ar:=G.le.refl g;have nC:=kn;obtain⟨_,rfl,a1,n1,c1,a2,n2,c2,a3,c3,rfl,aW,cd,bR⟩:=kn;refine enter func34 rfl ntmps34 rfl<|cR<|An hs rfl fun b1 g2 hs ai aD=>?_;obtain⟨ar,bR⟩:=cr ai ar bR;replace nC:=nC.mono ar;refine aX rfl<|az<|aI<|Hw [.z aD] rfl ?_;unfold ng;cases Ti:o.isSome with
 |false=>
  rw[if_pos rfl];exact aas rfl<|aZ rfl<|aG (nw rfl hs (Rs.nil _))
 |true=>
  rw[if_neg (by simp)];rw[Ti]at aD nC;refine aar rfl<|Hw [.z aD] rfl ?_;rcases List.eq_nil_or_concat h with rfl|⟨hi,x,rfl⟩
  ·rw[if_pos rfl];refine aJ (b:=(([]:List bO).length:Int)==0) rfl rfl<|cR<|BP [(0,vI ((0:Int)))] [vI ((0:Int))] hs rfl rfl fun bl gl hs ai=>?_;obtain⟨aD,bR⟩:=cr ai aD bR;obtain⟨gz,gF,cK,gW,fh⟩:=hs.cP (α:=Int) (xs:=[(0:Int)]) (i:=0) rfl (cY.ints _ [(0:Int)]);clear ai;have ai:=gW;rw[←gF];replace hs:=cK;clear cK;obtain⟨aD,bR⟩:=cr ai aD bR;exact aX rfl<|aG (nw rfl hs fh)
  rw[List.concat_eq_append]at*;rw[if_neg (by simp),List.getLast?_concat];show W _ _ _ _ _ _ _ _;refine aQ (b:=((hi++[x]).length:Int)==0) (by simp;omega) rfl ?_;have vz:(hi++[x]).length=hi.length+1:=by simp
  have eH:dJ (hi++[x]) (IntKind.i64.wrap (((hi++[x]).length:Nat)-1))=some x:=by rw[wq,vz,show((hi.length+1:Nat):Int)-1=(hi.length:Nat)from by omega];unfold dJ;rw[if_neg (by omega)];simp
  refine aF<|bJ<|aq<|sP 6 [.z aD,.z aD] rfl<|zc (y:=x) bR eH rfl ?_;rintro b9 q9 ys aL rfl;refine Wp 1 rfl<|q5 1 [.e aL 13] rfl ?_;clear aL;refine aX rfl<|sP 2 [.z aD] rfl<|sO rfl (ID _ o (hi++[x]) x.step _ nC) ?_;rintro g6 _ nY ⟨cs,rfl,dI⟩;replace hs:=hs.call nY;have ai:=nY.le;replace aD:=aD.mono ai;replace nC:=nC.mono ai;show WL _ _ _ _ _ _ _ _ _;simp only[Option.getD_some];cases WZ:gP o x.step with
  |none=>
   rw[WZ]at dI;obtain⟨a7,n7,c7,a8,n8,c8,rfl,fh,gn⟩:=dI;refine Wp 3 rfl<|w4 hs rfl fun b4 g1 hs ai=>?_;obtain⟨aD,fh,gn⟩:=dR ai aD fh gn;refine sN 0 hs rfl fun g1 hs ai=>?_;obtain⟨aD,fh,gn⟩:=dR ai aD fh gn;exact aX rfl<|az<|aZ rfl<|aas rfl<|aZ rfl<|aG (nw rfl hs (Rs.nil _))
  |some s=>
   rw[WZ]at dI;replace dI:sW g6 cs s:=dI;obtain⟨a7,n7,c7,a8,n8,c8,rfl,fh,gn⟩:=dI;have EA:s.next.length≤100000:=by
    cases o with
    |none=>cases Ti
    |some f=>exact ho f rfl s (List.mem_of_getElem? (nh WZ).2.2)
   refine Wp 3 rfl<|w4 hs rfl fun b4 g1 hs ai=>?_;obtain⟨aD,gn⟩:=cr ai aD gn;replace nC:=nC.mono ai;refine sN 0 hs rfl fun g1 hs ai=>?_;obtain⟨aD,gn⟩:=cr ai aD gn;replace nC:=nC.mono ai;obtain⟨g2,bS,aV,ai,aL⟩:=hs.bd (i:=0) rfl;replace hs:=aV;clear aV;rw[←bS];obtain⟨aD,gn⟩:=cr ai aD gn;replace nC:=nC.mono ai;have aM:=aL;clear aL;refine aX rfl<|az<|aZ rfl<|aar rfl<|aF<|aq<|sP 2 [.z aM] rfl ?_;clear nY;refine sO rfl (EW _ s.next _ gn (by omega)) ?_;rintro g7 v7 C2 ⟨cells,hh,hr⟩;obtain rfl:cells=ec s.next:=cY.np hr;obtain⟨a5,c5,rfl⟩:=hh.1.form;replace hs:=hs.lr C2 hh;have ai:=C2.le;obtain⟨aD,aM⟩:=cr ai aD aM;replace nC:=nC.mono ai;clear hr hh C2;replace hs:St g g7 [.row 3 1 (.slice a5 s.next.length c5) s.next.length (ec s.next)]:=hs;clear fh gn aW cd bR eH;refine aX rfl<|az<|az ?_;cases Qf:decide (0≤s.back)with
   |false=>
    have OR:vx o (hi++[x]) x.step s=Lib.compact s.next:=by unfold vx;rw[if_neg (fun e=>(of_decide_eq_false Qf) e.1)]
    apply bD hs (eF (.e (.bool false)::dn [])) 11 [(10,47)] (by kernel_rfl) rfl
    ·exact pO [[],[0]] [.z aM] hs rfl<|fR [(1,38)] (fun gd hf=>aax rfl (aaL rfl (congrArg Value.bool Qf)))<|EG [[2],[3],[3],[4,5,3,3],[3],[7,3],[6,8,3],[3,9]] [] hs rfl
    clear hs;intro g8 hs ai;obtain⟨aD,aM⟩:=cr ai aD aM;refine b_<|aar rfl<|aF<|aq<|cG 1 rfl<|Dj rfl (qI (zs:=s.next) hs) ?_;(repeat clear hs);rintro g12 _ ai ⟨rfl,hs⟩;obtain⟨aD,aM⟩:=cr ai aD aM;obtain⟨g13,sZ,s7,ai,sy⟩:=hs.cP (α:=Int) (i:=0) rfl (cY.ints _ _);rw[←sZ];(repeat clear hs);have hs:=s7;clear s7;obtain⟨aD,aM⟩:=cr ai aD aM;clear sZ;exact aX rfl<|aG (nw rfl hs (show Rs _ _ (vx o (hi++[x]) x.step s)from by rw[OR];exact sy))
   |true=>
    apply bD hs (eF (.e (.bool true)::dn [])) 11 [(10,47)] (by kernel_rfl) rfl
    ·exact pO [[],[0]] [.z aM] hs rfl<|fR [(1,38)] (fun gd hf=>aax rfl (aaL rfl (congrArg Value.bool Qf)))<|EG [[2],[3],[3],[4,5,3,3],[3],[7,3],[6,8,3],[3,9]] [.z aD,.c (Wc 88) fun g' h=>Th _ o (hi++[x]) x.step g' (nC.mono h) hl,.z aM] hs rfl
    clear hs;intro g8 hs ai;replace aM:=aM.mono ai;apply b_;cases Nl:decide (vy o (hi++[x]) x.step<s.dN)with
    |false=>
     have OR:vx o (hi++[x]) x.step s=Lib.compact s.next:=by unfold vx;rw[if_neg (fun e=>(of_decide_eq_false Nl) e.2)]
     refine aar rfl<|aF<|aq<|cG 1 rfl<|Dj rfl (qI (zs:=s.next) hs) ?_;(repeat clear hs);rintro g12 _ ai ⟨rfl,hs⟩;replace aM:=aM.mono ai;obtain⟨g13,sZ,s7,ai,sy⟩:=hs.cP (α:=Int) (i:=0) rfl (cY.ints _ _);rw[←sZ];(repeat clear hs);have hs:=s7;clear s7;replace aM:=aM.mono ai;clear sZ;exact aX rfl<|aG (nw rfl hs (show Rs _ _ (vx o (hi++[x]) x.step s)from by rw[OR];exact sy))
    |true=>
     have OR:vx o (hi++[x]) x.step s=Lib.compact (iW (s.next++[s.back])):=by unfold vx;rw[if_pos ⟨of_decide_eq_true Qf,of_decide_eq_true Nl⟩]
     refine aas rfl<|sP 3 [.z aM] rfl<|BP [(0,vI s.back)] [vI s.back] hs rfl rfl fun b6 g9 hs ai=>ak rfl rfl<|bU T.ok 1 rfl hs rfl rfl rfl rfl rfl rfl rfl (by decide) rfl (Src.eI (hs.own 0 _ rfl).1).2 (by simp[Value.oneCell']) (by show(s.next.length+1)*8≤_;omega) (by unfold maxLen;omega) fun a6 c6 g10 hs ai=>?_
     replace hs:St g g10 [.row 3 1 (.slice a6 (s.next.length+1) c6) (s.next.length+1) (ec (s.next++[s.back]))]:=by
      have:=hs.drop 0;have e:ec (s.next++[s.back])=ec s.next++[vI s.back]:=by simp[ec]
      rw[e];exact this
     refine aX rfl<|an<|Wp 1 rfl<|Dj rfl (DE (zs:=s.next++[s.back]) (by simp;omega) hs) ?_;(repeat clear hs);rintro g11 _ ai ⟨rfl,hs⟩;refine b_<|cG 1 rfl<|Dj rfl (qI (zs:=iW (s.next++[s.back])) hs) ?_;(repeat clear hs);rintro g12 _ ai ⟨rfl,hs⟩;obtain⟨g13,sZ,s7,ai,sy⟩:=hs.cP (α:=Int) (i:=0) rfl (cY.ints _ _);rw[←sZ];(repeat clear hs);have hs:=s7;clear s7;clear sZ;exact aX rfl<|aG (nw rfl hs (show Rs _ _ (vx o (hi++[x]) x.step s)from by rw[OR];exact sy))
end Go.Proofs.YtbfjdfecgiegpaaGreatDoor
namespace Go.Proofs.YtbfjdfecgiegpaaGreatDoor
open Go Go.K Tryz
set_option maxRecDepth 10000
attribute [local irreducible] W WL cS bh bY bB bA bC cL cD
set_option maxHeartbeats 1000000
theorem Tj(b5:Nat)(kc:List Value)(o:Option bG)(h:List bO)(g:G)(aD:EP g b5 0 kc)(kn:Qe g kc o h):cN prog 131 #[vP b5] g fun _ r=>r= .bool (!o.isSome):=by have hs:=St.start g;obtain⟨a1,n1,c1,a2,n2,c2,a3,c3,rfl,aW,cd,bR⟩:=kn;exact enter func131 rfl ntmps131 rfl<|aZ rfl<|Hw [.z aD] rfl<|aG (nw rfl hs rfl)
theorem Tk(b5 b4:Nat)(kc:List Value)(o:Option bG)(h:List bO)(a:gi)(g:G)(aD:EP g b5 0 kc)(aM:EP g b4 0 (nk a))(kn:Qe g kc o h)(hl:h.length≤1000000)(ho:U1 o):
  cN prog 132 #[vP b5,vP b4] g fun _ r=>r= .bool (o.isSome&& !(ng o h).contains a.step):=by
 have hs:=St.start g;have ar:=G.le.refl g;have nC:Kl g (.agg kc.toArray) o h:=⟨kc,rfl,kn⟩;obtain⟨a1,n1,c1,a2,n2,c2,a3,c3,rfl,aW,cd,bR⟩:=kn;refine enter func132 rfl ntmps132 rfl<|aZ rfl<|az ?_;cases Ti:o.isSome with
 |false=>
  rw[Ti]at aD nC;apply bD hs (dn (eF [])) 10 [(9,12)] (by kernel_rfl) rfl
  ·exact EG [[],[0],[1],[2],[3,2,2],[2],[5,2],[4,6,4,2],[7,2],[2,8]] [.z aD] hs rfl
  clear hs;intro g6 hs ai;obtain⟨aD,aM⟩:=cr ai aD aM;exact aX rfl<|aG (nw rfl hs rfl)
 |true=>
  rw[Ti]at aD nC;apply bD hs (gU (.f (Fact.rs (ng o h))::gU (fe []))) 10 [(9,12)] (by kernel_rfl) rfl
  ·exact pO [[],[0],[1],[2]] [.z aD,.z aD] hs rfl<|fR [(3,6),(2,5),(2,5)] (fun gd hf=>aay rfl (aaz rfl (IG _ o h gd (nC.mono ((G.bI _).trans hf.le)) hl ho)))<|pO [[2],[5,2]] [.z aM] hs rfl<|fR [(4,7),(6,9),(4,7),(2,5)] (fun gd hf=>ba fun _ _=>ah rfl (ba fun v4 h4=>aax rfl (aaz rfl (pT v4 (ng o h) a.step gd h4))))<|EG [[7,2],[2,8]] [] hs rfl
  clear hs;intro g6 hs ai;exact aX rfl<|aG (nw rfl hs rfl)
theorem Tl(b8 b7 b4:Nat)(is:Bool)(cs:List Value)(s:Step)(a:gi)(g:G)(aD:EP g b8 0 [.bool is])(aM:EP g b7 0 cs)(cE:EP g b4 0 (nk a))(dI:sW g cs s):
  cN prog 134 #[vP b8,vP b7,vP b4] g fun _ r=>r= .bool (is&& !s.ed.contains a.tool):=by
 have hs:=St.start g;have ar:=G.le.refl g;obtain⟨a7,n7,c7,a8,n8,c8,rfl,fh,gn⟩:=dI;refine enter func134 rfl ntmps134 rfl ?_;cases is with
 |false=>
  exact aZ rfl<|Hw [.z aD] rfl<|aG (nw rfl hs rfl)
 |true=>
  exact aZ rfl<|sP 6 [.z aD,.z aM,.z cE] rfl<|Ev rfl (pT _ s.ed a.tool _ fh) hs fun g1 hs ai=>aX rfl<|aG (nw rfl hs rfl)
theorem Tm(b8 b7 b4:Nat)(is:Bool)(cs:List Value)(s:Step)(a:gi)(g:G)(aD:EP g b8 0 [.bool is])(aM:EP g b7 0 cs)(cE:EP g b4 0 (nk a))(dI:sW g cs s):
  cN prog 135 #[vP b8,vP b7,vP b4] g fun _ r=>r= .bool (is&&s.eQ !=a.rcp):=by
 have hs:=St.start g;have ar:=G.le.refl g;obtain⟨a7,n7,c7,a8,n8,c8,rfl,fh,gn⟩:=dI;refine enter func135 rfl ntmps135 rfl ?_;cases is with
 |false=>
  exact aZ rfl<|Hw [.z aD] rfl<|aG (nw rfl hs rfl)
 |true=>
  exact aZ rfl<|Hw [.z aD,.z aM,.z cE] rfl<|aG (nw rfl hs rfl)
theorem Tn(b3 b4:Nat)(sl:Nat→Value)(b:eL)(a:gi)(g:G)(aD:EP g b3 0 ((List.range 11).map sl))(aM:EP g b4 0 (nk a))(aT:fV g (.agg ((List.range 11).map sl).toArray) b):
  cN prog 136 #[vP b3,vP b4] g fun _ r=>r= .bool (!b.px.any (h_ a.tool a.cham a.rcp a.rvn a.time)):=by
 have hs:=St.start g;have ar:=G.le.refl g;exact enter func136 rfl ntmps136 rfl<|aZ rfl<|sP 11 [.z aD,.z aM,.z aM,.z aM,.z aM,.z aM] rfl<|Ev rfl (ON _ b a.tool a.cham a.rcp a.rvn a.time _ aT) hs fun g1 hs ai=>aX rfl<|aG (nw rfl hs rfl)
theorem To(b3 b4:Nat)(sl:Nat→Value)(b:eL)(a:gi)(g:G)(aD:EP g b3 0 ((List.range 11).map sl))(aM:EP g b4 0 (nk a))(aT:fV g (.agg ((List.range 11).map sl).toArray) b)(hb:vQ b):
  cN prog 138 #[vP b3,vP b4] g fun _ r=>r= .bool (decide ((0:Int)<((pD b a).length:Nat))):=by
 have hs:=St.start g;have ar:=G.le.refl g;refine enter func138 rfl ntmps138 rfl<|aZ rfl<|sP 2 [.z aD,.z aM] rfl<|sO rfl (Lj _ b a _ aT hb) fun g1 _ aP hr=>?_;replace hs:=hs.call aP;have ai:=aP.le;obtain⟨a9,c9,rfl⟩:=hr.isSlice;exact aX rfl<|aG (nw rfl hs rfl)
end Go.Proofs.YtbfjdfecgiegpaaGreatDoor
namespace Go.Proofs.YtbfjdfecgiegpaaGreatDoor
open Go Go.K Tryz
set_option maxRecDepth 10000
attribute [local irreducible] W WL cS bh bY bB bA bC cL cD
set_option maxHeartbeats 1000000
structure U2 where
 num:Int
 fn:Value
 ok:Bool
instance:El U2 where
 k:=2
 pos:=by omega
 rc g cs r:=cs=[vI r.num,r.fn]∧r.fn.oneCell'=true∧ ∀g',g.le g'→jd prog r.fn [] g'.w (cO g' fun _ v=>v= .bool r.ok)
 len h:=by rw[h.1];rfl
 mono hle h:=⟨h.1,h.2.1,fun g' h'=>h.2.2 g' (hle.trans h')⟩
 one h:=by
  rw[h.1];intro c hc;rcases List.mem_cons.1 hc with rfl|hc
  ·rfl
  rw[List.mem_singleton.1 hc];exact h.2.1
def od(l:List U2):List Int:=(l.filter (·.ok)).map (·.num)
theorem Tp(b9:Nat)(v:Value)(l:List U2)(g:G)(Tq:EP g b9 0 [v])(OS:Rs g v l):
  w7 prog 140 #[vP b9] (fun n:Int=>[vI n]) (od l) g:=by
 obtain⟨a,c,rfl⟩:=OS.isSlice;intro g1 hle yv J Jx hJ WD hy Ds;have hlen:=OS.ef;unfold maxLen at hlen;have ar:=G.le.refl g1;have aD:=Tq.mono hle;have Nb:=OS.mono hle;refine enter func140 rfl ntmps140 rfl<|Hw [.z aD] rfl<|aI ?_;refine bK (fun m a' w=> ∃(k:Nat) (g':G),w=g'.w∧G.le g1 g'∧k≤l.length∧m=l.length-k∧J (od (l.take k)) g'∧
   Fr 22 [] [(0,yv),(1,vP b9),(5,.slice a l.length c),(6,vI (l.length:Nat)),(7,vI (k:Nat))] a') l.length
  (fun a' ha=>⟨0,g1,rfl,ar,Nat.zero_le _,rfl,Ds,ha.kp rfl⟩) ?_
 clear aD ar;rintro m a' _ ⟨k,g',rfl,ar,hk,rfl,sR,dW⟩;have fh:=Nb.mono ar;have hs:=St.start g';revert a';refine ct<|aZ rfl<|az ?_;by_cases bt:k<l.length
 ·refine aJ (b:=decide ((k:Int)<(l.length:Int))) (by simp;omega) rfl ?_;have eH:=bZ (n:=((k:Nat):Int)) rfl bt;have rG:od l=od (l.take k)++(od [l[k]]++od (l.drop (k+1))):=by
   conv=>lhs;rw[←List.take_append_drop k l,List.drop_eq_getElem_cons bt]
   unfold od;rw[List.filter_append,←List.singleton_append,List.filter_append,List.map_append,List.map_append]
  have dP:od (l.take (k+1))=od (l.take k)++od [l[k]]:=by unfold od;rw[List.take_succ_eq_append_getElem bt,List.filter_append,List.map_append]
  generalize l[k]=x at eH rG dP;refine aF<|aq<|az<|aI<|cR<|zc (y:=x) fh eH rfl ?_;rintro bq pq ys aL ⟨rfl,Al,Ga⟩;have aM:=aL;clear aL;refine q5 1 [.e aM 0] rfl<|w4 hs rfl fun bx g1 hs ai=>?_;obtain⟨ar,aM⟩:=cr ai ar aM;refine bu rfl<|aw T.ok 0 rfl hs rfl rfl rfl rfl rfl rfl (by show(true&&(x.fn.oneCell'&&true))=true;rw[Al];rfl) rfl rfl fun g2 hs ai=>?_;obtain⟨ar,aM⟩:=cr ai ar aM;obtain⟨g2,bS,aV,ai,aL⟩:=hs.bd (i:=0) rfl;replace hs:=aV;clear aV;rw[←bS];obtain⟨ar,aM⟩:=cr ai ar aM;(repeat clear aM);have aM:=aL;clear aL;refine b_<|sP 2 [.z aM] rfl<|ak rfl rfl<|fb rfl rfl rfl rfl rfl rfl (Ga _ ((G.le.refl g').trans hs.le)) ?_;rintro g4 _ mg rfl;replace hs:=hs.call mg;have ai:=mg.le;obtain⟨ar,aM⟩:=cr ai ar aM;cases l_:x.ok with
  |false=>
   have e:od [x]=[]:=by unfold od;rw[List.filter_cons,l_];rfl
   rw[e,List.append_nil]at dP;exact aX rfl<|aar rfl<|aF<|bJ<|aq<|an<|Wp 2 rfl<|aA<|fun a ha=>⟨l.length-(k+1),by omega,k+1,_,rfl,ar,by omega,rfl,by rw[dP];exact hJ _ _ _ hs.rh sR,ha.keep ⟨rfl,rfl,rfl,rfl,kW rfl,trivial⟩⟩
  |true=>
   have e:od [x]=[x.num]:=by unfold od;rw[List.filter_cons,l_];rfl
   rw[e]at dP rG;refine q5 4 [.z aM] rfl ?_;have Kj:=hJ _ _ _ hs.rh sR;refine ak rfl rfl (fC rfl rfl rfl rfl rfl rfl ((hy _ x.num _ _ rG ar Kj).mono ?_));rintro _ _ ⟨g5,bv,rfl,rfl,ai,ht,hf⟩;refine⟨_,rfl,?_⟩;(repeat clear hs);replace ar:=G.le.trans ar ai;cases bv with
   |false=>
    exact aX rfl<|aas rfl<|aG<|gQ<|dO<|dO<|gQ<|rO rfl<|⟨g5,_,rfl,rfl,ar,.inr ⟨_,⟨od (l.drop (k+1)),by rw[List.append_assoc];exact rG.symm⟩,hf rfl⟩⟩
   |true=>
    exact aX rfl<|aar rfl<|aF<|bJ<|aq<|an<|Wp 2 rfl<|aA<|fun a ha=>⟨l.length-(k+1),by omega,k+1,_,rfl,ar,by omega,rfl,by rw[dP];exact ht rfl,ha.keep ⟨rfl,rfl,rfl,rfl,kW rfl,trivial⟩⟩
 refine aQ (b:=decide ((k:Int)<(l.length:Int))) (by simp;omega) rfl<|bc<|bg<|bg<|cA<|lC rfl ⟨g',_,rfl,rfl,ar,.inl ?_⟩;rw[List.take_of_length_le (by omega)]at sR;exact sR
def FN(b:eL)(a:gi)(o:Option bG)(h:List bO):List Bool:=
 [!o.isSome,o.isSome&& !(ng o h).contains a.step,(gP o a.step).isSome&& !((gP o a.step).getD kR).ed.contains a.tool,(gP o a.step).isSome&&((gP o a.step).getD kR).eQ !=a.rcp,
  !b.px.any (h_ a.tool a.cham a.rcp a.rvn a.time),decide ((0:Int)<((pD b a).length:Nat))]
def Gb(l:List Bool):List Int:=(([1,2,4,8,16,32]:List Int).zip l).filterMap fun p=>if p.2 then some p.1 else none
theorem OT(f1 f2 f3 f4 f5 f6:Value)(c1 c2 c3 c4 c5 c6:Bool):od [⟨1,f1,c1⟩,⟨2,f2,c2⟩,⟨4,f3,c3⟩,⟨8,f4,c4⟩,⟨16,f5,c5⟩,⟨32,f6,c6⟩]=Gb [c1,c2,c3,c4,c5,c6]:=by cases c1<;>cases c2<;>cases c3<;>cases c4<;>cases c5<;>cases c6<;>rfl
theorem Gc(v u:Value)(b:eL)(a:gi)(o:Option bG)(h:List bO)(g:G)(aT:fV g v b)(kn:Kl g u o h)(hb:vQ b)(hl:h.length≤1000000)(ho:U1 o):cN prog 73 #[v,CV a,u] g fun g' r=> ∃b9 sv l,r= .func (.func 140) #[] #[vP b9]∧EP g' b9 0 [sv]∧Rs g' sv l∧od l=Gb (FN b a o h)∧l.length=6:=by have hs:=St.start g;have ar:=G.le.refl g;obtain⟨sl,rfl,dS⟩:=aT;have aT:fV g (.agg ((List.range 11).map sl).toArray) b:=⟨sl,rfl,dS⟩;obtain⟨kc,rfl,kn⟩:=kn;have nC:=kn;obtain⟨a1,n1,c1,a2,n2,c2,a3,c3,rfl,aW,cd,bR⟩:=kn;refine enter func73 rfl ntmps73 rfl<|cR<|An hs rfl fun b3 g2 hs ai aL=>?_;obtain⟨ar,aT⟩:=cr ai ar aT;have dc:=aL;clear aL;refine An hs rfl fun b4 g2 hs ai aM=>?_;obtain⟨ar,dc,aT⟩:=dR ai ar dc aT;refine An hs rfl fun b5 g2 hs ai cE=>?_;obtain⟨ar,aM,dc,aT⟩:=dK ai ar aM dc aT;replace nC:=nC.mono ar;refine aX rfl<|sP 3 [.z cE,.z aM] rfl<|sO rfl (ID _ o h a.step _ ⟨_,rfl,nC⟩) ?_;rintro g6 _ nY ⟨cs,rfl,dI⟩;replace hs:=hs.call nY;have ai:=nY.le;obtain⟨aM,cE,dc,aT⟩:=dK ai aM cE dc aT;replace nC:=nC.mono ai;unfold FN;generalize(gP o a.step).isSome=is at*;generalize(gP o a.step).getD kR=s at*;obtain⟨a7,n7,c7,a8,n8,c8,rfl,fh,gn⟩:=dI;clear aW cd bR nY;refine Wp 3 rfl<|w4 hs rfl fun b7 g1 hs ai=>?_;obtain⟨aM,cE,fh,gn,dc,aT⟩:=hZ ai aM cE fh gn dc aT;replace nC:=nC.mono ai;refine w4 hs rfl fun b8 g1 hs ai=>?_;obtain⟨aM,cE,fh,gn,dc,aT⟩:=hZ ai aM cE fh gn dc aT;replace nC:=nC.mono ai;refine sN 1 hs rfl fun g1 hs ai=>?_;obtain⟨aM,cE,fh,gn,dc,aT⟩:=hZ ai aM cE fh gn dc aT;replace nC:=nC.mono ai;refine sN 0 hs rfl fun g1 hs ai=>?_;obtain⟨aM,cE,fh,gn,dc,aT⟩:=hZ ai aM cE fh gn dc aT;replace nC:=nC.mono ai;obtain⟨g2,bS,aV,ai,aL⟩:=hs.bd (i:=0) rfl;replace hs:=aV;clear aV;rw[←bS];obtain⟨aM,cE,fh,gn,dc,aT⟩:=hZ ai aM cE fh gn dc aT;have Qg:=aL;clear aL;replace nC:=nC.mono ai;obtain⟨g2,bS,aV,ai,aL⟩:=hs.bd (i:=0) rfl;replace hs:=aV;clear aV;rw[←bS];obtain⟨aM,cE,fh,gn,dc,Qg⟩:=hZ ai aM cE fh gn dc Qg;replace aT:=aT.mono ai;have U3:=aL;clear aL;replace nC:=nC.mono ai;refine b_<|cG 1 rfl<|BO [(0,vI 1),(1,(.func (.func 131) #[] #[vP b5]))] [vI 1,(.func (.func 131) #[] #[vP b5])] [(0,1),(1,1)] rfl<|Wp 1 rfl<|BO [(0,vI 2),(1,(.func (.func 132) #[] #[vP b5,vP b4]))] [vI 2,(.func (.func 132) #[] #[vP b5,vP b4])] [(0,1),(1,1)] rfl<|Wp 1 rfl<|BO [(0,vI 4),(1,(.func (.func 134) #[] #[vP b8,vP b7,vP b4]))] [vI 4,(.func (.func 134) #[] #[vP b8,vP b7,vP b4])] [(0,1),(1,1)] rfl<|Wp 1 rfl<|BO [(0,vI 8),(1,(.func (.func 135) #[] #[vP b8,vP b7,vP b4]))] [vI 8,(.func (.func 135) #[] #[vP b8,vP b7,vP b4])] [(0,1),(1,1)] rfl<|Wp 1 rfl<|BO [(0,vI 16),(1,(.func (.func 136) #[] #[vP b3,vP b4]))] [vI 16,(.func (.func 136) #[] #[vP b3,vP b4])] [(0,1),(1,1)] rfl<|Wp 1 rfl<|BO [(0,vI 32),(1,(.func (.func 138) #[] #[vP b3,vP b4]))] [vI 32,(.func (.func 138) #[] #[vP b3,vP b4])] [(0,1),(1,1)] rfl<|BP [(0,.agg #[vI 1,(.func (.func 131) #[] #[vP b5])]),(1,.agg #[vI 2,(.func (.func 132) #[] #[vP b5,vP b4])]),(2,.agg #[vI 4,(.func (.func 134) #[] #[vP b8,vP b7,vP b4])]),(3,.agg #[vI 8,(.func (.func 135) #[] #[vP b8,vP b7,vP b4])]),(4,.agg #[vI 16,(.func (.func 136) #[] #[vP b3,vP b4])]),(5,.agg #[vI 32,(.func (.func 138) #[] #[vP b3,vP b4])])] [vI 1,(.func (.func 131) #[] #[vP b5]),vI 2,(.func (.func 132) #[] #[vP b5,vP b4]),vI 4,(.func (.func 134) #[] #[vP b8,vP b7,vP b4]),vI 8,(.func (.func 135) #[] #[vP b8,vP b7,vP b4]),vI 16,(.func (.func 136) #[] #[vP b3,vP b4]),vI 32,(.func (.func 138) #[] #[vP b3,vP b4])] hs rfl rfl fun bl gl hs ai=>?_;obtain⟨aM,cE,fh,gn,dc,Qg⟩:=hZ ai aM cE fh gn dc Qg;obtain⟨U3,aT⟩:=cr ai U3 aT;replace nC:=nC.mono ai;obtain⟨gz,gF,cK,ai,Gd⟩:=hs.cP (α:=U2) (xs:=[⟨1,(.func (.func 131) #[] #[vP b5]),(!o.isSome)⟩,⟨2,(.func (.func 132) #[] #[vP b5,vP b4]),(o.isSome&& !(ng o h).contains a.step)⟩,⟨4,(.func (.func 134) #[] #[vP b8,vP b7,vP b4]),(is&& !s.ed.contains a.tool)⟩,⟨8,(.func (.func 135) #[] #[vP b8,vP b7,vP b4]),(is&&s.eQ !=a.rcp)⟩,⟨16,(.func (.func 136) #[] #[vP b3,vP b4]),(!b.px.any (h_ a.tool a.cham a.rcp a.rvn a.time))⟩,⟨32,(.func (.func 138) #[] #[vP b3,vP b4]),(decide ((0:Int)<((pD b a).length:Nat)))⟩]) (i:=0) rfl (⟨[vI 1,(.func (.func 131) #[] #[vP b5])],_,rfl,⟨rfl,rfl,fun g' h'=>dy (first:=#[]) (args:=[]) (captured:=#[vP b5]) (Wc 131) rfl (Tj b5 _ o h g' (cE.mono h') (nC.mono h'))⟩,⟨[vI 2,(.func (.func 132) #[] #[vP b5,vP b4])],_,rfl,⟨rfl,rfl,fun g' h'=>dy (first:=#[]) (args:=[]) (captured:=#[vP b5,vP b4]) (Wc 132) rfl (Tk b5 b4 _ o h a g' (cE.mono h') (aM.mono h') (nC.mono h') hl ho)⟩,⟨[vI 4,(.func (.func 134) #[] #[vP b8,vP b7,vP b4])],_,rfl,⟨rfl,rfl,fun g' h'=>dy (first:=#[]) (args:=[]) (captured:=#[vP b8,vP b7,vP b4]) (Wc 134) rfl (Tl b8 b7 b4 is _ s a g' (Qg.mono h') (U3.mono h') (aM.mono h') ⟨a7,n7,c7,a8,n8,c8,rfl,fh.mono h',gn.mono h'⟩)⟩,⟨[vI 8,(.func (.func 135) #[] #[vP b8,vP b7,vP b4])],_,rfl,⟨rfl,rfl,fun g' h'=>dy (first:=#[]) (args:=[]) (captured:=#[vP b8,vP b7,vP b4]) (Wc 135) rfl (Tm b8 b7 b4 is _ s a g' (Qg.mono h') (U3.mono h') (aM.mono h') ⟨a7,n7,c7,a8,n8,c8,rfl,fh.mono h',gn.mono h'⟩)⟩,⟨[vI 16,(.func (.func 136) #[] #[vP b3,vP b4])],_,rfl,⟨rfl,rfl,fun g' h'=>dy (first:=#[]) (args:=[]) (captured:=#[vP b3,vP b4]) (Wc 136) rfl (Tn b3 b4 sl b a g' (dc.mono h') (aM.mono h') (aT.mono h'))⟩,⟨[vI 32,(.func (.func 138) #[] #[vP b3,vP b4])],_,rfl,⟨rfl,rfl,fun g' h'=>dy (first:=#[]) (args:=[]) (captured:=#[vP b3,vP b4]) (Wc 138) rfl (To b3 b4 sl b a g' (dc.mono h') (aM.mono h') (aT.mono h') hb)⟩,rfl⟩⟩⟩⟩⟩⟩);rw[←gF];clear hs;replace hs:=cK;clear cK;refine w4 hs rfl fun b9 g1 hs ai=>?_;replace Gd:=Gd.mono ai;refine sN 0 hs rfl fun g1 hs ai=>?_;replace Gd:=Gd.mono ai;obtain⟨g2,bS,aV,ai,aL⟩:=hs.bd (i:=0) rfl;replace hs:=aV;clear aV;rw[←bS];replace Gd:=Gd.mono ai;exact b_<|aZ rfl<|aG (nw rfl hs ⟨b9,_,_,rfl,aL,Gd,OT _ _ _ _ _ _ _ _ _ _ _ _,rfl⟩)
end Go.Proofs.YtbfjdfecgiegpaaGreatDoor
namespace Go.Proofs.YtbfjdfecgiegpaaGreatDoor
open Go Go.K Tryz
set_option maxRecDepth 10000
attribute [local irreducible] W WL cS bh bY bB bA bC cL cD
set_option maxHeartbeats 1000000
def Ge(l:List Int):Int:=l.foldl (fun s n=>IntKind.i64.wrap (s+n)) 0
def Zh(o:Option bG)(h:List bO):Fact:=⟨fun v g=>Kl g v o h,fun _ _ _ hf k=>k.mono hf.le⟩
def Q_(xs:List Int):Fact:=⟨fun v g=> ∃b9 sv l,v= .func (.func 140) #[] #[vP b9]∧EP g b9 0 [sv]∧Rs g sv l∧od l=xs∧l.length=6,
 fun _ _ _ hf ⟨b9,sv,l,e,h1,h2,h3⟩=>⟨b9,sv,l,e,h1.mono hf.le,h2.mono hf.le,h3⟩⟩
def oU(b:eL)(a:gi)(h:List bO):Int:=Ge (Gb (FN b a (fQ b a.waf a.time) h))
structure Bl(b:eL):Prop where
 size:vQ b
 text:Zf b
theorem B4{s:List UInt8}{f:bG}(h:kx s= .inl f):valid f=true:=by
 unfold kx at h;split at h
 ·split at h
  ·rename_i hv;cases h;exact hv
  cases h
 cases h
theorem pH{b:eL}{w time:Int}{f:bG}(h:fQ b w time=some f):valid f=true:=by
 unfold fQ at h;split at h
 ·cases h
 split at h
 ·cases h
 split at h
 ·rename_i hp;split at h
  ·cases h;exact B4 hp
  cases h
 cases h
theorem DF{f:bG}(h:valid f=true): ∀s∈f.steps,s.next.length≤4:=by intro s hs;unfold valid at h;simp only[Bool.and_eq_true,List.all_eq_true]at h;have:=h.1.2 s hs;unfold cf at this;simp only[Bool.and_eq_true,decide_eq_true_eq]at this;omega
theorem Bl.Tr{b:eL}(_:Bl b)(w time:Int):U1 (fQ b w time):=fun f hf s hs=>Nat.le_trans (DF (pH hf) s hs) (by decide)
theorem DG(v u:Value)(b:eL)(a:gi)(h:List bO)(g:G)(aT:fV g v b)(aH:Rs g u h)(hb:Bl b)(hl:h.length≤1000000)(cw:jo g):cN prog 26 #[v,CV a,u] g fun _ r=>r=vI (oU b a h):=by
 have hs:=St.start g;have ar:=G.le.refl g;obtain⟨sl,rfl,dS⟩:=aT;have aT:fV g (.agg ((List.range 11).map sl).toArray) b:=⟨sl,rfl,dS⟩;refine uj func26 rfl ntmps26 rfl<|cR<|An hs rfl fun b3 g2 hs ai aD=>?_;obtain⟨ar,aH,aT,cw⟩:=dK ai ar aH aT cw;refine An hs rfl fun b4 g2 hs ai aM=>?_;obtain⟨ar,aD,aH,aT,cw⟩:=nX ai ar aD aH aT cw;refine aX rfl<|cR<|w4 hs rfl fun b7 g1 hs ai=>?_;obtain⟨ar,aD,aM,aH,aT,cw⟩:=hZ ai ar aD aM aH aT cw;refine sN 0 hs rfl fun g1 hs ai=>?_;obtain⟨ar,aD,aM,aH,aT,cw⟩:=hZ ai ar aD aM aH aT cw;replace hs:St g _ [.obj b7 (.cells #[vI 0] 3 (0,0))]:=hs;refine b_<|az<|az ?_;apply ea (dn (.f (Zh (fQ b a.waf a.time) h):: .f (Q_ (Gb (FN b a (fQ b a.waf a.time) h)))::[])) 10 [(9,18)] (by kernel_rfl)
 ·exact pO [[],[],[],[],[3],[],[5],[]] [.z aD,.z aM,.z aD,.z aM,.z aM] hs rfl<|fR [(2,11),(4,13),(6,15),(7,16)] (fun gd hf=>aaH rfl (aaz rfl (EV _ _ b a.waf a.time h gd (aT.mono ((G.bI _).trans hf.le)) (aH.mono ((G.bI _).trans hf.le)) hb.text (cw.mono ((G.bI _).trans hf.le)))))<|fR [(0,9),(1,10),(8,17),(8,17)] (fun gd hf=>aat rfl (ba fun _ _=>ba fun v8 h8=>aj (aaz rfl (Gc _ v8 b a _ h gd (aT.mono ((G.bI _).trans hf.le)) h8 hb.size hl (hb.Tr _ _)))))<|gG
 intro g1 aP;refine ba fun v9 h9=>aj ?_;replace hs:=hs.dr.call aP;have ai:=(G.bI _).trans aP.le;replace ar:=G.le.trans ar ai;unfold oU;generalize Gb (FN b a (fQ b a.waf a.time) h)=xs at*;obtain⟨b9,sv,l,rfl,Ra,Rb,nv,SW⟩:=h9;refine b_<|aI ?_
 refine xj (N:=24) hs rfl (Wc 140) (Tp b9 sv l g1 Ra Rb).Ze rfl (fun _=>rfl)
  (fun pre L g'=>L=[.obj b7 (.cells #[vI (Ge pre)] 3 (0,0))]∧G.le g g') (fun _ _ _ _=>False) (fun _ _ _ _ hle h=>⟨h.1,h.2.trans hle⟩) (fun _ _ _ _ _ _ h=>h) ⟨rfl,ar⟩
  (fun pre x L la g'=>la=[(7,vP b7),(8,vI x)]∧L=[.obj b7 (.cells #[vI (Ge pre)] 3 (0,0))]∧G.le g g') (fun _ _ _ _ _ _ hle h=>⟨h.1,h.2.1,h.2.2.trans hle⟩) ?_ ?_ ?_ ?_
 ·rintro lp D ro pre x gr Lr M nv hle hs hI;exact an<|Wp 1 rfl<|aA<|fun a ha=>⟨gr,Lr,_,rfl,G.le.refl _,hs,⟨rfl,hI⟩,ha.kp rfl⟩
 ·rintro lp D ro pre x gr Lr la M nv hle hs ⟨rfl,rfl,ar⟩;have dL:=G.le.refl gr;refine aI<|an<|Wm 3 [.o 2] hs rfl<|sN 2 hs rfl fun g1 hs ai=>?_;obtain⟨ar,dL⟩:=cr ai ar dL;exact aA<|bJ<|fun a ha=>⟨_,_,rfl,hs,dL,[.obj b7 (.cells #[vI (Ge (pre++[x]))] 3 (0,0))],by unfold Ge;rw[List.foldl_append];rfl,rfl,ar⟩
 ·rintro lp D o ys Lr ge rfl hle hs ⟨rfl,ar⟩;rw[nv]at hs;exact bJ<|aq<|lJ [.o 2] hs rfl<|aG<|Iy 1 rfl hs rfl rfl (fun g' lB gB=>lB.ret rfl)
 rintro c lp D o pre Lr ge _ _ _ h;exact h.elim
theorem ku{b:eL}(hb:vQ b)(w time:Int):(fI b w time).length≤1000000:=Nat.le_trans (List.length_filter_le ..) (nq hb w)
def wS(b:eL)(a:gi):Int:=oU b a (fI b a.waf a.time)
theorem MJ(v:Value)(b:eL)(a:gi)(g:G)(aT:fV g v b)(hb:Bl b)(cw:jo g):cN prog 14 #[v,CV a] g fun _ r=>r=vI (wS b a):=by
 have hs:=St.start g;have ar:=G.le.refl g;obtain⟨sl,rfl,dS⟩:=aT;have aT:fV g (.agg ((List.range 11).map sl).toArray) b:=⟨sl,rfl,dS⟩;refine enter func14 rfl ntmps14 rfl<|cR<|An hs rfl fun b2 g2 hs ai aD=>?_;obtain⟨aT,cw⟩:=cr ai aT cw;refine An hs rfl fun b3 g2 hs ai aM=>?_;obtain⟨aD,aT,cw⟩:=dR ai aD aT cw;refine aX rfl<|az ?_;apply bD hs (gU (eF (fe (.f (Fact.rs (fI b a.waf a.time))::fe [])))) 9 [(8,13)] (by kernel_rfl) rfl
 ·exact pO [[],[],[],[],[3],[],[5]] [.z aD,.z aM,.z aD,.z aM,.z aM] hs rfl<|fR [(2,7),(4,9),(6,11)] (fun gd hf=>aay rfl (aaz rfl (AD _ b a.waf a.time gd (aT.mono ((G.bI _).trans hf.le)) hb.size)))<|fR [(0,5),(1,6),(7,12),(7,12)] (fun gd hf=>aat rfl (ba fun _ _=>ba fun v8 h8=>aj (aaz rfl (DG _ v8 b a _ gd (aT.mono ((G.bI _).trans hf.le)) h8 hb (ku hb.size _ _) (cw.mono ((G.bI _).trans hf.le))))))<|gG
 clear hs;intro g6 hs ai;exact aX rfl<|aG (nw rfl hs rfl)
def uZ(b:eL)(w time:Int):List Int:=ng (fQ b w time) (fI b w time)
theorem Am(v:Value)(b:eL)(w time:Int)(g:G)(aT:fV g v b)(hb:Bl b)(cw:jo g):cN prog 12 #[v,vI w,vI time] g fun g' r=>Rs g' r (uZ b w time):=by
 have hs:=St.start g;have ar:=G.le.refl g;obtain⟨sl,rfl,dS⟩:=aT;have aT:fV g (.agg ((List.range 11).map sl).toArray) b:=⟨sl,rfl,dS⟩;refine enter func12 rfl ntmps12 rfl<|cR<|An hs rfl fun b2 g2 hs ai aD=>?_;obtain⟨aT,cw⟩:=cr ai aT cw;refine aX rfl<|az<|rR (l':=[(1,vI w),(2,vI time),(3,vP b2)]) (by(repeat (first|exact trivial|refine⟨rfl,?_⟩))) ?_;apply ea (gU (eF (.f (Fact.rs (fI b w time)):: .f (Zh (fQ b w time) (fI b w time)):: .f (Fact.rs (uZ b w time))::[]))) 9 [(8,15)] (by kernel_rfl)
 ·exact pO [[],[],[],[],[],[]] [.z aD,.z aD] hs rfl<|fR [(3,10),(4,11),(5,12)] (fun gd hf=>aay rfl (aaz rfl (AD _ b w time gd (aT.mono ((G.bI _).trans hf.le)) hb.size)))<|fR [(0,7),(1,8),(2,9),(6,13),(6,13)] (fun gd hf=>aau rfl (ba fun _ _=>ba fun v6 h6=>aj (aaz rfl (EV _ v6 b w time _ gd (aT.mono ((G.bI _).trans hf.le)) h6 hb.text (cw.mono ((G.bI _).trans hf.le))))))<|fR [(7,14),(7,14)] (fun gd hf=>ba fun _ _=>ba fun v7 h7=>aj (aaz rfl (IG v7 _ _ gd h7 (ku hb.size _ _) (hb.Tr _ _))))<|gG
 intro g1 aP;refine ba fun v9 h9=>aj ?_;replace hs:=hs.dr.call aP;have ai:=(G.bI _).trans aP.le;exact aX rfl<|aG (nw rfl hs h9)
end Go.Proofs.YtbfjdfecgiegpaaGreatDoor
namespace Go.Proofs.YtbfjdfecgiegpaaGreatDoor
open Go Go.K Tryz
set_option maxRecDepth 10000
attribute [local irreducible] W WL cS bh bY bB bA bC cL cD
set_option maxHeartbeats 1000000
abbrev rI(v:Value)(xs:List Int):df:=.row 3 1 v xs.length (ec xs)
def oY(g0:G)(v8 v9:Value)(xs ys:List Int)(x y:Int)(ρ:Nat→Option Value)(g:G):Prop:=
 match ρ 4,ρ 9 with
 |none,none=>St g0 g [rI v8 xs,rI v9 ys]
 |some v,none=>(∃a c,v= .slice a (xs.length+1) c)∧St g0 g [rI v (xs++[x]),rI v9 ys]
 |some v,some u=>(∃a c,v= .slice a (xs.length+1) c)∧(∃a c,u= .slice a (ys.length+1) c)∧St g0 g [rI v (xs++[x]),rI u (ys++[y])]
 |none,some _=>False
theorem DH{g0:G}{v8 v9:Value}{xs ys:List Int}{x y:Int}(ρ:Nat→Option Value)(g g':G)(hf:a_ g g')(h:oY g0 v8 v9 xs ys x y ρ g):oY g0 v8 v9 xs ys x y ρ g':=by
 unfold oY at h⊢;split at h
 ·exact h.call hf
 ·exact⟨h.1,h.2.call hf⟩
 ·exact⟨h.1,h.2.1,h.2.2.call hf⟩
 exact h
theorem wg(a:Option Addr)(c:Nat)(xs:List Int)(x:Int):rI (.slice a (xs.length+1) c) (xs++[x])= .row 3 1 (.slice a (xs.length+1) c) (xs.length+1) (ec xs++[vI x]):=by show df.row _ _ _ (xs++[x]).length (ec (xs++[x]))=_;rw[List.length_append];simp[ec]
theorem HT(v:Value)(b:eL)(w time:Int)(g:G)(aT:fV g v b)(hb:Bl b):cN prog 7 #[v,vI w,vI time] g fun g' r=> ∃v1 v2,r= .tuple #[v1,v2]∧Rs g' v1 ((fI b w time).map (·.step))∧Rs g' v2 ((fI b w time).map (·.idn)):=by
 have hs:=((St.start g).eP 3 1 none).eP 3 1 none;have ar:=G.le.refl g;obtain⟨sl,rfl,dS⟩:=aT;have aT:fV g (.agg ((List.range 11).map sl).toArray) b:=⟨sl,rfl,dS⟩;refine enter func7 rfl ntmps7 rfl<|cR<|An hs rfl fun b3 g2 hs ai aD=>?_;obtain⟨ar,aT⟩:=cr ai ar aT;refine aX rfl<|aZ rfl<|az<|sP 3 [.z aD] rfl<|sO rfl (AD _ b w time _ aT hb.size) fun g1 _ aP aH=>?_;replace hs:=hs.call aP;have ai:=aP.le;obtain⟨ar,aD⟩:=cr ai ar aD;have vz:=ku hb.size w time;generalize fI b w time=l at*;obtain⟨a,c,rfl⟩:=aH.isSlice;clear aP;replace hs:St g _ [rI (.slice none 0 0) [],rI (.slice none 0 0) []]:=hs;refine aX rfl<|aI ?_
 refine bK (fun m a' w=> ∃(i:Nat) (a8 a9:Option Addr) (c8 c9:Nat) (g':G),w=g'.w∧St g g' [rI (.slice a8 i c8) ((l.take i).map (·.step)),rI (.slice a9 i c9) ((l.take i).map (·.idn))]∧G.le g g'∧Rs g' (.slice a l.length c) l∧i≤l.length∧m=l.length-i∧
   Fr 34 [] [(8,.slice a8 i c8),(9,.slice a9 i c9),(15,.slice a l.length c),(16,vI (l.length:Nat)),(17,vI (i:Nat))] a') l.length
  (fun a' ha=>⟨0,none,none,0,0,_,rfl,hs,ar,aH,Nat.zero_le _,rfl,ha.kp rfl⟩) ?_
 (repeat clear hs);(repeat clear aH);(repeat clear ar);(repeat clear aD);rintro m a' _ ⟨i,a8,a9,c8,c9,g',rfl,hs,ar,aH,hi,rfl,dW⟩;have h1:((l.take i).map (·.step)).length=i:=by rw[List.length_map,List.length_take];omega
 have h2:((l.take i).map (·.idn)).length=i:=by rw[List.length_map,List.length_take];omega
 revert a';refine ct<|aZ rfl<|az ?_;by_cases bt:i<l.length
 ·refine aJ (b:=decide ((i:Int)<(l.length:Int))) (decide_eq_true (by omega)) rfl ?_;have eH:dJ l (i:Int)=some l[i]:=bZ rfl bt;have e1:(l.take (i+1)).map (·.step)=(l.take i).map (·.step)++[l[i].step]:=by rw[List.take_add_one,List.getElem?_eq_getElem bt,List.map_append];rfl
  have e2:(l.take (i+1)).map (·.idn)=(l.take i).map (·.idn)++[l[i].idn]:=by rw[List.take_add_one,List.getElem?_eq_getElem bt,List.map_append];rfl
  generalize(l.take i).map (·.step)=xs at hs h1 e1;generalize(l.take i).map (·.idn)=ys at hs h2 e2;generalize l[i]=x at eH e1 e2;refine aF<|aq<|az<|aI<|cR<|zc (y:=x) aH eH rfl ?_;rintro b9 q9 Mx aL rfl;have aD:=aL;clear aL;refine q5 1 [.e aD 0] rfl<|w4 hs rfl fun z6 g1 hs ai=>?_;obtain⟨ar,aH⟩:=cr ai ar aH;refine Hs 0 hs rfl fun g2 hs ai aM=>?_;obtain⟨ar,aH⟩:=cr ai ar aH;replace hs:St g _ [rI (.slice a8 i c8) xs,rI (.slice a9 i c9) ys]:=hs;apply b_;apply ny (eF (fe (.f (Fact.rs [x.step]):: .f Fact.any::eF (fe (.f (Fact.rs [x.idn]):: .f Fact.any::[]))))) 10 [(4,25),(9,30)] [4,9] [[],[]] (oY g (.slice a8 i c8) (.slice a9 i c9) xs ys x.step x.idn) DH (by unfold oY;exact hs.dr) (by kernel_rfl) ⟨cz _,dq,cz _,dq,trivial⟩
  ·refine Um [[],[],[1]] [.z aM] (by kernel_rfl) rfl<|bV (cT (js:=[(2,23)]) (by kernel_rfl) rfl fun ρ g8 _ _ hle hJ=>cV rfl (bN (ay rfl (bE T.ok rfl (St.start g8) (vs:=[(0,vI x.step)]) (cells:=[vI x.step]) rfl rfl rfl rfl rfl rfl (by decide) (by decide) (by kernel_rfl) rfl fun b g' lB _=>?_)))) ?_
   ·obtain⟨g2,e1,e2,e3⟩:=lO (α:=Int) lB (xs:=[x.step]) (cY.ints _ [x.step]);exact⟨g2,e1,e2,e3⟩
   refine bV (jc (js:=[(0,21),(3,24)]) (by kernel_rfl) rfl fun ρ g8 _ _ h3 hle hJ=>cV rfl (cW fun v5 h5=>bN ⟨rfl,?_⟩)) ?_
   ·unfold oY at hJ;rw[h3]at hJ;cases h9:ρ 9 with
    |some u=>rw[h9]at hJ;exact hJ.elim
    |none=>
     rw[h9]at hJ;replace h5:Rs g8 v5 [x.step]:=h5;obtain⟨a5,c5,rfl⟩:=h5.isSlice;obtain⟨_,news,hn,iu⟩:=Src.jx h5;obtain rfl:news=[vI x.step]:=by obtain⟨k1,k2,rfl,rfl,rfl⟩:=hn;rfl
     refine bU T.ok 0 rfl hJ rfl rfl rfl rfl rfl rfl rfl (by decide) rfl iu (by simp[Value.oneCell']) (by show((xs).length+1)*8≤_;omega) (by show(xs).length+1≤maxLen;unfold maxLen;omega) fun a' c' g9 Kk Iv=>⟨g9,rfl,⟨Iv,?_⟩,trivial⟩
     have e4:su ρ 4 (.slice a' (xs.length+1) c') 4=some (.slice a' (xs.length+1) c'):=if_pos rfl;have e9:su ρ 4 (.slice a' (xs.length+1) c') 9=none:=(if_neg (by decide)).trans h9;show oY g _ _ xs ys x.step x.idn (su ρ 4 (.slice a' (xs.length+1) c')) g9;unfold oY;rw[e4,e9];refine⟨⟨a',c',rfl⟩,?_⟩;rw[wg];exact Kk
   refine Um [[],[],[6]] [.z aM] (by kernel_rfl) rfl<|bV (cT (js:=[(7,28)]) (by kernel_rfl) rfl fun ρ g8 _ _ hle hJ=>cV rfl (bN (ay rfl (bE T.ok rfl (St.start g8) (vs:=[(0,vI x.idn)]) (cells:=[vI x.idn]) rfl rfl rfl rfl rfl rfl (by decide) (by decide) (by kernel_rfl) rfl fun b g' lB _=>?_)))) ?_
   ·obtain⟨g2,e1,e2,e3⟩:=lO (α:=Int) lB (xs:=[x.idn]) (cY.ints _ [x.idn]);exact⟨g2,e1,e2,e3⟩
   refine bV (jc (js:=[(5,26),(8,29)]) (by kernel_rfl) rfl fun ρ g8 _ Qh h3 hle hJ=>cV rfl (cW fun v5 h5=>bN ⟨rfl,?_⟩)) ?_
   ·unfold oY at hJ;rw[h3]at hJ;cases h4:ρ 4 with
    |none=>exact absurd h4 (Qh 4 rfl (by decide))
    |some u=>
     rw[h4]at hJ;obtain⟨hu,hJ⟩:=hJ;replace h5:Rs g8 v5 [x.idn]:=h5;obtain⟨a5,c5,rfl⟩:=h5.isSlice;obtain⟨_,news,hn,iu⟩:=Src.jx h5;obtain rfl:news=[vI x.idn]:=by obtain⟨k1,k2,rfl,rfl,rfl⟩:=hn;rfl
     refine bU T.ok 1 rfl hJ rfl rfl rfl rfl rfl rfl rfl (by decide) rfl iu (by simp[Value.oneCell']) (by show((ys).length+1)*8≤_;omega) (by show(ys).length+1≤maxLen;unfold maxLen;omega) fun a' c' g9 Kk Iv=>⟨g9,rfl,⟨Iv,?_⟩,trivial⟩
     have e4:su ρ 9 (.slice a' (ys.length+1) c') 4=some u:=(if_neg (by decide)).trans h4;have e9:su ρ 9 (.slice a' (ys.length+1) c') 9=some (.slice a' (ys.length+1) c'):=if_pos rfl;show oY g _ _ xs ys x.step x.idn (su ρ 9 (.slice a' (ys.length+1) c')) g9;unfold oY;rw[e4,e9];refine⟨hu,⟨a',c',rfl⟩,?_⟩;rw[wg];exact Kk
   exact zd
  intro ρ g9 hle hJ dj;refine gk rfl fun v4 _ r4=>gk rfl fun v9 _ r9=>bN ?_;unfold oY at hJ;rw[r4,r9]at hJ;obtain⟨⟨a4,c4,rfl⟩,⟨a5,c5,rfl⟩,hs⟩:=hJ;have ai:=(G.bI _).trans hle;obtain⟨ar,aH⟩:=cr ai ar aH;clear hle dj r4 r9 ρ;refine Wp 2 rfl<|aA<|bJ<|aq<|an<|Wp 2 rfl<|aA<|fun a ha=>⟨l.length-(i+1),by omega,i+1,a4,a5,c4,c5,g9,rfl,?_,ar,aH,by omega,rfl,ha.keep ⟨kV rfl (by rw[h1]),kV rfl (by rw[h2]),rfl,rfl,kW rfl,trivial⟩⟩
  rw[e1,e2];rw[h1,h2]at hs;exact hs
 refine aQ (b:=decide ((i:Int)<(l.length:Int))) (decide_eq_false (by omega)) rfl ?_;obtain rfl:i=l.length:=by omega
 rw[List.take_of_length_le (by omega)]at hs;have hx:rI (.slice a8 l.length c8) (l.map (·.step))= .row 3 1 (.slice a8 l.length c8) (l.map (·.step)).length (ec (l.map (·.step))):=rfl;obtain⟨g7,HA,CW,ai,W1⟩:=hs.cP (α:=Int) (xs:=l.map (·.step)) (i:=0) rfl (cY.ints _ _);obtain⟨g8,KG,tW,mc,W2⟩:=CW.cP (α:=Int) (xs:=l.map (·.idn)) (i:=0) rfl (cY.ints _ _);rw[←HA,←KG];(repeat clear hs);have hs:=tW;clear tW CW;exact bc<|bg<|bg<|cA<|aq<|aZ rfl<|aG (HX rfl rfl rfl (hs.ret ⟨_,_,rfl,W1.mono mc,W2⟩))
theorem IH(x p:bO)(b1:Nat)(g:G)(aD:EP g b1 0 (cB p)):cN prog 25 #[fv x,vP b1] g fun _ r=>r= .bool (x.idn==p.idn):=by have hs:=St.start g;refine enter func25 rfl ntmps25 rfl<|cR<|An hs rfl fun b2 g2 hs ai aM=>?_;replace aD:=aD.mono ai;exact aX rfl<|Hw [.z aM,.z aD] rfl<|aG (nw rfl hs rfl)
def jN(b:eL)(p:bO):gi:=⟨o6 b p.waf p.time,p.step,p.tool,p.cham,p.rcp,p.rvn,p.time⟩
def OU(b:eL)(p:bO):List bO:=(lu b (jN b p).waf).takeWhile fun q=> !(q.idn==p.idn)
def pF(b:eL)(p:bO):Bool:=oU b (jN b p) (OU b p) !=0
def pE(b:eL):List Int:=Lib.compact (iW ((b.procs.filter (pF b)).map (·.idn)))
theorem II{α:Type}{p:α→Bool}: ∀{l:List α},(∀x∈l,p x=false)→l.takeWhile (fun x=> !p x)=l
 |[],_=>rfl
 |x::l,h=>by rw[List.takeWhile_cons,h x (List.mem_cons_self ..)];show x::_=x::_;rw[II fun y hy=>h y (List.mem_cons_of_mem _ hy)]
theorem EX{α:Type}{p:α→Bool}: ∀{l:List α} {k:Nat} (h:k<l.length),p l[k]=true→(∀j (h:j<l.length),j<k→p l[j]=false)→l.takeWhile (fun x=> !p x)=l.take k
 |x::l,0,_,hp,_=>by have hp:p x=true:=hp;rw[List.takeWhile_cons,hp];rfl
 |x::l,k+1,h,hp,de=>by have h0:p x=false:=de 0 (by simp) (by omega);rw[List.takeWhile_cons,h0];show x::_=x::_;rw[EX (k:=k) (by simpa using h) hp fun j hj Ey=>de (j+1) (by simpa using hj) (by omega)]
theorem EE(v:Value)(b:eL)(g:G)(aT:fV g v b)(hb:Bl b)(cw:jo g):cN prog 10 #[v] g fun g' r=>Rs g' r (pE b):=by
 have hs:=(St.start g).eP 3 1 none;have ar:=G.le.refl g;obtain⟨sl,rfl,dS⟩:=aT;have aT:fV g (.agg ((List.range 11).map sl).toArray) b:=⟨sl,rfl,dS⟩;have aH:Rs g (sl 0) b.procs:=dS 0 (by decide);obtain⟨a,c,Ts⟩:=aH.isSlice;have hlen:b.procs.length≤1000000:=hb.size 0;refine enter func10 rfl ntmps10 rfl<|cR<|An hs rfl fun b1 g2 hs ai aD=>?_;obtain⟨ar,aH,aT,cw⟩:=dK ai ar aH aT cw;replace hs:St g _ [rI (.slice none 0 0) []]:=hs;refine aX rfl<|aZ rfl<|az<|sP 2 [.z aD] rfl<|cX (.slice a b.procs.length c) (t:=10) rfl Ts ?_;rw[Ts]at aH;refine aX rfl<|aI ?_
 refine bK (fun m a' w=> ∃(i:Nat) (a3:Option Addr) (c3:Nat) (xs:List Int) (g':G),w=g'.w∧St g g' [rI (.slice a3 xs.length c3) xs]∧G.le g g'∧Rs g' (.slice a b.procs.length c) b.procs∧EP g' b1 0 ((List.range 11).map sl)∧fV g' (.agg ((List.range 11).map sl).toArray) b∧jo g'∧i≤b.procs.length∧((b.procs.take i).filter (pF b)).map (·.idn)=xs∧m=b.procs.length-i∧
   Fr 62 [] [(1,vP b1),(3,.slice a3 xs.length c3),(10,.slice a b.procs.length c),(11,vI (b.procs.length:Nat)),(12,vI (i:Nat))] a') b.procs.length
  (fun a' ha=>⟨0,none,0,[],_,rfl,hs,ar,aH,aD,aT,cw,Nat.zero_le _,rfl,rfl,ha.kp rfl⟩) ?_
 (repeat clear hs);(repeat clear aH);(repeat clear ar);(repeat clear aD);(repeat clear aT);(repeat clear cw);rintro m a' _ ⟨i,a3,c3,xs,g',rfl,hs,ar,aH,aD,aT,cw,hi,nv,rfl,dW⟩;have so:xs.length≤i:=by rw[←nv,List.length_map];exact Nat.le_trans (List.length_filter_le ..) (by rw[List.length_take];omega)
 revert a';refine ct<|aZ rfl<|az ?_;by_cases bt:i<b.procs.length
 ·refine aJ (b:=decide ((i:Int)<(b.procs.length:Int))) (decide_eq_true (by omega)) rfl ?_;have eH:dJ b.procs (i:Int)=some b.procs[i]:=bZ rfl bt;have dP:((b.procs.take (i+1)).filter (pF b)).map (·.idn)=xs++(if pF b b.procs[i]then [b.procs[i].idn]else []):=by rw[List.take_add_one,List.getElem?_eq_getElem bt,List.filter_append,List.map_append,nv];congr 1;rw[Option.toList_some,List.filter_cons];split<;>rfl
  generalize b.procs[i]=x at eH dP;clear nv;refine aF<|aq<|az<|aI<|cR<|zc (y:=x) aH eH rfl ?_;rintro b9 q9 Mx aL rfl;have aM:=aL;clear aL;refine q5 1 [.e aM 0] rfl<|w4 hs rfl fun b5 g1 hs ai=>?_;obtain⟨ar,aD,aM,aH,aT,cw⟩:=hZ ai ar aD aM aH aT cw;refine Hs 0 hs rfl fun g2 hs ai aL=>?_;obtain⟨ar,aD,aM,aH,aT,cw⟩:=hZ ai ar aD aM aH aT cw;(repeat clear aM);have aM:=aL;clear aL;replace hs:St g _ [rI (.slice a3 xs.length c3) xs]:=hs;refine b_<|az ?_;have yH:=hs;apply ea (dn (dn (eF (.e (CV (jN b x)):: .f (OV (G.dr _).w.heap.size [vI 0,vI 0,vI 0,vI 0,vI 0,vI 0,vI 0] 24)::[])))) 20 [(18,34),(19,6)] (by kernel_rfl)
  ·exact pO [[],[],[1],[],[3],[0,2,4],[],[6],[],[8],[],[10],[],[12],[],[14],[],[16]] [.z aD,.z aM,.z aM,.c (Wc 22) fun g' h=>Nn (.agg ((List.range 11).map sl).toArray) b x.waf x.time g' (aT.mono h) hb.size,.z aM,.z aM,.z aM,.z aM,.z aM,.z aM] hs rfl<|fR [(5,21),(7,23),(9,25),(11,27),(13,29),(15,31),(17,33)] (fun gd hf=>aau rfl (aaH rfl (ay rfl (aS T.ok rfl (vs:=[(0,vI (o6 b x.waf x.time)),(1,vI x.step),(2,vI x.tool),(3,vI x.cham),(4,vI x.rcp),(5,vI x.rvn),(6,vI x.time)]) (cells:=nk (jN b x)) rfl rfl rfl rfl [(0,1),(1,1),(2,1),(3,1),(4,1),(5,1),(6,1)] rfl (by kernel_rfl) (aav rfl)))))<|fR [] (fun gd hf=>aj (ay rfl (aN T.ok rfl (St.start gd) rfl rfl fun b g' lB hle=>⟨g',rfl,lB.rh,b,rfl,Nat.le_trans hf.below.size (lB.own 0 _ rfl).1,(lB.own 0 _ rfl).2⟩)))<|gG
  intro g1 aP;refine ah rfl (ba fun v6 h6=>aj ?_);obtain⟨b6,rfl,EY⟩:=h6;(repeat clear hs);have hs:=yH.dr.lr aP EY;have ai:=(G.bI _).trans aP.le;obtain⟨ar,aD,aM,aH,aT,cw⟩:=hZ ai ar aD aM aH aT cw;clear yH EY aP;refine Hs 0 hs rfl fun g2 hs ai cE=>?_;obtain⟨ar,aD,aM,aH,aT,cw⟩:=hZ ai ar aD aM aH aT cw;replace hs:St g _ [rI (.slice a3 xs.length c3) xs]:=hs;refine b_<|sP 3 [.z aD,.z cE] rfl<|sO rfl (IB _ b (jN b x).waf _ aT hb.size) fun g6 _ nY dw=>?_;replace hs:=hs.call nY;have ai:=nY.le;obtain⟨ar,aD,aM,cE,aH,aT⟩:=hZ ai ar aD aM cE aH aT;replace cw:=cw.mono ai;have P5:=nq hb.size (jN b x).waf;have No:pF b x=(oU b (jN b x) ((lu b (jN b x).waf).takeWhile fun q=> !(q.idn==x.idn)) !=0):=rfl;generalize lu b (jN b x).waf=hm at dw P5 No;obtain⟨a7,c7,rfl⟩:=dw.isSlice;refine aX rfl<|az<|cG 2 rfl ?_;clear nY;refine sO rfl (xi _ _ hm (fun q=>q.idn==x.idn) _ dw (fun g' y _ h=>dy (first:=#[]) (args:=[fv y]) (captured:=#[vP b5]) (Wc 25) rfl (IH y x b5 g' (aM.mono h)))) ?_;rintro g1 _ aP rfl;replace hs:=hs.call aP;have ai:=aP.le;obtain⟨ar,aD,aM,cE,aH,dw⟩:=hZ ai ar aD aM cE aH dw;obtain⟨aT,cw⟩:=cr ai aT cw;clear aP;refine aX rfl<|aZ rfl ?_;rcases oc (fun q:bO=>q.idn==x.idn) hm with⟨w6,de⟩|⟨k,hk,w6,AB,de⟩
  ·rw[II de]at No;refine aQ (b:=decide (0≤mT (fun q:bO=>q.idn==x.idn) hm)) (by rw[w6];rfl) rfl<|aF<|aq<|sP 3 [.z aD,.z cE] rfl<|sO rfl (DG _ _ b (jN b x) (hm) _ aT dw hb P5 cw) ?_;rintro g8 _ IC rfl;replace hs:=hs.call IC;have ai:=IC.le;obtain⟨ar,aD,aM,cE,aH,dw⟩:=hZ ai ar aD aM cE aH dw;obtain⟨aT,cw⟩:=cr ai aT cw;refine aX rfl ?_;rw[No]at dP;cases hz:(oU b (jN b x) (hm) !=0)with
   |false=>
    rw[hz]at dP;exact aar rfl<|aF<|bJ<|aq<|an<|Wp 2 rfl<|aA<|fun a ha=>⟨b.procs.length-(i+1),by omega,i+1,a3,c3,xs,_,rfl,hs,ar,aH,aD,aT,cw,by omega,by rw[dP];exact List.append_nil _,rfl,ha.keep ⟨rfl,rfl,rfl,rfl,kW rfl,trivial⟩⟩
   |true=>
    rw[hz]at dP;refine aas rfl<|an<|q5 3 [.z aM] rfl<|BP [(0,vI x.idn)] [vI x.idn] hs rfl rfl fun P2 g9 hs ai=>?_;obtain⟨ar,aD,aM,cE,aH,dw⟩:=hZ ai ar aD aM cE aH dw;obtain⟨aT,cw⟩:=cr ai aT cw;refine ak rfl rfl<|bU T.ok 1 rfl hs rfl rfl rfl rfl rfl rfl rfl (by decide) rfl (Src.eI (hs.own 0 _ rfl).1).2 (by simp[Value.oneCell']) (by show(xs.length+1)*8≤_;omega) (by show xs.length+1≤maxLen;unfold maxLen;omega) fun a6 c6 g10 hs ai=>?_;obtain⟨ar,aD,aM,cE,aH,dw⟩:=hZ ai ar aD aM cE aH dw;obtain⟨aT,cw⟩:=cr ai aT cw;replace hs:St g g10 [rI (.slice a6 (xs.length+1) c6) (xs++[x.idn])]:=by rw[wg];exact hs.drop 0
    exact Wp 1 rfl<|aA<|bJ<|aq<|an<|Wp 2 rfl<|aA<|fun a ha=>⟨b.procs.length-(i+1),by omega,i+1,a6,c6,xs++[x.idn],_,rfl,by rw[show(xs++[x.idn]).length=xs.length+1 from by simp];exact hs,ar,aH,aD,aT,cw,by omega,dP,rfl,ha.keep ⟨rfl,kV rfl (by simp),rfl,rfl,kW rfl,trivial⟩⟩
  rw[EX hk AB de]at No;refine aJ (b:=decide (0≤mT (fun q:bO=>q.idn==x.idn) hm)) (by rw[w6];simp) rfl ?_;rw[w6];refine an<|Wp 2 rfl ?_;obtain⟨_,P6,Na⟩:=dw.mM;refine ak rfl rfl<|gV T.ok rfl rfl rfl rfl rfl (a:=0) (b:=k) rfl ⟨_,rfl⟩ (by omega) (by omega) ?_;replace dw:=dw.cut (a:=0) (b:=k) (by omega) (by omega);rw[List.drop_zero]at dw;refine aX rfl<|sP 3 [.z aD,.z cE] rfl<|sO rfl (DG _ _ b (jN b x) (hm.take k) _ aT dw hb (by rw[List.length_take];omega) cw) ?_;rintro g8 _ IC rfl;replace hs:=hs.call IC;have ai:=IC.le;obtain⟨ar,aD,aM,aH,aT,cw⟩:=hZ ai ar aD aM aH aT cw;refine aX rfl ?_;rw[No]at dP;cases hz:(oU b (jN b x) (hm.take k) !=0)with
  |false=>
   rw[hz]at dP;exact aar rfl<|aF<|bJ<|aq<|an<|Wp 2 rfl<|aA<|fun a ha=>⟨b.procs.length-(i+1),by omega,i+1,a3,c3,xs,_,rfl,hs,ar,aH,aD,aT,cw,by omega,by rw[dP];exact List.append_nil _,rfl,ha.keep ⟨rfl,rfl,rfl,rfl,kW rfl,trivial⟩⟩
  |true=>
   rw[hz]at dP;refine aas rfl<|an<|q5 3 [.z aM] rfl<|BP [(0,vI x.idn)] [vI x.idn] hs rfl rfl fun P2 g9 hs ai=>?_;obtain⟨ar,aD,aH,aT,cw⟩:=nX ai ar aD aH aT cw;refine ak rfl rfl<|bU T.ok 1 rfl hs rfl rfl rfl rfl rfl rfl rfl (by decide) rfl (Src.eI (hs.own 0 _ rfl).1).2 (by simp[Value.oneCell']) (by show(xs.length+1)*8≤_;omega) (by show xs.length+1≤maxLen;unfold maxLen;omega) fun a6 c6 g10 hs ai=>?_;obtain⟨ar,aD,aH,aT,cw⟩:=nX ai ar aD aH aT cw;replace hs:St g g10 [rI (.slice a6 (xs.length+1) c6) (xs++[x.idn])]:=by rw[wg];exact hs.drop 0
   exact Wp 1 rfl<|aA<|bJ<|aq<|an<|Wp 2 rfl<|aA<|fun a ha=>⟨b.procs.length-(i+1),by omega,i+1,a6,c6,xs++[x.idn],_,rfl,by rw[show(xs++[x.idn]).length=xs.length+1 from by simp];exact hs,ar,aH,aD,aT,cw,by omega,dP,rfl,ha.keep ⟨rfl,kV rfl (by simp),rfl,rfl,kW rfl,trivial⟩⟩
 refine aQ (b:=decide ((i:Int)<(b.procs.length:Int))) (decide_eq_false (by omega)) rfl ?_;rw[List.take_of_length_le (by omega)]at nv;refine bc<|bg<|bg<|cA<|aq<|cG 1 rfl<|Dj rfl (DE (zs:=xs) (by omega) hs) ?_;(repeat clear hs);rintro g11 _ ai ⟨rfl,hs⟩;refine b_<|cG 1 rfl<|Dj rfl (qI (zs:=iW xs) hs) ?_;(repeat clear hs);rintro g12 _ ai ⟨rfl,hs⟩;obtain⟨g13,sZ,s7,ai,sy⟩:=hs.cP (α:=Int) (i:=0) rfl (cY.ints _ _);rw[←sZ];(repeat clear hs);have hs:=s7;clear s7;clear sZ;refine aX rfl<|aG<|nw rfl hs ?_;unfold pE;rw[nv];exact sy
end Go.Proofs.YtbfjdfecgiegpaaGreatDoor
namespace Go.K
open Go Go.RowKit
variable {F:Fence} {P:Program} {N:Nat} {ds:List Deferred} {l l':Env} {a:Act} {w:World} {Q:Exit→Act→World→Prop} {ops:Array Oper} {os:List Oper} {o:Oper}
variable {g0 g:G} {L L':List df} {K:Value→World→Prop} {R:Ending→World→Prop}
theorem cY.iM{news:List Value}: ∀{ys:List Int},cY g news ys→ ∀u∈news,u.oneCell'=true:=by
 intro ys
 induction ys generalizing news with
 |nil=>intro h;obtain rfl:news=[]:=h;intro u hu;cases hu
 |cons y ys ih=>
  intro h;obtain⟨k1,k2,rfl,h1,h2⟩:=h;obtain rfl:k1=[vI y]:=h1;intro u hu;rcases List.mem_append.1 hu with hu|hu
  ·obtain rfl:=List.mem_singleton.1 hu;rfl
  exact ih h2 u hu
theorem mD{α:Type}[El α]{tb:Tb}(dE:tb.ok P){t e:Nat}{ti ei:TI}{s x:Operand}{ad Pn:Option Addr}{n m c2:Nat}{xs ys:List α}
  (ho:o.op= .call {callee:=.builtin .append,args:=#[s,x],argTypes:=#[t,t]}) (hv:ev l s=some (.slice ad n n)) (hx:ev l x=some (.slice Pn m c2)) (h1:Rs g (.slice ad n n) xs) (h2:Rs g (.slice Pn m c2) ys)
  (hc: ∀news,cY g news ys→ ∀u∈news,u.oneCell'=true) (hi:tl tb t=some ti) (hd:ti.desc= .slice e) (hj:tl tb e=some ei) (hk:ei.size=El.k α) (hz:ei.zero.cells.size=El.k α) (hb:(n+m)*ei.bytes≤140737488355328) (EJ:n+m≤maxLen)
  (kk: ∀v g',a_ g g'→Rs g' v (xs++ys)→K v g'.w):cS F P N ds o l g.w Q K:=by
 obtain⟨j_,Po,uy,tK⟩:=Src.jx h1;obtain⟨BY,news,Bq,aV⟩:=Src.jx h2;by_cases hn:n=0
 ·subst hn;obtain rfl:xs=[]:=List.eq_nil_of_length_eq_zero j_.symm;refine bU dE 0 ho ((St.start g).eP e (El.k α) ad) rfl hv hx hi hd hj hk (El.pos (α:=α)) hz aV (hc news Bq) hb EJ fun a' c' g' hs hle=>?_;obtain⟨g2,bS,AW,_,sy⟩:=hs.cP (i:=0) rfl (xs:=ys) (by simpa using Bq.mono hle);have h:=kk _ g2 AW.rh sy;rw[bS]at h;exact h
 by_cases hm:m=0
 ·subst hm;obtain rfl:ys=[]:=List.eq_nil_of_length_eq_zero BY.symm;obtain⟨b1,p1,rfl,P6⟩:=tK.2.resolve_left hn;obtain⟨⟨dd,Ez,he⟩,_⟩:=dE.at hi;rw[hd]at he;obtain rfl:=KD.of_slice he;obtain⟨_,inf,e1,e2,e3,e4⟩:=dE.at hj;have EB:(Builtin.firstCells inf.size 0 (.slice Pn 0 c2)).run P g.w= .ok #[] g.w:=by cases Pn<;>simp[Builtin.firstCells,loadCells,loadCellsFrom]
  refine fZ ho (w':=g.w) (v:=.slice (some ⟨b1,p1,none⟩) n n) (fun a ha=>?_) (kk _ g (a_.refl g) (by rw[List.append_nil];exact h1));simp[resolve,invoke,builtin,ha.ev hv,ha.ev hx,Builtin.append_,run_underlying Ez,sizeOf,typeInfo,e1,Builtin.lenOf,EB,storeCells]
 exact Ct dE ho hv hx h1 h2 hn hm hi hd hj hk hz hb EJ kk
theorem zr{tb:Tb}(dE:tb.ok P){t e:Nat}{ti ei:TI}{x z u:Operand}{ad:Option Addr}{n c b m:Nat}{k2 k3:IntKind}(ho:o.op= .slice t x none (some z) (some u))(hi:tl tb t=some ti)(hd:ti.desc= .slice e)(hj:tl tb e=some ei)
  (hx:ev l x=some (.slice ad n c)) (hz:ev l z=some (.int k2 (b:Int))) (hu:ev l u=some (.int k3 (m:Int))) (h2:b≤m) (h3:m≤c)
  (k:K (.slice ad b m) w):cS F P N ds o l w Q K:=by
 obtain⟨⟨dd,Va,he⟩,_⟩:=dE.at hi;rw[hd]at he;obtain rfl:=KD.of_slice he;obtain⟨_,inf,e1,e2,_⟩:=dE.at hj;refine bX (fun c=>⟨by rw[ho];simp,by rw[ho];simp⟩) (fun ac ha=>?_) k;have MH: ∀d:Addr,d.add 0=d:=fun d=>by cases d;simp[Addr.add]
 cases ad<;>simp[execOp,ho,ha.ev hx,ha.ev hz,ha.ev hu,Instr.sliceAt,run_underlying Va,Instr.slice,Instr.sliceBounds,Instr.sliceBound,asIntOf,sizeOf,typeInfo,e1,h2,h3,MH]
theorem Rs.full{α:Type}[El α]{ad:Option Addr}{n c k:Nat}{xs:List α}(h:Rs g (.slice ad n c) xs)(hk:k≤n):Rs g (.slice ad k k) (xs.take k):=by
 obtain⟨hn,pU,tJ⟩:=h.mM;by_cases h0:k=0
 ·subst h0;exact⟨_,_,_,rfl,rfl,⟨Nat.le_refl _,Nat.zero_le _⟩,.inl rfl⟩
 have hp:0<n:=by omega
 obtain⟨a,n',c',e,_,_,hr⟩:=h;obtain⟨rfl,rfl,rfl⟩:=Value.slice.inj e;obtain⟨b,p,_,rfl,_⟩:=hr.resolve_left (by omega);have hb:=Rs.part (a:=0) (m:=k) (c':=k) ⟨_,_,_,rfl,hn,⟨pU,tJ⟩,hr⟩ (by omega) (by omega) (Nat.le_refl _) (by omega);rwa [Nat.zero_mul,Nat.add_zero,List.drop_zero]at hb
end Go.K
namespace Go.Proofs.YtbfjdfecgiegpaaGreatDoor
open Go Go.K Tryz
set_option maxRecDepth 10000
attribute [local irreducible] W WL cS bh bY bB bA bC cL cD
set_option maxHeartbeats 1000000
theorem Dd(v:Value)(l:List Int)(n:Int)(g:G)(aH:Rs g v l):cN prog 79 #[v,vI n] g fun _ r=>r= .bool (l.contains n):=by
 have hs:=St.start g;obtain⟨a,c,rfl⟩:=aH.isSlice;have hlen:=aH.ef;unfold maxLen at hlen;refine enter func79 rfl ntmps79 rfl<|aZ rfl<|az<|aZ rfl<|aI ?_
 refine bK (fun m a' w=> ∃(i:Nat),w=g.w∧i≤l.length∧(l.take i).contains n=false∧m=l.length-i∧
   Fr 18 [] [(0,.slice a l.length c),(1,vI n),(5,vI (i:Nat))] a') l.length
  (fun a' ha=>⟨0,rfl,Nat.zero_le _,by simp,rfl,ha.kp rfl⟩) ?_
 rintro m a' _ ⟨i,rfl,hi,de,rfl,dW⟩;revert a';refine ct<|az<|aZ rfl ?_;by_cases bt:i<l.length
 ·refine aJ (b:=decide ((i:Int)<(l.length:Int))) (decide_eq_true (by omega)) rfl ?_;have eH:dJ l (i:Int)=some l[i]:=bZ rfl bt;have dP:l.take (i+1)=l.take i++[l[i]]:=by rw[List.take_add_one,List.getElem?_eq_getElem bt];rfl
  have kP:l[i]∈l:=List.getElem_mem bt;generalize l[i]=x at*;refine aF<|aq<|az<|aI<|cG 2 rfl<|zc (y:=x) aH eH rfl fun b p ys aL gw=>?_;obtain rfl:ys=[vI x]:=gw;have aD:=aL;refine KY [.e aD 0] rfl ?_;by_cases hx:x=n
  ·subst hx;exact aJ (b:=x==x) (by simp) rfl<|aZ rfl<|aG (nw rfl hs (by simp[kP]))
  exact aQ (b:=x==n) (by simp[hx]) rfl<|aF<|bJ<|aq<|an<|Wp 3 rfl<|aA<|fun a ha=>⟨l.length-(i+1),by omega,i+1,rfl,by omega,by rw[dP];simp at de⊢;exact⟨de,fun h=>hx h.symm⟩,rfl,ha.keep ⟨rfl,rfl,kW rfl,trivial⟩⟩
 refine aQ (b:=decide ((i:Int)<(l.length:Int))) (decide_eq_false (by omega)) rfl ?_;rw[List.take_of_length_le (by omega)]at de;exact bc<|bg<|bg<|cA<|aq<|aZ rfl<|aG (nw rfl hs (by rw[de]))
theorem N_(v:Value)(l:List Int)(n:Int)(g:G)(aH:Rs g v l):cN prog 259 #[v,vI n] g fun _ r=>r= .bool (l.contains n):=by
 have hs:=St.start g;obtain⟨a,c,rfl⟩:=aH.isSlice;have hlen:=aH.ef;unfold maxLen at hlen;refine enter func259 rfl ntmps259 rfl<|aZ rfl<|az<|aZ rfl<|aI ?_
 refine bK (fun m a' w=> ∃(i:Nat),w=g.w∧i≤l.length∧(l.take i).contains n=false∧m=l.length-i∧
   Fr 18 [] [(0,.slice a l.length c),(1,vI n),(5,vI (i:Nat))] a') l.length
  (fun a' ha=>⟨0,rfl,Nat.zero_le _,by simp,rfl,ha.kp rfl⟩) ?_
 rintro m a' _ ⟨i,rfl,hi,de,rfl,dW⟩;revert a';refine ct<|az<|aZ rfl ?_;by_cases bt:i<l.length
 ·refine aJ (b:=decide ((i:Int)<(l.length:Int))) (decide_eq_true (by omega)) rfl ?_;have eH:dJ l (i:Int)=some l[i]:=bZ rfl bt;have dP:l.take (i+1)=l.take i++[l[i]]:=by rw[List.take_add_one,List.getElem?_eq_getElem bt];rfl
  have kP:l[i]∈l:=List.getElem_mem bt;generalize l[i]=x at*;refine aF<|aq<|az<|aI<|cG 2 rfl<|zc (y:=x) aH eH rfl fun b p ys aL gw=>?_;obtain rfl:ys=[vI x]:=gw;have aD:=aL;refine KY [.e aD 0] rfl ?_;by_cases hx:x=n
  ·subst hx;exact aJ (b:=x==x) (by simp) rfl<|aZ rfl<|aG (nw rfl hs (by simp[kP]))
  exact aQ (b:=x==n) (by simp[hx]) rfl<|aF<|bJ<|aq<|an<|Wp 3 rfl<|aA<|fun a ha=>⟨l.length-(i+1),by omega,i+1,rfl,by omega,by rw[dP];simp at de⊢;exact⟨de,fun h=>hx h.symm⟩,rfl,ha.keep ⟨rfl,rfl,kW rfl,trivial⟩⟩
 refine aQ (b:=decide ((i:Int)<(l.length:Int))) (decide_eq_false (by omega)) rfl ?_;rw[List.take_of_length_le (by omega)]at de;exact bc<|bg<|bg<|cA<|aq<|aZ rfl<|aG (nw rfl hs (by rw[de]))
def putAt(l:List Int)(n:Int):Nat:=(l.takeWhile fun x=>decide (x<n)).length
theorem pG{l:List Int}{n:Int}{k:Nat}(hk:k≤l.length)(h: ∀j (h:j<l.length),j<k→l[j]<n)(he: ∀h:k<l.length,¬l[k]<n):putAt l n=k:=by
 induction l generalizing k with
 |nil=>simp at hk;subst hk;rfl
 |cons x l ih=>
  unfold putAt;rw[List.takeWhile_cons];cases k with
  |zero=>rw[if_neg (by rw[decide_eq_true_eq];exact he (by simp))];rfl
  |succ k=>
   rw[if_pos (decide_eq_true (show x<n from h 0 (by simp) (by omega)))];exact congrArg (· +1) (ih (by simpa using hk) (fun j hj Ey=>h (j+1) (by simpa using hj) (by omega)) (fun hh=>he (by simpa using hh)))
def jL(l:List Int)(n:Int):List Int:=if l[putAt l n]? =some n then l else l.take (putAt l n)++n::l.drop (putAt l n)
def Tz(n:Int):Fact:=⟨fun v g=> ∃b,v= .slice (vA b) 1 1∧Rs g v [n],fun _ _ _ hf ⟨b,e,h⟩=>⟨b,e,h.mono hf.le⟩⟩
theorem Mz(v:Value)(l:List Int)(n:Int)(g:G)(aH:Rs g v l)(hl:l.length≤1000000):cN prog 32 #[v,vI n] g fun g' r=>Rs g' r (jL l n):=by
 have hs:=St.start g;obtain⟨a,c,rfl⟩:=aH.isSlice;have IS:=aH.mM;refine enter func32 rfl ntmps32 rfl<|aZ rfl<|aZ rfl<|az<|aI ?_
 refine bK (fun m a' w=> ∃(k:Nat),w=g.w∧k≤l.length∧(∀j (h:j<l.length),j<k→l[j]<n)∧m=l.length-k∧
   Fr 44 [] [(0,.slice a l.length c),(1,vI n),(5,vI (k:Nat))] a') l.length
  (fun a' ha=>⟨0,rfl,Nat.zero_le _,fun j h hj=>absurd hj (Nat.not_lt_zero _),rfl,ha.kp rfl⟩) ?_
 rintro m a' _ ⟨k,rfl,hk,de,rfl,dW⟩;revert a';refine ct<|az<|cG 5 rfl ?_;cases h1:decide ((k:Int)<(l.length:Int))with
 |false=>
  have jG: ¬k<l.length:=by have:=of_decide_eq_false h1;omega
  refine aX rfl<|aar rfl<|bc<|bg<|bg<|cA<|aq<|az<|cG 5 rfl ?_;rw[h1];refine aX rfl<|aar rfl<|aF<|aq<|az ?_;apply ea (eF (fe (.e (.slice a k k)::fe (.f (Tz n)::eF (.f (Fact.rs (l.drop k)):: .f (Fact.rs ([n]++l.drop k)):: .f (Fact.rs (l.take k++([n]++l.drop k)))::[]))))) 11 [(10,43)] (by kernel_rfl)
  ·refine pO [[],[],[]] [] hs rfl<|fR [(0,33),(1,34),(2,35)] (fun gd hf=>aay rfl (ay rfl (zr T.ok rfl rfl rfl rfl rfl rfl rfl (Nat.le_refl _) (by omega) (aav rfl))))<|pO [[]] [] hs rfl<|fR [(4,37)] (fun gd hf=>aax rfl (ay rfl (bE T.ok rfl (St.start gd) (vs:=[(0,vI n)]) (cells:=[vI n]) rfl rfl rfl rfl rfl rfl (by decide) (by decide) (by kernel_rfl) rfl fun b g' lB _=>?_))) ?_
   ·obtain⟨g2,e1,e2,e3⟩:=lO (α:=Int) lB (xs:=[n]) (cY.ints _ [n]);exact⟨g2,e1,e2,b,rfl,e3⟩
   refine pO [[],[]] [] hs rfl<|fR [(6,39),(7,40)] (fun gd hf=>aaw rfl (ay rfl (gV T.ok rfl rfl rfl rfl rfl (a:=k) (b:=l.length) ⟨_,rfl⟩ rfl (by omega) (by omega) ⟨gd,rfl,a_.refl _,?_⟩))) ?_
   ·have h:=(aH.mono ((G.bI _).trans hf.le)).cut (a:=k) (b:=l.length) (by omega) (Nat.le_refl _);rwa [List.take_length]at h
   refine fR [(5,38),(8,41)] (fun gd hf=>ba fun v5 h5=>ba fun v8 h8=>aj (ay rfl ?_)) ?_
   ·obtain⟨b5,rfl,h5⟩:=h5;replace h8:Rs gd v8 (l.drop k):=h8;obtain⟨a8,c8,rfl⟩:=h8.isSlice;have hd:(l.drop k).length≤2000000:=by rw[List.length_drop];omega
    exact mD T.ok rfl rfl rfl h5 h8 (fun _ h=>h.iM) rfl rfl rfl rfl rfl (by show(1+(l.drop k).length)*8≤_;omega) (by unfold maxLen;omega) fun v g' hf h=>⟨g',rfl,hf,h⟩
   refine fR [(3,36),(9,42),(9,42)] (fun gd hf=>ah rfl (ba fun _ _=>ba fun v9 h9=>aj (ay rfl ?_))) ?_
   ·replace h9:Rs gd v9 ([n]++l.drop k):=h9;obtain⟨a9,c9,rfl⟩:=h9.isSlice;have hd:([n]++l.drop k).length≤2000001:=by rw[List.length_append,List.length_drop];show 1+_≤_;omega
    exact mD T.ok rfl rfl rfl ((aH.mono ((G.bI _).trans hf.le)).full (by omega)) h9 (fun _ h=>h.iM) rfl rfl rfl rfl rfl (by show(k+_)*8≤_;omega) (by unfold maxLen;omega) fun v g' hf h=>⟨g',rfl,hf,h⟩
   exact gG
  intro g1 aP;refine ba fun v10 vG=>aj ?_
  (repeat clear hs);have hs:=(St.start g).dr.call aP;refine aX rfl<|aG<|nw rfl hs ?_;unfold jL;rw[pG (k:=k) (by omega) de (fun h=>absurd h jG),if_neg (by rw[List.getElem?_eq_none (by omega)];simp)];exact vG
 |true=>
  have jG:k<l.length:=by have:=of_decide_eq_true h1;omega
  have eH:dJ l (k:Int)=some l[k]:=bZ rfl jG;have lh:l[k]? =some l[k]:=List.getElem?_eq_getElem jG;refine Wp 2 rfl<|zc (y:=l[k]) aH eH rfl fun b p ys aL gw=>?_;obtain rfl:ys=[vI l[k]]:=gw;have aD:=aL;refine KY [.e aD 0] rfl ?_;by_cases hx:l[k]<n
  ·refine aJ (b:=decide (l[k]<n)) (decide_eq_true hx) rfl<|aF<|aq<|aI<|an<|Wp 3 rfl<|aA<|bJ<|fun a ha=>⟨l.length-(k+1),by omega,k+1,rfl,by omega,fun j h hj=>?_,rfl,ha.keep ⟨rfl,rfl,kW rfl,trivial⟩⟩
   by_cases e:j=k
   ·subst e;exact hx
   exact de j h (by omega)
  refine aQ (b:=decide (l[k]<n)) (decide_eq_false hx) rfl ?_;clear aD;refine bc<|bg<|bg<|cA<|aq<|az<|cG 5 rfl ?_;rw[h1];refine Wp 2 rfl<|zc (y:=l[k]) aH eH rfl fun b p ys aL gw=>?_;obtain rfl:ys=[vI l[k]]:=gw;have aD:=aL;refine KY [.e aD 0] rfl ?_;by_cases he:l[k]=n
  ·refine aJ (b:=l[k]==n) (by simp[he]) rfl<|aZ rfl<|aG<|nw rfl hs ?_;unfold jL;rw[pG (k:=k) hk de fun _=>hx,if_pos (by rw[lh,he])];exact aH
  refine aQ (b:=l[k]==n) (by simp[he]) rfl<|aF<|aq<|az ?_;apply ea (eF (fe (.e (.slice a k k)::fe (.f (Tz n)::eF (.f (Fact.rs (l.drop k)):: .f (Fact.rs ([n]++l.drop k)):: .f (Fact.rs (l.take k++([n]++l.drop k)))::[]))))) 11 [(10,43)] (by kernel_rfl)
  ·refine pO [[],[],[]] [] hs rfl<|fR [(0,33),(1,34),(2,35)] (fun gd hf=>aay rfl (ay rfl (zr T.ok rfl rfl rfl rfl rfl rfl rfl (Nat.le_refl _) (by omega) (aav rfl))))<|pO [[]] [] hs rfl<|fR [(4,37)] (fun gd hf=>aax rfl (ay rfl (bE T.ok rfl (St.start gd) (vs:=[(0,vI n)]) (cells:=[vI n]) rfl rfl rfl rfl rfl rfl (by decide) (by decide) (by kernel_rfl) rfl fun b g' lB _=>?_))) ?_
   ·obtain⟨g2,e1,e2,e3⟩:=lO (α:=Int) lB (xs:=[n]) (cY.ints _ [n]);exact⟨g2,e1,e2,b,rfl,e3⟩
   refine pO [[],[]] [] hs rfl<|fR [(6,39),(7,40)] (fun gd hf=>aaw rfl (ay rfl (gV T.ok rfl rfl rfl rfl rfl (a:=k) (b:=l.length) ⟨_,rfl⟩ rfl (by omega) (by omega) ⟨gd,rfl,a_.refl _,?_⟩))) ?_
   ·have h:=(aH.mono ((G.bI _).trans hf.le)).cut (a:=k) (b:=l.length) (by omega) (Nat.le_refl _);rwa [List.take_length]at h
   refine fR [(5,38),(8,41)] (fun gd hf=>ba fun v5 h5=>ba fun v8 h8=>aj (ay rfl ?_)) ?_
   ·obtain⟨b5,rfl,h5⟩:=h5;replace h8:Rs gd v8 (l.drop k):=h8;obtain⟨a8,c8,rfl⟩:=h8.isSlice;have hd:(l.drop k).length≤2000000:=by rw[List.length_drop];omega
    exact mD T.ok rfl rfl rfl h5 h8 (fun _ h=>h.iM) rfl rfl rfl rfl rfl (by show(1+(l.drop k).length)*8≤_;omega) (by unfold maxLen;omega) fun v g' hf h=>⟨g',rfl,hf,h⟩
   refine fR [(3,36),(9,42),(9,42)] (fun gd hf=>ah rfl (ba fun _ _=>ba fun v9 h9=>aj (ay rfl ?_))) ?_
   ·replace h9:Rs gd v9 ([n]++l.drop k):=h9;obtain⟨a9,c9,rfl⟩:=h9.isSlice;have hd:([n]++l.drop k).length≤2000001:=by rw[List.length_append,List.length_drop];show 1+_≤_;omega
    exact mD T.ok rfl rfl rfl ((aH.mono ((G.bI _).trans hf.le)).full (by omega)) h9 (fun _ h=>h.iM) rfl rfl rfl rfl rfl (by show(k+_)*8≤_;omega) (by unfold maxLen;omega) fun v g' hf h=>⟨g',rfl,hf,h⟩
   exact gG
  intro g1 aP;refine ba fun v10 vG=>aj ?_
  (repeat clear hs);have hs:=(St.start g).dr.call aP;refine aX rfl<|aG<|nw rfl hs ?_;unfold jL;rw[pG (k:=k) (by omega) de (fun _=>hx),if_neg (by rw[lh];simpa using he)];exact vG
end Go.Proofs.YtbfjdfecgiegpaaGreatDoor
namespace Go.Proofs.YtbfjdfecgiegpaaGreatDoor
open Go Go.K Tryz
set_option maxRecDepth 10000
attribute [local irreducible] W WL cS bh bY bB bA bC cL cD
set_option maxHeartbeats 1000000
theorem LD(v u:Value)(f:bG)(s:Step)(h:List bO)(n:Int)(g:G)(dt:fP g v f)(bR:Rs g u h)(dI:dJ f.steps n=some s)(hl:h.length≤1000000):cN prog 93 #[v,u,vI n] g fun _ r=>r=vI (vy (some f) h n):=by
 have hs:=St.start g;have ar:=G.le.refl g;have Zj:vy (some f) h n=((if s.next.contains s.back then 0 else((List.range (h.length-1)).filter (Km h n s.back)).length:Nat):Int):=by unfold vy;rw[show gP (some f) n=some s from dI];show(if s.next.contains s.back=true then(0:Int)else _)=_;cases s.next.contains s.back<;>rfl
 rw[Zj];clear Zj;obtain⟨a3,c3,rfl⟩:=bR.isSlice;obtain⟨a1,n1,c1,a2,n2,c2,rfl,aW,cd⟩:=dt;clear cd;obtain⟨_,_,e⟩:=aW.isSlice;obtain⟨rfl,rfl,rfl⟩:=Value.slice.inj e;clear e;refine enter func93 rfl ntmps93 rfl<|cR<|An hs rfl fun b2 g2 hs ai aD=>?_;obtain⟨ar,aW,bR⟩:=dR ai ar aW bR;refine aX rfl<|aZ rfl<|az<|aZ rfl<|aI ?_
 refine bK (fun m a' w=> ∃(k q:Nat) (g':G),w=g'.w∧St g g' []∧G.le g g'∧Rs g' (.slice a1 f.steps.length c1) f.steps∧Rs g' (.slice a3 h.length c3) h∧EP g' b2 0 [vI f.dm,vI f.dv,.slice a1 f.steps.length c1,.slice a2 n2 c2]∧(k+1≤h.length∨k=0)∧(if s.next.contains s.back then 0 else((List.range k).filter (Km h n s.back)).length)=q∧m=h.length-k∧
   Fr 50 [] [(1,.slice a3 h.length c3),(2,vI n),(3,vP b2),(7,vI (q:Nat)),(8,vI (k+1:Nat))] a') h.length
  (fun a' ha=>⟨0,0,_,rfl,hs,ar,aW,bR,aD,.inr rfl,by simp,rfl,ha.kp rfl⟩) ?_
 (repeat clear hs);(repeat clear bR);(repeat clear ar);(repeat clear aD);(repeat clear aW);rintro m a' _ ⟨k,q,g',rfl,hs,ar,aW,bR,aD,hk,hq,rfl,dW⟩
 have Q3:q≤k:=by
  rw[←hq];split
  ·exact Nat.zero_le _
  exact Nat.le_trans (List.length_filter_le ..) (by rw[List.length_range];omega)
 revert a';refine ct<|az<|aZ rfl ?_;by_cases bt:k+1<h.length
 ·refine aJ (b:=decide (((k+1:Nat):Int)<(h.length:Int))) (by simp;omega) rfl ?_;obtain⟨b0,p0,ys,rfl,yw,hx⟩:=bR.at (i:=k) (List.getElem?_eq_getElem (by omega));obtain⟨WX,WY,Mx,e,G_,hy⟩:=bR.at (i:=k+1) (List.getElem?_eq_getElem bt);obtain⟨rfl,rfl⟩:b0=WX∧p0=WY:=by simpa using e
  clear e;have j_:(if s.next.contains s.back then 0 else((List.range (k+1)).filter (Km h n s.back)).length)=q+(if h[k].step==n&&(h[k+1].step==s.back&& !s.next.contains s.back)then 1 else 0):=by
   rw[←hq];cases s.next.contains s.back with
   |true=>simp
   |false=>
    rw[if_neg (by simp),if_neg (by simp),List.range_succ,List.filter_append,List.length_append,Bool.not_false,Bool.and_true];congr 1;have e:Km h n s.back k=(h[k].step==n&&h[k+1].step==s.back):=by unfold Km;rw[List.getD_eq_getElem?_getD,List.getD_eq_getElem?_getD,List.getElem?_eq_getElem (by omega),List.getElem?_eq_getElem bt];rfl
    rw[List.filter_cons,e];split<;>rfl
  generalize h[k]=x at hx j_;generalize h[k+1]=y at hy j_;obtain rfl:ys=cB x:=hx;obtain rfl:Mx=cB y:=hy;clear hq;refine aF<|aq<|az<|aI<|sP 3 [.z aD] rfl<|zc (y:=s) aW dI rfl fun b6 q6 ys aL gw=>?_;obtain⟨a7,n7,c7,a8,n8,c8,rfl,fh,gn⟩:=gw;clear fh;have cE:=aL;clear aL;refine q5 1 [.e cE 0] rfl<|w4 hs rfl fun b9 g1 hs ai=>?_;obtain⟨ar,aD,yw,G_,aW,bR⟩:=hZ ai ar aD yw G_ aW bR;replace gn:=gn.mono ai;refine Hs 0 hs rfl fun g2 hs ai aM=>?_;obtain⟨ar,aD,yw,G_,aW,bR⟩:=hZ ai ar aD yw G_ aW bR;replace gn:=gn.mono ai;refine b_<|az ?_;cases h1:x.step==n with
  |false=>
   rw[h1]at j_;apply bD hs (eF (.e (vI (k:Nat))::gU (.e (.bool false)::dn (dn (eF []))))) 26 [(25,46)] (by kernel_rfl) rfl
   ·exact pO [[],[]] [] hs rfl<|fR [(1,22)] (fun gd hf=>aax rfl (aaL rfl (congrArg (Value.int .i64) (by rw[wq];omega))))<|fR [(0,21),(2,23)] (fun gd hf=>aaw rfl (ay rfl (fH T.ok rfl rfl rfl (by omega) (by omega) rfl rfl rfl (aav rfl))))<|pO [[3],[4],[]] [.e yw 13] hs rfl<|fR [(5,26),(6,27)] (fun gd hf=>aaw rfl (aaL rfl (congrArg Value.bool h1)))<|EG [[7],[8],[8],[9,10,8],[11,8],[12,8],[8],[14,8],[13,15,8],[8,16],[17],[18],[19,18],[18],[21,18],[20,22,18,18],[23,18],[18,24]] [] hs rfl
   (repeat clear hs);intro g6 hs ai;obtain⟨ar,aD,aM,yw,G_,aW⟩:=hZ ai ar aD aM yw G_ aW;obtain⟨bR,gn⟩:=cr ai bR gn;exact b_<|aar rfl<|aF<|bJ<|aq<|an<|Wp 3 rfl<|aA<|fun a ha=>⟨h.length-(k+1),by omega,k+1,q,_,rfl,hs,ar,aW,bR,aD,.inl (by omega),j_,rfl,ha.keep ⟨rfl,rfl,rfl,rfl,kW rfl,trivial⟩⟩
  |true=>
   rw[h1]at j_;cases h2:y.step==s.back with
   |false=>
    rw[h2]at j_;apply bD hs (eF (.e (vI (k:Nat))::gU (.e (.bool true)::dn (.e (.bool false)::dn (fe []))))) 26 [(25,46)] (by kernel_rfl) rfl
    ·exact pO [[],[]] [] hs rfl<|fR [(1,22)] (fun gd hf=>aax rfl (aaL rfl (congrArg (Value.int .i64) (by rw[wq];omega))))<|fR [(0,21),(2,23)] (fun gd hf=>aaw rfl (ay rfl (fH T.ok rfl rfl rfl (by omega) (by omega) rfl rfl rfl (aav rfl))))<|pO [[3],[4],[]] [.e yw 13] hs rfl<|fR [(5,26),(6,27)] (fun gd hf=>aaw rfl (aaL rfl (congrArg Value.bool h1)))<|pO [[7],[8],[8]] [] hs rfl<|fR [(9,30),(10,31),(8,29)] (fun gd hf=>aay rfl (ay rfl (fH T.ok rfl rfl rfl (by omega) (by omega) rfl rfl rfl (aav rfl))))<|pO [[11,8],[12,8],[8],[14,8]] [.e G_ 13,.z aM] hs rfl<|fR [(13,34),(15,36),(8,29)] (fun gd hf=>aay rfl (aaL rfl (congrArg Value.bool h2)))<|EG [[8,16],[17],[18],[19,18],[18],[21,18],[20,22,18,18],[23,18],[18,24]] [] hs rfl
    (repeat clear hs);intro g6 hs ai;obtain⟨ar,aD,aM,yw,G_,aW⟩:=hZ ai ar aD aM yw G_ aW;obtain⟨bR,gn⟩:=cr ai bR gn;exact b_<|aar rfl<|aF<|bJ<|aq<|an<|Wp 3 rfl<|aA<|fun a ha=>⟨h.length-(k+1),by omega,k+1,q,_,rfl,hs,ar,aW,bR,aD,.inl (by omega),j_,rfl,ha.keep ⟨rfl,rfl,rfl,rfl,kW rfl,trivial⟩⟩
   |true=>
    rw[h2]at j_;apply bD hs (eF (.e (vI (k:Nat))::gU (.e (.bool true)::dn (.e (.bool true)::dn (fe []))))) 26 [(25,46)] (by kernel_rfl) rfl
    ·exact pO [[],[]] [] hs rfl<|fR [(1,22)] (fun gd hf=>aax rfl (aaL rfl (congrArg (Value.int .i64) (by rw[wq];omega))))<|fR [(0,21),(2,23)] (fun gd hf=>aaw rfl (ay rfl (fH T.ok rfl rfl rfl (by omega) (by omega) rfl rfl rfl (aav rfl))))<|pO [[3],[4],[]] [.e yw 13] hs rfl<|fR [(5,26),(6,27)] (fun gd hf=>aaw rfl (aaL rfl (congrArg Value.bool h1)))<|pO [[7],[8],[8]] [] hs rfl<|fR [(9,30),(10,31),(8,29)] (fun gd hf=>aay rfl (ay rfl (fH T.ok rfl rfl rfl (by omega) (by omega) rfl rfl rfl (aav rfl))))<|pO [[11,8],[12,8],[8],[14,8]] [.e G_ 13,.z aM] hs rfl<|fR [(13,34),(15,36),(8,29)] (fun gd hf=>aay rfl (aaL rfl (congrArg Value.bool h2)))<|EG [[8,16],[17],[18],[19,18],[18],[21,18],[20,22,18,18],[23,18],[18,24]] [.z aM,.z aM,.c (Wc 79) fun g' h=>Dd _ s.next s.back g' (gn.mono h)] hs rfl
    (repeat clear hs);intro g6 hs ai;obtain⟨ar,aD,aW,bR⟩:=dK ai ar aD aW bR;apply b_;revert j_;generalize s.next.contains s.back=cn;intro j_;cases cn with
    |true=>
     exact aar rfl<|aF<|bJ<|aq<|an<|Wp 3 rfl<|aA<|fun a ha=>⟨h.length-(k+1),by omega,k+1,q,_,rfl,hs,ar,aW,bR,aD,.inl (by omega),j_,rfl,ha.keep ⟨rfl,rfl,rfl,rfl,kW rfl,trivial⟩⟩
    |false=>
     exact aas rfl<|an<|Wp 3 rfl<|aA<|bJ<|aq<|an<|Wp 3 rfl<|aA<|fun a ha=>⟨h.length-(k+1),by omega,k+1,q+1,_,rfl,hs,ar,aW,bR,aD,.inl (by omega),j_,rfl,ha.keep ⟨rfl,rfl,rfl,kW rfl,kW rfl,trivial⟩⟩
 refine aQ (b:=decide (((k+1:Nat):Int)<(h.length:Int))) (by simp;omega) rfl<|bc<|bg<|bg<|cA<|aq<|aZ rfl<|aG<|nw rfl hs ?_;rw[←hq,show k=h.length-1 from by omega]
end Go.Proofs.YtbfjdfecgiegpaaGreatDoor
namespace Go.Proofs.YtbfjdfecgiegpaaGreatDoor
open Go Go.K Tryz
set_option maxRecDepth 10000
attribute [local irreducible] W WL cS bh bY bB bA bC cL cD
set_option maxHeartbeats 1000000
def yr(f:bG)(h:List bO):List Int:=
 match h.getLast? with
 |none=>[0]
 |some x=>match dJ f.steps x.step with
  |none=>[]
  |some s=>if decide (0≤s.back)&&decide (vy (some f) h x.step<s.dN)then jL s.next s.back else s.next
theorem C9{f:bG}{hi:List bO}{x:bO}(e:dJ f.steps x.step=none):yr f (hi++[x])=[]:=by unfold yr;rw[List.getLast?_concat];simp only[e]
theorem Ab{f:bG}{hi:List bO}{x:bO}{s:Step}(e:dJ f.steps x.step=some s):yr f (hi++[x])=if decide (0≤s.back)&&decide (vy (some f) (hi++[x]) x.step<s.dN)then jL s.next s.back else s.next:=by unfold yr;rw[List.getLast?_concat];simp only[e]
def YI(f:bG):Prop:=∀s∈f.steps,s.next.length≤100000
theorem y'(v u:Value)(f:bG)(h:List bO)(g:G)(j8:fP g v f)(bR:Rs g u h)(hl:h.length≤1000000)(hn:YI f):cN prog 36 #[v,u] g fun g' r=>Rs g' r (yr f h):=by
 have hs:=St.start g;have ar:=G.le.refl g;obtain⟨a3,c3,rfl⟩:=bR.isSlice;have Rg:=j8;obtain⟨a1,n1,c1,a2,n2,c2,rfl,aW,cd⟩:=Rg;clear cd;obtain⟨_,_,e⟩:=aW.isSlice;obtain⟨rfl,rfl,rfl⟩:=Value.slice.inj e;clear e;refine enter func36 rfl ntmps36 rfl<|cR<|An hs rfl fun b2 g2 hs ai aD=>?_;obtain⟨aW,bR,j8⟩:=dR ai aW bR j8;refine aX rfl<|az<|aZ rfl ?_;rcases List.eq_nil_or_concat h with rfl|⟨hi,x,rfl⟩
 ·refine aJ (b:=(([]:List bO).length:Int)==0) rfl rfl<|cR<|BP [(0,vI ((0:Int)))] [vI ((0:Int))] hs rfl rfl fun bl gl hs ai=>?_;obtain⟨aD,aW,bR,j8⟩:=dK ai aD aW bR j8;obtain⟨gz,gF,cK,gW,fh⟩:=hs.cP (α:=Int) (xs:=[(0:Int)]) (i:=0) rfl (cY.ints _ [(0:Int)]);clear ai;have ai:=gW;rw[←gF];replace hs:=cK;clear cK;obtain⟨aD,aW,bR,j8⟩:=dK ai aD aW bR j8;exact aX rfl<|aG (nw rfl hs fh)
 rw[List.concat_eq_append]at*;refine aQ (b:=((hi++[x]).length:Int)==0) (by simp;omega) rfl ?_;have vz:(hi++[x]).length=hi.length+1:=by simp
 have eH:dJ (hi++[x]) (IntKind.i64.wrap (((hi++[x]).length:Nat)-1))=some x:=by rw[wq,vz,show((hi.length+1:Nat):Int)-1=(hi.length:Nat)from by omega];unfold dJ;rw[if_neg (by omega)];simp
 refine aF<|aq<|cG 4 rfl<|zc (y:=x) bR eH rfl ?_;rintro b9 q9 ys aL rfl;refine Wp 1 rfl<|q5 1 [.e aL 13] rfl ?_;clear aL;refine aX rfl<|az<|cG 3 rfl ?_;cases h1:decide (x.step<0)with
 |true=>
  have e:dJ f.steps x.step=none:=if_pos (of_decide_eq_true h1);exact aX rfl<|aas rfl<|aZ rfl<|aG (nw rfl hs (by rw[C9 e];exact Rs.nil _))
 |false=>
  have h1:=of_decide_eq_false h1;refine KY [.z aD] rfl ?_;by_cases h2:(f.steps.length:Int)≤x.step
  ·have e:dJ f.steps x.step=none:=(if_neg h1).trans (List.getElem?_eq_none (by omega));exact aJ (b:=decide ((f.steps.length:Int)≤x.step)) (decide_eq_true h2) rfl<|aZ rfl<|aG (nw rfl hs (by rw[C9 e];exact Rs.nil _))
  have bt:x.step.toNat<f.steps.length:=by omega
  have dI:dJ f.steps x.step=some f.steps[x.step.toNat]:=(if_neg h1).trans (List.getElem?_eq_getElem bt);refine aQ (b:=decide ((f.steps.length:Int)≤x.step)) (decide_eq_false h2) rfl ?_;have EA:f.steps[x.step.toNat].next.length≤100000:=hn _ (List.getElem_mem bt);generalize f.steps[x.step.toNat]=s at*;refine aF<|aq<|sP 3 [.z aD] rfl<|zc (y:=s) aW dI rfl fun b6 q6 ys aL gw=>?_;obtain⟨a7,n7,c7,a8,n8,c8,rfl,fh,gn⟩:=gw;clear fh;have cE:=aL;clear aL;refine q5 1 [.e cE 0] rfl<|w4 hs rfl fun b7 g1 hs ai=>?_;obtain⟨aD,bR,gn,j8⟩:=dK ai aD bR gn j8;refine Hs 0 hs rfl fun g2 hs ai aM=>?_;obtain⟨aD,bR,gn,j8⟩:=dK ai aD bR gn j8;refine b_<|cR<|BP [] [] hs rfl rfl fun b8 g9 hs ai=>?_;obtain⟨aD,aM,bR,gn,j8⟩:=nX ai aD aM bR gn j8;refine q5 2 [.z aM] rfl ?_;obtain⟨Vv,news,gw,iu⟩:=Src.jx gn;refine ak rfl rfl<|bU T.ok 0 rfl hs rfl rfl rfl rfl rfl rfl rfl (by decide) rfl iu gw.iM (by show(0+n8)*8≤_;omega) (by unfold maxLen;omega) fun a6 c6 g10 hs ai=>?_;obtain⟨aD,aM,bR,j8⟩:=dK ai aD aM bR j8;obtain⟨g13,sZ,s7,ai,dw⟩:=hs.cP (α:=Int) (i:=0) rfl (xs:=s.next) (by simpa using gw.mono ai);rw[←sZ];(repeat clear hs);have hs:=s7;clear s7;replace dw:Rs g13 _ s.next:=dw;obtain⟨aD,aM,bR,j8⟩:=dK ai aD aM bR j8;clear sZ;refine aX rfl<|az<|az ?_;cases h3:decide (0≤s.back)with
  |false=>
   apply bD hs (eF (.e (.bool false)::dn (fe []))) 12 [(11,48)] (by kernel_rfl) rfl
   ·exact pO [[],[0]] [.z aM] hs rfl<|fR [(1,38)] (fun gd hf=>aax rfl (aaL rfl (congrArg Value.bool h3)))<|EG [[2],[3],[3],[3],[4,5,6,3,3],[3],[8,3],[7,9,3],[3,10]] [] hs rfl
   (repeat clear hs);intro g6 hs ai;obtain⟨aD,aM,bR,dw,j8⟩:=nX ai aD aM bR dw j8;exact b_<|aar rfl<|aF<|aq<|aZ rfl<|aG (nw rfl hs (by rw[Ab dI,h3];exact dw))
  |true=>
   apply bD hs (eF (.e (.bool true)::dn (fe []))) 12 [(11,48)] (by kernel_rfl) rfl
   ·exact pO [[],[0]] [.z aM] hs rfl<|fR [(1,38)] (fun gd hf=>aax rfl (aaL rfl (congrArg Value.bool h3)))<|EG [[2],[3],[3],[3],[4,5,6,3,3],[3],[8,3],[7,9,3],[3,10]] [.z aD,.c (Wc 93) fun g' h=>LD _ _ f s (hi++[x]) x.step g' (j8.mono h) (bR.mono h) dI hl,.z aM] hs rfl
   (repeat clear hs);intro g6 hs ai;obtain⟨aM,dw⟩:=cr ai aM dw;apply b_;cases h4:decide (vy (some f) (hi++[x]) x.step<s.dN)with
   |false=>
    exact aar rfl<|aF<|aq<|aZ rfl<|aG (nw rfl hs (by rw[Ab dI,h3,h4];exact dw))
   |true=>
    refine aas rfl<|an<|q5 3 [.z aM] rfl<|sO rfl (Mz _ s.next s.back _ dw (by omega)) fun g1 _ aP G9=>?_;replace hs:=hs.call aP;have ai:=aP.le;exact aX rfl<|aZ rfl<|aG (nw rfl hs (by rw[Ab dI,h3,h4];exact G9))
end Go.Proofs.YtbfjdfecgiegpaaGreatDoor
namespace Go.Proofs.YtbfjdfecgiegpaaGreatDoor
open Go Go.K
set_option maxRecDepth 10000
attribute [local irreducible] W WL cS bh bY bB bA bC cL cD
theorem Hk{α:Type}{k:α→Int×Int}{l S:List α}{x:α}{j:Nat}(hS:dC k l=S)(hj:j≤S.length)(h1: ∀i (h:i<S.length),j≤i→kl k x S[i]=true)(h2: ∀i (h:i<S.length),i+1=j→kl k x S[i]=false):
  dC k (l++[x])=S.take j++x::S.drop j:=by
 have hs:Bs k S:=hS▸jJ l;rw[pA,hS];have e:=KX (k:=k) (A:=S.take j) (B:=S.drop j) (x:=x) (fun a ha=>by
  obtain⟨i,hi,rfl⟩:=List.mem_iff_getElem.1 ha;rw[List.length_take]at hi;rw[List.getElem_take];have hk:=h2 (j-1) (by omega) (by omega);by_cases Bk:i=j-1
  ·subst Bk;exact hk
  ·exact qu hk (List.pairwise_iff_getElem.1 hs i (j-1) (by omega) (by omega) (by omega))) (fun b hb=>by
  obtain⟨i,hi,rfl⟩:=List.mem_iff_getElem.1 hb;rw[List.length_drop]at hi;rw[List.getElem_drop];exact h1 (j+i) (by omega) (by omega))
 rw[List.take_append_drop]at e;exact e
def vw(f:bO)(m:Int):Int:=if m=f.waf then f.oth else if m=f.oth then f.waf else m
theorem Hl(f:bO)(m:MP)(k:Int):Bv (re f m) k=Bv m (vw f k):=by
 have e: ∀(a x:Int) (m:MP) (b:Int),Bv (ip a x m) b=if b=a then x else Bv m b:=fun a x m b=>by unfold Bv;rw[Mv];split<;>rfl
 unfold re vw;rw[e,e];by_cases h1:k=f.oth
 ·by_cases h2:k=f.waf
  ·rw[if_pos h1,if_pos h2,←h1,←h2]
  rw[if_pos h1,if_neg h2,if_pos h1]
 by_cases h2:k=f.waf
 ·rw[if_neg h1,if_pos h2,if_pos h2]
 rw[if_neg h1,if_neg h2,if_neg h2,if_neg h1]
theorem Bw: ∀(l:List bO) (M:MP) (k:Int),Bv (l.foldl (fun m f=>re f m) M) k=Bv M (l.foldr vw k)
 |[],_,_=>rfl
 |f::l,M,k=>by rw[List.foldl_cons,Bw l,Hl];rfl
theorem FJ(b:eL)(mark time:Int)(h:iV mark=true):o6 b mark time=(dC kg (b.wx.filter (Er time))).foldr vw mark:=by unfold o6 wE;rw[if_pos h,Bw];rfl
abbrev Es(l:List Int):Prop:=l.Pairwise (· < ·)
theorem wF: ∀{l r:List Int},Es l→Es r→(∀x,x∈l↔x∈r)→l=r
 |[],[],_,_,_=>rfl
 |[],y::r,_,_,h=>absurd ((h y).2 (List.mem_cons_self ..)) List.not_mem_nil
 |x::l,[],_,_,h=>absurd ((h x).1 (List.mem_cons_self ..)) List.not_mem_nil
 |x::l,y::r,hl,hr,h=>by
  have z7:=List.pairwise_cons.1 hl;have G6:=List.pairwise_cons.1 hr;have Mu:x=y:=by
   rcases List.mem_cons.1 ((h x).1 (List.mem_cons_self ..))with e|e
   ·exact e
   rcases List.mem_cons.1 ((h y).2 (List.mem_cons_self ..))with e2|e2
   ·exact e2.symm
   have:=G6.1 x e;have:=z7.1 y e2;omega
  subst Mu;rw[wF z7.2 G6.2 fun z=>⟨fun hz=>?_,fun hz=>?_⟩]
  ·rcases List.mem_cons.1 ((h z).1 (List.mem_cons_of_mem _ hz))with e|e
   ·have:=z7.1 z hz;omega
   exact e
  rcases List.mem_cons.1 ((h z).2 (List.mem_cons_of_mem _ hz))with e|e
  ·have:=G6.1 z hz;omega
  exact e
theorem Hm(l:List Int)(n:Int): ∀x∈l.take (putAt l n),x<n:=by
 induction l with
 |nil=>simp
 |cons y l ih=>
  unfold putAt;rw[List.takeWhile_cons];split
  ·rename_i h;intro x hx;rw[List.length_cons,List.take_succ_cons]at hx;rcases List.mem_cons.1 hx with rfl|hx
   ·exact of_decide_eq_true h
   exact ih x hx
  simp
theorem Bx{l:List Int}(n:Int)(hl:Es l): ∀x∈l.drop (putAt l n),n≤x:=by
 induction l with
 |nil=>simp
 |cons y l ih=>
  have z7:=List.pairwise_cons.1 hl;unfold putAt;rw[List.takeWhile_cons];split
  ·rename_i h;intro x hx;rw[List.length_cons,List.drop_succ_cons]at hx;exact ih z7.2 x hx
  rename_i h;intro x hx;have h:=of_decide_eq_false (Bool.eq_false_iff.2 h);rcases List.mem_cons.1 hx with rfl|hx
  ·omega
  have:=z7.1 x hx;omega
theorem By{l:List Int}{n x:Int}:x∈jL l n↔x=n∨x∈l:=by
 unfold jL;split
 ·rename_i h;exact⟨.inr,fun h2=>h2.elim (fun e=>e▸List.mem_of_getElem? h) id⟩
 rw[List.mem_append,List.mem_cons];conv=>rhs;rw[←List.take_append_drop (putAt l n) l,List.mem_append]
 constructor
 ·rintro(h|h|h)
  ·exact .inr (.inl h)
  ·exact .inl h
  exact .inr (.inr h)
 rintro(h|h|h)
 ·exact .inr (.inl h)
 ·exact .inl h
 exact .inr (.inr h)
theorem Bz{l:List Int}(n:Int)(hl:Es l):Es (jL l n):=by
 unfold jL;split
 ·exact hl
 rename_i h;have e:=List.take_append_drop (putAt l n) l;have tP:=hl;rw[←e]at tP;obtain⟨h1,h2,h3⟩:=List.pairwise_append.1 tP;have yY: ∀x∈l.drop (putAt l n),n<x:=fun x hx=>by
  have CU:=Bx n hl x hx;cases hd:l.drop (putAt l n)with
  |nil=>rw[hd]at hx;cases hx
  |cons y r=>
   have hy:l[putAt l n]? =some y:=by have:=List.getElem?_drop (xs:=l) (i:=putAt l n) (j:=0);rw[hd]at this;simpa using this.symm
   have Sy:y≠n:=fun e=>h (by rw[hy,e]);have Z3:=Bx n hl y (by rw[hd];exact List.mem_cons_self ..);rw[hd]at hx h2;rcases List.mem_cons.1 hx with rfl|hx
   ·omega
   have:=(List.pairwise_cons.1 h2).1 x hx;omega
 refine List.pairwise_append.2 ⟨h1,List.pairwise_cons.2 ⟨yY,h2⟩,fun x hx y hy=>?_⟩;have P3:=Hm l n x hx;rcases List.mem_cons.1 hy with rfl|hy
 ·exact P3
 have:=yY y hy;omega
theorem BA{zs:List Int}(h:zs.Pairwise (· ≤ ·)): ∀m,m≤zs.length→Es (Lib.compactUpTo zs.toArray m)∧(∀x∈Lib.compactUpTo zs.toArray m,∃j,j<m∧zs[j]? =some x)∧ ∀j x,j<m→zs[j]? =some x→x∈Lib.compactUpTo zs.toArray m:=by
 intro m
 induction m with
 |zero=>intro _;exact⟨List.Pairwise.nil,fun x hx=>absurd hx (by simp[Lib.compactUpTo]),fun j x hj=>absurd hj (Nat.not_lt_zero _)⟩
 |succ m ih=>
  intro hm;obtain⟨a,b,c⟩:=ih (by omega);have hz:zs.toArray[m]! =zs[m]:=by rw[getElem!_pos zs.toArray m (by simp;omega)];simp
  rw[Lib.compactUpTo_succ,hz];have bt:=List.pairwise_iff_getElem.1 h;by_cases hk:Lib.keeps zs.toArray m=true
  ·rw[if_pos hk];refine⟨List.pairwise_append.2 ⟨a,List.pairwise_singleton _ _,fun x hx y hy=>?_⟩,fun x hx=>?_,fun j x hj hx=>?_⟩
   ·obtain rfl:=List.mem_singleton.1 hy;obtain⟨j,hj,hx⟩:=b x hx;obtain⟨sn,rfl⟩:=List.getElem?_eq_some_iff.1 hx;unfold Lib.keeps at hk;have hk:=of_decide_eq_true hk;rcases hk with hk|hk
    ·omega
    rw[hz,getElem!_pos zs.toArray (m-1) (by simp;omega)]at hk;have e1:zs[m]≠zs[m-1]:=by simpa using hk
    have h1:=bt (m-1) m (by omega) (by omega) (by omega);by_cases e:j=m-1
    ·subst e;omega
    have h2:=bt j (m-1) (by omega) (by omega) (by omega);omega
   ·rcases List.mem_append.1 hx with hx|hx
    ·obtain⟨j,hj,e⟩:=b x hx;exact⟨j,by omega,e⟩
    obtain rfl:=List.mem_singleton.1 hx;exact⟨m,by omega,List.getElem?_eq_getElem _⟩
   rw[List.mem_append];by_cases e:j=m
   ·subst e;obtain⟨_,rfl⟩:=List.getElem?_eq_some_iff.1 hx;exact .inr (List.mem_singleton_self _)
   exact .inl (c j x (by omega) hx)
  rw[if_neg hk,List.append_nil];refine⟨a,fun x hx=>?_,fun j x hj hx=>?_⟩
  ·obtain⟨j,hj,e⟩:=b x hx;exact⟨j,by omega,e⟩
  by_cases e:j=m
  ·subst e;obtain⟨_,rfl⟩:=List.getElem?_eq_some_iff.1 hx;unfold Lib.keeps at hk;have hk:=of_decide_eq_false (Bool.eq_false_iff.2 hk);rw[not_or]at hk;have e1:zs[j]=zs[j-1]:=by have:=hk.2;rw[hz,getElem!_pos zs.toArray (j-1) (by simp;omega)]at this;simpa using this
   rw[e1];exact c (j-1) _ (by omega) (List.getElem?_eq_getElem _)
  exact c j x (by omega) hx
theorem pC{zs:List Int}(h:zs.Pairwise (· ≤ ·)):Es (Lib.compact zs)∧ ∀x,x∈Lib.compact zs↔x∈zs:=by
 obtain⟨a,b,c⟩:=BA h zs.length (Nat.le_refl _);refine⟨a,fun x=>⟨fun hx=>?_,fun hx=>?_⟩⟩
 ·obtain⟨j,_,e⟩:=b x hx;exact List.mem_of_getElem? e
 obtain⟨j,hj,rfl⟩:=List.mem_iff_getElem.1 hx;exact c j _ hj (List.getElem?_eq_getElem _)
theorem wG(zs:List Int):(iW zs).Pairwise (· ≤ ·):=(tQ zs).imp fun {a b} h=>by rw[iZ]at h;omega
theorem wH{x:Int}{xs:List Int}:x∈iW xs↔x∈xs:=(List.mergeSort_perm xs _).mem_iff
theorem wI: ∀(xs l:List Int),Es l→Es (xs.foldl jL l)∧ ∀x,x∈xs.foldl jL l↔x∈xs∨x∈l
 |[],l,h=>⟨h,fun x=>⟨.inr,fun h=>h.elim (fun h=>absurd h List.not_mem_nil) id⟩⟩
 |n::xs,l,h=>by
  obtain⟨a,b⟩:=wI xs (jL l n) (Bz n h);refine⟨a,fun x=>?_⟩;rw[List.foldl_cons,b,By,List.mem_cons];constructor
  ·rintro(h|h|h)
   ·exact .inl (.inr h)
   ·exact .inl (.inl h)
   exact .inr h
  rintro((h|h)|h)
  ·exact .inr (.inl h)
  ·exact .inl h
  exact .inr (.inr h)
theorem Aa(xs:List Int):Lib.compact (iW xs)=xs.foldl jL []:=by obtain⟨a,b⟩:=pC (wG xs);obtain⟨c,d⟩:=wI xs [] List.Pairwise.nil;refine wF a c fun x=>?_;rw[b,d,wH];exact⟨.inl,fun h=>h.elim id fun h=>absurd h List.not_mem_nil⟩
theorem Hn{o:Option bG}{h:List bO}{n:Int}{s:Step}(ha:Es s.next):vx o h n s=if decide (0≤s.back)&&decide (vy o h n<s.dN)then jL s.next s.back else s.next:=by
 have hle:s.next.Pairwise (· ≤ ·):=ha.imp fun h=>Int.le_of_lt h;unfold vx;by_cases hc:0≤s.back∧vy o h n<s.dN
 ·rw[if_pos hc,if_pos (by simp[hc])];obtain⟨a,b⟩:=pC (wG (s.next++[s.back]));refine wF a (Bz _ ha) fun x=>?_;rw[b,wH,By,List.mem_append,List.mem_singleton];exact⟨fun h=>h.symm,fun h=>h.symm⟩
 rw[if_neg hc,if_neg (by simpa using hc)];obtain⟨a,b⟩:=pC hle;exact wF a ha b
theorem Et{f:bG}(ha: ∀s∈f.steps,Es s.next)(h:List bO):yr f h=ng (some f) h:=by
 rcases List.eq_nil_or_concat h with rfl|⟨hi,x,rfl⟩
 ·rfl
 rw[List.concat_eq_append];unfold ng;rw[if_neg (by simp),if_neg (by simp),show((hi++[x]).getLast?.getD fS)=x from by rw[List.getLast?_concat];rfl];cases hs:dJ f.steps x.step with
 |none=>
  rw[C9 hs,show gP (some f) x.step=none from hs]
 |some s=>
  rw[Ab hs,show gP (some f) x.step=some s from hs];exact(Hn (ha s (List.mem_of_getElem? (nh hs).2.2))).symm
theorem yZ{lo hi:Int}: ∀{p:Int} {l:List Int},kN lo hi p l=true→Es l∧ ∀n∈l,p<n
 |_,[],_=>⟨List.Pairwise.nil,fun n hn=>absurd hn List.not_mem_nil⟩
 |p,m::r,h=>by
  simp only[kN,Bool.and_eq_true,decide_eq_true_eq]at h;obtain⟨a,b⟩:=yZ h.2;refine⟨List.pairwise_cons.2 ⟨b,a⟩,fun n hn=>?_⟩;rcases List.mem_cons.1 hn with rfl|hn
  ·exact h.1.2
  have:=b n hn;have:=h.1.2;omega
theorem NW{lo hi:Int}{l:List Int}(h:ascending l lo hi=true):Es l:=by
 cases l with
 |nil=>exact List.Pairwise.nil
 |cons m r=>
  simp only[ascending,Bool.and_eq_true]at h;obtain⟨a,b⟩:=yZ h.2;exact List.pairwise_cons.2 ⟨b,a⟩
theorem y6{f:bG}(h:valid f=true): ∀s∈f.steps,Es s.next:=by intro s hs;simp only[valid,Bool.and_eq_true]at h;have hr:=List.all_eq_true.1 h.1.2 s hs;simp only[cf,Bool.and_eq_true]at hr;exact NW hr.1.1.1.2
theorem BB: ∀(xs m:List Int),m.Nodup→(xs.foldl (fun m n=>o7 n m) m).Nodup∧ ∀x,x∈xs.foldl (fun m n=>o7 n m) m↔x∈xs∨x∈m
 |[],m,h=>⟨h,fun x=>⟨.inr,fun h=>h.elim (fun h=>absurd h List.not_mem_nil) id⟩⟩
 |n::xs,m,h=>by
  have h1:(o7 n m).Nodup∧ ∀x,x∈o7 n m↔x=n∨x∈m:=by
   unfold o7;split
   ·rename_i hn;exact⟨h,fun x=>⟨.inr,fun e=>e.elim (fun e=>e▸hn) id⟩⟩
   rename_i hn;refine⟨List.nodup_append.2 ⟨h,by simp,fun x hx y hy e=>?_⟩,fun x=>?_⟩
   ·obtain rfl:=List.mem_singleton.1 hy;subst e;exact hn hx
   rw[List.mem_append,List.mem_singleton];exact⟨fun h=>h.symm,fun h=>h.symm⟩
  obtain⟨a,b⟩:=BB xs (o7 n m) h1.1;refine⟨a,fun x=>?_⟩;rw[List.foldl_cons,b,h1.2,List.mem_cons];constructor
  ·rintro(h|h|h)
   ·exact .inl (.inr h)
   ·exact .inl (.inl h)
   exact .inr h
  rintro((h|h)|h)
  ·exact .inr (.inl h)
  ·exact .inl h
  exact .inr (.inr h)
theorem FL(xs:List Int):iW (xs.foldl (fun m n=>o7 n m) [])=xs.foldl jL []:=by obtain⟨a,b⟩:=BB xs [] List.nodup_nil;obtain⟨c,d⟩:=wI xs [] List.Pairwise.nil;have hn:(iW (xs.foldl (fun m n=>o7 n m) [])).Nodup:=(List.mergeSort_perm _ _).nodup_iff.2 a;refine wF ((List.Pairwise.and (wG _) hn).imp fun {x y} h=>by have:=h.1;have:=h.2;omega) c fun x=>?_;rw[wH,b,d]
def uW(b:eL)(a:gi)(x:bO):Bool:=mL b x a&& !y7 b x a.time
theorem C_(b:eL)(a:gi):pD b a=((b.holds.filter (uW b a)).map (·.idn)).foldl jL []:=by
 have key: ∀(l:List bO) (m:List Int),(l.filter fun f=>f.kind==7).foldl (ml b a) m=((l.filter (uW b a)).map (·.idn)).foldl (fun m n=>o7 n m) m:=by
  intro l
  induction l with
  |nil=>intro m;rfl
  |cons x l ih=>
   intro m;cases hk:x.kind==7 with
   |true=>
    rw[List.filter_cons_of_pos (by simpa using hk),List.foldl_cons,ih];cases hc:uW b a x with
    |true=>
     rw[List.filter_cons_of_pos hc,List.map_cons,List.foldl_cons];have e:ml b a m x=o7 x.idn m:=if_pos hc;rw[e]
    |false=>
     rw[List.filter_cons_of_neg (by simp[hc])];have e:ml b a m x=m:=if_neg (by have:=hc;unfold uW at this;rw[this];simp);rw[e]
   |false=>
    have hc:uW b a x=false:=by unfold uW mL tR tS;rw[hk];rfl
    rw[List.filter_cons_of_neg (by simp[hk]),List.filter_cons_of_neg (by simp[hc]),ih]
 rw[←FL];unfold pD Ho tT;rw[key]
theorem Da(b:eL):pE b=((b.procs.filter (pF b)).map (·.idn)).foldl jL []:=Aa _
theorem qw{c n:Int}(h:mq c):qY ⟨c,0,n⟩=(c==0||c==n):=by
 unfold mq at h;unfold qY;show(c==0||(decide (n≤c)&&(IntKind.i64.wrap (c-0)==n)))=_;rw[Int.sub_zero,wr h.1 h.2];by_cases e:c=n
 ·rw[e,decide_eq_true (Int.le_refl n)];rfl
 rw[beq_eq_false_iff_ne.2 e,Bool.and_false]
theorem tU{c n:Int}(h:mq c):qY ⟨c,1,n⟩=(c==0||(decide (n<c)&&(IntKind.i64.wrap (c-1)==n))):=by
 unfold mq at h;unfold qY;show(c==0||(decide (n≤c)&&(IntKind.i64.wrap (c-1)==n)))=_;by_cases e:n<c
 ·rw[decide_eq_true e,decide_eq_true (Int.le_of_lt e)]
 rw[decide_eq_false e];by_cases e2:n≤c
 ·have:(IntKind.i64.wrap (c-1)==n)=false:=by
   obtain rfl:n=c:=by omega
   rw[beq_eq_false_iff_ne];by_cases h0: -9223372036854775808<n
   ·rw[wq];omega
   obtain rfl:n= -9223372036854775808:=by omega
   decide+kernel
  rw[this];simp
 rw[decide_eq_false e2]
end Go.Proofs.YtbfjdfecgiegpaaGreatDoor
