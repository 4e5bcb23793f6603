/- Parts of the proof, from: The walks through the law's helpers: few, near. -/
import Derived.Test.YtbfjdfecgiegpaaGreatDoorYa
import Derived.Test.YtbfjdfecgiegpaaGreatDoorYc
import Derived.Test.YtbfjdfecgiegpaaGreatDoorYk
import Derived.Test.YtbfjdfecgiegpaaGreatDoorYb
import Derived.Test.YtbfjdfecgiegpaaGreatDoorYj
import Derived.Test.YtbfjdfecgiegpaaGreatDoorYi
import Derived.Test.YtbfjdfecgiegpaaGreatDoorYf
import Derived.Test.YtbfjdfecgiegpaaGreatDoorYe
import Derived.Test.YtbfjdfecgiegpaaGreatDoorYg
namespace Go.Proofs.YtbfjdfecgiegpaaGreatDoor
open Go Go.K Tryz
set_option maxRecDepth 10000
attribute [local irreducible] W WL cS bh bY bB bA bC cL cD
set_option maxHeartbeats 1000000
abbrev rF(ad:Option Addr)(c:Nat)(xs:List bO):df:=.row 40 19 (.slice ad xs.length c) xs.length (fl xs)
def vL(x:bO):bO:={x with text:=x.text.take 300}
def yB(l:List bO)(n:Nat):List bO:=(l.take n).map vL
theorem IT(l:List UInt8):(l.take (min 300 l.length)).drop 0=l.take 300:=by
 rw[List.drop_zero];rcases Nat.le_total 300 l.length with h|h
 ·rw[Nat.min_eq_left h]
 rw[Nat.min_eq_right h,List.take_of_length_le (Nat.le_refl _),List.take_of_length_le h]
theorem Q8(v:Value)(l:List bO)(n:Nat)(g:G)(aH:Rs g v l)(hn:n≤1000):cN prog 5 #[v,vI n] g (kh 40 g (yB l n)):=by
 have hs:=(St.start g).eP 40 19 none;have ar:=G.le.refl g;obtain⟨a,c,rfl⟩:=aH.isSlice;refine enter func5 rfl ntmps5 rfl ?_;replace hs:St g _ [rF none 0 []]:=hs;refine aZ rfl<|aZ rfl<|az<|aZ rfl<|aI ?_
 refine bK (fun m a' w=> ∃(ad:Option Addr) (c8:Nat) (xs:List bO) (g':G),w=g'.w∧St g g' [rF ad c8 xs]∧G.le g g'∧Rs g' (.slice a l.length c) l∧xs.length≤l.length∧xs.length≤n∧(l.take xs.length).map vL=xs∧m=l.length-xs.length∧
   Fr 36 [] [(0,.slice a l.length c),(1,vI n),(5,.slice ad xs.length c8),(6,vI (xs.length:Nat))] a') l.length
  (fun a' ha=>⟨none,0,[],_,rfl,hs,ar,aH,Nat.zero_le _,Nat.zero_le _,rfl,rfl,ha.kp rfl⟩) ?_
 (repeat clear hs);(repeat clear aH);(repeat clear ar);rintro m a' _ ⟨ad,c8,xs,g',rfl,hs,ar,aH,so,QT,hq,rfl,dW⟩;revert a';refine ct<|az<|cG 5 rfl ?_;cases h1:decide ((xs.length:Int)<(l.length:Int))with
 |false=>
  have h1:=of_decide_eq_false h1;have e:yB l n=xs:=by unfold yB;rw[List.take_of_length_le (by omega)];rw[List.take_of_length_le (by omega)]at hq;exact hq
  refine aX rfl<|aar rfl ?_;rw[e];exact bc<|bg<|bg<|cA<|aq<|aZ rfl<|aG (nw rfl hs (hs.mw (i:=0) rfl (cY.fl _ _)))
 |true=>
  have h1:=of_decide_eq_true h1;refine aX rfl ?_;cases h2:decide ((xs.length:Int)<(n:Int))with
  |false=>
   have h2:=of_decide_eq_false h2;have e:yB l n=xs:=by unfold yB;rw[show n=xs.length from by omega];exact hq
   refine aar rfl ?_;rw[e];exact bc<|bg<|bg<|cA<|aq<|aZ rfl<|aG (nw rfl hs (hs.mw (i:=0) rfl (cY.fl _ _)))
  |true=>
   have h2:=of_decide_eq_true h2;refine aas rfl ?_;have bt:xs.length<l.length:=by omega
   have eH:dJ l (xs.length:Int)=some l[xs.length]:=bZ rfl bt;have dP:(l.take (xs.length+1)).map vL=xs++[vL l[xs.length]]:=by rw[List.take_add_one,List.getElem?_eq_getElem bt,List.map_append,hq];rfl
   generalize l[xs.length]=x at eH dP;clear hq;refine aF<|aq<|az<|aI<|cG 2 rfl<|zc (y:=x) aH eH rfl ?_;rintro b9 q9 Mx aL rfl;have aD:=aL;clear aL;refine q5 1 [.e aD 0] rfl<|w4 hs rfl fun b7 g1 hs ai=>?_;obtain⟨ar,aH⟩:=cr ai ar aH;refine sN 0 hs rfl fun g1 hs ai=>?_;obtain⟨ar,aH⟩:=cr ai ar aH;replace hs:St g g1 [vO b7 (cB x) 40,rF ad c8 xs]:=hs;refine b_<|c_ 6 [.o 0,.o 0] hs rfl<|cX (vI (min 300 x.text.length:Nat)) (t:=28) rfl (congrArg (Value.int .i64) (by rw[cg];split<;>omega))<|ak rfl rfl<|nD T.ok (s:=x.text) (a:=0) (b:=min 300 x.text.length) rfl rfl rfl rfl rfl ⟨_,rfl⟩ (Nat.zero_le _) (by omega)<|cX (.string (bs (x.text.take 300))) (t:=29) rfl (congrArg (fun z=>Value.string (bs z)) (IT x.text))<|Wp 1 rfl<|sN 0 hs rfl fun g1 hs ai=>?_;obtain⟨ar,aH⟩:=cr ai ar aH;replace hs:St g g1 [vO b7 (cB (vL x)) 40,rF ad c8 xs]:=hs;refine b_<|an<|Wm 2 [.o 0] hs rfl ?_;obtain⟨g2,bS,aV,ai,aL⟩:=hs.bd (i:=0) rfl;replace hs:=aV;clear aV;rw[←bS];obtain⟨ar,aH⟩:=cr ai ar aH;replace hs:St g g2 [rF ad c8 xs]:=hs;refine BP [(0,fv (vL x))] (cB (vL x)) hs rfl rfl fun bl gl hs ai=>?_;obtain⟨ar,aH⟩:=cr ai ar aH;refine ak rfl rfl<|bU T.ok 1 rfl hs rfl rfl rfl rfl rfl rfl rfl (by decide) rfl (Src.eI (hs.own 0 _ rfl).1).2 (by simp[cB,Value.oneCell']) (by show(xs.length+1)*160≤_;omega) (by show xs.length+1≤maxLen;unfold maxLen;omega) fun a6 c6 g10 hs ai=>?_;obtain⟨ar,aH⟩:=cr ai ar aH;have w6:fl (xs++[vL x])=fl xs++cB (vL x):=by rw[mN];exact congrArg (fl xs++ ·) (List.append_nil _)
   have OY:(xs++[vL x]).length=xs.length+1:=by simp
   replace hs:St g g10 [rF a6 c6 (xs++[vL x])]:=by unfold rF;rw[w6,OY];exact hs.drop 0
   exact Wp 1 rfl<|aA<|bJ<|aq<|an<|Wp 3 rfl<|aA<|fun a ha=>⟨l.length-(xs.length+1),by omega,a6,c6,xs++[vL x],_,rfl,hs,ar,aH,by omega,by omega,by rw[OY];exact dP,by rw[OY],ha.keep ⟨rfl,rfl,kV rfl (by rw[OY]),kI rfl (by rw[wq,OY];omega),trivial⟩⟩
end Go.Proofs.YtbfjdfecgiegpaaGreatDoor
namespace Go.K
open Go
variable {F:Fence} {P:Program} {N:Nat} {ds:List Deferred} {l:Env} {w:World} {Q:Exit→Act→World→Prop} {c:Code} {g0 g:G} {L:List df}
theorem Db{id:Nat}{J':Act→World→Prop}(J:Act→World→Prop)(h:W F P N ds c (Exit.inBlock id (Exit.then J Q)) l w)(h2: ∀a w,J a w→J' a w):W F P N ds c (Exit.inBlock id (Exit.then J' Q)) l w:=by
 have e: ∀e a w,Exit.then J Q e a w→Exit.then J' Q e a w:=fun e a w hq=>by cases e<;>first|exact h2 _ _ hq|exact hq
 refine fun a ha=>Go.wpIn_mono (h a ha) fun x a w hq=>?_;cases x<;>simp only[Exit.inBlock]at hq⊢ <;>first|exact e _ _ _ hq|(split at hq<;>split<;>first|exact e _ _ _ hq|contradiction)
end Go.K
namespace Go.Proofs.YtbfjdfecgiegpaaGreatDoor
open Go Go.K Tryz
set_option maxRecDepth 10000
attribute [local irreducible] W WL cS bh bY bB bA bC cL cD
set_option maxHeartbeats 2000000
theorem BC(n:Int)(g:G):cN prog 77 #[vI n] g fun _ r=>r= .bool (iV n):=by
 have hs:=St.start g;refine enter func77 rfl ntmps77 rfl<|aZ rfl<|cG 3 rfl ?_;unfold iV;cases decide (1≤n)with
 |true=>
  exact aX rfl<|aG (nw rfl hs rfl)
 |false=>
  exact aX rfl<|aG (nw rfl hs rfl)
theorem Hp(x y:bO)(g:G):cN prog 153 #[fv x,fv y] g fun _ r=>r= .bool (kl kg x y):=by
 have hs:=St.start g;refine enter func153 rfl ntmps153 rfl<|cR<|An hs rfl fun b2 g2 hs ai aD=>An hs rfl fun b3 g2 hs ai aM=>?_;replace aD:=aD.mono ai;refine aX rfl<|az<|Hw [.z aD,.z aM] rfl ?_;unfold kl kg;by_cases e:x.time=y.time
 ·exact aQ (b:=x.time !=y.time) (by simp[e]) rfl<|aF<|aq<|Hw [.z aD,.z aM] rfl<|aG (nw rfl hs (congrArg Value.bool (by simp[e])))
 exact aJ (b:=x.time !=y.time) (by simp[e]) rfl<|Hw [.z aD,.z aM] rfl<|aG (nw rfl hs (congrArg Value.bool (by simp[e])))
theorem Hq(v:Value)(l:List bO)(g:G)(aH:Rs g v l)(hl:l.length≤1000000):cN prog 78 #[v] g fun g' r=>Rs g' r (dC kg l):=by
 have hs:=St.start g;have ar:=G.le.refl g;obtain⟨a,c,rfl⟩:=aH.isSlice;refine enter func78 rfl ntmps78 rfl<|aZ rfl<|aZ rfl<|az<|aZ rfl<|aI ?_
 refine bK (fun m a' w=> ∃(i:Nat) (v3:Value) (g':G),w=g'.w∧St g g' []∧G.le g g'∧Rs g' (.slice a l.length c) l∧Rs g' v3 (dC kg (l.take i))∧i≤l.length∧m=l.length-i∧
   Fr 49 [] [(0,.slice a l.length c),(3,v3),(4,vI (i:Nat))] a') l.length
  (fun a' ha=>⟨0,_,_,rfl,hs,ar,aH,Rs.nil _,Nat.zero_le _,rfl,ha.kp rfl⟩) ?_
 (repeat clear hs);(repeat clear ar);(repeat clear aH);rintro m a' _ ⟨i,v3,g',rfl,hs,ar,aH,aW,hi,rfl,dW⟩;obtain⟨a3,c3,rfl⟩:=aW.isSlice;have Z4:(dC kg (l.take i)).length=i:=by rw[fG,List.length_take];omega
 obtain⟨S,hS⟩: ∃S,dC kg (l.take i)=S:=⟨_,rfl⟩;rw[hS]at aW Z4 dW;revert a';refine ct<|az<|aZ rfl ?_;by_cases bt:i<l.length
 ·refine aJ (b:=decide ((i:Int)<(l.length:Int))) (decide_eq_true (by omega)) rfl ?_;have dP:l.take (i+1)=l.take i++[l[i]]:=by rw[List.take_add_one,List.getElem?_eq_getElem bt];rfl
  obtain⟨b0,p0,ys,rfl,aD,hx⟩:=aH.at (i:=i) (List.getElem?_eq_getElem bt);have eH:dJ l (i:Int)=some l[i]:=bZ rfl bt;generalize l[i]=x at*;obtain rfl:ys=cB x:=hx;refine aF<|aq<|az<|aI<|aZ rfl<|az<|aI ?_;refine Db (fun a' w=> ∃(k:Nat) (g2:G),w=g2.w∧St g g2 []∧G.le g g2∧Rs g2 (.slice (some ⟨b0,p0,none⟩) l.length c) l∧Rs g2 (.slice a3 S.length c3) S∧k≤S.length∧dC kg (l.take (i+1))=S.take k++x::S.drop k∧
    Fr 49 [] [(0,.slice (some ⟨b0,p0,none⟩) l.length c),(3,.slice a3 S.length c3),(4,vI (i:Nat)),(5,vI (k:Nat))] a') ?_ ?_
  ·refine bK (fun m a' w=> ∃(k:Nat) (g2:G),w=g2.w∧St g g2 []∧G.le g g2∧Rs g2 (.slice (some ⟨b0,p0,none⟩) l.length c) l∧Rs g2 (.slice a3 S.length c3) S∧EP g2 b0 (p0+i*19) (cB x)∧k≤S.length∧(∀j (h:j<S.length),k≤j→kl kg x S[j]=true)∧m=0+k∧
     Fr 49 [] [(0,.slice (some ⟨b0,p0,none⟩) l.length c),(3,.slice a3 S.length c3),(4,vI (i:Nat)),(5,vI (k:Nat))] a') (0+S.length)
    (fun a' ha=>⟨S.length,g',rfl,hs,ar,aH,aW,aD,Nat.le_refl _,fun j h hj=>absurd hj (by omega),rfl,ha.kp rfl⟩) ?_
   (repeat clear hs);(repeat clear ar);(repeat clear aH);(repeat clear aW);(repeat clear aD);rintro m a' _ ⟨k,g2,rfl,hs,ar,aH,aW,aD,hk,de,rfl,dW⟩;revert a';refine ct<|az<|az ?_
   have fin:(∀j (h:j<S.length),j+1=k→kl kg x S[j]=false)→dC kg (l.take (i+1))=S.take k++x::S.drop k:=fun h2=>by rw[dP];exact Hk hS hk de h2
   cases k with
   |zero=>
    apply bD hs (dn (gU (eF []))) 14 [(13,28)] (by kernel_rfl) rfl
    ·exact EG [[],[0],[1],[2],[2],[3,4,2],[5,2],[2],[2],[8,2],[7,9,2],[10,2],[6,11,2,2],[2,12]] [] hs rfl
    (repeat clear hs);intro g6 hs ai;obtain⟨ar,aD,aH,aW⟩:=dK ai ar aD aH aW;exact b_<|aar rfl<|bc<|bg<|bg<|cA<|fun a ha=>jM ⟨0,_,rfl,hs,ar,aH,aW,Nat.zero_le _,fin fun j h e=>by omega,ha.kp rfl⟩
   |succ k=>
    obtain⟨b3,p3,ys,rfl,aM,hx⟩:=aW.at (i:=k) (List.getElem?_eq_getElem (by omega));have NX: ∀j (h:j<S.length),j=k→S[j]=S[k]:=fun j h e=>by subst e;rfl
    generalize S[k]=y at*;obtain rfl:ys=cB y:=hx;apply ea (fe (.e (.bool true)::gU (eF (fe (.e (vI (k:Nat))::eF (.e (.bool (kl kg x y))::fe [])))))) 14 [(13,28)] (by kernel_rfl)
    ·exact pO [[]] [] hs rfl<|fR [(0,15)] (fun gd hf=>aax rfl (aaL rfl (congrArg Value.bool (decide_eq_true (by omega)))))<|pO [[1],[2],[2]] [] hs rfl<|fR [(3,18),(4,19),(2,17)] (fun gd hf=>aay rfl (ay rfl (fH T.ok rfl rfl rfl (by omega) bt rfl rfl rfl (aav rfl))))<|pO [[5,2],[2],[2]] [.e aD 0] hs rfl<|fR [(8,23),(2,17)] (fun gd hf=>aaw rfl (aaL rfl (congrArg (Value.int .i64) (by rw[wq];omega))))<|fR [(7,22),(9,24),(2,17)] (fun gd hf=>aay rfl (ay rfl (fH T.ok rfl rfl rfl (by omega) hk rfl rfl rfl (aav rfl))))<|EG [[10,2],[6,11,2,2],[2,12]] [.e aM 0,.c (Wc 153) fun g' _=>Hp x y g'] hs rfl
    intro g6 aP;refine aax rfl ?_;have ai:=(G.bI _).trans aP.le;have hs:=hs.dr.call aP;obtain⟨ar,aD,aM,aH,aW⟩:=nX ai ar aD aM aH aW;apply b_;cases hb:kl kg x y with
    |true=>
     refine aas rfl<|aF<|aq<|aI<|an<|Wp 3 rfl<|aA<|bJ<|fun a ha=>⟨0+k,by omega,k,_,rfl,hs,ar,aH,aW,aD,by omega,fun j h hj=>?_,rfl,ha.keep ⟨rfl,rfl,rfl,kW rfl,trivial⟩⟩
     by_cases e:j=k
     ·rw[NX j h e];exact hb
     exact de j h (by omega)
    |false=>
     exact aar rfl<|bc<|bg<|bg<|cA<|fun a ha=>jM ⟨k+1,_,rfl,hs,ar,aH,aW,hk,fin fun j h e=>by rw[NX j h (by omega)];exact hb,ha.kp rfl⟩
  (repeat clear hs);(repeat clear ar);(repeat clear aH);(repeat clear aW);(repeat clear aD);rintro a' _ ⟨k,g2,rfl,hs,ar,aH,aW,hk,dI,dW⟩;replace hs:=hs.eP 40 19 none;revert a';refine ct<|aZ rfl<|cG 3 rfl<|ak rfl rfl<|gV T.ok rfl rfl rfl rfl rfl (a:=0) (b:=k) rfl ⟨_,rfl⟩ (by omega) (by have:=aW.mM;omega) ?_;have cj:=aW.cut (a:=0) (b:=k) (by omega) hk;obtain⟨_,news,NY,uX⟩:=Src.jx cj;obtain rfl:=qx NY;have hX:(S.take k).length=k:=by rw[List.length_take];omega
  have hY:(S.drop k).length=S.length-k:=List.length_drop;rw[show l.take (i+1)=l.take (i+1)from rfl]at dI;obtain⟨X,YF⟩: ∃X,S.take k=X:=⟨_,rfl⟩;have QB:(S.take k).drop 0=X:=YF;rw[YF]at dI hX;rw[QB]at uX;clear cj QB;refine ak rfl rfl<|bU T.ok 0 rfl hs rfl rfl rfl rfl rfl rfl rfl (by decide) rfl uX (rD g _) (by show(0+(k-0))*160≤_;omega) (by show 0+(k-0)≤maxLen;unfold maxLen;omega) ?_;(repeat clear hs);rintro a6 c6 g10 hs ai;obtain⟨ar,aH,aW⟩:=dR ai ar aH aW;have e0:0+(k-0)=(X).length:=by rw[hX]<;>omega
  rw[e0]at hs⊢;replace hs:St g g10 [rF a6 c6 (X)]:=by exact hs
  refine aX rfl<|cG 3 rfl<|zc (y:=x) aH eH rfl ?_;rintro b9 q9 ys aL rfl;have aM:=aL;clear aL;refine q5 1 [.e aM 0] rfl ?_;clear aM;refine BP [(0,fv x)] (fl [x]) hs rfl rfl ?_;(repeat clear hs);rintro bl gl hs ai;obtain⟨ar,aH,aW⟩:=dR ai ar aH aW;refine ak rfl rfl<|bU T.ok 1 rfl hs rfl rfl rfl rfl rfl rfl rfl (by decide) rfl (Src.eI (hs.own 0 _ rfl).1).2 (rD g _) (by show((X).length+1)*160≤_;omega) (by show(X).length+1≤maxLen;unfold maxLen;omega) ?_;(repeat clear hs);rintro a6 c6 g10 hs ai;obtain⟨ar,aH,aW⟩:=dR ai ar aH aW;have e0:(X).length+1=(X++[x]).length:=by rw[List.length_append,List.length_singleton]<;>omega
  rw[e0]at hs⊢;replace hs:St g g10 [rF a6 c6 (X++[x])]:=by unfold rF;rw[mN];exact hs.drop 0
  refine aX rfl<|an<|Wp 3 rfl<|ak rfl rfl<|gV T.ok rfl rfl rfl rfl rfl (a:=k) (b:=S.length) ⟨_,rfl⟩ rfl (by omega) (by have:=aW.mM;omega) ?_;have cj:=aW.cut (a:=k) (b:=S.length) (by omega) (Nat.le_refl _);rw[List.take_length]at cj;obtain⟨_,news,NY,uX⟩:=Src.jx cj;obtain rfl:=qx NY;clear cj aW;refine ak rfl rfl<|bU T.ok 0 rfl hs rfl rfl rfl rfl rfl rfl rfl (by decide) rfl uX (rD g _) (by show((X++[x]).length+(S.length-k))*160≤_;omega) (by show(X++[x]).length+(S.length-k)≤maxLen;unfold maxLen;omega) ?_;(repeat clear hs);rintro a6 c6 g10 hs ai;obtain⟨ar,aH⟩:=cr ai ar aH;have e0:(X++[x]).length+(S.length-k)=(X++[x]++S.drop k).length:=by rw[@List.length_append _ (X++[x]),hY]<;>omega
  rw[e0]at hs⊢;replace hs:St g g10 [rF a6 c6 (X++[x]++S.drop k)]:=by unfold rF;rw[mN (X++[x])];exact hs
  obtain⟨gz,gF,cK,gW,aW⟩:=hs.cP (α:=bO) (i:=0) rfl (cY.fl _ _);have ai:=gW;rw[←gF];(repeat clear hs);have hs:St g gz []:=cK;clear cK;obtain⟨ar,aH⟩:=cr ai ar aH;rw[show X++[x]++S.drop k=dC kg (l.take (i+1))from by rw[dI];simp]at aW⊢;exact Wp 1 rfl<|aA<|bJ<|aq<|an<|Wp 3 rfl<|aA<|fun a ha=>⟨l.length-(i+1),by omega,i+1,_,_,rfl,hs,ar,aH,aW,by omega,rfl,ha.keep ⟨rfl,rfl,kW rfl,trivial⟩⟩
 refine aQ (b:=decide ((i:Int)<(l.length:Int))) (decide_eq_false (by omega)) rfl ?_;rw[List.take_of_length_le (by omega)]at hS;exact bc<|bg<|bg<|cA<|aq<|aZ rfl<|aG (nw rfl hs (by rw[hS];exact aW))
end Go.Proofs.YtbfjdfecgiegpaaGreatDoor
namespace Go.Proofs.YtbfjdfecgiegpaaGreatDoor
open Go Go.K Tryz
set_option maxRecDepth 10000
attribute [local irreducible] W WL cS bh bY bB bA bC cL cD
set_option maxHeartbeats 2000000
theorem il{g:G}{v:Value}{b:eL}(h:fV g v b): ∃(A:Nat→Option Addr) (N C:Nat→Nat),v= .agg ((List.range 11).map fun i=> .slice (A i) (N i) (C i)).toArray∧ ∀i,i<11→Rs g (.slice (A i) (N i) (C i)) (b.ls i)∧N i=(b.ls i).length:=by
 obtain⟨sl,rfl,dS⟩:=h;have key: ∀i,∃p:Option Addr×Nat×Nat,i<11→sl i= .slice p.1 p.2.1 p.2.2∧p.2.1=(b.ls i).length:=fun i=>by
  by_cases hi:i<11
  ·obtain⟨a,c,e⟩:=(dS i hi).isSlice;exact⟨(a,_,c),fun _=>⟨e,rfl⟩⟩
  exact⟨(none,0,0),fun h=>absurd h hi⟩
 obtain⟨p,hp⟩: ∃p:Nat→Option Addr×Nat×Nat,∀i,i<11→sl i= .slice (p i).1 (p i).2.1 (p i).2.2∧(p i).2.1=(b.ls i).length:=⟨fun i=>(key i).choose,fun i=>(key i).choose_spec⟩;refine⟨fun i=>(p i).1,fun i=>(p i).2.1,fun i=>(p i).2.2,?_,fun i hi=>⟨?_,(hp i hi).2⟩⟩
 ·congr 2;exact List.map_congr_left fun i hi=>(hp i (List.mem_range.1 hi)).1
 have:=dS i hi;rw[(hp i hi).1]at this;exact this
theorem Hr(v:Value)(b:eL)(time:Int)(g:G)(aT:fV g v b)(hb:vQ b):cN prog 152 #[v,vI time] g fun g' r=>Rs g' r (dC kg (b.wx.filter (Er time))):=by
 have hs:=(St.start g).eP 40 19 none;have ar:=G.le.refl g;have e_:=aT;obtain⟨A,N',C,rfl,dS⟩:=il aT;have aT:fV g (.agg ((List.range 11).map fun i=> .slice (A i) (N' i) (C i)).toArray) b:=e_;clear e_;obtain⟨aH,hN⟩:=dS 2 (by decide);have hl:(b.ls 2).length≤1000000:=hb 2;show cN prog 152 _ g fun g' r=>Rs g' r (dC kg ((b.ls 2).filter (Er time)));clear aT dS;generalize b.ls 2=l at*;refine enter func152 rfl ntmps152 rfl<|cR<|An hs rfl fun b2 g2 hs ai aD=>?_;obtain⟨ar,aH⟩:=cr ai ar aH;replace hs:St g g2 [rF none 0 []]:=hs;refine aX rfl<|aZ rfl<|az<|aZ rfl<|aI ?_
 refine bK (fun m a' w=> ∃(i:Nat) (ad:Option Addr) (c:Nat) (xs:List bO) (g':G),w=g'.w∧St g g' [rF ad c xs]∧G.le g g'∧Rs g' (.slice (A 2) (N' 2) (C 2)) l∧EP g' b2 0 ((List.range 11).map fun i=> .slice (A i) (N' i) (C i))∧i≤l.length∧(l.take i).filter (Er time)=xs∧m+i=l.length∧
   Fr 40 [] [(1,vI time),(2,vP b2),(5,.slice ad xs.length c),(6,vI (i:Nat))] a') l.length
  (fun a' ha=>⟨0,none,0,[],_,rfl,hs,ar,aH,aD,Nat.zero_le _,rfl,rfl,ha.kp rfl⟩) ?_
 (repeat clear hs);(repeat clear ar);(repeat clear aH);(repeat clear aD);rintro m a' _ ⟨i,ad,c,xs,g',rfl,hs,ar,aH,aD,hi,lg,hm,dW⟩;have so:xs.length≤i:=by rw[←lg];exact Nat.le_trans (List.length_filter_le ..) (by rw[List.length_take];omega)
 revert a';refine ct<|az<|Hw [.z aD] rfl ?_;by_cases bt:i<l.length
 ·refine aJ (b:=decide ((i:Int)<(N' 2:Int))) (decide_eq_true (by omega)) rfl ?_;have eH:dJ l (i:Int)=some l[i]:=bZ rfl bt;have dP:(l.take (i+1)).filter (Er time)=xs++(if Er time l[i]then [l[i]]else []):=by rw[List.take_add_one,List.getElem?_eq_getElem bt,List.filter_append,lg,Option.toList_some,List.filter_cons];split<;>simp[*]
  generalize l[i]=x at*;have UQ:Er time x=((iV x.waf&&iV x.oth)&&decide (x.time≤time)):=rfl;refine aF<|aq<|az<|aI<|sP 3 [.z aD] rfl<|zc (y:=x) aH eH rfl ?_;rintro b9 q9 ys aL rfl;have aM:=aL;clear aL;refine q5 1 [.e aM 0] rfl<|w4 hs rfl fun b7 g1 hs ai=>?_;obtain⟨ar,aD,aM,aH⟩:=dK ai ar aD aM aH;refine Hs 0 hs rfl fun g2 hs ai aL=>?_;obtain⟨ar,aD,aM,aH⟩:=dK ai ar aD aM aH;clear aM;have aM:=aL;clear aL;replace hs:St g _ [rF ad c xs]:=hs;refine b_<|sP 2 [.z aM] rfl<|sO rfl (BC x.waf _) ?_;rintro g1 _ aP rfl;replace hs:=hs.call aP;have ai:=aP.le;obtain⟨ar,aD,aM,aH⟩:=dK ai ar aD aM aH;clear aP;cases h1:iV x.waf with
  |false=>
   exact aX rfl<|aar rfl<|aF<|bJ<|aq<|an<|Wp 3 rfl<|aA<|fun a ha=>⟨m-1,by omega,i+1,ad,c,xs,_,rfl,hs,ar,aH,aD,by omega,by rw[dP,UQ,h1];simp,by omega,ha.keep ⟨rfl,rfl,rfl,kW rfl,trivial⟩⟩
  |true=>
   refine q5 3 [.z aM] rfl<|sO rfl (BC x.oth _) ?_;rintro g1 _ aP rfl;replace hs:=hs.call aP;have ai:=aP.le;obtain⟨ar,aD,aM,aH⟩:=dK ai ar aD aM aH;clear aP;cases h2:iV x.oth with
   |false=>
    exact aX rfl<|aar rfl<|aF<|bJ<|aq<|an<|Wp 3 rfl<|aA<|fun a ha=>⟨m-1,by omega,i+1,ad,c,xs,_,rfl,hs,ar,aH,aD,by omega,by rw[dP,UQ,h1,h2];simp,by omega,ha.keep ⟨rfl,rfl,rfl,kW rfl,trivial⟩⟩
   |true=>
    refine KY [.z aM] rfl ?_;cases h3:decide (x.time≤time)with
    |false=>
     exact aar rfl<|aF<|bJ<|aq<|an<|Wp 3 rfl<|aA<|fun a ha=>⟨m-1,by omega,i+1,ad,c,xs,_,rfl,hs,ar,aH,aD,by omega,by rw[dP,UQ,h1,h2,h3];simp,by omega,ha.keep ⟨rfl,rfl,rfl,kW rfl,trivial⟩⟩
    |true=>
     refine aas rfl ?_;rw[UQ,h1,h2,h3]at dP;refine an<|q5 2 [.z aM] rfl<|BP [(0,fv x)] (fl [x]) hs rfl rfl ?_;(repeat clear hs);rintro bl gl hs ai;obtain⟨ar,aD,aH⟩:=dR ai ar aD aH;refine ak rfl rfl<|bU T.ok 1 rfl hs rfl rfl rfl rfl rfl rfl rfl (by decide) rfl (Src.eI (hs.own 0 _ rfl).1).2 (rD g _) (by show((xs).length+1)*160≤_;omega) (by show(xs).length+1≤maxLen;unfold maxLen;omega) ?_;(repeat clear hs);rintro a6 c6 g10 hs ai;obtain⟨ar,aD,aH⟩:=dR ai ar aD aH;have e0:(xs).length+1=(xs++[x]).length:=by rw[List.length_append,List.length_singleton]<;>omega
     rw[e0]at hs⊢;replace hs:St g g10 [rF a6 c6 (xs++[x])]:=by unfold rF;rw[mN];exact hs.drop 0
     exact Wp 1 rfl<|aA<|bJ<|aq<|an<|Wp 3 rfl<|aA<|fun a ha=>⟨m-1,by omega,i+1,_,_,_,_,rfl,hs,ar,aH,aD,by omega,dP,by omega,ha.keep ⟨rfl,rfl,rfl,kW rfl,trivial⟩⟩
 refine aQ (b:=decide ((i:Int)<(N' 2:Int))) (decide_eq_false (by omega)) rfl ?_;rw[List.take_of_length_le (by omega)]at lg;refine bc<|bg<|bg<|cA<|aq<|cG 1 rfl ?_;obtain⟨gz,gF,cK,gW,cj⟩:=hs.cP (α:=bO) (i:=0) rfl (cY.fl _ _);have ai:=gW;rw[←gF];(repeat clear hs);have hs:St g gz []:=cK;clear cK;refine sO rfl (Hq _ xs _ cj (by omega)) fun g1 _ aP dw=>?_;replace hs:=hs.call aP;have ai:=aP.le;clear aP;exact aX rfl<|aG (nw rfl hs (by rw[lg];exact dw))
end Go.Proofs.YtbfjdfecgiegpaaGreatDoor
namespace Go.Proofs.YtbfjdfecgiegpaaGreatDoor
open Go Go.K Tryz
set_option maxRecDepth 10000
attribute [local irreducible] W WL cS bh bY bB bA bC cL cD
set_option maxHeartbeats 2000000
theorem Ht(v:Value)(b:eL)(mark time:Int)(g:G)(aT:fV g v b)(hb:vQ b):cN prog 76 #[v,vI mark,vI time] g fun _ r=>r=vI (o6 b mark time):=by
 have hs:=St.start g;have ar:=G.le.refl g;have e_:=aT;obtain⟨A,N',C,rfl,dS⟩:=il aT;have aT:fV g (.agg ((List.range 11).map fun i=> .slice (A i) (N' i) (C i)).toArray) b:=e_;clear e_;clear dS;refine enter func76 rfl ntmps76 rfl<|cR<|An hs rfl fun b2 g2 hs ai aD=>?_;obtain⟨ar,aT⟩:=cr ai ar aT;replace hs:St g g2 []:=hs;refine aX rfl<|az<|cG 1 rfl<|sO rfl (BC mark _) ?_;rintro g1 _ aP rfl;replace hs:=hs.call aP;have ai:=aP.le;obtain⟨ar,aD,aT⟩:=dR ai ar aD aT;clear aP;cases h1:iV mark with
 |false=>
  exact aX rfl<|aas rfl<|aZ rfl<|aG (nw rfl hs (by unfold o6;rw[h1];rfl))
 |true=>
  refine aX rfl<|aar rfl<|aF<|aq<|sP 2 [.z aD] rfl<|sO rfl (Hr _ b time _ aT hb) fun g1 _ aP cj=>?_;replace hs:=hs.call aP;have ai:=aP.le;replace ar:=G.le.trans ar ai;clear aP;rw[FJ b mark time h1];have hl:(dC kg (b.wx.filter (Er time))).length≤1000000:=by rw[fG];exact Nat.le_trans (List.length_filter_le ..) (hb 2)
  generalize dC kg (b.wx.filter (Er time))=l at*;obtain⟨a,c,rfl⟩:=cj.isSlice;clear aD aT;refine aX rfl<|az<|aZ rfl<|aI ?_
  refine bK (fun m a' w=> ∃(cur:Int) (g':G),w=g'.w∧St g g' []∧G.le g g'∧Rs g' (.slice a l.length c) l∧m≤l.length∧(l.take m).foldr vw cur=l.foldr vw mark∧True∧
    Fr 47 [] [(1,vI cur),(7,.slice a l.length c),(8,vI ((m:Int)-1))] a') l.length
   (fun a' ha=>⟨mark,_,rfl,hs,ar,cj,Nat.le_refl _,by rw[List.take_length],trivial,ha.keep ⟨rfl,rfl,kI rfl (by rw[wq]),trivial⟩⟩) ?_
  (repeat clear hs);(repeat clear ar);(repeat clear cj);rintro m a' _ ⟨cur,g',rfl,hs,ar,cj,hi,lg,_,dW⟩;revert a';refine ct<|az<|aZ rfl ?_;cases m with
  |zero=>
   exact aQ (b:=decide ((0:Int)≤((0:Nat):Int)-1)) rfl rfl<|bc<|bg<|bg<|cA<|aq<|aZ rfl<|aG (nw rfl hs (congrArg (Value.int .i64) lg))
  |succ j=>
   refine aJ (b:=decide ((0:Int)≤((j+1:Nat):Int)-1)) (decide_eq_true (by omega)) rfl ?_;have bt:j<l.length:=by omega
   have eH:dJ l (((j+1:Nat):Int)-1)=some l[j]:=bZ (by omega) bt;have Ac:(l.take (j+1)).foldr vw cur=(l.take j).foldr vw (vw l[j] cur):=by rw[List.take_add_one,List.getElem?_eq_getElem bt,List.foldr_append];rfl
   generalize l[j]=x at*;refine aF<|aq<|az<|aI<|cG 3 rfl<|zc (y:=x) cj eH rfl ?_;rintro b9 q9 ys aL rfl;refine Wp 1 rfl<|q5 1 [.e aL 7] rfl<|aX rfl ?_;by_cases e1:cur=x.waf
   ·refine aJ (b:=cur==x.waf) (by simp[e1]) rfl<|an<|Wp 2 rfl<|zc (y:=x) cj eH rfl ?_;rintro b9 q9 ys aL rfl;exact Wp 1 rfl<|q5 1 [.e aL 8] rfl<|Wp 1 rfl<|aA<|bJ<|aq<|an<|Wp 3 rfl<|aA<|fun a ha=>⟨j,by omega,x.oth,_,rfl,hs,ar,cj,by omega,by rw[←lg,Ac,show vw x cur=x.oth from if_pos e1],trivial,ha.keep ⟨rfl,rfl,kW rfl,trivial⟩⟩
   refine aQ (b:=cur==x.waf) (by simp[e1]) rfl<|cG 3 rfl<|zc (y:=x) cj eH rfl ?_;rintro b9 q9 ys aL rfl;refine Wp 1 rfl<|q5 1 [.e aL 8] rfl<|aX rfl ?_;by_cases e2:cur=x.oth
   ·refine aJ (b:=cur==x.oth) (by simp[e2]) rfl<|an<|Wp 2 rfl<|zc (y:=x) cj eH rfl ?_;rintro b9 q9 ys aL rfl;exact Wp 1 rfl<|q5 1 [.e aL 7] rfl<|Wp 1 rfl<|aA<|bJ<|aq<|an<|Wp 3 rfl<|aA<|fun a ha=>⟨j,by omega,x.waf,_,rfl,hs,ar,cj,by omega,by rw[←lg,Ac,show vw x cur=x.waf from(if_neg e1).trans (if_pos e2)],trivial,ha.keep ⟨rfl,rfl,kW rfl,trivial⟩⟩
   exact aQ (b:=cur==x.oth) (by simp[e2]) rfl<|aF<|bJ<|aq<|an<|Wp 3 rfl<|aA<|fun a ha=>⟨j,by omega,cur,_,rfl,hs,ar,cj,by omega,by rw[←lg,Ac,show vw x cur=cur from(if_neg e1).trans (if_neg e2)],trivial,ha.keep ⟨rfl,rfl,kW rfl,trivial⟩⟩
theorem Eu(v:Value)(b:eL)(w:Int)(g:G)(aT:fV g v b)(hb:vQ b):cN prog 30 #[v,vI w] g fun g' r=>Rs g' r (lu b w):=by
 have hs:=(St.start g).eP 40 19 none;have ar:=G.le.refl g;have e_:=aT;obtain⟨A,N',C,rfl,dS⟩:=il aT;have aT:fV g (.agg ((List.range 11).map fun i=> .slice (A i) (N' i) (C i)).toArray) b:=e_;clear e_;obtain⟨aH,hN⟩:=dS 0 (by decide);have hl:(b.ls 0).length≤1000000:=hb 0;clear dS;refine enter func30 rfl ntmps30 rfl<|cR<|An hs rfl fun b2 g2 hs ai aD=>?_;obtain⟨ar,aH,aT⟩:=dR ai ar aH aT;replace hs:St g g2 [rF none 0 []]:=hs;refine aX rfl<|az<|cG 1 rfl<|sO rfl (BC w _) ?_;rintro g1 _ aP rfl;replace hs:=hs.call aP;have ai:=aP.le;obtain⟨ar,aD,aH,aT⟩:=dK ai ar aD aH aT;clear aP;cases h1:iV w with
 |false=>
  exact aX rfl<|aas rfl<|aZ rfl<|aG (nw rfl hs (by unfold lu;rw[h1];exact Rs.nil _))
 |true=>
  refine aX rfl<|aar rfl ?_;have YG:lu b w=dC kg ((b.ls 0).filter fun f=>o6 b f.waf f.time==w):=by unfold lu;rw[h1];rfl
  rw[YG];clear YG;generalize vz:b.ls 0=l at*;refine aF<|aq<|aZ rfl<|az<|aZ rfl<|aI ?_
  refine bK (fun m a' u=> ∃(i:Nat) (ad:Option Addr) (c:Nat) (xs:List bO) (g':G),u=g'.w∧St g g' [rF ad c xs]∧G.le g g'∧Rs g' (.slice (A 0) (N' 0) (C 0)) l∧EP g' b2 0 ((List.range 11).map fun i=> .slice (A i) (N' i) (C i))∧fV g' (.agg ((List.range 11).map fun i=> .slice (A i) (N' i) (C i)).toArray) b∧i≤l.length∧((l.take i).filter fun f=>o6 b f.waf f.time==w)=xs∧m+i=l.length∧
    Fr 37 [] [(1,vI w),(2,vP b2),(5,.slice ad xs.length c),(6,vI (i:Nat))] a') l.length
   (fun a' ha=>⟨0,none,0,[],_,rfl,hs,ar,aH,aD,aT,Nat.zero_le _,rfl,rfl,ha.kp rfl⟩) ?_
  (repeat clear hs);(repeat clear ar);(repeat clear aH);(repeat clear aD);(repeat clear aT);rintro m a' _ ⟨i,ad,c,xs,g',rfl,hs,ar,aH,aD,aT,hi,lg,hm,dW⟩;have so:xs.length≤i:=by rw[←lg];exact Nat.le_trans (List.length_filter_le ..) (by rw[List.length_take];omega)
  revert a';refine ct<|az<|Hw [.z aD] rfl ?_;by_cases bt:i<l.length
  ·refine aJ (b:=decide ((i:Int)<(N' 0:Int))) (decide_eq_true (by omega)) rfl ?_;have eH:dJ l (i:Int)=some l[i]:=bZ rfl bt;have dP:((l.take (i+1)).filter fun f=>o6 b f.waf f.time==w)=xs++(if o6 b l[i].waf l[i].time==w then [l[i]]else []):=by rw[List.take_add_one,List.getElem?_eq_getElem bt,List.filter_append,lg,Option.toList_some,List.filter_cons];split<;>simp[*]
   generalize l[i]=x at*;refine aF<|aq<|az<|aI<|sP 3 [.z aD] rfl<|zc (y:=x) aH eH rfl ?_;rintro b9 q9 ys aL rfl;have aM:=aL;clear aL;refine q5 1 [.e aM 0] rfl<|w4 hs rfl fun b7 g1 hs ai=>?_;obtain⟨ar,aD,aM,aH,aT⟩:=nX ai ar aD aM aH aT;refine Hs 0 hs rfl fun g2 hs ai aL=>?_;obtain⟨ar,aD,aM,aH,aT⟩:=nX ai ar aD aM aH aT;clear aM;have aM:=aL;clear aL;replace hs:St g _ [rF ad c xs]:=hs;refine b_<|sP 5 [.z aD,.z aM,.z aM] rfl<|sO rfl (Ht _ b x.waf x.time _ aT hb) ?_;rintro g1 _ aP rfl;replace hs:=hs.call aP;have ai:=aP.le;obtain⟨ar,aD,aM,aH,aT⟩:=nX ai ar aD aM aH aT;clear aP;refine aX rfl ?_;cases h2:o6 b x.waf x.time==w with
   |false=>
    exact aar rfl<|aF<|bJ<|aq<|an<|Wp 3 rfl<|aA<|fun a ha=>⟨m-1,by omega,i+1,ad,c,xs,_,rfl,hs,ar,aH,aD,aT,by omega,by rw[dP,h2];simp,by omega,ha.keep ⟨rfl,rfl,rfl,kW rfl,trivial⟩⟩
   |true=>
    refine aas rfl ?_;rw[h2]at dP;refine an<|q5 2 [.z aM] rfl<|BP [(0,fv x)] (fl [x]) hs rfl rfl ?_;(repeat clear hs);rintro bl gl hs ai;obtain⟨ar,aD,aH,aT⟩:=dK ai ar aD aH aT;refine ak rfl rfl<|bU T.ok 1 rfl hs rfl rfl rfl rfl rfl rfl rfl (by decide) rfl (Src.eI (hs.own 0 _ rfl).1).2 (rD g _) (by show((xs).length+1)*160≤_;omega) (by show(xs).length+1≤maxLen;unfold maxLen;omega) ?_;(repeat clear hs);rintro a6 c6 g10 hs ai;obtain⟨ar,aD,aH,aT⟩:=dK ai ar aD aH aT;have e0:(xs).length+1=(xs++[x]).length:=by rw[List.length_append,List.length_singleton]<;>omega
    rw[e0]at hs⊢;replace hs:St g g10 [rF a6 c6 (xs++[x])]:=by unfold rF;rw[mN];exact hs.drop 0
    exact Wp 1 rfl<|aA<|bJ<|aq<|an<|Wp 3 rfl<|aA<|fun a ha=>⟨m-1,by omega,i+1,_,_,_,_,rfl,hs,ar,aH,aD,aT,by omega,dP,by omega,ha.keep ⟨rfl,rfl,rfl,kW rfl,trivial⟩⟩
  refine aQ (b:=decide ((i:Int)<(N' 0:Int))) (decide_eq_false (by omega)) rfl ?_;rw[List.take_of_length_le (by omega)]at lg;refine bc<|bg<|bg<|cA<|aq<|cG 1 rfl ?_;obtain⟨gz,gF,cK,gW,cj⟩:=hs.cP (α:=bO) (i:=0) rfl (cY.fl _ _);have ai:=gW;rw[←gF];(repeat clear hs);have hs:St g gz []:=cK;clear cK;refine sO rfl (Hq _ xs _ cj (by omega)) fun g1 _ aP dw=>?_;replace hs:=hs.call aP;have ai:=aP.le;clear aP;exact aX rfl<|aG (nw rfl hs (by rw[lg];exact dw))
end Go.Proofs.YtbfjdfecgiegpaaGreatDoor
namespace Go.Proofs.YtbfjdfecgiegpaaGreatDoor
open Go Go.K Tryz
set_option maxRecDepth 10000
attribute [local irreducible] W WL cS bh bY bB bA bC cL cD
set_option maxHeartbeats 4000000
abbrev oF(b:Nat)(f:bO):df:=vO b (cB f) 40
theorem Hu(v:Value)(b:eL)(w time:Int)(g:G)(aT:fV g v b)(hb:vQ b):cN prog 89 #[v,vI w,vI time] g fun _ r=>r= .tuple #[vI ((ni b w time).getD fS).lot,vI ((ni b w time).getD fS).prod]:=by
 have hs:=St.start g;have ar:=G.le.refl g;have e_:=aT;obtain⟨A,N',C,rfl,dS⟩:=il aT;have aT:fV g (.agg ((List.range 11).map fun i=> .slice (A i) (N' i) (C i)).toArray) b:=e_;clear e_;obtain⟨aH,hN⟩:=dS 3 (by decide);have hl:(b.ls 3).length≤1000000:=hb 3;have Kf:ni b w time=(b.ls 3).foldl (kO w time) none:=rfl;rw[Kf];clear dS aT Kf;generalize b.ls 3=l at*;refine enter func89 rfl ntmps89 rfl<|cR<|An hs rfl fun b2 g2 hs ai aD=>?_;obtain⟨ar,aH⟩:=cr ai ar aH;replace hs:St g g2 []:=hs;refine aX rfl<|cR<|BO [] (cB fS) [(0,1),(1,1),(2,1),(3,1),(4,1),(5,1),(6,1),(7,1),(8,1),(9,1),(10,1),(11,1),(12,1),(13,1),(14,1),(15,1),(16,1),(17,1),(18,1)] rfl<|w4 hs rfl fun b8 g1 hs ai=>?_;obtain⟨ar,aD,aH⟩:=dR ai ar aD aH;refine sN 0 hs rfl fun g1 hs ai=>?_;obtain⟨ar,aD,aH⟩:=dR ai ar aD aH;replace hs:St g g1 [oF b8 ((none:Option bO).getD fS)]:=hs;refine b_<|aZ rfl<|az<|aZ rfl<|aI ?_
 refine bK (fun m a' u=> ∃(i:Nat) (o:Option bO) (g':G),u=g'.w∧St g g' [oF b8 (o.getD fS)]∧G.le g g'∧Rs g' (.slice (A 3) (N' 3) (C 3)) l∧EP g' b2 0 ((List.range 11).map fun i=> .slice (A i) (N' i) (C i))∧i≤l.length∧(l.take i).foldl (kO w time) none=o∧m+i=l.length∧
   Fr 55 [] [(1,vI w),(2,vI time),(3,vP b2),(8,vP b8),(9,.bool o.isSome),(10,vI (i:Nat))] a') l.length
  (fun a' ha=>⟨0,none,_,rfl,hs,ar,aH,aD,Nat.zero_le _,rfl,rfl,ha.kp rfl⟩) ?_
 (repeat clear hs);(repeat clear ar);(repeat clear aH);(repeat clear aD);rintro m a' _ ⟨i,o,g',rfl,hs,ar,aH,aD,hi,lg,hm,dW⟩;revert a';refine ct<|az<|Hw [.z aD] rfl ?_;by_cases bt:i<l.length
 ·refine aJ (b:=decide ((i:Int)<(N' 3:Int))) (decide_eq_true (by omega)) rfl ?_;have eH:dJ l (i:Int)=some l[i]:=bZ rfl bt;have dP:(l.take (i+1)).foldl (kO w time) none=kO w time o l[i]:=by rw[List.take_add_one,List.getElem?_eq_getElem bt,List.foldl_append,lg];rfl
  generalize l[i]=x at*;refine aF<|aq<|az<|aI<|sP 3 [.z aD] rfl<|zc (y:=x) aH eH rfl ?_;rintro b9 q9 ys aL rfl;have aM:=aL;clear aL;refine q5 1 [.e aM 0] rfl<|w4 hs rfl fun b7 g1 hs ai=>?_;obtain⟨ar,aD,aM,aH⟩:=dK ai ar aD aM aH;refine Hs 0 hs rfl fun g2 hs ai aL=>?_;obtain⟨ar,aD,aM,aH⟩:=dK ai ar aD aM aH;clear aM;have aM:=aL;clear aL;replace hs:St g _ [oF b8 (o.getD fS)]:=hs;refine b_<|cG 1 rfl<|sO rfl (BC w _) ?_;rintro g1 _ aP rfl;replace hs:=hs.call aP;have ai:=aP.le;obtain⟨ar,aD,aM,aH⟩:=dK ai ar aD aM aH;clear aP;cases h1:iV w with
  |false=>
   exact aX rfl<|aar rfl<|aF<|bJ<|aq<|an<|Wp 3 rfl<|aA<|fun a ha=>⟨m-1,by omega,i+1,o,_,rfl,hs,ar,aH,aD,by omega,dP.trans (by unfold kO tV;rw[h1];rfl),by omega,ha.keep ⟨rfl,rfl,rfl,rfl,rfl,kW rfl,trivial⟩⟩
  |true=>
   refine q5 7 [.z aM] rfl ?_;cases h2:x.waf==w with
   |false=>
    exact aX rfl<|aar rfl<|aF<|bJ<|aq<|an<|Wp 3 rfl<|aA<|fun a ha=>⟨m-1,by omega,i+1,o,_,rfl,hs,ar,aH,aD,by omega,dP.trans (by unfold kO tV;rw[h1,h2];rfl),by omega,ha.keep ⟨rfl,rfl,rfl,rfl,rfl,kW rfl,trivial⟩⟩
   |true=>
    refine q5 6 [.z aM] rfl ?_;cases h3:decide (x.time≤time)with
    |false=>
     exact aX rfl<|aar rfl<|aF<|bJ<|aq<|an<|Wp 3 rfl<|aA<|fun a ha=>⟨m-1,by omega,i+1,o,_,rfl,hs,ar,aH,aD,by omega,dP.trans (by unfold kO tV;rw[h1,h2,h3];rfl),by omega,ha.keep ⟨rfl,rfl,rfl,rfl,rfl,kW rfl,trivial⟩⟩
    |true=>
     cases o with
     |none=>
      refine aX rfl<|aas rfl<|sP 1 [.z aM] rfl<|sN 0 hs rfl fun g1 hs ai=>?_;obtain⟨ar,aD,aM,aH⟩:=dK ai ar aD aM aH;replace hs:St g g1 [oF b8 ((some x).getD fS)]:=hs;exact b_<|an<|Wp 1 rfl<|aA<|bJ<|aq<|an<|Wp 3 rfl<|aA<|fun a ha=>⟨m-1,by omega,i+1,(some x),_,rfl,hs,ar,aH,aD,by omega,dP.trans (by unfold kO tV;rw[h1,h2,h3];rfl),by omega,ha.keep ⟨rfl,rfl,rfl,rfl,rfl,kW rfl,trivial⟩⟩
     |some y=>
      replace hs:St g _ [oF b8 y]:=hs;refine yu [.z aM,.o 0] hs rfl ?_;cases h4:decide (y.time<x.time)with
      |false=>
       exact aar rfl<|aF<|bJ<|aq<|an<|Wp 3 rfl<|aA<|fun a ha=>⟨m-1,by omega,i+1,(some y),_,rfl,hs,ar,aH,aD,by omega,dP.trans (by unfold kO tV;simp only[h1,h2,h3,h4];rfl),by omega,ha.keep ⟨rfl,rfl,rfl,rfl,rfl,kW rfl,trivial⟩⟩
      |true=>
       refine aas rfl<|sP 1 [.z aM] rfl<|sN 0 hs rfl fun g1 hs ai=>?_;obtain⟨ar,aD,aH⟩:=dR ai ar aD aH;replace hs:St g g1 [oF b8 ((some x).getD fS)]:=hs;exact b_<|an<|Wp 1 rfl<|aA<|bJ<|aq<|an<|Wp 3 rfl<|aA<|fun a ha=>⟨m-1,by omega,i+1,(some x),_,rfl,hs,ar,aH,aD,by omega,dP.trans (by unfold kO tV;simp only[h1,h2,h3,h4];rfl),by omega,ha.keep ⟨rfl,rfl,rfl,rfl,rfl,kW rfl,trivial⟩⟩
 refine aQ (b:=decide ((i:Int)<(N' 3:Int))) (decide_eq_false (by omega)) rfl ?_;rw[List.take_of_length_le (by omega)]at lg;rw[lg];refine bc<|bg<|bg<|cA<|aq<|az ?_;apply bD hs (gU (eF [])) 6 [(4,6),(5,7)] (by kernel_rfl) rfl
 ·exact EG [[],[0],[],[2],[1,1],[3,3]] [.o 0,.o 0] hs rfl
 (repeat clear hs);intro g6 hs ai;exact b_<|aG (HX rfl rfl rfl (hs.ret rfl))
theorem Ky(v:Value)(b:eL)(tool cham rcp rvn time:Int)(g:G)(aT:fV g v b)(hb:vQ b):cN prog 80 #[v,vI tool,vI cham,vI rcp,vI rvn,vI time] g fun _ r=>r= .bool (b.px.any (h_ tool cham rcp rvn time)):=by
 have hs:=St.start g;have ar:=G.le.refl g;have e_:=aT;obtain⟨A,N',C,rfl,dS⟩:=il aT;have aT:fV g (.agg ((List.range 11).map fun i=> .slice (A i) (N' i) (C i)).toArray) b:=e_;clear e_;obtain⟨aH,hN⟩:=dS 5 (by decide);have hl:(b.ls 5).length≤1000000:=hb 5;show cN prog _ _ g fun _ r=>r= .bool ((b.ls 5).any (h_ tool cham rcp rvn time));clear dS aT;generalize b.ls 5=l at*;refine enter func80 rfl ntmps80 rfl<|cR<|An hs rfl fun b2 g2 hs ai aD=>?_;obtain⟨ar,aH⟩:=cr ai ar aH;replace hs:St g g2 []:=hs;refine aX rfl<|az<|aZ rfl<|aI ?_
 refine bK (fun m a' u=> ∃(i:Nat) (g':G),u=g'.w∧St g g' []∧G.le g g'∧Rs g' (.slice (A 5) (N' 5) (C 5)) l∧EP g' b2 0 ((List.range 11).map fun i=> .slice (A i) (N' i) (C i))∧i≤l.length∧(l.take i).any (h_ tool cham rcp rvn time)=false∧m+i=l.length∧
   Fr 61 [] [(1,vI tool),(2,vI cham),(3,vI rcp),(4,vI rvn),(5,vI time),(6,vP b2),(13,vI (i:Nat))] a') l.length
  (fun a' ha=>⟨0,_,rfl,hs,ar,aH,aD,Nat.zero_le _,rfl,rfl,ha.kp rfl⟩) ?_
 (repeat clear hs);(repeat clear ar);(repeat clear aH);(repeat clear aD);rintro m a' _ ⟨i,g',rfl,hs,ar,aH,aD,hi,de,hm,dW⟩;revert a';refine ct<|az<|Hw [.z aD] rfl ?_;by_cases bt:i<l.length
 ·refine aJ (b:=decide ((i:Int)<(N' 5:Int))) (decide_eq_true (by omega)) rfl ?_;have eH:dJ l (i:Int)=some l[i]:=bZ rfl bt;have dP:(l.take (i+1)).any (h_ tool cham rcp rvn time)=((l.take i).any (h_ tool cham rcp rvn time)||(h_ tool cham rcp rvn time l[i]||false)):=by rw[List.take_add_one,List.getElem?_eq_getElem bt,List.any_append];rfl
  have kP:l[i]∈l:=List.getElem_mem bt;generalize l[i]=x at*;refine aF<|aq<|az<|aI<|sP 3 [.z aD] rfl<|zc (y:=x) aH eH rfl ?_;rintro b9 q9 ys aL rfl;have aM:=aL;clear aL;refine q5 1 [.e aM 0] rfl<|w4 hs rfl fun b7 g1 hs ai=>?_;obtain⟨ar,aD,aM,aH⟩:=dK ai ar aD aM aH;refine Hs 0 hs rfl fun g2 hs ai aL=>?_;obtain⟨ar,aD,aM,aH⟩:=dK ai ar aD aM aH;clear aM;have aM:=aL;clear aL;replace hs:St g _ []:=hs;refine b_<|sP 5 [.z aM] rfl ?_;cases h1:x.tool==tool with
  |false=>
   exact aX rfl<|aar rfl<|aF<|bJ<|aq<|an<|Wp 3 rfl<|aA<|fun a ha=>⟨m-1,by omega,i+1,_,rfl,hs,ar,aH,aD,by omega,by rw[dP,de];unfold h_;simp only[h1,Bool.false_and,Bool.or_false],by omega,ha.keep ⟨rfl,rfl,rfl,rfl,rfl,rfl,kW rfl,trivial⟩⟩
  |true=>
   refine q5 6 [.z aM] rfl ?_;cases h2:x.cham==cham with
   |false=>
    exact aX rfl<|aar rfl<|aF<|bJ<|aq<|an<|Wp 3 rfl<|aA<|fun a ha=>⟨m-1,by omega,i+1,_,rfl,hs,ar,aH,aD,by omega,by rw[dP,de];unfold h_;simp only[h2,Bool.false_and,Bool.and_false,Bool.or_false],by omega,ha.keep ⟨rfl,rfl,rfl,rfl,rfl,rfl,kW rfl,trivial⟩⟩
   |true=>
    refine q5 6 [.z aM] rfl ?_;cases h3:x.rcp==rcp with
    |false=>
     exact aX rfl<|aar rfl<|aF<|bJ<|aq<|an<|Wp 3 rfl<|aA<|fun a ha=>⟨m-1,by omega,i+1,_,rfl,hs,ar,aH,aD,by omega,by rw[dP,de];unfold h_;simp only[h3,Bool.false_and,Bool.and_false,Bool.or_false],by omega,ha.keep ⟨rfl,rfl,rfl,rfl,rfl,rfl,kW rfl,trivial⟩⟩
    |true=>
     refine q5 6 [.z aM] rfl ?_;cases h4:x.rvn==rvn with
     |false=>
      exact aX rfl<|aar rfl<|aF<|bJ<|aq<|an<|Wp 3 rfl<|aA<|fun a ha=>⟨m-1,by omega,i+1,_,rfl,hs,ar,aH,aD,by omega,by rw[dP,de];unfold h_;simp only[h4,Bool.false_and,Bool.and_false,Bool.or_false],by omega,ha.keep ⟨rfl,rfl,rfl,rfl,rfl,rfl,kW rfl,trivial⟩⟩
     |true=>
      refine q5 6 [.z aM] rfl ?_;cases h5:decide (x.time≤time)with
      |false=>
       exact aX rfl<|aar rfl<|aF<|bJ<|aq<|an<|Wp 3 rfl<|aA<|fun a ha=>⟨m-1,by omega,i+1,_,rfl,hs,ar,aH,aD,by omega,by rw[dP,de];unfold h_;simp only[h5,Bool.false_and,Bool.and_false,Bool.or_false],by omega,ha.keep ⟨rfl,rfl,rfl,rfl,rfl,rfl,kW rfl,trivial⟩⟩
      |true=>
       refine KY [.z aM] rfl ?_;cases h6:decide (time≤x.til)with
       |false=>
        exact aar rfl<|aF<|bJ<|aq<|an<|Wp 3 rfl<|aA<|fun a ha=>⟨m-1,by omega,i+1,_,rfl,hs,ar,aH,aD,by omega,by rw[dP,de];unfold h_;simp only[h6,Bool.and_false,Bool.or_false],by omega,ha.keep ⟨rfl,rfl,rfl,rfl,rfl,rfl,kW rfl,trivial⟩⟩
       |true=>
        exact aas rfl<|aZ rfl<|aG (nw rfl hs (congrArg Value.bool (List.any_eq_true.2 ⟨x,kP,by unfold h_;rw[h1,h2,h3,h4,h5,h6];rfl⟩).symm))
 refine aQ (b:=decide ((i:Int)<(N' 5:Int))) (decide_eq_false (by omega)) rfl ?_;rw[List.take_of_length_le (by omega)]at de;exact bc<|bg<|bg<|cA<|aq<|aZ rfl<|aG (nw rfl hs (by rw[de]))
theorem NZ(x:bO)(g:G):cN prog 219 #[fv x,vI 4] g fun _ r=>r=vI x.prod:=by have hs:=St.start g;refine enter func219 rfl ntmps219 rfl<|cR<|An hs rfl fun b2 g2 hs ai aD=>aX rfl<|sP 28 [.z aD,.z aD,.z aD,.z aD,.z aD,.z aD,.z aD,.z aD,.z aD,.z aD,.z aD,.z aD,.z aD,.z aD] rfl<|BP [(0,vI (x.idn)),(1,vI (x.waf)),(2,vI (x.oth)),(3,vI (x.lot)),(4,vI (x.prod)),(5,vI (x.tool)),(6,vI (x.cham)),(7,vI (x.step)),(8,vI (x.rcp)),(9,vI (x.rvn)),(10,vI (x.time)),(11,vI (x.til)),(12,vI (x.val)),(13,vI (x.par))] [vI (x.idn),vI (x.waf),vI (x.oth),vI (x.lot),vI (x.prod),vI (x.tool),vI (x.cham),vI (x.step),vI (x.rcp),vI (x.rvn),vI (x.time),vI (x.til),vI (x.val),vI (x.par)] hs rfl rfl fun bl gl hs ai=>?_;obtain⟨gz,gF,cK,gW,fh⟩:=hs.cP (α:=Int) (xs:=[x.idn,x.waf,x.oth,x.lot,x.prod,x.tool,x.cham,x.step,x.rcp,x.rvn,x.time,x.til,x.val,x.par]) (i:=0) rfl (cY.ints _ [x.idn,x.waf,x.oth,x.lot,x.prod,x.tool,x.cham,x.step,x.rcp,x.rvn,x.time,x.til,x.val,x.par]);clear ai;have ai:=gW;rw[←gF];replace hs:=cK;clear cK;refine Wp 1 rfl<|zc (y:=x.prod) fh rfl rfl fun b9 q9 ys aL hx=>?_;obtain rfl:ys=[vI x.prod]:=hx;have aM:=aL;clear aL;exact KY [.e aM 0] rfl<|aG (nw rfl hs rfl)
theorem Kz(v:Value)(l:List bO)(n:Int)(g:G)(aH:Rs g v l)(hl:l.length≤1000000):cN prog 166 #[v,vI 4,vI n] g fun _ r=>r= .tuple #[fv ((l.find? fun f=>f.prod==n).getD fS),.bool (l.find? fun f=>f.prod==n).isSome]:=by
 have hs:=St.start g;have ar:=G.le.refl g;obtain⟨a,c,rfl⟩:=aH.isSlice;refine enter func166 rfl ntmps166 rfl<|cR<|w4 hs rfl fun b6 g1 hs ai=>?_;obtain⟨ar,aH⟩:=cr ai ar aH;replace hs:St g g1 [oF b6 fS]:=hs;refine aX rfl<|az<|aZ rfl<|aI ?_
 refine bK (fun m a' u=> ∃(i:Nat) (g':G),u=g'.w∧St g g' [oF b6 fS]∧G.le g g'∧Rs g' (.slice a l.length c) l∧i≤l.length∧((l.take i).find? fun f=>f.prod==n)=none∧m+i=l.length∧
   Fr 28 [] [(0,.slice a l.length c),(1,vI 4),(2,vI n),(6,vP b6),(8,vI (i:Nat))] a') l.length
  (fun a' ha=>⟨0,_,rfl,hs,ar,aH,Nat.zero_le _,rfl,rfl,ha.kp rfl⟩) ?_
 (repeat clear hs);(repeat clear ar);(repeat clear aH);rintro m a' _ ⟨i,g',rfl,hs,ar,aH,hi,de,hm,dW⟩;revert a';refine ct<|az<|aZ rfl ?_;by_cases bt:i<l.length
 ·refine aJ (b:=decide ((i:Int)<(l.length:Int))) (decide_eq_true (by omega)) rfl ?_;have eH:dJ l (i:Int)=some l[i]:=bZ rfl bt;have dP: ∀r,((l.take (i+1)++r).find? fun f=>f.prod==n)=((if l[i].prod==n then [l[i]]else [])++r).find? fun f=>f.prod==n:=fun r=>by rw[List.take_add_one,List.getElem?_eq_getElem bt,List.append_assoc,List.find?_append,de,Option.none_or,Option.toList_some,List.find?_append,List.find?_append];cases h:l[i].prod==n<;>simp[h]
  have vB:=List.take_append_drop (i+1) l;generalize l[i]=x at*;refine aF<|aq<|az<|aI<|cG 2 rfl<|zc (y:=x) aH eH rfl ?_;rintro b9 q9 ys aL rfl;refine q5 1 [.e aL 0] rfl ?_;clear aL;refine Wp 1 rfl<|sO rfl (NZ x _) ?_;rintro g1 _ aP rfl;replace hs:=hs.call aP;have ai:=aP.le;obtain⟨ar,aH⟩:=cr ai ar aH;clear aP;refine aX rfl ?_;cases h1:x.prod==n with
  |false=>
   refine aar rfl ?_;have h2:=dP [];rw[h1,List.append_nil]at h2;exact aF<|bJ<|aq<|an<|Wp 3 rfl<|aA<|fun a ha=>⟨m-1,by omega,i+1,_,rfl,hs,ar,aH,by omega,h2,by omega,ha.keep ⟨rfl,rfl,rfl,rfl,kW rfl,trivial⟩⟩
  |true=>
   refine aas rfl ?_;have h2:(l.find? fun f=>f.prod==n)=some x:=by rw[←vB,dP,h1];simp[h1]
   rw[h2];refine cG 2 rfl<|zc (y:=x) aH eH rfl ?_;rintro b9 q9 ys aL rfl;exact q5 1 [.e aL 0] rfl<|sN 0 hs rfl fun g1 hs ai=>aX rfl<|aG (mr T.ok 0 rfl hs rfl rfl rfl rfl (hs.ret rfl))
 refine aQ (b:=decide ((i:Int)<(l.length:Int))) (decide_eq_false (by omega)) rfl ?_;rw[List.take_of_length_le (by omega)]at de;rw[de];exact bc<|bg<|bg<|cA<|aq<|cR<|BO [] (cB fS) [(0,1),(1,1),(2,1),(3,1),(4,1),(5,1),(6,1),(7,1),(8,1),(9,1),(10,1),(11,1),(12,1),(13,1),(14,1),(15,1),(16,1),(17,1),(18,1)] rfl<|sN 0 hs rfl fun g1 hs ai=>aX rfl<|aG (mr T.ok 0 rfl hs rfl rfl rfl rfl (hs.ret rfl))
theorem KA(v:Value)(b:eL)(n:Int)(g:G)(aT:fV g v b)(hb:vQ b):cN prog 90 #[v,vI n] g fun _ r=>r= .tuple #[fv ((b.pw.find? fun f=>f.prod==n).getD fS),.bool (b.pw.find? fun f=>f.prod==n).isSome]:=by have hs:=St.start g;have ar:=G.le.refl g;have e_:=aT;obtain⟨A,N',C,rfl,dS⟩:=il aT;have aT:fV g (.agg ((List.range 11).map fun i=> .slice (A i) (N' i) (C i)).toArray) b:=e_;clear e_;have aH:=(dS 4 (by decide)).1;refine enter func90 rfl ntmps90 rfl<|cR<|An hs rfl fun b2 g2 hs ai aD=>?_;replace aH:=aH.mono ai;refine w4 hs rfl fun b4 g1 hs ai=>?_;obtain⟨aD,aH⟩:=cr ai aD aH;exact aX rfl<|sP 3 [.z aD] rfl<|Ev rfl (Kz _ (b.ls 4) n _ aH (hb 4)) hs fun g1 hs ai=>Wp 2 rfl<|sN 0 hs rfl fun g1 hs ai=>aX rfl<|aG (mr T.ok 0 rfl hs rfl rfl rfl rfl (hs.ret rfl))
end Go.Proofs.YtbfjdfecgiegpaaGreatDoor
namespace Go.Proofs.YtbfjdfecgiegpaaGreatDoor
open Go Go.K Tryz
set_option maxRecDepth 10000
attribute [local irreducible] W WL cS bh bY bB bA bC cL cD
set_option maxHeartbeats 4000000
def Kg(c n:Int):Bool:=c==0||c==n
def Mw(c n:Int):Bool:=c==0||(decide (n<c)&&(IntKind.i64.wrap (c-1)==n))
theorem sH(c n:Int)(g:G):cN prog 198 #[vI c,vI n] g fun _ r=>r= .bool (Kg c n):=by
 have hs:=St.start g;refine enter func198 rfl ntmps198 rfl<|aZ rfl<|cG 3 rfl ?_;unfold Kg;cases h:c==0 with
 |true=>
  exact aX rfl<|aG (nw rfl hs (congrArg Value.bool rfl))
 |false=>
  exact aX rfl<|aG (nw rfl hs (congrArg Value.bool rfl))
theorem wJ(c n:Int)(g:G):cN prog 199 #[vI c,vI n] g fun _ r=>r= .bool (Mw c n):=by
 have hs:=St.start g;refine enter func199 rfl ntmps199 rfl<|aZ rfl<|cG 3 rfl ?_;unfold Mw;cases h:c==0 with
 |true=>
  exact aX rfl<|aG (nw rfl hs (congrArg Value.bool rfl))
 |false=>
  refine Wp 4 rfl ?_;cases h2:decide (n<c)with
  |true=>
   exact aX rfl<|aG (nw rfl hs (congrArg Value.bool rfl))
  |false=>
   exact aX rfl<|aG (nw rfl hs (congrArg Value.bool rfl))
def Hv(b:eL)(h:bO)(w time:Int):Bool:=((decide (h.time≤time)&&decide (time≤h.til))&&Kg h.waf w)&&Kg h.lot ((ni b w time).getD fS).lot
theorem N0(v:Value)(b:eL)(h:bO)(w time:Int)(g:G)(aT:fV g v b)(hb:vQ b):cN prog 197 #[v,fv h,vI w,vI time] g fun _ r=>r= .bool (Hv b h w time):=by
 have hs:=St.start g;have ar:=G.le.refl g;have e_:=aT;obtain⟨A,N',C,rfl,dS⟩:=il aT;have aT:fV g (.agg ((List.range 11).map fun i=> .slice (A i) (N' i) (C i)).toArray) b:=e_;clear e_;clear dS;refine enter func197 rfl ntmps197 rfl<|cR<|An hs rfl fun b2 g2 hs ai aD=>?_;replace aT:=aT.mono ai;refine An hs rfl fun b3 g2 hs ai aM=>?_;obtain⟨aD,aT⟩:=cr ai aD aT;replace hs:St g g2 []:=hs;refine aX rfl<|sP 3 [.z aD] rfl<|sO rfl (Hu _ b w time _ aT hb) ?_;rintro g1 _ aP rfl;replace hs:=hs.call aP;have ai:=aP.le;replace aM:=aM.mono ai;clear aP;refine aX rfl<|sP 5 [.z aM] rfl ?_;unfold Hv;cases h1:decide (h.time≤time)with
 |false=>
  exact aX rfl<|aG (nw rfl hs (congrArg Value.bool rfl))
 |true=>
  refine q5 6 [.z aM] rfl ?_;cases h2:decide (time≤h.til)with
  |false=>
   exact aX rfl<|aG (nw rfl hs (congrArg Value.bool rfl))
  |true=>
   refine q5 3 [.z aM] rfl<|sO rfl (sH h.waf w _) ?_;rintro g1 _ aP rfl;replace hs:=hs.call aP;have ai:=aP.le;replace aM:=aM.mono ai;clear aP;cases h3:Kg h.waf w with
   |false=>
    exact aX rfl<|aG (nw rfl hs (congrArg Value.bool rfl))
   |true=>
    refine q5 5 [.z aM] rfl<|sO rfl (sH h.lot _ _) ?_;rintro g1 _ aP rfl;replace hs:=hs.call aP;have ai:=aP.le;clear aP;exact aX rfl<|aG (nw rfl hs (congrArg Value.bool rfl))
def wK(b:eL)(h:bO)(a:gi):Bool:=(((((h.kind==7&&Hv b h a.waf a.time)&&Kg h.rcp a.rcp)&&Kg h.rvn a.rvn)&&Mw h.tool a.tool)&&Mw h.cham a.cham)&&Mw h.step a.step
theorem KB(v:Value)(b:eL)(h:bO)(a:gi)(g:G)(aT:fV g v b)(hb:vQ b):cN prog 154 #[v,fv h,CV a] g fun _ r=>r= .bool (wK b h a):=by
 have hs:=St.start g;have ar:=G.le.refl g;have e_:=aT;obtain⟨A,N',C,rfl,dS⟩:=il aT;have aT:fV g (.agg ((List.range 11).map fun i=> .slice (A i) (N' i) (C i)).toArray) b:=e_;clear e_;clear dS;refine enter func154 rfl ntmps154 rfl<|cR<|An hs rfl fun b2 g2 hs ai aD=>?_;replace aT:=aT.mono ai;refine An hs rfl fun b3 g2 hs ai aM=>?_;obtain⟨aD,aT⟩:=cr ai aD aT;refine An hs rfl fun b4 g2 hs ai cE=>?_;obtain⟨aD,aM,aT⟩:=dR ai aD aM aT;replace hs:St g g2 []:=hs;refine aX rfl<|sP 6 [.z aD,.z aM,.z cE,.z cE] rfl<|sO rfl (N0 _ b h a.waf a.time _ aT hb) ?_;rintro g1 _ aP rfl;replace hs:=hs.call aP;have ai:=aP.le;obtain⟨aM,cE⟩:=cr ai aM cE;clear aP;refine aX rfl<|sP 4 [.z aM] rfl ?_;unfold wK;cases h1:h.kind==7 with
 |false=>
  exact aX rfl<|aG (nw rfl hs (congrArg Value.bool rfl))
 |true=>
  refine Wp 3 rfl ?_;cases h2:Hv b h a.waf a.time with
  |false=>
   exact aX rfl<|aG (nw rfl hs (congrArg Value.bool rfl))
  |true=>
   refine q5 4 [.z aM,.z cE] rfl<|sO rfl (sH h.rcp a.rcp _) ?_;rintro g1 _ aP rfl;replace hs:=hs.call aP;have ai:=aP.le;obtain⟨aM,cE⟩:=cr ai aM cE;clear aP;cases h3:Kg h.rcp a.rcp with
   |false=>
    exact aX rfl<|aG (nw rfl hs (congrArg Value.bool rfl))
   |true=>
    refine q5 6 [.z aM,.z cE] rfl<|sO rfl (sH h.rvn a.rvn _) ?_;rintro g1 _ aP rfl;replace hs:=hs.call aP;have ai:=aP.le;obtain⟨aM,cE⟩:=cr ai aM cE;clear aP;cases h4:Kg h.rvn a.rvn with
    |false=>
     exact aX rfl<|aG (nw rfl hs (congrArg Value.bool rfl))
    |true=>
     refine q5 6 [.z aM,.z cE] rfl<|sO rfl (wJ h.tool a.tool _) ?_;rintro g1 _ aP rfl;replace hs:=hs.call aP;have ai:=aP.le;obtain⟨aM,cE⟩:=cr ai aM cE;clear aP;cases h5:Mw h.tool a.tool with
     |false=>
      exact aX rfl<|aG (nw rfl hs (congrArg Value.bool rfl))
     |true=>
      refine q5 6 [.z aM,.z cE] rfl<|sO rfl (wJ h.cham a.cham _) ?_;rintro g1 _ aP rfl;replace hs:=hs.call aP;have ai:=aP.le;obtain⟨aM,cE⟩:=cr ai aM cE;clear aP;cases h6:Mw h.cham a.cham with
      |false=>
       exact aX rfl<|aG (nw rfl hs (congrArg Value.bool rfl))
      |true=>
       refine q5 6 [.z aM,.z cE] rfl<|sO rfl (wJ h.step a.step _) ?_;rintro g1 _ aP rfl;replace hs:=hs.call aP;have ai:=aP.le;clear aP;exact aX rfl<|aG (nw rfl hs (congrArg Value.bool rfl))
theorem KC(v:Value)(b:eL)(id time:Int)(g:G)(aT:fV g v b)(hb:vQ b):cN prog 155 #[v,vI id,vI time] g fun _ r=>r=vI (kQ b id time):=by
 have hs:=St.start g;have ar:=G.le.refl g;have e_:=aT;obtain⟨A,N',C,rfl,dS⟩:=il aT;have aT:fV g (.agg ((List.range 11).map fun i=> .slice (A i) (N' i) (C i)).toArray) b:=e_;clear e_;obtain⟨aH,hN⟩:=dS 7 (by decide);have hl:(b.ls 7).length≤1000000:=hb 7;show cN prog _ _ g fun _ r=>r=vI ((b.ls 7).foldl (oS id time) 0);clear dS aT;generalize b.ls 7=l at*;refine enter func155 rfl ntmps155 rfl<|cR<|An hs rfl fun b2 g2 hs ai aD=>?_;obtain⟨ar,aH⟩:=cr ai ar aH;replace hs:St g g2 []:=hs;refine aX rfl<|aZ rfl<|az<|aZ rfl<|aI ?_
 refine bK (fun m a' u=> ∃(i:Nat) (cur:Int) (g':G),u=g'.w∧St g g' []∧G.le g g'∧Rs g' (.slice (A 7) (N' 7) (C 7)) l∧EP g' b2 0 ((List.range 11).map fun i=> .slice (A i) (N' i) (C i))∧i≤l.length∧(l.take i).foldl (oS id time) 0=cur∧m+i=l.length∧
   Fr 37 [] [(1,vI id),(2,vI time),(3,vP b2),(7,vI cur),(8,vI (i:Nat))] a') l.length
  (fun a' ha=>⟨0,0,_,rfl,hs,ar,aH,aD,Nat.zero_le _,rfl,rfl,ha.kp rfl⟩) ?_
 (repeat clear hs);(repeat clear ar);(repeat clear aH);(repeat clear aD);rintro m a' _ ⟨i,cur,g',rfl,hs,ar,aH,aD,hi,lg,hm,dW⟩;revert a';refine ct<|az<|Hw [.z aD] rfl ?_;by_cases bt:i<l.length
 ·refine aJ (b:=decide ((i:Int)<(N' 7:Int))) (decide_eq_true (by omega)) rfl ?_;have eH:dJ l (i:Int)=some l[i]:=bZ rfl bt;have dP:(l.take (i+1)).foldl (oS id time) 0=oS id time cur l[i]:=by rw[List.take_add_one,List.getElem?_eq_getElem bt,List.foldl_append,lg];rfl
  generalize l[i]=x at*;refine aF<|aq<|az<|aI<|sP 3 [.z aD] rfl<|zc (y:=x) aH eH rfl ?_;rintro b9 q9 ys aL rfl;have aM:=aL;clear aL;refine q5 1 [.e aM 0] rfl<|w4 hs rfl fun b7 g1 hs ai=>?_;obtain⟨ar,aD,aM,aH⟩:=dK ai ar aD aM aH;refine Hs 0 hs rfl fun g2 hs ai aL=>?_;obtain⟨ar,aD,aM,aH⟩:=dK ai ar aD aM aH;clear aM;have aM:=aL;clear aL;replace hs:St g _ []:=hs;refine b_<|sP 5 [.z aM] rfl ?_;cases h1:x.oth==id with
  |false=>
   exact aX rfl<|aar rfl<|aF<|bJ<|aq<|an<|Wp 3 rfl<|aA<|fun a ha=>⟨m-1,by omega,i+1,cur,_,rfl,hs,ar,aH,aD,by omega,by rw[dP];unfold oS;rw[h1];rfl,by omega,ha.keep ⟨rfl,rfl,rfl,rfl,kW rfl,trivial⟩⟩
  |true=>
   refine KY [.z aM] rfl ?_;cases h2:decide (x.time≤time)with
   |false=>
    exact aar rfl<|aF<|bJ<|aq<|an<|Wp 3 rfl<|aA<|fun a ha=>⟨m-1,by omega,i+1,cur,_,rfl,hs,ar,aH,aD,by omega,by rw[dP];unfold oS;rw[h1,h2];rfl,by omega,ha.keep ⟨rfl,rfl,rfl,rfl,kW rfl,trivial⟩⟩
   |true=>
    exact aas rfl<|an<|q5 5 [.z aM] rfl<|aA<|bJ<|aq<|an<|Wp 3 rfl<|aA<|fun a ha=>⟨m-1,by omega,i+1,_,_,rfl,hs,ar,aH,aD,by omega,by rw[dP];unfold oS;rw[h1,h2];rfl,by omega,ha.keep ⟨rfl,rfl,rfl,rfl,kW rfl,trivial⟩⟩
 refine aQ (b:=decide ((i:Int)<(N' 7:Int))) (decide_eq_false (by omega)) rfl ?_;rw[List.take_of_length_le (by omega)]at lg;exact bc<|bg<|bg<|cA<|aq<|aZ rfl<|aG (nw rfl hs (by rw[lg]))
end Go.Proofs.YtbfjdfecgiegpaaGreatDoor
namespace Go.K
open Go
variable {F:Fence} {P:Program} {N:Nat} {ds:List Deferred} {l:Env} {w:World} {Q:Exit→Act→World→Prop}
theorem N2{c0 c:Code}{J':Act→World→Prop}(J:Act→World→Prop)(h:W F P N ds c0 (Exit.then (c.wpIn F 0 P (Exit.then J Q)) (Exit.then J Q)) l w)(h2: ∀a w,J a w→J' a w):W F P N ds c0 (Exit.then (c.wpIn F 0 P (Exit.then J' Q)) (Exit.then J' Q)) l w:=by
 have e: ∀e a w,Exit.then J Q e a w→Exit.then J' Q e a w:=fun e a w hq=>by cases e<;>first|exact h2 _ _ hq|exact hq
 refine fun a ha=>Go.wpIn_mono (h a ha) fun x a w hq=>?_;cases x<;>first|exact Go.wpIn_mono hq e|exact hq
end Go.K
namespace Go.Proofs.YtbfjdfecgiegpaaGreatDoor
open Go Go.K Tryz
set_option maxRecDepth 10000
attribute [local irreducible] W WL cS bh bY bB bA bC cL cD
set_option maxHeartbeats 8000000
def uY(b:eL)(a:gi)(x:bO):Bool:=wK b x a&& !(bh .i64 x.par (kQ b x.idn a.time)==x.par)
def Dc(q:bO→Bool)(l:List bO):List Int:=((l.filter q).map (·.idn)).foldl jL []
theorem wL(q:bO→Bool)(l:List bO)(x:bO):Dc q (l++[x])=if q x then jL (Dc q l) x.idn else Dc q l:=by unfold Dc;rw[List.filter_append,List.map_append,List.foldl_append];cases h:q x<;>simp[h]
theorem Hx(l:List Int)(n:Int):(jL l n).length≤l.length+1:=by
 unfold jL;split
 ·omega
 have h:=congrArg List.length (List.take_append_drop (putAt l n) l);rw[List.length_append]at h;simp only[List.length_append,List.length_cons];omega
theorem Ad(q:bO→Bool)(l:List bO):(Dc q l).length≤l.length:=by
 rcases List.eq_nil_or_concat l with rfl|⟨r,x,rfl⟩
 ·exact Nat.le_refl _
 rw[List.concat_eq_append,wL,List.length_append,List.length_singleton];have ih:=Ad q r;split
 ·exact Nat.le_trans (Hx _ _) (by omega)
 omega
termination_by l.length
decreasing_by rename_i e;rw[e,List.concat_eq_append];simp
abbrev km(b:eL)(a:gi)(l:List bO):List Int:=Dc (uY b a) l
theorem qy(xs ys:List Int):ec (xs++ys)=ec xs++ec ys:=List.map_append ..
theorem nj(xs:List Int): ∀u∈ec xs,u.oneCell'=true:=by intro u hu;obtain⟨n,_,rfl⟩:=List.mem_map.1 hu;rfl
theorem Hy(v:Value)(b:eL)(a:gi)(g:G)(aT:fV g v b)(hb:vQ b):cN prog 81 #[v,CV a] g fun g' r=>Rs g' r (km b a b.holds):=by
 have hs:=St.start g;have ar:=G.le.refl g;have e_:=aT;obtain⟨A,N',C,rfl,dS⟩:=il aT;have aT:fV g (.agg ((List.range 11).map fun i=> .slice (A i) (N' i) (C i)).toArray) b:=e_;clear e_;obtain⟨aH,hN⟩:=dS 6 (by decide);have hl:(b.ls 6).length≤1000000:=hb 6;show cN prog _ _ g fun g' r=>Rs g' r (km b a (b.ls 6));clear dS;generalize vz:b.ls 6=l at*;refine enter func81 rfl ntmps81 rfl<|cR<|An hs rfl fun b2 g2 hs ai aD=>?_;obtain⟨ar,aH,aT⟩:=dR ai ar aH aT;refine An hs rfl fun b3 g2 hs ai cE=>?_;obtain⟨ar,aD,aH,aT⟩:=dK ai ar aD aH aT;replace hs:St g g2 []:=hs;refine aX rfl<|aZ rfl<|az<|aZ rfl<|aI ?_
 refine bK (fun m a' u=> ∃(i:Nat) (v5:Value) (g':G),u=g'.w∧St g g' []∧G.le g g'∧Rs g' (.slice (A 6) (N' 6) (C 6)) l∧Rs g' v5 (km b a (l.take i))∧EP g' b2 0 ((List.range 11).map fun i=> .slice (A i) (N' i) (C i))∧EP g' b3 0 (nk a)∧fV g' (.agg ((List.range 11).map fun i=> .slice (A i) (N' i) (C i)).toArray) b∧i≤l.length∧m+i=l.length∧
   Fr 87 [] [(2,vP b2),(3,vP b3),(5,v5),(6,vI (i:Nat))] a') l.length
  (fun a' ha=>⟨0,_,_,rfl,hs,ar,aH,Rs.nil _,aD,cE,aT,Nat.zero_le _,rfl,ha.kp rfl⟩) ?_
 (repeat clear hs);(repeat clear ar);(repeat clear aH);(repeat clear aD);(repeat clear cE);(repeat clear aT);rintro m a' _ ⟨i,v5,g',rfl,hs,ar,aH,aW,aD,cE,aT,hi,hm,dW⟩;revert a';refine ct<|az<|Hw [.z aD] rfl ?_;by_cases bt:i<l.length
 ·refine aJ (b:=decide ((i:Int)<(N' 6:Int))) (decide_eq_true (by omega)) rfl ?_;have eH:dJ l (i:Int)=some l[i]:=bZ rfl bt;have dP:km b a (l.take (i+1))=if uY b a l[i]then jL (km b a (l.take i)) l[i].idn else km b a (l.take i):=by rw[←wL,List.take_add_one,List.getElem?_eq_getElem bt];rfl
  have Hz:(km b a (l.take i)).length≤(l.take i).length:=Ad _ _;rw[List.length_take]at Hz;generalize l[i]=x at*;obtain⟨out,BD⟩: ∃out,km b a (l.take i)=out:=⟨_,rfl⟩;rw[BD]at aW Hz;obtain⟨a5,c5,rfl⟩:=aW.isSlice;refine aF<|aq<|az<|aI<|sP 3 [.z aD] rfl<|zc (y:=x) aH eH rfl ?_;rintro b9 q9 ys aL rfl;have aM:=aL;clear aL;refine q5 1 [.e aM 0] rfl<|w4 hs rfl fun b7 g1 hs ai=>?_;obtain⟨ar,aD,aM,cE,aH,aW⟩:=hZ ai ar aD aM cE aH aW;replace aT:=aT.mono ai;refine Hs 0 hs rfl fun g2 hs ai aL=>?_;obtain⟨ar,aD,aM,cE,aH,aW⟩:=hZ ai ar aD aM cE aH aW;replace aT:=aT.mono ai;clear aM;have aM:=aL;clear aL;replace hs:St g _ []:=hs;refine b_<|sP 3 [.z aD,.z aM,.z cE] rfl<|sO rfl (KB _ b x a _ aT hb) ?_;rintro g1 _ aP rfl;replace hs:=hs.call aP;have ai:=aP.le;obtain⟨ar,aD,aM,cE,aH,aW⟩:=hZ ai ar aD aM cE aH aW;replace aT:=aT.mono ai;clear aP;refine aX rfl<|az<|az ?_;cases h1:wK b x a with
  |false=>
   apply bD hs (dn (dn [])) 16 [(15,42)] (by kernel_rfl) rfl
   ·exact EG [[],[0],[1],[2],[3,2],[2],[2],[6,2],[2],[8,2],[5,7,9,2,2],[4,10,2],[2],[12,2],[11,13,2],[2,14]] [] hs rfl
   (repeat clear hs);intro g6 hs ai;obtain⟨ar,aD,aM,cE,aH,aW⟩:=hZ ai ar aD aM cE aH aW;replace aT:=aT.mono ai;refine b_<|aas rfl<|bc<|bg<|cA<|aq<|an<|Wp 3 rfl<|aA ?_;have e:km b a (l.take (i+1))=out:=by rw[dP,BD];exact if_neg (by unfold uY;simp[h1])
   exact fun a' ha=>⟨m-1,by omega,i+1,_,_,rfl,hs,ar,aH,(by rw[e];exact aW),aD,cE,aT,by omega,by omega,ha.keep ⟨rfl,rfl,rfl,kW rfl,trivial⟩⟩
  |true=>
   apply bD hs (dn (eF (.e (vI (kQ b x.idn a.time))::gU (fe [])))) 16 [(15,42)] (by kernel_rfl) rfl
   ·exact EG [[],[0],[1],[2],[3,2],[2],[2],[6,2],[2],[8,2],[5,7,9,2,2],[4,10,2],[2],[12,2],[11,13,2],[2,14]] [.z aM,.z aD,.z aM,.z cE,.c (Wc 155) fun g' h=>KC _ b x.idn a.time g' (aT.mono h) hb,.z aM] hs rfl
   (repeat clear hs);intro g6 hs ai;obtain⟨ar,aD,aM,cE,aH,aW⟩:=hZ ai ar aD aM cE aH aW;replace aT:=aT.mono ai;apply b_;cases h2:bh .i64 x.par (kQ b x.idn a.time)==x.par with
   |true=>
    refine aas rfl<|bc<|bg<|cA<|aq<|an<|Wp 3 rfl<|aA ?_;have e:km b a (l.take (i+1))=out:=by rw[dP,BD];exact if_neg (by unfold uY;simp[h1,h2])
    exact fun a' ha=>⟨m-1,by omega,i+1,_,_,rfl,hs,ar,aH,(by rw[e];exact aW),aD,cE,aT,by omega,by omega,ha.keep ⟨rfl,rfl,rfl,kW rfl,trivial⟩⟩
   |false=>
    refine aar rfl ?_;have N1:km b a (l.take (i+1))=jL out x.idn:=by rw[dP,BD];exact if_pos (by unfold uY;rw[h1,h2];rfl)
    clear dP;refine aF<|aq<|aZ rfl<|az<|aI ?_
    refine Db (fun a' u=> ∃(k:Nat) (g2:G),u=g2.w∧St g g2 []∧G.le g g2∧Rs g2 (.slice (A 6) (N' 6) (C 6)) l∧Rs g2 (.slice a5 out.length c5) out∧EP g2 b2 0 ((List.range 11).map fun i=> .slice (A i) (N' i) (C i))∧EP g2 b3 0 (nk a)∧fV g2 (.agg ((List.range 11).map fun i=> .slice (A i) (N' i) (C i)).toArray) b∧EP g2 b7 0 (cB x)∧k≤out.length∧putAt out x.idn=k∧
      Fr 87 [] [(2,vP b2),(3,vP b3),(5,.slice a5 out.length c5),(6,vI (i:Nat)),(7,vP b7),(9,vI (k:Nat))] a') ?_ ?_
    ·refine bK (fun m a' u=> ∃(k:Nat) (g2:G),u=g2.w∧St g g2 []∧G.le g g2∧Rs g2 (.slice (A 6) (N' 6) (C 6)) l∧Rs g2 (.slice a5 out.length c5) out∧EP g2 b2 0 ((List.range 11).map fun i=> .slice (A i) (N' i) (C i))∧EP g2 b3 0 (nk a)∧fV g2 (.agg ((List.range 11).map fun i=> .slice (A i) (N' i) (C i)).toArray) b∧EP g2 b7 0 (cB x)∧(∀j (h:j<out.length),j<k→out[j]<x.idn)∧m+k=out.length∧
       Fr 87 [] [(2,vP b2),(3,vP b3),(5,.slice a5 out.length c5),(6,vI (i:Nat)),(7,vP b7),(9,vI (k:Nat))] a') out.length
      (fun a' ha=>⟨0,_,rfl,hs,ar,aH,aW,aD,cE,aT,aM,fun j h hj=>absurd hj (Nat.not_lt_zero _),rfl,ha.kp rfl⟩) ?_
     (repeat clear hs);(repeat clear ar);(repeat clear aH);(repeat clear aW);(repeat clear aD);(repeat clear aM);(repeat clear cE);(repeat clear aT);rintro q a' _ ⟨k,g2,rfl,hs,ar,aH,aW,aD,cE,aT,aM,de,hq,dW⟩;revert a';refine ct<|az<|az ?_;by_cases hk:k<out.length
     ·obtain⟨b5,p5,ys,rfl,yw,hx⟩:=aW.at (i:=k) (List.getElem?_eq_getElem hk);obtain rfl:ys=[vI out[k]]:=hx;apply bD hs (eF (fe (.e (.bool true)::dn (fe [])))) 13 [(12,55)] (by kernel_rfl) rfl
      ·exact pO [[],[],[1]] [] hs rfl<|fR [(0,43),(2,45)] (fun gd hf=>aaw rfl (aaL rfl (congrArg Value.bool (decide_eq_true (Int.ofNat_lt.2 hk)))))<|pO [[3],[4],[4]] [] hs rfl<|fR [(5,48),(6,49),(4,47)] (fun gd hf=>aay rfl (ay rfl (fH T.ok rfl rfl rfl (by omega) hk rfl rfl rfl (aav rfl))))<|EG [[7,4],[4],[9,4],[8,10,4],[4,11]] [.e yw 0,.z aM] hs rfl
      (repeat clear hs);intro g6 hs ai;obtain⟨ar,aD,aM,cE,yw,aH⟩:=hZ ai ar aD aM cE yw aH;obtain⟨aW,aT⟩:=cr ai aW aT;apply b_;by_cases hx:out[k]<x.idn
      ·refine aJ (b:=decide (out[k]<x.idn)) (decide_eq_true hx) rfl<|aF<|aq<|aI<|an<|Wp 3 rfl<|aA<|bJ<|fun a' ha=>⟨q-1,by omega,k+1,_,rfl,hs,ar,aH,aW,aD,cE,aT,aM,fun j h hj=>?_,by omega,ha.keep ⟨rfl,rfl,rfl,rfl,rfl,kW rfl,trivial⟩⟩
       by_cases e:j=k
       ·subst e;exact hx
       exact de j h (by omega)
      exact aQ (b:=decide (out[k]<x.idn)) (decide_eq_false hx) rfl<|bc<|bg<|bg<|cA<|fun a' ha=>jM ⟨k,_,rfl,hs,ar,aH,aW,aD,cE,aT,aM,Nat.le_of_lt hk,pG (Nat.le_of_lt hk) de fun _=>hx,ha.kp rfl⟩
     apply bD hs (eF (fe (.e (.bool false)::dn (fe [])))) 13 [(12,55)] (by kernel_rfl) rfl
     ·exact pO [[],[],[1]] [] hs rfl<|fR [(0,43),(2,45)] (fun gd hf=>aaw rfl (aaL rfl (congrArg Value.bool (decide_eq_false (by omega)))))<|EG [[3],[4],[4],[5,6,4],[7,4],[4],[9,4],[8,10,4],[4,11]] [] hs rfl
     (repeat clear hs);intro g6 hs ai;obtain⟨ar,aD,aM,cE,aH,aW⟩:=hZ ai ar aD aM cE aH aW;replace aT:=aT.mono ai;exact b_<|aar rfl<|bc<|bg<|bg<|cA<|fun a' ha=>jM ⟨k,_,rfl,hs,ar,aH,aW,aD,cE,aT,aM,by omega,pG (by omega) de fun h=>absurd h hk,ha.kp rfl⟩
    (repeat clear hs);(repeat clear ar);(repeat clear aH);(repeat clear aW);(repeat clear aD);(repeat clear aM);(repeat clear cE);(repeat clear aT);rintro a' _ ⟨k,g2,rfl,hs,ar,aH,aW,aD,cE,aT,aM,hk,YH,dW⟩;revert a';refine ct<|az<|az ?_
    have fin:out[k]? ≠some x.idn→km b a (l.take (i+1))=out.take k++x.idn::out.drop k:=fun h=>by rw[N1];unfold jL;rw[YH,if_neg h]
    refine N2 (fun a' u=> ∃g3:G,u=g3.w∧St g g3 []∧G.le g g3∧Rs g3 (.slice (A 6) (N' 6) (C 6)) l∧Rs g3 (.slice a5 out.length c5) out∧EP g3 b2 0 ((List.range 11).map fun i=> .slice (A i) (N' i) (C i))∧EP g3 b3 0 (nk a)∧fV g3 (.agg ((List.range 11).map fun i=> .slice (A i) (N' i) (C i)).toArray) b∧EP g3 b7 0 (cB x)∧km b a (l.take (i+1))=out.take k++x.idn::out.drop k∧
      Fr 87 [] [(2,vP b2),(3,vP b3),(5,.slice a5 out.length c5),(6,vI (i:Nat)),(7,vP b7),(9,vI (k:Nat))] a') ?_ ?_
    ·by_cases jG:k<out.length
     ·obtain⟨b5,p5,ys,rfl,yw,hx⟩:=aW.at (i:=k) (List.getElem?_eq_getElem jG);obtain rfl:ys=[vI out[k]]:=hx;apply bD hs (eF (fe (.e (.bool true)::dn (fe [])))) 13 [(12,70)] (by kernel_rfl) rfl
      ·exact pO [[],[],[1]] [] hs rfl<|fR [(0,58),(2,60)] (fun gd hf=>aaw rfl (aaL rfl (congrArg Value.bool (decide_eq_true (Int.ofNat_lt.2 jG)))))<|pO [[3],[4],[4]] [] hs rfl<|fR [(5,63),(6,64),(4,62)] (fun gd hf=>aay rfl (ay rfl (fH T.ok rfl rfl rfl (by omega) jG rfl rfl rfl (aav rfl))))<|EG [[7,4],[4],[9,4],[8,10,4],[4,11]] [.e yw 0,.z aM] hs rfl
      (repeat clear hs);intro g6 hs ai;obtain⟨ar,aD,aM,cE,aH,aW⟩:=hZ ai ar aD aM cE aH aW;replace aT:=aT.mono ai;apply b_;have lh:out[k]? =some out[k]:=List.getElem?_eq_getElem jG;by_cases he:out[k]=x.idn
      ·refine aJ (b:=out[k]==x.idn) (beq_iff_eq.2 he) rfl ?_;have e:km b a (l.take (i+1))=out:=by rw[N1];unfold jL;rw[YH,if_pos (by rw[lh,he])]
       exact bc<|bg<|cA<|aq<|an<|Wp 3 rfl<|aA<|fun a' ha=>⟨m-1,by omega,i+1,_,_,rfl,hs,ar,aH,(by rw[e];exact aW),aD,cE,aT,by omega,by omega,ha.keep ⟨rfl,rfl,rfl,kW rfl,trivial⟩⟩
      exact aQ (b:=out[k]==x.idn) (beq_eq_false_iff_ne.2 he) rfl<|aF<|fun a' ha=>jM ⟨_,rfl,hs,ar,aH,aW,aD,cE,aT,aM,fin (by rw[lh];simpa using he),ha.kp rfl⟩
     apply bD hs (eF (fe (.e (.bool false)::dn (fe [])))) 13 [(12,70)] (by kernel_rfl) rfl
     ·exact pO [[],[],[1]] [] hs rfl<|fR [(0,58),(2,60)] (fun gd hf=>aaw rfl (aaL rfl (congrArg Value.bool (decide_eq_false (by omega)))))<|EG [[3],[4],[4],[5,6,4],[7,4],[4],[9,4],[8,10,4],[4,11]] [] hs rfl
     (repeat clear hs);intro g6 hs ai;obtain⟨ar,aD,aM,cE,aH,aW⟩:=hZ ai ar aD aM cE aH aW;replace aT:=aT.mono ai;exact b_<|aar rfl<|aF<|fun a' ha=>jM ⟨_,rfl,hs,ar,aH,aW,aD,cE,aT,aM,fin (by rw[List.getElem?_eq_none (by omega)];simp),ha.kp rfl⟩
    (repeat clear hs);(repeat clear ar);(repeat clear aH);(repeat clear aW);(repeat clear aD);(repeat clear aM);(repeat clear cE);(repeat clear aT);clear fin N1;rintro a' _ ⟨g3,rfl,hs,ar,aH,aW,aD,cE,aT,aM,dI,dW⟩;replace hs:=hs.eP 3 1 none;have hX:(out.take k).length=k:=by rw[List.length_take];omega
    have hY:(out.drop k).length=out.length-k:=List.length_drop;revert a';refine ct<|aZ rfl<|cG 3 rfl<|ak rfl rfl<|gV T.ok rfl rfl rfl rfl rfl (a:=0) (b:=k) rfl ⟨_,rfl⟩ (by omega) (by have:=aW.mM;omega) ?_;have cj:=aW.cut (a:=0) (b:=k) (by omega) hk;obtain⟨_,news,NY,uX⟩:=Src.jx cj;obtain rfl:=cY.np NY;clear cj;refine ak rfl rfl<|bU T.ok 0 rfl hs rfl rfl rfl rfl rfl rfl rfl (by decide) rfl uX (nj _) (by show(0+(k-0))*8≤_;omega) (by show 0+(k-0)≤maxLen;unfold maxLen;omega) ?_;(repeat clear hs);rintro a6 c6 g10 hs ai;obtain⟨ar,aD,aM,cE,aH,aW⟩:=hZ ai ar aD aM cE aH aW;replace aT:=aT.mono ai;have e0:0+(k-0)=(out.take k).length:=by rw[hX]<;>omega
    rw[e0]at hs⊢;replace hs:St g g10 [rI (.slice a6 (out.take k).length c6) (out.take k)]:=by exact hs
    refine aX rfl<|sP 3 [.z aM] rfl<|BP [(0,vI x.idn)] (ec [x.idn]) hs rfl rfl ?_;(repeat clear hs);rintro bl gl hs ai;obtain⟨ar,aD,cE,aH,aW,aT⟩:=hZ ai ar aD cE aH aW aT;refine ak rfl rfl<|bU T.ok 1 rfl hs rfl rfl rfl rfl rfl rfl rfl (by decide) rfl (Src.eI (hs.own 0 _ rfl).1).2 (nj [x.idn]) (by show((out.take k).length+1)*8≤_;omega) (by show(out.take k).length+1≤maxLen;unfold maxLen;omega) ?_;(repeat clear hs);rintro a6 c6 g10 hs ai;obtain⟨ar,aD,cE,aH,aW,aT⟩:=hZ ai ar aD cE aH aW aT;have e0:(out.take k).length+1=(out.take k++[x.idn]).length:=by rw[List.length_append,List.length_singleton]<;>omega
    rw[e0]at hs⊢;replace hs:St g g10 [rI (.slice a6 (out.take k++[x.idn]).length c6) (out.take k++[x.idn])]:=by unfold rI;rw[qy];exact hs.drop 0
    refine aX rfl<|an<|Wp 3 rfl<|ak rfl rfl<|gV T.ok rfl rfl rfl rfl rfl (a:=k) (b:=out.length) ⟨_,rfl⟩ rfl (by omega) (by have:=aW.mM;omega) ?_;have cj:=aW.cut (a:=k) (b:=out.length) (by omega) (Nat.le_refl _);rw[List.take_length]at cj;obtain⟨_,news,NY,uX⟩:=Src.jx cj;obtain rfl:=cY.np NY;clear cj aW;refine ak rfl rfl<|bU T.ok 0 rfl hs rfl rfl rfl rfl rfl rfl rfl (by decide) rfl uX (nj _) (by show((out.take k++[x.idn]).length+(out.length-k))*8≤_;omega) (by show(out.take k++[x.idn]).length+(out.length-k)≤maxLen;unfold maxLen;omega) ?_;(repeat clear hs);rintro a6 c6 g10 hs ai;obtain⟨ar,aD,cE,aH,aT⟩:=nX ai ar aD cE aH aT;have e0:(out.take k++[x.idn]).length+(out.length-k)=(out.take k++[x.idn]++out.drop k).length:=by rw[@List.length_append _ (out.take k++[x.idn]),hY]<;>omega
    rw[e0]at hs⊢;replace hs:St g g10 [rI (.slice a6 (out.take k++[x.idn]++out.drop k).length c6) (out.take k++[x.idn]++out.drop k)]:=by unfold rI;rw[qy (out.take k++[x.idn])];exact hs
    obtain⟨gz,gF,cK,gW,aW⟩:=hs.cP (α:=Int) (i:=0) rfl (cY.ints _ _);have ai:=gW;rw[←gF];(repeat clear hs);have hs:St g gz []:=cK;clear cK;obtain⟨ar,aD,cE,aH,aT⟩:=nX ai ar aD cE aH aT;rw[show out.take k++[x.idn]++out.drop k=km b a (l.take (i+1))from by rw[dI];simp]at aW⊢;exact Wp 1 rfl<|aA<|bJ<|aq<|an<|Wp 3 rfl<|aA<|fun a' ha=>⟨m-1,by omega,i+1,_,_,rfl,hs,ar,aH,aW,aD,cE,aT,by omega,by omega,ha.keep ⟨rfl,rfl,rfl,kW rfl,trivial⟩⟩
 refine aQ (b:=decide ((i:Int)<(N' 6:Int))) (decide_eq_false (by omega)) rfl ?_;rw[List.take_of_length_le (by omega)]at aW;exact bc<|bg<|bg<|cA<|aq<|aZ rfl<|aG (nw rfl hs aW)
end Go.Proofs.YtbfjdfecgiegpaaGreatDoor
namespace Go.Proofs.YtbfjdfecgiegpaaGreatDoor
open Go
theorem Fs: ∀(k n:Nat),n<10^(k+1)→(dec n).length≤k+1
 |0,n,h=>by rw[ie (by omega)];simp
 |k+1,n,h=>by
  by_cases h1:n<10
  ·rw[ie h1];simp
  rw[oz h1,List.length_append];have:=Fs k (n/10) (by rw[Nat.pow_succ]at h;omega);simp only[List.length_cons,List.length_nil];omega
theorem CA{n:Int}(h:pj n):(eW n).length≤7:=Fs 6 n.toNat (by have:=h.1;have:=h.2;simp;omega)
def zU:List UInt8:=[115,116,101,112,32]
def wm:List UInt8:=[32,114,101,99,105,112,101,32]
def Ft:List UInt8:=[119,105,110,100,111,119,32]
theorem yV(w:cQ):iG w=Ft++eW w.src++[32]++eW w.dst++[32]++eW w.dN:=by unfold iG oD;simp[fL,ft,Ft]
structure Un(s:Step):Prop where
 n:Jz s
 ed:s.ed.length≤8
 next:s.next.length≤4
structure ZH(f:bG):Prop where
 min:pj f.dm
 max:pj f.dv
 n1:1≤f.steps.length
 n40:f.steps.length≤40
 steps: ∀s∈f.steps,Un s
 V7:f.windows.length≤20
 Ye: ∀w∈f.windows,pj w.src∧pj w.dst∧pj w.dN
def iX(c n:Int):Int:=(if c<0 then -(c+1)else c).tmod n
structure Y6 where
 y0:Int
 y1:Int
 y2:Int
 y3:Int
 y4:Int
 y5:Int
structure Y6.fit(y:Y6):Prop where
 h0:mq y.y0
 h1:mq y.y1
 h2:mq y.y2
 h3:mq y.y3
 h4:mq y.y4
 h5:mq y.y5
structure Y3 where
 z0:Int
 z1:Int
 z2:Int
structure Y3.fit(z:Y3):Prop where
 h0:mq z.z0
 h1:mq z.z1
 h2:mq z.z2
def R_:Y6:=⟨0,0,0,0,0,0⟩
def Mb(y:Y6):List Int:=iX y.y2 6::if iX (y.y2.tdiv 6) 2=0 then [iX y.y2 6+1+iX (y.y2.tdiv 12) 3]else []
def PD(y:Y6)(n i:Nat):List Int:=
 if(i:Int)<n-1∧0<iX y.y3 12 then
  ((i:Int)+1)::if(i:Int)+2+iX (y.y3.tdiv 12) 3<n∧iX (y.y3.tdiv 36) 3=0 then [(i:Int)+2+iX (y.y3.tdiv 12) 3]else []
 else []
def PE(y:Y6)(n i:Nat):Step:=
 ⟨1+iX y.y0 5,Mb y,1+iX y.y1 30,1+iX y.y1 30+iX (y.y1.tdiv 30) 20,PD y n i,if iX y.y4 4=0 then iX (y.y4.tdiv 4) (i+1)else -1,if iX y.y4 4=0 then 1+iX y.y5 3 else 0⟩
def Yf(x:List Y6):Nat:=max 1 (min x.length 8)
def Mc(x:List Y6)(k:Nat):List Step:=(List.range k).map fun i=>PE (x.getD i R_) (Yf x) i
def Fu(n:Nat)(z:Y3):cQ:=⟨iX z.z0 n,iX z.z1 n,10+iX z.z2 150⟩
def PF(n:Nat)(l:List cQ)(z:Y3):List cQ:=if(Fu n z).src≠(Fu n z).dst∧follows l (Fu n z)=true then l++[Fu n z]else l
def PG(n:Nat)(zs:List Y3)(k:Nat):List cQ:=(zs.take k).foldl (PF n) []
def mk(x:List Y6)(zs:List Y3):bG:=⟨2,5,Mc x (Yf x),PG (Yf x) zs (min zs.length 4)⟩
theorem vn{n:Int}{w:cQ}: ∀{l pre:List cQ},fq n pre (l++[w])=(fq n pre l&&(dA w n&&follows (pre++l) w))
 |[],pre=>by simp[fq]
 |v::r,pre=>by rw[List.cons_append];unfold fq;rw[vn,List.append_assoc];simp[Bool.and_assoc]
end Go.Proofs.YtbfjdfecgiegpaaGreatDoor
namespace Go.Proofs.YtbfjdfecgiegpaaGreatDoor
open Go Go.K Tryz
set_option maxRecDepth 10000
attribute [local irreducible] W WL cS bh bY bB bA bC cL cD
set_option maxHeartbeats 4000000
theorem ya(v w:cQ)(g:G):cN prog 171 #[.agg (pf v).toArray,.agg (pf w).toArray] g fun _ r=>r= .bool (oa v w):=by
 have hs:=St.start g;have ar:=G.le.refl g;unfold pf;refine enter func171 rfl ntmps171 rfl<|cR<|EH hs rfl fun bx g1 hs ai=>?_;obtain⟨g2,bS,aV,ai,aL⟩:=hs.bd (i:=0) rfl;replace hs:=aV;clear aV;rw[←bS];have aD:=aL;clear aL bS ai;refine EH hs rfl fun Wa g1 hs ai=>?_;replace aD:=aD.mono ai;obtain⟨g2,bS,aV,ai,aL⟩:=hs.bd (i:=0) rfl;replace hs:=aV;clear aV;rw[←bS];replace aD:=aD.mono ai;have aM:=aL;clear aL bS ai;refine aX rfl<|sP 6 [.z aD,.z aM] rfl ?_;unfold oa;cases h1:decide (v.src<w.src)with
 |true=>
  refine aX rfl<|aG<|nw rfl hs ?_
  rfl
 |false=>
  refine q5 6 [.z aD,.z aM] rfl ?_;cases h2:v.src==w.src with
  |false=>
   refine aX rfl<|aG<|nw rfl hs ?_
   rfl
  |true=>
   refine KY [.z aD,.z aM] rfl<|aG<|nw rfl hs ?_
   rfl
def oH(n:Int):Fact:=⟨fun v g=> ∃b p,v= .pointer (some ⟨b,p,none⟩)∧EP g b p [vI n],fun _ _ _ hf ⟨b,p,e,h1⟩=>⟨b,p,e,h1.mono hf.le⟩⟩
instance:El Y6 where
 k:=6
 pos:=by omega
 rc _ cs y:=cs=[vI y.y0,vI y.y1,vI y.y2,vI y.y3,vI y.y4,vI y.y5]
 len h:=by rw[h];rfl
 mono _ h:=h
 one h:=by rw[h];simp[Value.oneCell']
instance:El Y3 where
 k:=3
 pos:=by omega
 rc _ cs y:=cs=[vI y.z0,vI y.z1,vI y.z2]
 len h:=by rw[h];rfl
 mono _ h:=h
 one h:=by rw[h];simp[Value.oneCell']
theorem yb: ∀(l:List cQ) (w:cQ),oJ (l++[w])=oJ l++pf w
 |[],w=>by simp[oJ]
 |v::l,w=>by rw[List.cons_append];simp only[oJ];rw[yb l w,List.append_assoc]
theorem GR{l:List cQ}{v:cQ}(h:l.getLast? =some v):Ar T 194 (oJ l) ((l.length-1)*3)=some (.agg (pf v).toArray):=by
 obtain⟨r,rfl⟩: ∃r,l=r++[v]:=by
  rcases List.eq_nil_or_concat l with rfl|⟨r,x,rfl⟩
  ·cases h
  rw[List.concat_eq_append]at h⊢;rw[List.getLast?_append]at h;simp at h;exact⟨r,by rw[h]⟩
 rw[yb,List.length_append];have hl:=yh r;show(bif Nat.ble ((r.length+1-1)*3+3) (oJ r++pf v).length then some (Value.agg (((oJ r++pf v).drop ((r.length+1-1)*3)).take 3).toArray)else none)=_;rw[Nat.add_sub_cancel,Nat.ble_eq_true_of_le (by rw[List.length_append,hl];exact Nat.le_refl _),←hl,List.drop_left];rfl
end Go.Proofs.YtbfjdfecgiegpaaGreatDoor
namespace Go.Proofs.YtbfjdfecgiegpaaGreatDoor
open Go Go.K
set_option maxRecDepth 10000
attribute [local irreducible] W WL cS bh bY bB bA bC cL cD
set_option maxHeartbeats 8000000
theorem JK{B e k q m c:Nat}{ad:Option Addr}{xs:List Value}{w:World}(h:Row B e k (.slice ad m c) q xs w)(hm:m≠0): ∃b p,ad=some ⟨b,p,none⟩:=by
 rcases h.2 with⟨_,a',hv⟩|⟨b,p,cap,cur,hv,_⟩
 ·simp only[Value.slice.injEq]at hv;omega
 simp only[Value.slice.injEq]at hv;exact⟨b,p,hv.1⟩
end Go.Proofs.YtbfjdfecgiegpaaGreatDoor
namespace Go.Proofs.YtbfjdfecgiegpaaGreatDoor
open Go Go.K Tryz
set_option maxRecDepth 10000
attribute [local irreducible] W WL cS bh bY bB bA bC cL cD
set_option maxHeartbeats 4000000
theorem gO(n lo hi:Int)(g:G):cN prog 228 #[vI n,vI lo,vI hi] g fun _ v=>v= .bool (within n lo hi):=by
 have hs:=St.start g;refine enter func228 rfl ntmps228 rfl<|aZ rfl<|cG 4 rfl<|cH (want:=true) (x:=decide (n≤hi)) 3 aK rfl rfl rfl rfl (.inl ⟨rfl,rfl,rfl⟩) rfl rfl rfl rfl (fun hb Q' eS=>?_) (fun g' hf=>?_)
 ·exact Wp 3 rfl<|aA<|fun a ha=>eS _ a (a_.refl _) (ha.kp rfl)
 replace hs:=hs.call hf;exact aX rfl<|aG (nw rfl hs rfl)
theorem CB(a b:Int)(g:G):cN prog 222 #[vI a,vI b] g fun _ v=>v= .bool (eg ⟨a,b,[],[]⟩):=by
 have hs:=St.start g;refine enter func222 rfl ntmps222 rfl<|aZ rfl<|cG 3 rfl<|cH (want:=true) (x:=decide (a≤b)) 3 aK rfl rfl rfl rfl (.inl ⟨rfl,rfl,rfl⟩) rfl rfl rfl rfl (fun hb Q' eS=>?_) (fun g' hf=>?_)
 ·exact Wp 3 rfl<|aA<|fun a ha=>eS _ a (a_.refl _) (ha.kp rfl)
 replace hs:=hs.call hf;refine Wp 1 rfl<|cH (want:=true) (x:=decide (b≤10000)) 2 aK rfl rfl rfl rfl (.inl ⟨rfl,rfl,rfl⟩) rfl rfl rfl rfl (fun hb Q' eS=>?_) (fun g' hf=>?_)
 ·exact Wp 2 rfl<|aA<|fun a ha=>eS _ a (a_.refl _) (ha.kp rfl)
 replace hs:=hs.call hf;exact aX rfl<|aG (nw rfl hs rfl)
theorem tE(v:Value)(l:List Int)(lo hi:Int)(g:G)(hl:Rs g v l):
  cN prog 258 #[v,vI lo,vI hi] g fun _ r=>r= .bool (ascending l lo hi):=by
 obtain⟨a,c,rfl⟩:=hl.isSlice;have hlen:=hl.ef;unfold maxLen at hlen;have hs:=St.start g;refine enter func258 rfl ntmps258 rfl<|aZ rfl<|az<|aZ rfl<|aI ?_;refine bK (fun m a' w=> ∃(k:Nat) (g':G),w=g'.w∧St g g' []∧G.le g g'∧k≤l.length∧m=l.length-k∧((if k=0 then ascending l lo hi else kN lo hi (l.getD (k-1) 0) (l.drop k))=ascending l lo hi)∧
  Fr 38 [] [(0,.slice a l.length c),(1,vI lo),(2,vI hi),(7,vI k)] a') l.length (fun a' ha=>⟨0,g,rfl,hs,G.le.refl g,Nat.zero_le _,rfl,by simp,ha.kp rfl⟩) ?_
 clear hs;rintro m a' _ ⟨k,g',rfl,hs,ar,hk,rfl,de,dW⟩;have aH:=hl.mono ar;revert a';refine ct<|az<|aZ rfl ?_;by_cases bt:k<l.length
 ·refine aJ (b:=decide ((k:Int)<(l.length:Int))) (by simp;omega) rfl ?_;rw[zV l lo hi k bt]at de;have eH:dJ l (k:Int)=some l[k]:=by simp[dJ,bt]
  have j_:l.getD (k+1-1) 0=l[k]:=by simp[List.getD_eq_getElem?_getD,bt]
  have Ks: ∀(h:0<k),dJ l ((k-1:Nat):Int)=some (l.getD (k-1) 0):=by
   intro h;have h1:k-1<l.length:=by omega
   rw[bZ (n:=((k-1:Nat):Int)) rfl h1,List.getD_eq_getElem?_getD,List.getElem?_eq_getElem h1];rfl
  generalize l.getD (k-1) 0=y at*;generalize l[k]=x at*;cases e1:within x lo hi with
  |false=>
   rw[e1,Bool.false_and,Bool.false_and]at de;refine aF<|aq<|az<|aI<|az ?_;apply bD hs (eF (.f (oH (x))::(dn (dn (gU (fe [])))))) 24 [(23,37)] (by kernel_rfl) rfl
   ·refine EF [[],[]] rfl<|fR [(0,14),(1,15)] (fun gd hf=>?_) ?_
    ·have eT:=(G.bI _).trans hf.le;refine aat rfl<|aj<|ay rfl<|aR T.ok rfl (aH.mono eT) (y:=x) eH rfl rfl rfl rfl rfl rfl ?_;rintro b p ys aL rfl;exact⟨_,rfl,a_.refl _,b,p,rfl,aL⟩
    refine fR [(2,16)] (fun gd hf=>?_) ?_
    ·skip;refine ba fun v2 h2=>?_;apply aj;obtain⟨b,p,rfl,aL⟩:=h2;refine ay rfl<|cI T.ok 0 rfl aL rfl rfl<|⟨_,rfl,a_.refl _,?_⟩;exact rfl
    refine EF [[],[]] rfl<|fR [(3,17),(4,18),(5,19)] (fun gd hf=>?_) ?_
    ·skip;refine aau rfl<|aj<|ay rfl<|aC (Wc 228) aK rfl rfl rfl rfl rfl (gO x lo hi _) fun g' v h1 h2=>⟨g',rfl,h1,?_⟩
     rw[h2];exact congrArg Value.bool e1
    exact HW [[6],[7],[8],[9,8],[10,8,8],[11],[11],[12,13,11],[14,11],[11],[11],[17,11],[16,18,11],[19,11],[15,20,11],[11,21,8],[8,22]] rfl
   clear hs;intro g1 hs ai;obtain⟨ar,aH⟩:=cr ai ar aH;refine b_<|aas rfl<|aZ rfl<|aG<|nw rfl hs ?_;rw[←de]
  |true=>
   rw[e1,Bool.true_and]at de;cases e2:decide (0<(k:Int))with
   |false=>
    have e3:decide (k=0)=true:=by simp at e2⊢;omega
    rw[e3,Bool.true_or,Bool.true_and]at de;refine aF<|aq<|az<|aI<|az ?_;apply bD hs (eF (.f (oH (x))::(dn (dn (gU (fe [])))))) 24 [(23,37)] (by kernel_rfl) rfl
    ·refine EF [[],[]] rfl<|fR [(0,14),(1,15)] (fun gd hf=>?_) ?_
     ·have eT:=(G.bI _).trans hf.le;refine aat rfl<|aj<|ay rfl<|aR T.ok rfl (aH.mono eT) (y:=x) eH rfl rfl rfl rfl rfl rfl ?_;rintro b p ys aL rfl;exact⟨_,rfl,a_.refl _,b,p,rfl,aL⟩
     refine fR [(2,16)] (fun gd hf=>?_) ?_
     ·skip;refine ba fun v2 h2=>?_;apply aj;obtain⟨b,p,rfl,aL⟩:=h2;refine ay rfl<|cI T.ok 0 rfl aL rfl rfl<|⟨_,rfl,a_.refl _,?_⟩;exact rfl
     refine EF [[],[]] rfl<|fR [(3,17),(4,18),(5,19)] (fun gd hf=>?_) ?_
     ·skip;refine aau rfl<|aj<|ay rfl<|aC (Wc 228) aK rfl rfl rfl rfl rfl (gO x lo hi _) fun g' v h1 h2=>⟨g',rfl,h1,?_⟩
      rw[h2];exact congrArg Value.bool e1
     exact EF [[6],[7],[8]] rfl<|fR [(9,23),(8,22)] (fun gd hf=>aaw rfl (aaL rfl (congrArg Value.bool e2)))<|HW [[10,8,8],[11],[11],[12,13,11],[14,11],[11],[11],[17,11],[16,18,11],[19,11],[15,20,11],[11,21,8],[8,22]] rfl
    clear hs;intro g1 hs ai;obtain⟨ar,aH⟩:=cr ai ar aH;refine b_<|aar rfl<|aF<|bJ<|aq<|an<|Wp 3 rfl<|aA<|fun a ha=>⟨l.length-(k+1),by omega,k+1,_,rfl,hs,ar,by omega,rfl,?_,ha.keep ⟨rfl,rfl,rfl,kW rfl,trivial⟩⟩
    rw[←de,if_neg (by omega),j_]
   |true=>
    have De:0<k:=by simpa using e2
    have e3:decide (k=0)=false:=by simp;omega
    rw[e3,Bool.false_or]at de;have Ks:=Ks De;refine aF<|aq<|az<|aI<|az ?_;apply bD hs (eF (.f (oH (x))::(dn (eF (fe (.f (oH (x))::(gU (.f (oH (y))::(gU []))))))))) 24 [(23,37)] (by kernel_rfl) rfl
    ·refine EF [[],[]] rfl<|fR [(0,14),(1,15)] (fun gd hf=>?_) ?_
     ·have eT:=(G.bI _).trans hf.le;refine aat rfl<|aj<|ay rfl<|aR T.ok rfl (aH.mono eT) (y:=x) eH rfl rfl rfl rfl rfl rfl ?_;rintro b p ys aL rfl;exact⟨_,rfl,a_.refl _,b,p,rfl,aL⟩
     refine fR [(2,16)] (fun gd hf=>?_) ?_
     ·skip;refine ba fun v2 h2=>?_;apply aj;obtain⟨b,p,rfl,aL⟩:=h2;refine ay rfl<|cI T.ok 0 rfl aL rfl rfl<|⟨_,rfl,a_.refl _,?_⟩;exact rfl
     refine EF [[],[]] rfl<|fR [(3,17),(4,18),(5,19)] (fun gd hf=>?_) ?_
     ·skip;refine aau rfl<|aj<|ay rfl<|aC (Wc 228) aK rfl rfl rfl rfl rfl (gO x lo hi _) fun g' v h1 h2=>⟨g',rfl,h1,?_⟩
      rw[h2];exact congrArg Value.bool e1
     refine EF [[6],[7],[8]] rfl<|fR [(9,23),(8,22)] (fun gd hf=>aaw rfl (aaL rfl (congrArg Value.bool e2)))<|EF [[10,8,8],[11],[11]] rfl<|fR [(12,26),(13,27),(11,25)] (fun gd hf=>?_) ?_
     ·have eT:=(G.bI _).trans hf.le;refine aau rfl<|aj<|ay rfl<|aR T.ok rfl (aH.mono eT) (y:=x) eH rfl rfl rfl rfl rfl rfl ?_;rintro b p ys aL rfl;exact⟨_,rfl,a_.refl _,b,p,rfl,aL⟩
     refine fR [(14,28),(11,25)] (fun gd hf=>?_) ?_
     ·skip;refine ba fun MU P9=>?_;refine ah rfl ?_;apply aj;obtain⟨b,p,rfl,aL⟩:=P9;refine ay rfl<|cI T.ok 0 rfl aL rfl rfl<|⟨_,rfl,a_.refl _,?_⟩;exact rfl
     refine EF [[11],[11]] rfl<|fR [(17,31),(11,25)] (fun gd hf=>aaw rfl (aaL rfl (congrArg (Value.int .i64) (show _=((k-1:Nat):Int)from by rw[wq];omega))))<|fR [(16,30),(18,32),(11,25)] (fun gd hf=>?_) ?_
     ·have eT:=(G.bI _).trans hf.le;refine aau rfl<|aj<|ay rfl<|aR T.ok rfl (aH.mono eT) (y:=y) Ks rfl rfl rfl rfl rfl rfl ?_;rintro b p ys aL rfl;exact⟨_,rfl,a_.refl _,b,p,rfl,aL⟩
     refine fR [(19,33),(11,25)] (fun gd hf=>?_) ?_
     ·skip;refine ba fun V9 Wv=>?_;refine ah rfl ?_;apply aj;obtain⟨b,p,rfl,aL⟩:=Wv;refine ay rfl<|cI T.ok 0 rfl aL rfl rfl<|⟨_,rfl,a_.refl _,?_⟩;exact rfl
     exact HW [[15,20,11],[11,21,8],[8,22]] rfl
    clear hs;intro g1 hs ai;replace ar:=G.le.trans ar ai;by_cases Mu:x≤y
    ·have e4:decide (y<x)=false:=by simp;omega
     rw[e4,Bool.false_and]at de;refine b_<|aJ (by simp[Mu]) rfl<|aZ rfl<|aG<|nw rfl hs ?_;rw[←de]
    have e4:decide (y<x)=true:=by simp;omega
    rw[e4,Bool.true_and]at de;refine b_<|aQ (b:=_) ?_ rfl ?_
    ·simp;omega
    refine aF<|bJ<|aq<|an<|Wp 3 rfl<|aA<|fun a ha=>⟨l.length-(k+1),by omega,k+1,_,rfl,hs,ar,by omega,rfl,?_,ha.keep ⟨rfl,rfl,rfl,kW rfl,trivial⟩⟩
    rw[←de,if_neg (by omega),j_]
 refine aQ (b:=decide ((k:Int)<(l.length:Int))) (by simp;omega) rfl<|bc<|bg<|bg<|cA<|aq<|aZ rfl ?_;obtain rfl:k=l.length:=by omega
 refine aG<|nw rfl hs ?_;rw[←de];by_cases h0:l.length=0
 ·rw[if_pos h0,List.eq_nil_of_length_eq_zero h0];rfl
 rw[if_neg h0];simp[kN]
theorem Fv(v:Value)(s:Step)(n:Int)(g:G)(hv:jS g v s)(h1:0≤n)(h2:n≤9223372036854775807):
  cN prog 226 #[v,vI n] g fun _ r=>r= .bool (cf s n):=by
 obtain⟨cs,rfl,a1,n1,c1,a2,n2,c2,rfl,uy,Bq⟩:=hv;obtain⟨_,_,e⟩:=uy.isSlice;obtain⟨rfl,rfl,rfl⟩:=Value.slice.inj e;clear e;obtain⟨_,_,e⟩:=Bq.isSlice;obtain⟨rfl,rfl,rfl⟩:=Value.slice.inj e;clear e;have hs:=St.start g;have ar:=G.le.refl g;have hn:IntKind.i64.wrap (n-1)=n-1:=wq;refine enter func226 rfl ntmps226 rfl<|cR<|EH hs rfl fun b1 g1 hs ai=>?_;replace ar:=G.le.trans ar ai;refine aX rfl<|c_ 2 [.o 0] hs rfl<|Ev rfl (tE _ s.ed 0 59 _ (uy.mono ar)) hs fun g1 hs ai=>?_;replace ar:=G.le.trans ar ai;refine aX rfl<|c_ 4 [.o 0] hs rfl ?_;rw[hn];refine Ev rfl (tE _ s.next 0 (n-1) _ (Bq.mono ar)) hs fun g1 hs ai=>aX rfl<|c_ 4 [.o 0] hs rfl<|cH (want:=true) (x:=s.dN==0) 3 aK rfl rfl rfl rfl (.inl ⟨rfl,rfl,rfl⟩) rfl rfl rfl rfl (fun hb Q' eS=>?_) (fun g' hf=>?_)
 ·exact Wm 3 [.o 0] hs rfl<|aA<|fun a ha=>eS _ a (a_.refl _) (ha.kp rfl)
 replace hs:=hs.call hf;have ai:=hf.le;refine Wp 1 rfl<|cH (want:=false) (x:=within s.back 0 (n-1)&&within s.dN 1 9) 10 aK rfl rfl rfl rfl (.inr ⟨rfl,rfl,rfl⟩) rfl rfl rfl rfl (fun hb Q' eS=>?_) (fun g' hf=>?_)
 ·refine Wm 4 [.o 0] hs rfl ?_;rw[hn];refine sO rfl (gO _ _ _ _) ?_;rintro g1 _ aP rfl;replace hs:=hs.call aP;have ai:=aP.le;refine Wp 1 rfl<|cH (want:=true) (x:=within s.dN 1 9) 3 aK rfl rfl rfl rfl (.inl ⟨rfl,rfl,rfl⟩) rfl rfl rfl rfl (fun hb Q' eS=>?_) (fun g' hf=>?_)
  ·refine Wm 2 [.o 0] hs rfl<|sO rfl (gO _ _ _ _) ?_;rintro g1 _ aP rfl;replace hs:=hs.call aP;have ai:=aP.le;exact aA<|fun a ha=>eS _ a aP (ha.kp rfl)
  exact aA fun a ha=>eS _ a (aP.trans hf) (ha.kp rfl)
 replace hs:=hs.call hf;have ai:=hf.le;refine aX rfl<|cG 2 rfl<|cH (want:=true) (x:=ascending s.next 0 (n-1)) 1 aK rfl rfl rfl rfl (.inl ⟨rfl,rfl,rfl⟩) rfl rfl rfl rfl (fun hb Q' eS=>?_) (fun g' hf=>?_)
 ·exact Wp 1 rfl<|aA<|fun a ha=>eS _ a (a_.refl _) (ha.kp rfl)
 replace hs:=hs.call hf;have ai:=hf.le;refine Wp 1 rfl<|cH (want:=true) (x:=(s.back== -1&&s.dN==0)||(within s.back 0 (n-1)&&within s.dN 1 9)) 1 aK rfl rfl rfl rfl (.inl ⟨rfl,rfl,rfl⟩) rfl rfl rfl rfl (fun hb Q' eS=>?_) (fun g' hf=>?_)
 ·exact Wp 1 rfl<|aA<|fun a ha=>eS _ a (a_.refl _) (ha.kp rfl)
 replace hs:=hs.call hf;have ai:=hf.le;refine Wp 1 rfl<|cH (want:=true) (x:=within s.eQ 1 1000000) 3 aK rfl rfl rfl rfl (.inl ⟨rfl,rfl,rfl⟩) rfl rfl rfl rfl (fun hb Q' eS=>?_) (fun g' hf=>?_)
 ·refine Wm 2 [.o 0] hs rfl<|sO rfl (gO _ _ _ _) ?_;rintro g1 _ aP rfl;replace hs:=hs.call aP;have ai:=aP.le;exact aA<|fun a ha=>eS _ a aP (ha.kp rfl)
 replace hs:=hs.call hf;have ai:=hf.le;refine Wp 1 rfl<|cH (want:=true) (x:=within (↑s.ed.length) 1 8) 4 aK rfl rfl rfl rfl (.inl ⟨rfl,rfl,rfl⟩) rfl rfl rfl rfl (fun hb Q' eS=>?_) (fun g' hf=>?_)
 ·refine Wm 3 [.o 0] hs rfl<|sO rfl (gO _ _ _ _) ?_;rintro g1 _ aP rfl;replace hs:=hs.call aP;have ai:=aP.le;exact aA<|fun a ha=>eS _ a aP (ha.kp rfl)
 replace hs:=hs.call hf;have ai:=hf.le;refine Wp 1 rfl<|cH (want:=true) (x:=decide ((s.next.length:Int)≤4)) 4 aK rfl rfl rfl rfl (.inl ⟨rfl,rfl,rfl⟩) rfl rfl rfl rfl (fun hb Q' eS=>?_) (fun g' hf=>?_)
 ·exact Wm 4 [.o 0] hs rfl<|aA<|fun a ha=>eS _ a (a_.refl _) (ha.kp rfl)
 replace hs:=hs.call hf;have ai:=hf.le;refine Wp 1 rfl<|cH (want:=true) (x:=decide (1≤s.min)) 3 aK rfl rfl rfl rfl (.inl ⟨rfl,rfl,rfl⟩) rfl rfl rfl rfl (fun hb Q' eS=>?_) (fun g' hf=>?_)
 ·exact Wm 3 [.o 0] hs rfl<|aA<|fun a ha=>eS _ a (a_.refl _) (ha.kp rfl)
 replace hs:=hs.call hf;have ai:=hf.le;refine Wp 1 rfl<|cH (want:=true) (x:=decide (s.min≤s.max)) 5 aK rfl rfl rfl rfl (.inl ⟨rfl,rfl,rfl⟩) rfl rfl rfl rfl (fun hb Q' eS=>?_) (fun g' hf=>?_)
 ·exact Wm 5 [.o 0,.o 0] hs rfl<|aA<|fun a ha=>eS _ a (a_.refl _) (ha.kp rfl)
 replace hs:=hs.call hf;have ai:=hf.le;refine Wp 1 rfl<|cH (want:=true) (x:=decide (s.max≤10000)) 3 aK rfl rfl rfl rfl (.inl ⟨rfl,rfl,rfl⟩) rfl rfl rfl rfl (fun hb Q' eS=>?_) (fun g' hf=>?_)
 ·exact Wm 3 [.o 0] hs rfl<|aA<|fun a ha=>eS _ a (a_.refl _) (ha.kp rfl)
 replace hs:=hs.call hf;have ai:=hf.le;refine aX rfl<|aG<|nw rfl hs ?_;unfold cf;refine congrArg Value.bool ?_;simp only[cond_true]
 ac_rfl
theorem nL(w:cQ)(n:Int)(g:G)(h1:0≤n)(h2:n≤9223372036854775807):
  cN prog 227 #[.agg #[vI w.src,vI w.dst,vI w.dN],vI n] g fun _ r=>r= .bool (dA w n):=by
 have hs:=St.start g;have hn:IntKind.i64.wrap (n-1)=n-1:=wq;refine enter func227 rfl ntmps227 rfl<|cR<|EH hs rfl fun b1 g1 hs ai=>aX rfl<|c_ 4 [.o 0] hs rfl ?_;rw[hn];refine Ev rfl (gO _ _ _ _) hs fun g1 hs ai=>Wp 1 rfl<|cH (want:=true) (x:=within w.dst 0 (n-1)) 5 aK rfl rfl rfl rfl (.inl ⟨rfl,rfl,rfl⟩) rfl rfl rfl rfl (fun hb Q' eS=>?_) (fun g' hf=>?_)
 ·refine Wm 4 [.o 0] hs rfl ?_;rw[hn];refine sO rfl (gO _ _ _ _) ?_;rintro g1 _ aP rfl;replace hs:=hs.call aP;have ai:=aP.le;exact aA<|fun a ha=>eS _ a aP (ha.kp rfl)
 replace hs:=hs.call hf;refine Wp 1 rfl<|cH (want:=true) (x:=w.src !=w.dst) 5 aK rfl rfl rfl rfl (.inl ⟨rfl,rfl,rfl⟩) rfl rfl rfl rfl (fun hb Q' eS=>?_) (fun g' hf=>?_)
 ·exact Wm 5 [.o 0,.o 0] hs rfl<|aA<|fun a ha=>eS _ a (a_.refl _) (ha.kp rfl)
 replace hs:=hs.call hf;refine Wp 1 rfl<|cH (want:=true) (x:=within w.dN 0 1000000) 3 aK rfl rfl rfl rfl (.inl ⟨rfl,rfl,rfl⟩) rfl rfl rfl rfl (fun hb Q' eS=>?_) (fun g' hf=>?_)
 ·refine Wm 2 [.o 0] hs rfl<|sO rfl (gO _ _ _ _) ?_;rintro g1 _ aP rfl;replace hs:=hs.call aP;have ai:=aP.le;exact aA<|fun a ha=>eS _ a aP (ha.kp rfl)
 replace hs:=hs.call hf;exact aX rfl<|aG (nw rfl hs rfl)
end Go.Proofs.YtbfjdfecgiegpaaGreatDoor
