/- Parts of the proof, from: Comparisons of numbers, and what they say of the order of two elements. -/
import Derived.Test.YtebobfdheanknaaGreatDoorYg
import Derived.Test.YtebobfdheanknaaGreatDoorYe
import Derived.Test.YtebobfdheanknaaGreatDoorYd
namespace Go.Proofs.YtebobfdheanknaaGreatDoor
open Go Go.K
set_option maxRecDepth 10000
attribute [local irreducible] W WL cT bu bX bA bB bD cW cG
set_option maxHeartbeats 2000000
def jx(a b:Int):Int:=if a<b then -1 else if b<a then 1 else 0
def FU:List Int→Int
 |[]=>0
 |n::r=>if n=0 then FU r else n
def qK(p q:Int×Int):Int:=FU [jx p.1 q.1,jx p.2 q.2]
theorem kT{α:Type}(k:α→Int×Int)(x y:α):decide (qK (k x) (k y)<0)=kl k x y:=by
 unfold qK kl jx FU FU FU
 by_cases h1:(k x).1<(k y).1
 ·simp[h1]
 ·by_cases h2:(k y).1<(k x).1
  ·have:(k x).1≠(k y).1:=by omega
   simp[h1,h2,this]
  ·have:(k x).1=(k y).1:=by omega
   by_cases h3:(k x).2<(k y).2
   ·simp[this,h3]
   ·by_cases h4:(k y).2<(k x).2<;>simp[this,h3,h4]
theorem Bl(n:Int)(g:G):CallsIn Wd 0 Tryz.prog 194 #[.int .i64 n] g.w (cR g fun _ r=>r= .bool false):=by
 have hs:=St.start g
 refine enter Tryz.func194 rfl Tryz.ntmps194 rfl ?_
 refine aX rfl ?_;refine aX rfl ?_
 exact aF (aV rfl rfl (hs.ret (by simp)))
theorem wu(m n:Int)(g:G):CallsIn Wd 0 Tryz.prog 113 #[.int .i64 m,.int .i64 n] g.w (cR g fun _ r=>r= .int .i64 (jx m n)):=by
 have hs:=St.start g
 refine enter Tryz.func113 rfl Tryz.ntmps113 rfl ?_
 refine aX rfl ?_;refine cP 1 rfl ?_
 refine an rfl rfl (ay HM aI rfl rfl rfl rfl rfl (Bl _ _) ?_);rintro g1 _ aN rfl;replace hs:=hs.call aN;have ah:=aN.le;skip
 refine ba rfl ?_;refine cP 1 rfl ?_
 refine an rfl rfl (ay HM aI rfl rfl rfl rfl rfl (Bl _ _) ?_);rintro g1 _ aN rfl;replace hs:=hs.call aN;have ah:=aN.le;skip
 refine ba rfl ?_;apply aB;refine aX rfl ?_
 refine aS rfl rfl ?_
 apply aE;apply au;apply aB;refine aX rfl ?_
 refine aS rfl rfl ?_
 apply aE;apply au;apply aB;refine aX rfl ?_
 by_cases h1:m<n
 ·refine aJ (b:=decide (m<n)) (by simp[h1]) rfl ?_
  refine aX rfl ?_
  exact aF (aV rfl rfl (hs.ret (by simp[jx,h1])))
 ·refine aS (b:=decide (m<n)) (by simp[h1]) rfl ?_
  apply aE;apply au;apply aB;refine aX rfl ?_
  by_cases h2:n<m
  ·refine aJ (b:=decide (n<m)) (by simp[h2]) rfl ?_
   refine aX rfl ?_
   exact aF (aV rfl rfl (hs.ret (by simp[jx,h1,h2])))
  ·refine aS (b:=decide (n<m)) (by simp[h2]) rfl ?_
   apply aE;apply au;refine aX rfl ?_
   exact aF (aV rfl rfl (hs.ret (by simp[jx,h1,h2])))
theorem MY(v:Value)(l:List Int)(g:G)(aH:Rs g v l):CallsIn Wd 0 Tryz.prog 112 #[v] g.w (cR g fun _ r=>r= .int .i64 (FU l)):=by
 obtain⟨a,c,rfl⟩:=aH.isSlice
 have hlen:=aH.dU
 unfold maxLen at hlen
 have hs:=St.start g
 refine enter Tryz.func112 rfl Tryz.ntmps112 rfl ?_
 refine aX rfl ?_;refine aX rfl ?_;apply aB;refine aX rfl ?_;apply aG
 refine bS (fun m a' w=> ∃(k:Nat),w=g.w∧k≤l.length∧m=l.length-k∧FU (l.drop k)=FU l∧
  Fr 18 [] [(3,.int .i64 0),(6,.slice a l.length c),(7,.int .i64 l.length),(8,.int .i64 k)] a') l.length (fun a' ha=>⟨0,rfl,Nat.zero_le _,rfl,rfl,ha.keep (by(repeat (first|exact trivial|refine⟨rfl,?_⟩)))⟩) ?_
 rintro m a' _ ⟨k,rfl,hk,rfl,dy,eI⟩
 revert a'
 apply cQ;refine aX rfl ?_;apply aB
 by_cases bh:k<l.length
 ·refine aJ (b:=decide ((k:Int)<(l.length:Int))) (by simp;omega) rfl ?_
  rw[List.drop_eq_getElem_cons bh,FU]at dy
  apply aE;apply au;apply aB;apply aG;apply c_
  refine an rfl rfl (aW T.ok rfl aH (y:=l[k]) (by simp[dA,bh]) rfl rfl rfl rfl rfl rfl ?_)
  rintro b p ys aL rfl
  refine Wm 1 [.e aL 0] (St.start _) rfl ?_
  refine ba rfl ?_;refine aX rfl ?_
  by_cases hz:l[k]=0
  ·refine aS (b:=l[k] !=0) (by simp[hz]) rfl ?_
   rw[if_pos hz]at dy
   apply aE;apply bU;apply au;apply ar;refine Wp 2 rfl ?_;apply aD
   exact fun a ha=>⟨l.length-(k+1),by omega,k+1,rfl,by omega,rfl,dy,ha.keep ⟨rfl,rfl,rfl,kI rfl (by rw[wr (by omega) (by omega)];omega),trivial⟩⟩
  ·refine aJ (b:=l[k] !=0) (by simp[hz]) rfl ?_
   rw[if_neg hz]at dy
   refine aX rfl ?_
   exact aF (aV rfl rfl (hs.ret (by rw[dy])))
 ·refine aS (b:=decide ((k:Int)<(l.length:Int))) (by simp;omega) rfl ?_
  obtain rfl:k=l.length:=by omega
  apply bE;apply bK;apply bK;apply dc;apply au;refine aX rfl ?_
  rw[List.drop_length,FU]at dy
  exact aF (aV rfl rfl (hs.ret (by rw[←dy])))
end Go.Proofs.YtebobfdheanknaaGreatDoor
namespace Go.Proofs.YtebobfdheanknaaGreatDoor
open Go Go.K
set_option maxRecDepth 10000
attribute [local irreducible] W WL cT bu bX bA bB bD cW cG
set_option maxHeartbeats 8000000
abbrev AZ(b:Nat):cV:=.obj b (.cells [.int .i64 0,.int .i64 0].toArray 165 (0,0))
def n4(g0:G)(i j:Nat)(ρ:Nat→Option Value)(g:G):Prop:=
 match ρ i,ρ j with
 |none,none=>St g0 g []
 |some v,none=> ∃b,v= .pointer (some ⟨b,0,none⟩)∧St g0 g [AZ b]
 |none,some u=> ∃c,u= .pointer (some ⟨c,0,none⟩)∧St g0 g [AZ c]
 |some v,some u=> ∃b c,v= .pointer (some ⟨b,0,none⟩)∧u= .pointer (some ⟨c,0,none⟩)∧St g0 g [AZ b,AZ c]
theorem BV{g0:G}{i j:Nat}(ρ:Nat→Option Value)(g g':G)(hf:aZ g g')(h:n4 g0 i j ρ g):n4 g0 i j ρ g':=by
 unfold n4 at h⊢
 split at h
 ·exact h.call hf
 ·obtain⟨b,e,h⟩:=h;exact⟨b,e,h.call hf⟩
 ·obtain⟨b,e,h⟩:=h;exact⟨b,e,h.call hf⟩
 ·obtain⟨b,c,e1,e2,h⟩:=h;exact⟨b,c,e1,e2,h.call hf⟩
theorem DA{g0 g:G}{F:Fence}{N:Nat}{ds:List Deferred}{Q:Exit→Act→World→Prop}{l:Env}{o:Oper}{i j:Nat}{ρ:Nat→Option Value}(fu:Nat.beq j i=false)(h1:ρ i=none)(hJ:n4 g0 i j ρ g)(ho:o.op= .alloc 165):
  cT F Tryz.prog N ds o l g.w Q fun v w'=> ∃dP,dP.w=w'∧(g.le dP∧n4 g0 i j (o5 ρ i v) dP)∧Fact.any.p v dP:=by
 have hn: ¬j=i:=fun e=>by subst e;simp at fu
 unfold n4 at hJ
 rw[h1]at hJ
 cases h2:ρ j with
 |none=>
  rw[h2]at hJ
  refine aK T.ok ho hJ rfl rfl fun b g' hs hle=>⟨g',rfl,⟨hle,?_⟩,trivial⟩
  unfold n4 o5
  rw[if_pos rfl,if_neg hn,h2]
  exact⟨b,rfl,hs⟩
 |some u=>
  rw[h2]at hJ
  obtain⟨c,e,hJ⟩:=hJ
  refine aK T.ok ho hJ rfl rfl fun b g' hs hle=>⟨g',rfl,⟨hle,?_⟩,trivial⟩
  unfold n4 o5
  rw[if_pos rfl,if_neg hn,h2]
  exact⟨b,c,rfl,e,hs⟩
theorem DB{g0 g:G}{F:Fence}{N:Nat}{ds:List Deferred}{Q:Exit→Act→World→Prop}{l:Env}{o:Oper}{i j:Nat}{ρ:Nat→Option Value}(fu:Nat.beq j i=false)(h1:ρ j=none)(hJ:n4 g0 i j ρ g)(ho:o.op= .alloc 165):
  cT F Tryz.prog N ds o l g.w Q fun v w'=> ∃dP,dP.w=w'∧(g.le dP∧n4 g0 i j (o5 ρ j v) dP)∧Fact.any.p v dP:=by
 have hn: ¬i=j:=fun e=>by subst e;simp at fu
 unfold n4 at hJ
 cases h2:ρ i with
 |none=>
  rw[h2,h1]at hJ
  refine aK T.ok ho hJ rfl rfl fun b g' hs hle=>⟨g',rfl,⟨hle,?_⟩,trivial⟩
  unfold n4 o5
  rw[if_neg hn,if_pos rfl,h2]
  exact⟨b,rfl,hs⟩
 |some u=>
  rw[h2,h1]at hJ
  obtain⟨c,e,hJ⟩:=hJ
  refine aK T.ok ho hJ rfl rfl fun b g' hs hle=>⟨g',rfl,⟨hle,?_⟩,trivial⟩
  unfold n4 o5
  rw[if_neg hn,if_pos rfl,h2]
  exact⟨c,b,e,rfl,hs.perm (List.Perm.swap _ _ [])⟩
def DC(fo:Value)(k:bc→Int×Int)(g:G):Prop:=∀g',g.le g'→ ∀f,ir Tryz.prog fo [fv f] g'.w (cR g' fun _ r=>r=Dv (k f))
theorem DC.mono{fo:Value}{k:bc→Int×Int}{g g':G}(hle:g.le g')(h:DC fo k g):DC fo k g':=fun g1 h1=>h g1 (hle.trans h1)
theorem DD{fo:Value}{k:bc→Int×Int}{bp:Nat}(x y:bc)(g:G)(aC:EP g bp 0 [fo])(hk:DC fo k g):
  CallsIn Wd 0 Tryz.prog 111 #[fv x,fv y,.pointer (some ⟨bp,0,none⟩)] g.w (cR g fun _ r=>r= .int .i64 (qK (k x) (k y))):=by
 have hs:=St.start g
 have aq:=G.le.refl g
 refine enter Tryz.func111 rfl Tryz.ntmps111 rfl ?_
 apply c_
 refine an rfl rfl (aR rfl hs rfl rfl ?_);clear hs;rintro b1 g1 hs ah;obtain⟨aq,aC⟩:=cC ah aq aC
 obtain⟨g2,bR,aU,ah,aL⟩:=hs.a_ (i:=0) rfl;replace hs:=aU;clear aU;rw[←bR];obtain⟨aq,aC⟩:=cC ah aq aC
 have aP:=aL;clear aL
 skip
 refine an rfl rfl (aR rfl hs rfl rfl ?_);clear hs;rintro b2 g1 hs ah;obtain⟨aq,aC,aP⟩:=ef ah aq aC aP
 obtain⟨g2,bR,aU,ah,aL⟩:=hs.a_ (i:=0) rfl;replace hs:=aU;clear aU;rw[←bR];obtain⟨aq,aC,aP⟩:=ef ah aq aC aP
 have dO:=aL;clear aL
 refine ba rfl ?_;apply aB
 apply lJ (gE (eJ (.f Fact.any:: .f Fact.any::[]))) 8 [(2,10),(5,13),(6,6),(7,7)] [6,7] [[],[]] (n4 g 6 7) BV (by unfold n4;exact hs.dr) (by kernel_rfl) ⟨cY,cY,trivial⟩
 ·refine Um [[],[]] [.z aC,.z aP] (by kernel_rfl) rfl ?_
  refine bC (cH (js:=[(0,8),(1,9)]) (by kernel_rfl) rfl fun _ g2 _ _ hf _=>cI rfl (cI rfl (bd (az rfl (eA rfl rfl rfl rfl rfl rfl (hk g2 (aq.trans ((G.bJ _).trans hf)) x) fun g' v h1 h2=>⟨g',rfl,h1,h2⟩))))) ?_
  refine Um [[],[]] [.z aC,.z dO] (by kernel_rfl) rfl ?_
  refine bC (cH (js:=[(3,11),(4,12)]) (by kernel_rfl) rfl fun _ g2 _ _ hf _=>cI rfl (cI rfl (bd (az rfl (eA rfl rfl rfl rfl rfl rfl (hk g2 (aq.trans ((G.bJ _).trans hf)) y) fun g' v h1 h2=>⟨g',rfl,h1,h2⟩))))) ?_
  refine bC (il (js:=[]) (by kernel_rfl) rfl fun ρ g2 h1 _ h3 _ hJ=>bd ⟨rfl,DA rfl h3 hJ rfl⟩) ?_
  refine bC (il (js:=[]) (by kernel_rfl) rfl fun ρ g2 h1 _ h3 _ hJ=>bd ⟨rfl,DB rfl h3 hJ rfl⟩) ?_
  exact vc
 intro ρ g3 hle hJ dh
 refine cI rfl (cI rfl (fH rfl fun v6 _ r6=>fH rfl fun v7 _ r7=>bd ?_))
 unfold n4 at hJ
 rw[r6,r7]at hJ
 obtain⟨b,c,rfl,rfl,hs⟩:=hJ
 have ah:=(G.bJ _).trans hle;obtain⟨aP,dO⟩:=cC ah aP dO
 clear hle dh r6 r7 ρ
 clear aP dO
 refine bg rfl (aA T.ok 0 rfl hs rfl rfl rfl rfl rfl rfl rfl rfl rfl ?_);replace hs:=hs;rintro g1 hs ah
 refine bg rfl (aA T.ok 1 rfl hs rfl rfl rfl rfl rfl rfl rfl rfl rfl ?_);replace hs:=hs;rintro g1 hs ah
 obtain⟨g2,bR,aU,ah,aL⟩:=hs.a_ (i:=0) rfl;replace hs:=aU;clear aU;rw[←bR]
 have aP:=aL;clear aL
 obtain⟨g2,bR,aU,ah,aL⟩:=hs.a_ (i:=0) rfl;replace hs:=aU;clear aU;rw[←bR];replace aP:=aP.mono ah
 have dO:=aL;clear aL
 replace hs:St g _ []:=hs
 apply cf;apply aB
 apply bO hs (fj (eJ (.f (Fact.rs [jx (k x).1 (k y).1,jx (k x).2 (k y).2])::fe []))) 12 [(11,25)] (by kernel_rfl) rfl
 ·refine aw (ak (js:=[]) (by kernel_rfl) fun gd hf=>aj (az rfl (df T.ok (q:=0) rfl rfl rfl rfl rfl rfl (by decide) ⟨gd,rfl,aZ.refl _,rfl⟩))) ?_
  refine Dm [[0]] [.z aP] hs (by kernel_rfl) rfl ?_
  refine aw (ak (js:=[]) (by kernel_rfl) fun gd hf=>aj (az rfl (df T.ok (q:=0) rfl rfl rfl rfl rfl rfl (by decide) ⟨gd,rfl,aZ.refl _,rfl⟩))) ?_
  refine Dm [[2],[1,3]] [.z dO,.c AP fun g _=>wu (k x).1 (k y).1 g] hs (by kernel_rfl) rfl ?_
  refine aw (ak (js:=[]) (by kernel_rfl) fun gd hf=>aj (az rfl (df T.ok (q:=1) rfl rfl rfl rfl rfl rfl (by decide) ⟨gd,rfl,aZ.refl _,rfl⟩))) ?_
  refine Dm [[5]] [.z aP] hs (by kernel_rfl) rfl ?_
  refine aw (ak (js:=[]) (by kernel_rfl) fun gd hf=>aj (az rfl (df T.ok (q:=1) rfl rfl rfl rfl rfl rfl (by decide) ⟨gd,rfl,aZ.refl _,rfl⟩))) ?_
  refine Dm [[7],[6,8]] [.z dO,.c AP fun g _=>wu (k x).2 (k y).2 g] hs (by kernel_rfl) rfl ?_
  refine aw (ak (js:=[(4,18),(9,23)]) (by kernel_rfl) fun gd hf=>ai rfl (ai rfl (aj (az rfl (bj T.ok rfl (St.start gd) (vs:=[(0,.int .i64 (jx (k x).1 (k y).1)),(1,.int .i64 (jx (k x).2 (k y).2))]) (cells:=[jx (k x).1 (k y).1,jx (k x).2 (k y).2].map (Value.int .i64)) rfl rfl rfl rfl rfl rfl (by decide) (by decide) (by kernel_rfl) rfl fun b g' iS _=> ?_))))) ?_
  ·obtain⟨g2,e1,e2,e3⟩:=kj (α:=Int) iS (cO.ints g' [jx (k x).1 (k y).1,jx (k x).2 (k y).2])
   exact⟨g2,e1,e2,e3⟩
  refine aw (ak (js:=[(10,24)]) (by kernel_rfl) fun gd hf=>aY fun v h=>aj (az rfl (ay HB aI rfl rfl rfl rfl rfl (MY v [jx (k x).1 (k y).1,jx (k x).2 (k y).2] _ h) fun g' v h1 h2=>⟨g',rfl,h1,h2⟩))) ?_
  exact fJ
 clear hs;intro g6 hs ah
 refine ba rfl ?_
 exact aF (aV rfl rfl (hs.ret rfl))
end Go.Proofs.YtebobfdheanknaaGreatDoor
namespace Go.K
open Go Go.RowKit
class iN(α:Type) where
 k:Nat
 enc:α→List Value
 len: ∀x,(enc x).length=k
 one: ∀x,(enc x).all Value.oneCell'=true
 pos:0<k
variable {α:Type} [iN α]
def fl(xs:List α):List Value:=xs.flatMap iN.enc
theorem sk(x:α)(xs:List α):fl (x::xs)=iN.enc x++fl xs:=by unfold fl;rw[List.flatMap_cons]
theorem lr(xs ys:List α):fl (xs++ys)=fl xs++fl ys:=by unfold fl;rw[List.flatMap_append]
theorem mc: ∀xs:List α,(fl xs).length=xs.length*iN.k α
 |[]=>by simp[fl]
 |x::xs=>by rw[sk,List.length_append,iN.len,mc xs,List.length_cons,Nat.succ_mul];omega
theorem lR(xs:List α){i:Nat}(h:i<xs.length):fl xs=fl (xs.take i)++(iN.enc xs[i]++fl (xs.drop (i+1))):=by
 conv=>lhs;rw[←List.take_append_drop i xs]
 rw[List.drop_eq_getElem_cons h,lr,sk]
theorem Oo(xs:List α){i:Nat}(h:i<xs.length):((fl xs).drop (i*iN.k α)).take (iN.k α)=iN.enc xs[i]:=by
 have e:(fl (xs.take i)).length=i*iN.k α:=by rw[mc,List.length_take,Nat.min_eq_left (by omega)]
 rw[lR xs h,←e,List.drop_left,←iN.len xs[i],List.take_left]
theorem J5(xs:List α){i:Nat}(h:i<xs.length)(y:α):lF (fl xs) (i*iN.k α) (iN.enc y)=fl (xs.set i y):=by
 have e:(fl (xs.take i)).length=i*iN.k α:=by rw[mc,List.length_take,Nat.min_eq_left (by omega)]
 unfold lF
 rw[lR xs h]
 rw[←e,List.take_left,←List.drop_drop,List.drop_left,iN.len,←iN.len xs[i],List.drop_left]
 rw[lR (xs.set i y) (i:=i) (by rw[List.length_set];exact h),List.getElem_set_self,List.take_set_of_le (Nat.le_refl _),List.drop_set_of_lt (by omega),List.append_assoc]
theorem As(xs:List α){i:Nat}(h:i<xs.length):i*iN.k α+iN.k α≤(fl xs).length:=by
 rw[mc,←Nat.succ_mul];exact Nat.mul_le_mul_right _ h
variable {F:Fence} {P:Program} {N:Nat} {ds:List Deferred} {l:Env} {w:World} {Q:Exit→Act→World→Prop} {o:Oper} {g0 g:G} {L:List cV} {K:Value→World→Prop}
theorem dR[dN P](i:Nat){t:Nat}{ti:TI}{x:Operand}{e:TypeId}{b p c n m j:Nat}{xs:List α}(ho:o.op= .load t x)(hs:St g0 g L)
  (hi:L[i]? =some (.row e (iN.k α) (.slice (some ⟨b,p,none⟩) n c) m (fl xs))) (hx:ev l x=some (.pointer (some ⟨b,p+j*iN.k α,none⟩))) {y:α} (hj:xs[j]? =some y)
  (ht:tl (dN.tb P) t=some ti) (ha:rO ti.desc=true) (hk:ti.size=iN.k α) (k:K (.agg (iN.enc y).toArray) g.w):cT F P N ds o l g.w Q K:=by
 obtain⟨tN,rfl⟩:=List.getElem?_eq_some_iff.1 hj
 refine iP dN.ok (j*iN.k α) ho (hs.own i _ hi).1 hx ?_ k
 unfold ve
 rw[ht]
 simp only[ha,cond_true]
 rw[hk,show Nat.ble (j*iN.k α+iN.k α) (fl xs).length=true from Nat.ble_eq_true_of_le (As xs tN),cond_true,Oo xs tN]
theorem fZ[dN P](i:Nat){t:Nat}{ti:TI}{x y:Operand}{e:TypeId}{b p c n m j:Nat}{xs:List α}{v:α}(ho:o.op= .store t x y)(hs:St g0 g L)
  (hi:L[i]? =some (.row e (iN.k α) (.slice (some ⟨b,p,none⟩) n c) m (fl xs))) (hx:ev l x=some (.pointer (some ⟨b,p+j*iN.k α,none⟩))) (hy:ev l y=some (.agg (iN.enc v).toArray)) (hj:j<xs.length)
  (ht:tl (dN.tb P) t=some ti) (hk:ti.size=iN.k α)
  (kk: ∀g',St g0 g' (L.set i (.row e (iN.k α) (.slice (some ⟨b,p,none⟩) n c) m (fl (xs.set j v))))→g.le g'→K undef g'.w):cT F P N ds o l g.w Q K:=
 kD dN.ok i (j*iN.k α) ho hs hi hx hy ht rfl (by rw[iN.len,hk]) (iN.one v) (by rw[iN.len];exact iN.pos) (by rw[iN.len];exact As xs hj) (J5 xs hj v) kk
theorem cZ[dN P](i:Nat){t e:Nat}{ti tj:TI}{x ix:Operand}{ad:Option Addr}{c n m:Nat}{kk:IntKind}{z:Int}{xs:List α}(ho:o.op= .indexAddr t x ix)(hs:St g0 g L)
  (hi:L[i]? =some (.row e (iN.k α) (.slice ad n c) m (fl xs))) (h0:0≤z) (bh:z.toNat<n) (hx:ev l x=some (.slice ad n c)) (G_:ev l ix=some (.int kk z)) (ht:tl (dN.tb P) t=some ti) (hd:ti.desc= .slice e) (hj:tl (dN.tb P) e=some tj) (hk:tj.size=iN.k α)
  (k: ∀b p,ad=some ⟨b,p,none⟩→K (.pointer (some ⟨b,p+z.toNat*iN.k α,none⟩)) g.w):cT F P N ds o l g.w Q K:=
 iy dN.ok ho (hs.own i _ hi).1 h0 bh hx G_ ht hd hj hk k
end Go.K
namespace Go.Proofs.YtebobfdheanknaaGreatDoor
open Go Go.K
set_option maxRecDepth 10000
attribute [local irreducible] W WL cT bu bX bA bB bD cW cG
set_option maxHeartbeats 8000000
instance:iN bc where
 k:=19
 enc:=bW
 len _:=rfl
 one f:=by simp[bW,Value.oneCell']
 pos:=by decide
def zG(fo:Value)(k:bc→Int×Int)(g:G):Prop:=∀g',g.le g'→ ∀x y,ir Tryz.prog fo [fv x,fv y] g'.w (cR g' fun _ r=>r= .int .i64 (qK (k x) (k y)))
theorem zG.mono{fo:Value}{k:bc→Int×Int}{g g':G}(hle:g.le g')(h:zG fo k g):zG fo k g':=fun g1 h1=>h g1 (hle.trans h1)
theorem wv{α:Type}{k:α→Int×Int}{A B:List α}{x:α}(h1: ∀a∈A,kl k x a=false)(h2: ∀b∈B,kl k x b=true):lE k (A++B) [x]=A++x::B:=by
 have e:=gQ (k:=k) A [] (a2:=B) (b2:=[x]) (fun a ha y hy=>by rw[List.mem_singleton.1 hy];exact h1 a ha) (by simp)
 have e2:=gQ (k:=k) [] [x] (a2:=B) (b2:=[]) (by simp) (fun y hy b hb=>by rw[List.mem_singleton.1 hy];exact h2 b hb)
 simp only[List.nil_append,List.append_nil]at e e2
 rw[e,e2,gC,gC];rfl
theorem DE{α:Type}{k:α→Int×Int}{A:List α}{x y:α}(hs:zj k (A++[y]))(h:kl k x y=false): ∀a∈A++[y],kl k x a=false:=by
 intro a ha
 rcases List.mem_append.1 ha with ha|ha
 ·exact qu h ((List.pairwise_append.1 hs).2.2 a ha y (by simp))
 ·rw[List.mem_singleton.1 ha];exact h
theorem xS{α:Type}(X Y:List α)(y x:α):((X++y::x::Y).set (X.length+1) y).set X.length x=X++x::y::Y:=by
 rw[List.set_append_right _ _ (by omega),List.set_append_right _ _ (by omega)]
 simp
def ll:Bool→Nat
 |false=>54
 |true=>224
def MZ:Bool→Nat
 |false=>262
 |true=>292
theorem M3(tw:Bool):ag Tryz.prog (MZ tw):=by
 cases tw
 ·exact MC
 ·exact ML
def M4:Bool→Nat
 |false=>304
 |true=>317
theorem I6(tw:Bool):ag Tryz.prog (M4 tw):=by
 cases tw
 ·exact MN
 ·exact MQ
def M5:Bool→Nat
 |false=>291
 |true=>305
theorem Ql(tw:Bool):ag Tryz.prog (M5 tw):=by
 cases tw
 ·exact MK
 ·exact MO
def M6:Bool→Nat
 |false=>263
 |true=>293
theorem Ga(tw:Bool):ag Tryz.prog (M6 tw):=by
 cases tw
 ·exact MD
 ·exact MM
def M7:Bool→Nat
 |false=>193
 |true=>264
theorem Qm(tw:Bool):ag Tryz.prog (M7 tw):=by
 cases tw
 ·exact L8
 ·exact ME
def M8:Bool→Nat
 |false=>110
 |true=>199
theorem M9(tw:Bool):ag Tryz.prog (M8 tw):=by
 cases tw
 ·exact Lh
 ·exact Mc
abbrev eP(e:Nat)(ad:Option Addr)(n c:Nat)(xs:List bc):cV:=.row e 19 (.slice ad n c) n (fl xs)
theorem H3(tw:Bool){fo:Value}{kf:bc→Int×Int}{ad:Option Addr}{n c:Nat}{L:List cV}(U S V:List bc){g0 g:G}(hn:n=U.length+S.length+V.length)(hm:n≤1000000000)(hk:zG fo kf g)(hs:St g0 g (eP (ll tw) ad n c (U++S++V)::L)):
  CallsIn Wd 0 Tryz.prog (MZ tw) #[.slice ad n c,.int .i64 (U.length:Nat),.int .i64 (U.length+S.length:Nat),fo] g.w (eu g fun g' r=>r= .tuple #[]∧St g0 g' (eP (ll tw) ad n c (U++dK kf S++V)::L)):=by
 cases tw
 case' false=>let tw:=false
 case' true=>let tw:=true
 all_goals
  have aq:=G.le.refl g
  first|refine enter Tryz.func262 rfl Tryz.ntmps262 rfl ?_|refine enter Tryz.func292 rfl Tryz.ntmps292 rfl ?_
  refine aX rfl ?_;apply aG
  refine bS (fun m a' w=> ∃(d:Nat) (g':G),w=g'.w∧St g0 g' (eP (ll tw) ad n c (U++dK kf (S.take d)++(S.drop d++V))::L)∧G.le g g'∧1≤d∧(d≤S.length∨d=1)∧m=S.length+1-d∧
    Fr 53 [] [(0,.slice ad n c),(1,.int .i64 (U.length:Nat)),(2,.int .i64 (U.length+S.length:Nat)),(3,fo),(8,.int .i64 (U.length+d:Nat))] a') S.length
   (fun a' ha=>⟨1,g,rfl,?_,aq,Nat.le_refl _,.inr rfl,rfl,ha.keep ⟨rfl,rfl,rfl,rfl,kI rfl (by rw[wr (by omega) (by omega)];simp),trivial⟩⟩) ?_
  ·have e:U++dK kf (S.take 1)++(S.drop 1++V)=U++S++V:=by
    cases S with
    |nil=>simp[dK]
    |cons s S=>simp[dK,gC]
   rw[e];exact hs
  clear hs aq
  rintro m a' _ ⟨d,g',rfl,hs,aq,hd,T7,rfl,eI⟩
  revert a'
  apply cQ;apply aB;refine aX rfl ?_
  by_cases bh:d<S.length
  ·refine aJ (b:=decide (((U.length+d:Nat):Int)<((U.length+S.length:Nat):Int))) (by simp;omega) rfl ?_
   apply aE;apply au;apply aB;apply aG;refine aX rfl ?_;apply aG
   have e0:U++dK kf (S.take d)++(S.drop d++V)=(U++dK kf (S.take d))++S[d]::([]++(S.drop (d+1)++V)):=by
    rw[List.drop_eq_getElem_cons bh];simp only[List.append_assoc,List.cons_append,List.nil_append]
   rw[e0]at hs
   generalize hW:S.drop (d+1)++V=W0 at hs
   generalize hx:S[d]=x at hs
   have jr:(dK kf (S.take d)).length=d:=by rw[(iM _).length_eq,List.length_take];omega
   have T_:W0.length+d+1+U.length=n:=by rw[←hW,List.length_append,List.length_drop];omega
   have Qn:=jG (k:=kf) (S.take d)
   have e1:dK kf (S.take (d+1))=lE kf (dK kf (S.take d)) [x]:=by
    rw[←hx,List.take_succ_eq_append_getElem bh,pb];rfl
   generalize hq:dK kf (S.take d)=q at hs Qn jr e1
   have j_:=G.le.refl g'
   refine bS (fun m a' w=> ∃(A B:List bc) (g2:G),w=g2.w∧St g0 g2 (eP (ll tw) ad n c (U++A++x::(B++W0))::L)∧G.le g' g2∧q=A++B∧(∀b∈B,kl kf x b=true)∧m=A.length∧
     Fr 53 [] [(0,.slice ad n c),(1,.int .i64 (U.length:Nat)),(2,.int .i64 (U.length+S.length:Nat)),(3,fo),(8,.int .i64 (U.length+d:Nat)),(9,.int .i64 (U.length+A.length:Nat))] a') d
    (fun a' ha=>⟨q,[],g',rfl,hs,j_,by simp,by simp,jr.symm,ha.keep ⟨rfl,rfl,rfl,rfl,rfl,kI rfl (by rw[jr]),trivial⟩⟩) ?_
   clear hs j_
   rintro m a' _ ⟨A,B,g2,rfl,hs,j_,zm,hB,rfl,eI⟩
   have sP:A.length+B.length=d:=by rw[←List.length_append,←zm,jr]
   have aq:=aq.trans j_
   revert a'
   rcases List.eq_nil_or_concat A with rfl|⟨A,y,rfl⟩
   ·apply cQ;apply aB;apply aB
    apply bO hs (eJ (.e (.bool false)::fj (gE (eJ [])))) 17 [(16,34)] (by kernel_rfl) rfl
    ·refine Dm [[],[]] [] hs (by kernel_rfl) rfl ?_
     refine aw (ak (js:=[(0,18),(1,19)]) (by kernel_rfl) fun gd hf=>ai rfl (ai rfl (aj (az rfl (aM _ T.ok rfl ⟨gd,rfl,aZ.refl _,?_⟩))))) ?_
     ·exact congrArg Value.bool (by simp)
     exact Dz [[2],[3],[3],[3],[5,6,3],[7,3],[3],[3],[10,3],[9,11,3],[12,3],[4,8,13,3,3],[14,3],[3,15]] [] hs (by kernel_rfl) rfl
    clear hs;intro g5 hs ah;obtain⟨aq,j_⟩:=cC ah aq j_
    apply cf
    refine aS rfl rfl ?_
    apply bE;apply bK;apply bK;apply dc;apply bU;apply au;apply ar;refine Wp 3 rfl ?_;apply aD
    refine fun a ha=>⟨S.length+1-(d+1),by omega,d+1,g5,rfl,?_,aq,by omega,by omega,rfl,ha.keep ⟨rfl,rfl,rfl,rfl,kI rfl (by rw[wr (by omega) (by omega)];omega),trivial⟩⟩
    have e2:=wv (A:=[]) (x:=x) (by simp) hB
    rw[e1,zm,hW]
    simp only[List.nil_append]at e2⊢
    rw[e2]
    simpa using hs
   ·rw[List.concat_eq_append]at*
    obtain⟨b0,p0,rfl⟩: ∃b p,ad=some ⟨b,p,none⟩:=by
     rcases(hs.own 0 _ rfl).1.2 with⟨h0,_⟩|⟨b,off,cap,cur,hv,_⟩
     ·omega
     ·simp only[Value.slice.injEq]at hv;exact⟨b,off,hv.1⟩
    generalize hX:U++A=X
    have Gb:X.length=U.length+A.length:=by rw[←hX,List.length_append]
    have ej:U.length+(A++[y]).length=X.length+1:=by rw[Gb,List.length_append];rfl
    rw[ej]
    have er:U++(A++[y])++x::(B++W0)=X++y::x::(B++W0):=by rw[←hX];simp
    rw[er]at hs
    have Sm:X.length+1<n:=by simp only[List.length_append,List.length_singleton]at sP;omega
    have gy:(X++y::x::(B++W0))[X.length]? =some y:=by simp
    have gx:(X++y::x::(B++W0))[X.length+1]? =some x:=by rw[List.getElem?_append_right (by omega)];simp
    apply cQ;apply aB;apply aB
    apply bO hs (eJ (.e (.bool true)::fj (.e (.int .i64 (X.length:Nat))::gE (fe [])))) 17 [(16,34)] (by kernel_rfl) rfl
    ·refine Dm [[],[]] [] hs (by kernel_rfl) rfl ?_
     refine aw (ak (js:=[(0,18),(1,19)]) (by kernel_rfl) fun gd hf=>ai rfl (ai rfl (aj (az rfl (aM _ T.ok rfl ⟨gd,rfl,aZ.refl _,?_⟩))))) ?_
     ·exact congrArg Value.bool (by simp;omega)
     refine Dm [[2],[3],[3],[3]] [] hs (by kernel_rfl) rfl ?_
     refine aw (ak (js:=[(5,23),(6,24),(3,21)]) (by kernel_rfl) fun gd hf=>ai rfl (ai rfl (ai rfl (aj (az rfl (cZ (α:=bc) 0 rfl (hs.dr.call hf) rfl (by omega) (by omega) rfl rfl rfl rfl rfl rfl fun b p hb=>⟨gd,rfl,aZ.refl _,?_⟩)))))) ?_
     ·obtain⟨rfl,rfl⟩:b0=b∧p0=p:=by simpa using hb
      rfl
     refine aw (ak (js:=[(7,25),(3,21)]) (by kernel_rfl) fun gd hf=>ai rfl (ai rfl (aj (az rfl (dR (α:=bc) 0 rfl (hs.dr.call hf) rfl rfl (j:=X.length+1) gx rfl rfl rfl ⟨gd,rfl,aZ.refl _,rfl⟩))))) ?_
     refine Dm [[3],[3]] [] hs (by kernel_rfl) rfl ?_
     refine aw (ak (js:=[(10,28),(3,21)]) (by kernel_rfl) fun gd hf=>ai rfl (ai rfl (aj (az rfl (aM _ T.ok rfl ⟨gd,rfl,aZ.refl _,?_⟩))))) ?_
     ·exact congrArg (Value.int .i64) (by rw[wr (by omega) (by omega)];omega)
     refine aw (ak (js:=[(9,27),(11,29),(3,21)]) (by kernel_rfl) fun gd hf=>ai rfl (ai rfl (ai rfl (aj (az rfl (cZ (α:=bc) 0 rfl (hs.dr.call hf) rfl (by omega) (by omega) rfl rfl rfl rfl rfl rfl fun b p hb=>⟨gd,rfl,aZ.refl _,?_⟩)))))) ?_
     ·obtain⟨rfl,rfl⟩:b0=b∧p0=p:=by simpa using hb
      rfl
     refine aw (ak (js:=[(12,30),(3,21)]) (by kernel_rfl) fun gd hf=>ai rfl (ai rfl (aj (az rfl (dR (α:=bc) 0 rfl (hs.dr.call hf) rfl rfl (j:=X.length) gy rfl rfl rfl ⟨gd,rfl,aZ.refl _,rfl⟩))))) ?_
     refine aw (ak (js:=[(4,22),(8,26),(13,31),(3,21),(3,21)]) (by kernel_rfl) fun gd hf=>ai rfl (ai rfl (ai rfl (ai rfl (ai rfl (aj (az rfl (eA rfl rfl rfl rfl rfl rfl (hk gd (aq.trans ((G.bJ _).trans hf.le)) x y) fun g' v h1 h2=>⟨g',rfl,h1,h2⟩)))))))) ?_
     exact Dz [[14,3],[3,15]] [] hs (by kernel_rfl) rfl
    clear hs;intro g5 hs ah;obtain⟨aq,j_⟩:=cC ah aq j_
    apply cf
    cases j9:kl kf x y with
    |true=>
     refine aJ (b:=decide (qK (kf x) (kf y)<0)) (by rw[kT];exact j9) rfl ?_
     apply aE;apply au;apply aB;apply aG
     have lG:(X++y::x::(B++W0)).length=n:=by rw[List.length_append,Gb];simp only[List.length_append,List.length_cons,List.length_nil]at sP⊢;omega
     apply pw (gE (.e (.int .i64 (X.length:Nat))::eJ (.e (.int .i64 (X.length:Nat))::gE (eJ (fe [.f Fact.any]))))) 16 [(2,39),(4,41),(13,50)] [15] [[0,1,5,6,7,8,9,10,11,12,13,14]]
      (fun s=>match s with|0=>eP (ll tw) (some ⟨b0,p0,none⟩) n c (X++y::x::(B++W0))::L|_+1=>eP (ll tw) (some ⟨b0,p0,none⟩) n c ((X++y::x::(B++W0)).set (X.length+1) y)::L) hs (by kernel_rfl) ⟨cY,trivial⟩
     ·refine Lm [[],[],[],[]] [] (by kernel_rfl) rfl ?_
      refine dk (my (js:=[(3,40)]) (by kernel_rfl) rfl fun s g' _ _ _ hf _=>ai rfl (aj (az rfl (aM _ T.ok rfl ⟨g',rfl,aZ.refl _,?_⟩)))) ?_
      ·exact congrArg (Value.int .i64) (by rw[wr (by omega) (by omega)];omega)
      refine Lm [[],[]] [] (by kernel_rfl) rfl ?_
      refine dk (my (js:=[(6,43)]) (by kernel_rfl) rfl fun s g' _ _ _ hf _=>ai rfl (aj (az rfl (aM _ T.ok rfl ⟨g',rfl,aZ.refl _,?_⟩)))) ?_
      ·exact congrArg (Value.int .i64) (by rw[wr (by omega) (by omega)];omega)
      refine dk (kM 0 0 (js:=[(5,42),(7,44)]) (by kernel_rfl) (by kernel_rfl) ?_) ?_
      ·intro s g' _ h1 hf hJ
       obtain rfl:s=0:=by omega
       refine ai rfl (ai rfl (aj (az rfl (cZ (α:=bc) 0 rfl hJ rfl (by omega) (by omega) rfl rfl rfl rfl rfl rfl fun b p hb=>⟨g',rfl,aZ.refl _,?_⟩))))
       obtain⟨rfl,rfl⟩:b0=b∧p0=p:=by simpa using hb
       rfl
      refine dk (kM 0 0 (js:=[(8,45)]) (by kernel_rfl) (by kernel_rfl) ?_) ?_
      ·intro s g' _ h1 hf hJ
       obtain rfl:s=0:=by omega
       exact ai rfl (aj (az rfl (dR (α:=bc) 0 rfl hJ rfl rfl (j:=X.length) gy rfl rfl rfl ⟨g',rfl,aZ.refl _,rfl⟩)))
      refine Lm [[],[]] [] (by kernel_rfl) rfl ?_
      refine dk (kM 0 0 (js:=[(10,47),(11,48)]) (by kernel_rfl) (by kernel_rfl) ?_) ?_
      ·intro s g' _ h1 hf hJ
       obtain rfl:s=0:=by omega
       refine ai rfl (ai rfl (aj (az rfl (cZ (α:=bc) 0 rfl hJ rfl (by omega) (by omega) rfl rfl rfl rfl rfl rfl fun b p hb=>⟨g',rfl,aZ.refl _,?_⟩))))
       obtain⟨rfl,rfl⟩:b0=b∧p0=p:=by simpa using hb
       rfl
      refine dk (kM 0 0 (js:=[(12,49)]) (by kernel_rfl) (by kernel_rfl) ?_) ?_
      ·intro s g' _ h1 hf hJ
       obtain rfl:s=0:=by omega
       exact ai rfl (aj (az rfl (dR (α:=bc) 0 rfl hJ rfl rfl (j:=X.length+1) gx rfl rfl rfl ⟨g',rfl,aZ.refl _,rfl⟩)))
      refine dk (kM 0 0 (js:=[(0,37),(1,38),(0,37),(1,38)]) (by kernel_rfl) (by kernel_rfl) ?_) ?_
      ·intro s g' _ h1 hf hJ
       obtain rfl:s=0:=by omega
       refine ai rfl (ai rfl (ai rfl (ai rfl (aj (az rfl (cZ (α:=bc) 0 rfl hJ rfl (by omega) (by omega) rfl rfl rfl rfl rfl rfl fun b p hb=>⟨g',rfl,aZ.refl _,?_⟩))))))
       obtain⟨rfl,rfl⟩:b0=b∧p0=p:=by simpa using hb
       rfl
      refine dk (vk 0 (js:=[(14,51),(9,46),(9,46)]) (by kernel_rfl) rfl fun g' hf hJ=>ai rfl (ai rfl (ai rfl (aj (qL rfl (fZ (α:=bc) 0 rfl hJ rfl rfl rfl (v:=y) (j:=X.length+1) (by omega) rfl rfl fun g3 hs hle=>⟨g3,rfl,⟨hle,hs⟩,trivial⟩)))))) ?_
      exact xT
     clear hs;intro g6 hs ah;obtain⟨aq,j_⟩:=cC ah aq j_
     refine ai rfl (ai rfl (ai rfl (aj ?_)))
     refine an rfl rfl (cZ (α:=bc) 0 rfl hs rfl (by omega) (by omega) rfl rfl rfl rfl rfl rfl fun b p hb=> ?_)
     obtain⟨rfl,rfl⟩:b0=b∧p0=p:=by simpa using hb
     refine bg rfl (fZ (α:=bc) 0 rfl hs rfl rfl rfl (v:=x) (j:=X.length) (by rw[List.length_set];omega) rfl rfl ?_)
     clear hs;intro g7 hs ah;obtain⟨aq,j_⟩:=cC ah aq j_
     replace hs:St g0 g7 (eP (ll tw) (some ⟨b0,p0,none⟩) n c (((X++y::x::(B++W0)).set (X.length+1) y).set X.length x)::L):=hs
     rw[xS]at hs
     apply aD;apply bU;apply au;apply ar;refine Wp 3 rfl ?_;apply aD
     refine fun a ha=>⟨A.length,by simp,A,y::B,g7,rfl,?_,j_,by rw[zm];simp,?_,rfl,ha.keep ⟨rfl,rfl,rfl,rfl,rfl,kI rfl (by rw[wr (by omega) (by omega)];omega),trivial⟩⟩
     ·rw[←hX]at hs
      simpa using hs
     ·intro b hb
      rcases List.mem_cons.1 hb with rfl|hb
      ·exact j9
      ·exact hB b hb
    |false=>
     refine aS (b:=decide (qK (kf x) (kf y)<0)) (by rw[kT];exact j9) rfl ?_
     apply bE;apply bK;apply bK;apply dc;apply bU;apply au;apply ar;refine Wp 3 rfl ?_;apply aD
     refine fun a ha=>⟨S.length+1-(d+1),by omega,d+1,g5,rfl,?_,aq,by omega,by omega,rfl,ha.keep ⟨rfl,rfl,rfl,rfl,kI rfl (by rw[wr (by omega) (by omega)];omega),trivial⟩⟩
     have e2:=wv (A:=A++[y]) (x:=x) (DE (by rw[zm]at Qn;exact(List.pairwise_append.1 Qn).1) j9) hB
     rw[e1,zm,hW,e2]
     rw[←er]at hs
     simpa using hs
  ·refine aS (b:=decide (((U.length+d:Nat):Int)<((U.length+S.length:Nat):Int))) (by simp;omega) rfl ?_
   apply bE;apply bK;apply bK;apply dc
   refine k5 rfl (eu.intro aq ⟨rfl,?_⟩)
   rw[List.take_of_length_le (by omega),List.drop_of_length_le (by omega)]at hs
   exact hs
end Go.Proofs.YtebobfdheanknaaGreatDoor
namespace Go.Proofs.YtebobfdheanknaaGreatDoor
open Go Go.K
set_option maxRecDepth 10000
attribute [local irreducible] W WL cT bu bX bA bB bD cW cG
set_option maxHeartbeats 8000000
theorem xU{α:Type}(E H G:List α)(x y:α):((E++x::(H++y::G)).set E.length y).set (E.length+1+H.length) x=E++y::(H++x::G):=by
 rw[List.set_append_right _ _ (by omega),List.set_append_right _ _ (by omega),Nat.sub_self,List.set_cons_zero,show E.length+1+H.length-E.length=H.length+1 from by omega,List.set_cons_succ,List.set_append_right _ _ (by omega),Nat.sub_self,List.set_cons_zero]
theorem wx{α:Type}(E H G:List α)(x y:α):(E++x::(H++y::G))[E.length+1+H.length]? =some y:=by
 rw[List.getElem?_append_right (by omega),show E.length+1+H.length-E.length=H.length+1 from by omega,List.getElem?_cons_succ,List.getElem?_append_right (by omega),Nat.sub_self];rfl
theorem wy(tw:Bool){fo:Value}{ad:Option Addr}{n c:Nat}{L:List cV}(U X M Y V:List bc){g0 g:G}(Kl:X.length=Y.length)(hn:n=U.length+X.length+M.length+Y.length+V.length)(hm:n≤1000000000)(hs:St g0 g (eP (ll tw) ad n c (U++X++M++Y++V)::L)):
  CallsIn Wd 0 Tryz.prog (M4 tw) #[.slice ad n c,.int .i64 (U.length:Nat),.int .i64 (U.length+X.length+M.length:Nat),.int .i64 (X.length:Nat),fo] g.w (eu g fun g' r=>r= .tuple #[]∧St g0 g' (eP (ll tw) ad n c (U++Y++M++X++V)::L)):=by
 cases tw
 case' false=>let tw:=false
 case' true=>let tw:=true
 all_goals
  have aq:=G.le.refl g
  first|refine enter Tryz.func304 rfl Tryz.ntmps304 rfl ?_|refine enter Tryz.func317 rfl Tryz.ntmps317 rfl ?_
  refine aX rfl ?_;apply aG
  refine bS (fun m a' w=> ∃(i:Nat) (g':G),w=g'.w∧St g0 g' (eP (ll tw) ad n c (U++Y.take i++(X.drop i++M++X.take i)++(Y.drop i++V))::L)∧G.le g g'∧i≤X.length∧m=X.length-i∧
    Fr 38 [] [(0,.slice ad n c),(1,.int .i64 (U.length:Nat)),(2,.int .i64 (U.length+X.length+M.length:Nat)),(3,.int .i64 (X.length:Nat)),(4,fo),(10,.int .i64 (i:Nat))] a') X.length
   (fun a' ha=>⟨0,g,rfl,by simpa using hs,aq,Nat.zero_le _,rfl,ha.keep ⟨rfl,rfl,rfl,rfl,rfl,rfl,trivial⟩⟩) ?_
  clear hs aq
  rintro m a' _ ⟨i,g',rfl,hs,aq,hi,rfl,eI⟩
  revert a'
  apply cQ;apply aB;refine aX rfl ?_
  by_cases bh:i<X.length
  ·refine aJ (b:=decide ((i:Int)<(X.length:Int))) (by simp;omega) rfl ?_
   have Sn:i<Y.length:=by omega
   obtain⟨b0,p0,rfl⟩: ∃b p,ad=some ⟨b,p,none⟩:=by
    rcases(hs.own 0 _ rfl).1.2 with⟨h0,_⟩|⟨b,off,cap,cur,hv,_⟩
    ·omega
    ·simp only[Value.slice.injEq]at hv;exact⟨b,off,hv.1⟩
   have tX:X.take (i+1)=X.take i++[X[i]]:=List.take_succ_eq_append_getElem bh
   have tY:Y.take (i+1)=Y.take i++[Y[i]]:=List.take_succ_eq_append_getElem Sn
   have dX:X.drop i=X[i]::X.drop (i+1):=List.drop_eq_getElem_cons bh
   have dY:Y.drop i=Y[i]::Y.drop (i+1):=List.drop_eq_getElem_cons Sn
   have fy:(X.drop (i+1)).length=X.length-(i+1):=List.length_drop
   have Sp:(X.take i).length=i:=by rw[List.length_take];omega
   have sj:(Y.take i).length=i:=by rw[List.length_take];omega
   have cN:(Y.drop (i+1)).length=Y.length-(i+1):=List.length_drop
   generalize X[i]=x at tX dX
   generalize Y[i]=y at tY dY
   have er:U++Y.take i++(X.drop i++M++X.take i)++(Y.drop i++V)=(U++Y.take i)++x::((X.drop (i+1)++M++X.take i)++y::(Y.drop (i+1)++V)):=by rw[dX,dY];simp only[List.append_assoc,List.cons_append]
   have ew:(U++Y.take i)++y::((X.drop (i+1)++M++X.take i)++x::(Y.drop (i+1)++V))=U++Y.take (i+1)++(X.drop (i+1)++M++X.take (i+1))++(Y.drop (i+1)++V):=by rw[tX,tY];simp only[List.append_assoc,List.cons_append,List.nil_append]
   rw[er]at hs
   generalize hE:U++Y.take i=E at hs ew
   generalize hH:X.drop (i+1)++M++X.take i=H at hs ew
   generalize hG:Y.drop (i+1)++V=Gr at hs ew
   have Wi:E.length=U.length+i:=by rw[←hE,List.length_append,sj]
   have Wj:H.length=X.length-(i+1)+M.length+i:=by rw[←hH,List.length_append,List.length_append,fy,Sp]
   have Sq:(E++x::(H++y::Gr)).length=n:=by rw[←hG];simp only[List.length_append,List.length_cons];omega
   have gx:(E++x::(H++y::Gr))[E.length]? =some x:=by simp
   have gy:=wx E H Gr x y
   clear fy Sp sj cN
   apply aE;apply au;apply aB;apply aG
   apply pw (eJ (fe (.e (.int .i64 (E.length:Nat))::eJ (fe (.e (.int .i64 (E.length+1+H.length:Nat))::eJ (fe (.e (.int .i64 (E.length+1+H.length:Nat))::gE (fe (.e (.int .i64 (E.length:Nat))::eJ (fe [.f Fact.any])))))))))) 22 [(4,20),(7,23),(19,35)] [21] [[0,1,2,3,8,9,10,11,12,13,14,15,16,17,18,19,20]]
    (fun s=>match s with|0=>eP (ll tw) (some ⟨b0,p0,none⟩) n c (E++x::(H++y::Gr))::L|_+1=>eP (ll tw) (some ⟨b0,p0,none⟩) n c ((E++x::(H++y::Gr)).set E.length y)::L) hs (by kernel_rfl) ⟨cY,trivial⟩
   ·refine Lm [[],[],[]] [] (by kernel_rfl) rfl ?_
    refine dk (my (js:=[(1,17),(2,18)]) (by kernel_rfl) rfl fun s g' _ _ _ hf _=>ai rfl (ai rfl (aj (az rfl (aM _ T.ok rfl ⟨g',rfl,aZ.refl _,?_⟩))))) ?_
    ·exact congrArg (Value.int .i64) (by rw[wr (by omega) (by omega)];omega)
    refine Lm [[],[],[]] [] (by kernel_rfl) rfl ?_
    refine dk (my (js:=[(5,21),(6,22)]) (by kernel_rfl) rfl fun s g' _ _ _ hf _=>ai rfl (ai rfl (aj (az rfl (aM _ T.ok rfl ⟨g',rfl,aZ.refl _,?_⟩))))) ?_
    ·exact congrArg (Value.int .i64) (by rw[wr (by omega) (by omega)];omega)
    refine Lm [[],[],[]] [] (by kernel_rfl) rfl ?_
    refine dk (my (js:=[(9,25),(10,26)]) (by kernel_rfl) rfl fun s g' _ _ _ hf _=>ai rfl (ai rfl (aj (az rfl (aM _ T.ok rfl ⟨g',rfl,aZ.refl _,?_⟩))))) ?_
    ·exact congrArg (Value.int .i64) (by rw[wr (by omega) (by omega)];omega)
    refine dk (kM 0 0 (js:=[(8,24),(11,27)]) (by kernel_rfl) (by kernel_rfl) ?_) ?_
    ·intro s g' _ h1 hf hJ
     obtain rfl:s=0:=by omega
     refine ai rfl (ai rfl (aj (az rfl (cZ (α:=bc) 0 rfl hJ rfl (by omega) (by omega) rfl rfl rfl rfl rfl rfl fun b p hb=>⟨g',rfl,aZ.refl _,?_⟩))))
     obtain⟨rfl,rfl⟩:b0=b∧p0=p:=by simpa using hb
     rfl
    refine dk (kM 0 0 (js:=[(12,28)]) (by kernel_rfl) (by kernel_rfl) ?_) ?_
    ·intro s g' _ h1 hf hJ
     obtain rfl:s=0:=by omega
     exact ai rfl (aj (az rfl (dR (α:=bc) 0 rfl hJ rfl rfl (j:=E.length+1+H.length) gy rfl rfl rfl ⟨g',rfl,aZ.refl _,rfl⟩)))
    refine Lm [[],[],[]] [] (by kernel_rfl) rfl ?_
    refine dk (my (js:=[(15,31),(16,32)]) (by kernel_rfl) rfl fun s g' _ _ _ hf _=>ai rfl (ai rfl (aj (az rfl (aM _ T.ok rfl ⟨g',rfl,aZ.refl _,?_⟩))))) ?_
    ·exact congrArg (Value.int .i64) (by rw[wr (by omega) (by omega)];omega)
    refine dk (kM 0 0 (js:=[(14,30),(17,33)]) (by kernel_rfl) (by kernel_rfl) ?_) ?_
    ·intro s g' _ h1 hf hJ
     obtain rfl:s=0:=by omega
     refine ai rfl (ai rfl (aj (az rfl (cZ (α:=bc) 0 rfl hJ rfl (by omega) (by omega) rfl rfl rfl rfl rfl rfl fun b p hb=>⟨g',rfl,aZ.refl _,?_⟩))))
     obtain⟨rfl,rfl⟩:b0=b∧p0=p:=by simpa using hb
     rfl
    refine dk (kM 0 0 (js:=[(18,34)]) (by kernel_rfl) (by kernel_rfl) ?_) ?_
    ·intro s g' _ h1 hf hJ
     obtain rfl:s=0:=by omega
     exact ai rfl (aj (az rfl (dR (α:=bc) 0 rfl hJ rfl rfl (j:=E.length) gx rfl rfl rfl ⟨g',rfl,aZ.refl _,rfl⟩)))
    refine dk (kM 0 0 (js:=[(0,16),(3,19),(0,16),(3,19)]) (by kernel_rfl) (by kernel_rfl) ?_) ?_
    ·intro s g' _ h1 hf hJ
     obtain rfl:s=0:=by omega
     refine ai rfl (ai rfl (ai rfl (ai rfl (aj (az rfl (cZ (α:=bc) 0 rfl hJ rfl (by omega) (by omega) rfl rfl rfl rfl rfl rfl fun b p hb=>⟨g',rfl,aZ.refl _,?_⟩))))))
     obtain⟨rfl,rfl⟩:b0=b∧p0=p:=by simpa using hb
     rfl
    refine dk (vk 0 (js:=[(20,36),(13,29),(13,29)]) (by kernel_rfl) rfl fun g' hf hJ=>ai rfl (ai rfl (ai rfl (aj (qL rfl (fZ (α:=bc) 0 rfl hJ rfl rfl rfl (v:=y) (j:=E.length) (by omega) rfl rfl fun g3 hs hle=>⟨g3,rfl,⟨hle,hs⟩,trivial⟩)))))) ?_
    exact xT
   clear hs;intro g6 hs ah;replace aq:=G.le.trans aq ah
   refine ai rfl (ai rfl (ai rfl (aj ?_)))
   refine an rfl rfl (cZ (α:=bc) 0 rfl hs rfl (by omega) (by omega) rfl rfl rfl rfl rfl rfl fun b p hb=> ?_)
   obtain⟨rfl,rfl⟩:b0=b∧p0=p:=by simpa using hb
   refine bg rfl (fZ (α:=bc) 0 rfl hs rfl rfl rfl (v:=x) (j:=E.length+1+H.length) (by rw[List.length_set];omega) rfl rfl ?_)
   clear hs;intro g7 hs ah;replace aq:=G.le.trans aq ah
   replace hs:St g0 g7 (eP (ll tw) (some ⟨b0,p0,none⟩) n c (((E++x::(H++y::Gr)).set E.length y).set (E.length+1+H.length) x)::L):=hs
   rw[xU,ew,←hG]at hs
   apply aD;apply bU;apply au;apply ar;refine Wp 3 rfl ?_;apply aD
   exact fun a ha=>⟨X.length-(i+1),by omega,i+1,g7,rfl,hs,aq,by omega,rfl,ha.keep ⟨rfl,rfl,rfl,rfl,rfl,kI rfl (by rw[wr (by omega) (by omega)];omega),trivial⟩⟩
  ·refine aS (b:=decide ((i:Int)<(X.length:Int))) (by simp;omega) rfl ?_
   apply bE;apply bK;apply bK;apply dc
   refine k5 rfl (eu.intro aq ⟨rfl,?_⟩)
   rw[List.take_of_length_le (by omega),List.drop_of_length_le (l:=X) (by omega),List.drop_of_length_le (l:=Y) (by omega),List.take_of_length_le (l:=X) (by omega)]at hs
   simpa using hs
end Go.Proofs.YtebobfdheanknaaGreatDoor
namespace Go.Proofs.YtebobfdheanknaaGreatDoor
open Go Go.K
set_option maxRecDepth 10000
attribute [local irreducible] W WL cT bu bX bA bB bD cW cG
set_option maxHeartbeats 8000000
theorem DF(tw:Bool){fo:Value}{ad:Option Addr}{n c:Nat}{L:List cV}(U X Y V:List bc){g0 g:G}(hX:0<X.length)(hY:0<Y.length)(hn:n=U.length+X.length+Y.length+V.length)(hm:n≤1000000000)(hs:St g0 g (eP (ll tw) ad n c (U++X++Y++V)::L)):
  CallsIn Wd 0 Tryz.prog (M5 tw) #[.slice ad n c,.int .i64 (U.length:Nat),.int .i64 (U.length+X.length:Nat),.int .i64 (U.length+X.length+Y.length:Nat),fo] g.w (eu g fun g' r=>r= .tuple #[]∧St g0 g' (eP (ll tw) ad n c (U++Y++X++V)::L)):=by
 cases tw
 case' false=>let tw:=false
 case' true=>let tw:=true
 all_goals
  have aq:=G.le.refl g
  first|refine enter Tryz.func291 rfl Tryz.ntmps291 rfl ?_|refine enter Tryz.func305 rfl Tryz.ntmps305 rfl ?_
  refine aX rfl ?_;refine aX rfl ?_;apply aB;apply aG
  refine bS (fun m a' w=> ∃(Y1 X2 Y2 X1:List bc) (g':G),w=g'.w∧St g0 g' (eP (ll tw) ad n c (U++Y1++X2++Y2++(X1++V))::L)∧G.le g g'∧0<X2.length∧0<Y2.length∧U.length+Y1.length+X2.length=U.length+X.length∧Y++X=Y1++(Y2++X2)++X1∧m=X2.length+Y2.length∧
    Fr 58 [] [(0,.slice ad n c),(1,.int .i64 (U.length:Nat)),(2,.int .i64 (U.length+X.length:Nat)),(3,.int .i64 (U.length+X.length+Y.length:Nat)),(4,fo),(10,.int .i64 (X2.length:Nat)),(11,.int .i64 (Y2.length:Nat))] a') (X.length+Y.length)
   (fun a' ha=>⟨[],X,Y,[],g,rfl,by simpa using hs,aq,hX,hY,by simp,by simp,rfl,ha.keep ⟨rfl,rfl,rfl,rfl,rfl,kI rfl (by rw[wr (by omega) (by omega)];omega),kI rfl (by rw[wr (by omega) (by omega)];omega),trivial⟩⟩) ?_
  clear hs aq
  rintro m a' _ ⟨Y1,X2,Y2,X1,g',rfl,hs,aq,h1,h2,h3,h4,rfl,eI⟩
  have h5:X.length+Y.length=Y1.length+(Y2.length+X2.length)+X1.length:=by
   have:=congrArg List.length h4
   simp only[List.length_append]at this;omega
  revert a'
  apply cQ;apply aB;refine aX rfl ?_
  by_cases he:X2.length=Y2.length
  ·refine aS (b:=(X2.length:Int) !=(Y2.length:Int)) (by simp;omega) rfl ?_
   apply bE;apply bK;apply bK;apply dc;apply au;apply ar;refine Wp 7 rfl ?_
   refine cE (.int .i64 ((U++Y1).length:Nat)) (t:=53) rfl (congrArg (Value.int .i64) (by rw[wr (by omega) (by omega),List.length_append];omega)) ?_
   refine cE (.int .i64 ((U++Y1).length+X2.length+([]:List bc).length:Nat)) (t:=54) rfl (congrArg (Value.int .i64) (by rw[List.length_append,List.length_nil];omega)) ?_
   refine an rfl rfl (dv (I6 tw) aI rfl rfl rfl rfl rfl (wy tw (U++Y1) X2 [] Y2 (X1++V) he (by simp only[List.length_append,List.length_nil];omega) hm (by simpa using hs)) ?_)
   clear hs
   rintro g5 _ ah ⟨rfl,hs⟩;replace aq:=G.le.trans aq ah
   apply aD
   refine k5 rfl (eu.intro aq ⟨rfl,?_⟩)
   have e:U++Y++X++V=U++Y1++Y2++[]++X2++(X1++V):=by rw[List.append_assoc U Y X,h4];simp only[List.append_assoc,List.nil_append]
   rw[e];exact hs
  ·refine aJ (b:=(X2.length:Int) !=(Y2.length:Int)) (by simp;omega) rfl ?_
   apply aE;apply au;apply aG;refine aX rfl ?_
   by_cases bh:Y2.length<X2.length
   ·refine aJ (b:=decide ((Y2.length:Int)<(X2.length:Int))) (by simp;omega) rfl ?_
    have l1:(X2.take Y2.length).length=Y2.length:=by rw[List.length_take];omega
    have l2:(X2.drop Y2.length).length=X2.length-Y2.length:=List.length_drop
    have eX:=List.take_append_drop Y2.length X2
    generalize X2.take Y2.length=Xa at l1 eX
    generalize X2.drop Y2.length=Xb at l2 eX
    refine cP 7 rfl ?_
    refine cE (.int .i64 ((U++Y1).length:Nat)) (t:=27) rfl (congrArg (Value.int .i64) (by rw[wr (by omega) (by omega),List.length_append];omega)) ?_
    refine cE (.int .i64 ((U++Y1).length+Xa.length+Xb.length:Nat)) (t:=28) rfl (congrArg (Value.int .i64) (by rw[List.length_append];omega)) ?_
    refine cE (.int .i64 (Xa.length:Nat)) (t:=29) rfl (congrArg (Value.int .i64) (by omega)) ?_
    refine an rfl rfl (dv (I6 tw) aI rfl rfl rfl rfl rfl (wy tw (U++Y1) Xa Xb Y2 (X1++V) l1 (by simp only[List.length_append];omega) hm (by rw[←eX]at hs;simpa using hs)) ?_)
    clear hs
    rintro g5 _ ah ⟨rfl,hs⟩;replace aq:=G.le.trans aq ah
    apply cf;apply ar;refine Wp 4 rfl ?_;apply aD;apply bU
    refine fun a ha=>⟨X2.length,by omega,Y1++Y2,Xb,Xa,X1,g5,rfl,by simpa using hs,aq,by omega,by omega,by simp only[List.length_append];omega,by rw[h4,←eX];simp only[List.append_assoc],by omega,ha.keep ⟨rfl,rfl,rfl,rfl,rfl,kI rfl (by rw[wr (by omega) (by omega)];omega),kI rfl (by omega),trivial⟩⟩
   ·refine aS (b:=decide ((Y2.length:Int)<(X2.length:Int))) (by simp;omega) rfl ?_
    have l1:(Y2.take (Y2.length-X2.length)).length=Y2.length-X2.length:=by rw[List.length_take];omega
    have l2:(Y2.drop (Y2.length-X2.length)).length=Y2.length-(Y2.length-X2.length):=List.length_drop
    have eY:=List.take_append_drop (Y2.length-X2.length) Y2
    generalize Y2.take (Y2.length-X2.length)=Ya at l1 eY
    generalize Y2.drop (Y2.length-X2.length)=Yb at l2 eY
    refine cP 11 rfl ?_
    refine cE (.int .i64 ((U++Y1).length:Nat)) (t:=38) rfl (congrArg (Value.int .i64) (by rw[wr (by omega) (by omega),List.length_append];omega)) ?_
    refine cE (.int .i64 ((U++Y1).length+X2.length+Ya.length:Nat)) (t:=43) rfl (congrArg (Value.int .i64) (by rw[wr (n:=_+_) (by omega) (by omega),wr (by omega) (by omega),List.length_append];omega)) ?_
    refine an rfl rfl (dv (I6 tw) aI rfl rfl rfl rfl rfl (wy tw (U++Y1) X2 Ya Yb (X1++V) (by omega) (by simp only[List.length_append];omega) hm (by rw[←eY]at hs;simpa using hs)) ?_)
    clear hs
    rintro g5 _ ah ⟨rfl,hs⟩;replace aq:=G.le.trans aq ah
    apply cf;apply ar;refine Wp 4 rfl ?_;apply aD;apply bU
    refine fun a ha=>⟨Y2.length,by omega,Y1,Yb,Ya,X2++X1,g5,rfl,by simpa using hs,aq,by omega,by omega,by omega,by rw[h4,←eY];simp only[List.append_assoc],by omega,ha.keep ⟨rfl,rfl,rfl,rfl,rfl,kI rfl (by omega),kI rfl (by rw[wr (by omega) (by omega)];omega),trivial⟩⟩
end Go.Proofs.YtebobfdheanknaaGreatDoor
namespace Go.Proofs.YtebobfdheanknaaGreatDoor
open Go Go.K
set_option maxRecDepth 10000
attribute [local irreducible] W WL cT bu bX bA bB bD cW cG
set_option maxHeartbeats 8000000
theorem Gc{α:Type}{k:α→Int×Int}{A B:List α}{x:α}(h1: ∀a∈A,kl k a x=true)(h2: ∀b∈B,kl k b x=false):lE k [x] (A++B)=A++x::B:=by
 have e:=gQ (k:=k) [] A (a2:=[x]) (b2:=B) (by simp) (fun a ha y hy=>by rw[List.mem_singleton.1 hy];exact h1 a ha)
 have e2:=gQ (k:=k) [x] [] (a2:=[]) (b2:=B) (fun y hy b hb=>by rw[List.mem_singleton.1 hy];exact h2 b hb) (by simp)
 simp only[List.nil_append,List.append_nil]at e e2
 rw[e,e2,gC];rfl
theorem T'{n:Int}(h1:0≤n)(h2:n≤9223372036854775807):IntKind.u64.wrap n=n:=by
 unfold IntKind.wrap
 simp[IntKind.bits,IntKind.signed]
 omega
theorem Gd{a b:Nat}(h:a+b≤4000000000):IntKind.i64.wrap (cG .u64 (IntKind.u64.wrap (IntKind.i64.wrap ((a:Int)+(b:Int)))) 1)=(((a+b)/2:Nat):Int):=by
 rw[wr (n:=(a:Int)+b) (by omega) (by omega),T' (by omega) (by omega)]
 have e:cG .u64 ((a:Int)+b) 1=((a+b)/2:Nat):=by
  unfold cG
  simp only[IntKind.bits]
  rw[show(2:Int)^(min 1 64)=2 from rfl,Int.fdiv_eq_ediv_of_nonneg _ (by omega)]
  omega
 rw[e,wr (by omega) (by omega)]
theorem sQ(tw:Bool){fo:Value}{kf:bc→Int×Int}{ad:Option Addr}{n c:Nat}{L:List cV}(hm:n≤1000000000): ∀(sz:Nat) (U X Y V:List bc) {g0 g:G},X.length+Y.length=sz→0<X.length→0<Y.length→zj kf X→zj kf Y→n=U.length+X.length+Y.length+V.length→zG fo kf g→St g0 g (eP (ll tw) ad n c (U++X++Y++V)::L)→
  CallsIn Wd 0 Tryz.prog (M6 tw) #[.slice ad n c,.int .i64 (U.length:Nat),.int .i64 (U.length+X.length:Nat),.int .i64 (U.length+X.length+Y.length:Nat),fo] g.w (eu g fun g' r=>r= .tuple #[]∧St g0 g' (eP (ll tw) ad n c (U++lE kf X Y++V)::L)):=by
 cases tw
 case' false=>let tw:=false
 case' true=>let tw:=true
 all_goals
  intro sz
  induction sz using Nat.strongRecOn with
  |_ sz ih=>
  intro U X Y V g0 g cS hX hY Kp Kq hn hk hs
  have aq:=G.le.refl g
  first|refine enter Tryz.func263 rfl Tryz.ntmps263 rfl ?_|refine enter Tryz.func293 rfl Tryz.ntmps293 rfl ?_
  apply aB;refine aX rfl ?_
  by_cases A0:X.length=1
  ·refine aJ (b:=IntKind.i64.wrap (((U.length+X.length:Nat):Int)-(U.length:Nat))==1) (by rw[wr (by omega) (by omega)];simp;omega) rfl ?_
   obtain⟨x,rfl⟩:=List.length_eq_one_iff.1 A0
   simp only[List.length_singleton]at*
   refine aX rfl ?_;refine aX rfl ?_;apply aB;apply aG
   refine bS (fun m a' w=> ∃(lo hi:Nat) (g':G),w=g'.w∧St g0 g' (eP (ll tw) ad n c (U++[x]++Y++V)::L)∧G.le g g'∧lo≤hi∧hi≤Y.length∧(∀t (h:t<Y.length),t<lo→kl kf Y[t] x=true)∧(∀t (h:t<Y.length),hi≤t→kl kf Y[t] x=false)∧m=hi-lo∧
     Fr 220 [] [(0,.slice ad n c),(1,.int .i64 (U.length:Nat)),(2,.int .i64 (U.length+1:Nat)),(3,.int .i64 (U.length+1+Y.length:Nat)),(4,fo),(10,.int .i64 (U.length+1+lo:Nat)),(11,.int .i64 (U.length+1+hi:Nat))] a') Y.length
    (fun a' ha=>⟨0,Y.length,g,rfl,hs,aq,by omega,by omega,by intros;omega,by intros;omega,rfl,ha.keep ⟨rfl,rfl,rfl,rfl,rfl,rfl,rfl,trivial⟩⟩) ?_
   clear hs aq
   rintro m a' _ ⟨lo,hi,g',rfl,hs,aq,h1,h2,h3,h4,rfl,eI⟩
   revert a'
   apply cQ;apply aB;refine aX rfl ?_
   by_cases bh:lo<hi
   ·refine aJ (b:=decide (((U.length+1+lo:Nat):Int)<((U.length+1+hi:Nat):Int))) (by simp;omega) rfl ?_
    apply aE;apply au;apply aG;refine aX rfl ?_;apply aB
    obtain⟨md,Sr⟩: ∃md,md=(lo+hi)/2:=⟨_,rfl⟩
    have Kr:lo≤md:=by omega
    have Ss:md<hi:=by omega
    have xV:md<Y.length:=by omega
    refine oG (l':=[(0,.slice ad n c),(1,.int .i64 (U.length:Nat)),(2,.int .i64 (U.length+1:Nat)),(3,.int .i64 (U.length+1+Y.length:Nat)),(4,fo),(10,.int .i64 (U.length+1+lo:Nat)),(11,.int .i64 (U.length+1+hi:Nat)),(12,.int .i64 (U.length+1+md:Nat))]) ⟨rfl,rfl,rfl,rfl,rfl,rfl,rfl,kI rfl ((Gd (by omega)).trans (by omega)),trivial⟩ ?_
    obtain⟨b0,p0,rfl⟩: ∃b p,ad=some ⟨b,p,none⟩:=by
     rcases(hs.own 0 _ rfl).1.2 with⟨h0,_⟩|⟨b,off,cap,cur,hv,_⟩
     ·omega
     ·simp only[Value.slice.injEq]at hv;exact⟨b,off,hv.1⟩
    have gx:(U++[x]++Y++V)[U.length]? =some x:=by simp
    have gy:(U++[x]++Y++V)[U.length+1+md]? =some Y[md]:=by
     rw[List.append_assoc,List.getElem?_append_right (by simp only[List.length_append,List.length_singleton];omega),List.getElem?_append_left (by simp only[List.length_append,List.length_singleton];omega),List.length_append,List.length_singleton,Nat.add_sub_cancel_left,List.getElem?_eq_getElem xV]
    obtain⟨y,DG⟩: ∃y,y=Y[md]:=⟨_,rfl⟩
    rw[←DG]at gy
    apply bO hs (fj (eJ (fe []))) 11 [(10,50)] (by kernel_rfl) rfl
    ·refine Dm [[],[],[]] [] hs (by kernel_rfl) rfl ?_
     refine aw (ak (js:=[(1,41),(2,42)]) (by kernel_rfl) fun gd hf=>ai rfl (ai rfl (aj (az rfl (cZ (α:=bc) 0 rfl (hs.dr.call hf) rfl (by omega) (by omega) rfl rfl rfl rfl rfl rfl fun b p hb=>⟨gd,rfl,aZ.refl _,?_⟩))))) ?_
     ·obtain⟨rfl,rfl⟩:b0=b∧p0=p:=by simpa using hb
      rfl
     refine aw (ak (js:=[(3,43)]) (by kernel_rfl) fun gd hf=>ai rfl (aj (az rfl (dR (α:=bc) 0 rfl (hs.dr.call hf) rfl rfl (j:=U.length+1+md) gy rfl rfl rfl ⟨gd,rfl,aZ.refl _,rfl⟩)))) ?_
     refine Dm [[],[]] [] hs (by kernel_rfl) rfl ?_
     refine aw (ak (js:=[(5,45),(6,46)]) (by kernel_rfl) fun gd hf=>ai rfl (ai rfl (aj (az rfl (cZ (α:=bc) 0 rfl (hs.dr.call hf) rfl (by omega) (by omega) rfl rfl rfl rfl rfl rfl fun b p hb=>⟨gd,rfl,aZ.refl _,?_⟩))))) ?_
     ·obtain⟨rfl,rfl⟩:b0=b∧p0=p:=by simpa using hb
      rfl
     refine aw (ak (js:=[(7,47)]) (by kernel_rfl) fun gd hf=>ai rfl (aj (az rfl (dR (α:=bc) 0 rfl (hs.dr.call hf) rfl rfl (j:=U.length) gx rfl rfl rfl ⟨gd,rfl,aZ.refl _,rfl⟩)))) ?_
     refine aw (ak (js:=[(0,40),(4,44),(8,48)]) (by kernel_rfl) fun gd hf=>ai rfl (ai rfl (ai rfl (aj (az rfl (eA rfl rfl rfl rfl rfl rfl (hk gd (aq.trans ((G.bJ _).trans hf.le)) y x) fun g' v h1 h2=>⟨g',rfl,h1,h2⟩)))))) ?_
     exact Dz [[9]] [] hs (by kernel_rfl) rfl
    clear hs;intro g5 hs ah;replace aq:=G.le.trans aq ah
    apply cf
    cases j9:kl kf y x with
    |true=>
     refine aJ (b:=decide (qK (kf y) (kf x)<0)) (by rw[kT];exact j9) rfl ?_
     apply ar;refine Wp 3 rfl ?_;apply aD;apply bU
     refine fun a ha=>⟨hi-(md+1),by omega,md+1,hi,g5,rfl,hs,aq,by omega,h2,?_,h4,rfl,ha.keep ⟨rfl,rfl,rfl,rfl,rfl,kI rfl (by rw[wr (by omega) (by omega)];omega),rfl,trivial⟩⟩
     rw[DG]at j9
     intro t ht Qo
     by_cases BW:t=md
     ·subst BW;exact j9
     ·have:=List.pairwise_iff_getElem.1 Kq t md ht xV (by omega)
      rw[qt]at j9⊢;rw[iC]at this;omega
    |false=>
     refine aS (b:=decide (qK (kf y) (kf x)<0)) (by rw[kT];exact j9) rfl ?_
     apply ar;refine Wp 2 rfl ?_;apply aD;apply bU
     refine fun a ha=>⟨md-lo,by omega,lo,md,g5,rfl,hs,aq,by omega,by omega,h3,?_,rfl,ha.keep ⟨rfl,rfl,rfl,rfl,rfl,rfl,rfl,trivial⟩⟩
     rw[DG]at j9
     intro t ht Qo
     by_cases BW:t=md
     ·subst BW;exact j9
     ·have:=List.pairwise_iff_getElem.1 Kq md t xV ht (by omega)
      rw[iC]at j9 this⊢;omega
   ·refine aS (b:=decide (((U.length+1+lo:Nat):Int)<((U.length+1+hi:Nat):Int))) (by simp;omega) rfl ?_
    apply bE;apply bK;apply bK;apply dc;apply au;apply aB;refine aX rfl ?_;apply aG
    obtain rfl:lo=hi:=by omega
    have eY:=List.take_append_drop lo Y
    have M_:(Y.take lo).length=lo:=by rw[List.length_take];omega
    have hM:lE kf [x] Y=Y.take lo++x::Y.drop lo:=by
     have e:=Gc (k:=kf) (A:=Y.take lo) (B:=Y.drop lo) (x:=x) (fun a ha=>by
      obtain⟨t,ht,rfl⟩:=List.mem_iff_getElem.1 ha
      rw[List.getElem_take];exact h3 _ _ (by omega)) (fun b hb=>by
      obtain⟨t,ht,rfl⟩:=List.mem_iff_getElem.1 hb
      rw[List.getElem_drop];exact h4 _ _ (by omega))
     rw[eY]at e;exact e
    have er:U++[x]++Y++V=U++[]++x::(Y.take lo++(Y.drop lo++V)):=by
     conv=>lhs;rw[←eY]
     simp only[List.append_assoc,List.cons_append,List.nil_append]
    rw[er]at hs
    rw[hM]
    have OT:(Y.drop lo).length=Y.length-lo:=List.length_drop
    generalize Y.take lo=Y1 at hs M_
    generalize Y.drop lo=Y2 at hs OT
    have T_:(Y2++V).length=Y2.length+V.length:=List.length_append
    refine bS (fun m a' w=> ∃(A B:List bc) (g2:G),w=g2.w∧St g0 g2 (eP (ll tw) ad n c (U++A++x::(B++(Y2++V)))::L)∧G.le g g2∧Y1=A++B∧m=B.length∧
      Fr 220 [] [(0,.slice ad n c),(1,.int .i64 (U.length:Nat)),(2,.int .i64 (U.length+1:Nat)),(3,.int .i64 (U.length+1+Y.length:Nat)),(4,fo),(10,.int .i64 (U.length+1+lo:Nat)),(13,.int .i64 (U.length+A.length:Nat))] a') Y1.length
     (fun a' ha=>⟨[],Y1,g',rfl,hs,aq,by simp,rfl,ha.keep ⟨rfl,rfl,rfl,rfl,rfl,rfl,rfl,trivial⟩⟩) ?_
    clear hs aq
    rintro m a' _ ⟨A,B,g2,rfl,hs,aq,zm,rfl,eI⟩
    have sP:A.length+B.length=lo:=by rw[←List.length_append,←zm,M_]
    revert a'
    apply cQ;apply aB;refine aX rfl ?_
    cases B with
    |nil=>
     refine aS (b:=decide (((U.length+A.length:Nat):Int)<IntKind.i64.wrap (((U.length+1+lo:Nat):Int)-1))) (by rw[wr (by omega) (by omega)];simp only[List.length_nil]at sP;simp;omega) rfl ?_
     apply bE;apply bK;apply bK;apply dc;apply au
     refine aF (rR rfl (eu.intro aq ⟨rfl,?_⟩))
     rw[zm]
     simpa using hs
    |cons z B=>
     refine aJ (b:=decide (((U.length+A.length:Nat):Int)<IntKind.i64.wrap (((U.length+1+lo:Nat):Int)-1))) (by rw[wr (by omega) (by omega)];simp only[List.length_cons]at sP;simp;omega) rfl ?_
     simp only[List.length_cons]at sP
     obtain⟨b0,p0,rfl⟩: ∃b p,ad=some ⟨b,p,none⟩:=by
      rcases(hs.own 0 _ rfl).1.2 with⟨h0,_⟩|⟨b,off,cap,cur,hv,_⟩
      ·omega
      ·simp only[Value.slice.injEq]at hv;exact⟨b,off,hv.1⟩
     have ej:U.length+A.length=(U++A).length:=by rw[List.length_append]
     have eN:A++[z]=A++[z]:=rfl
     have zH:(U++A)++z::([]++x::(B++(Y2++V)))=U++(A++[z])++x::(B++(Y2++V)):=by simp
     have Qp:U++A++x::(z::B++(Y2++V))=(U++A)++x::([]++z::(B++(Y2++V))):=rfl
     rw[Qp]at hs
     rw[ej]
     have Gb:(U++A).length=U.length+A.length:=List.length_append
     generalize U++A=X at hs Gb zH
     have Sq:(X++x::([]++z::(B++(Y2++V)))).length=n:=by rw[List.length_append,Gb];simp only[List.length_cons,List.length_append,List.length_nil];omega
     have gx:(X++x::([]++z::(B++(Y2++V))))[X.length]? =some x:=by simp
     have gz:(X++x::([]++z::(B++(Y2++V))))[X.length+1]? =some z:=wx X [] _ x z
     apply aE;apply au;apply aB;apply aG
     apply pw (gE (.e (.int .i64 (X.length+1:Nat))::eJ (.e (.int .i64 (X.length+1:Nat))::gE (eJ (fe [.f Fact.any]))))) 16 [(2,63),(4,65),(13,74)] [15] [[0,1,5,6,7,8,9,10,11,12,13,14]]
      (fun s=>match s with|0=>eP (ll tw) (some ⟨b0,p0,none⟩) n c (X++x::([]++z::(B++(Y2++V))))::L|_+1=>eP (ll tw) (some ⟨b0,p0,none⟩) n c ((X++x::([]++z::(B++(Y2++V)))).set X.length z)::L) hs (by kernel_rfl) ⟨cY,trivial⟩
     ·refine Lm [[],[],[],[]] [] (by kernel_rfl) rfl ?_
      refine dk (my (js:=[(3,64)]) (by kernel_rfl) rfl fun s g' _ _ _ hf _=>ai rfl (aj (az rfl (aM _ T.ok rfl ⟨g',rfl,aZ.refl _,?_⟩)))) ?_
      ·exact congrArg (Value.int .i64) (by rw[wr (by omega) (by omega)];omega)
      refine Lm [[],[]] [] (by kernel_rfl) rfl ?_
      refine dk (my (js:=[(6,67)]) (by kernel_rfl) rfl fun s g' _ _ _ hf _=>ai rfl (aj (az rfl (aM _ T.ok rfl ⟨g',rfl,aZ.refl _,?_⟩)))) ?_
      ·exact congrArg (Value.int .i64) (by rw[wr (by omega) (by omega)];omega)
      refine dk (kM 0 0 (js:=[(5,66),(7,68)]) (by kernel_rfl) (by kernel_rfl) ?_) ?_
      ·intro s g' _ h1 hf hJ
       obtain rfl:s=0:=by omega
       refine ai rfl (ai rfl (aj (az rfl (cZ (α:=bc) 0 rfl hJ rfl (by omega) (by omega) rfl rfl rfl rfl rfl rfl fun b p hb=>⟨g',rfl,aZ.refl _,?_⟩))))
       obtain⟨rfl,rfl⟩:b0=b∧p0=p:=by simpa using hb
       rfl
      refine dk (kM 0 0 (js:=[(8,69)]) (by kernel_rfl) (by kernel_rfl) ?_) ?_
      ·intro s g' _ h1 hf hJ
       obtain rfl:s=0:=by omega
       exact ai rfl (aj (az rfl (dR (α:=bc) 0 rfl hJ rfl rfl (j:=X.length+1) gz rfl rfl rfl ⟨g',rfl,aZ.refl _,rfl⟩)))
      refine Lm [[],[]] [] (by kernel_rfl) rfl ?_
      refine dk (kM 0 0 (js:=[(10,71),(11,72)]) (by kernel_rfl) (by kernel_rfl) ?_) ?_
      ·intro s g' _ h1 hf hJ
       obtain rfl:s=0:=by omega
       refine ai rfl (ai rfl (aj (az rfl (cZ (α:=bc) 0 rfl hJ rfl (by omega) (by omega) rfl rfl rfl rfl rfl rfl fun b p hb=>⟨g',rfl,aZ.refl _,?_⟩))))
       obtain⟨rfl,rfl⟩:b0=b∧p0=p:=by simpa using hb
       rfl
      refine dk (kM 0 0 (js:=[(12,73)]) (by kernel_rfl) (by kernel_rfl) ?_) ?_
      ·intro s g' _ h1 hf hJ
       obtain rfl:s=0:=by omega
       exact ai rfl (aj (az rfl (dR (α:=bc) 0 rfl hJ rfl rfl (j:=X.length) gx rfl rfl rfl ⟨g',rfl,aZ.refl _,rfl⟩)))
      refine dk (kM 0 0 (js:=[(0,61),(1,62),(0,61),(1,62)]) (by kernel_rfl) (by kernel_rfl) ?_) ?_
      ·intro s g' _ h1 hf hJ
       obtain rfl:s=0:=by omega
       refine ai rfl (ai rfl (ai rfl (ai rfl (aj (az rfl (cZ (α:=bc) 0 rfl hJ rfl (by omega) (by omega) rfl rfl rfl rfl rfl rfl fun b p hb=>⟨g',rfl,aZ.refl _,?_⟩))))))
       obtain⟨rfl,rfl⟩:b0=b∧p0=p:=by simpa using hb
       rfl
      refine dk (vk 0 (js:=[(14,75),(9,70),(9,70)]) (by kernel_rfl) rfl fun g' hf hJ=>ai rfl (ai rfl (ai rfl (aj (qL rfl (fZ (α:=bc) 0 rfl hJ rfl rfl rfl (v:=z) (j:=X.length) (by omega) rfl rfl fun g3 hs hle=>⟨g3,rfl,⟨hle,hs⟩,trivial⟩)))))) ?_
      exact xT
     clear hs;intro g6 hs ah;replace aq:=G.le.trans aq ah
     refine ai rfl (ai rfl (ai rfl (aj ?_)))
     refine an rfl rfl (cZ (α:=bc) 0 rfl hs rfl (by omega) (by omega) rfl rfl rfl rfl rfl rfl fun b p hb=> ?_)
     obtain⟨rfl,rfl⟩:b0=b∧p0=p:=by simpa using hb
     refine bg rfl (fZ (α:=bc) 0 rfl hs rfl rfl rfl (v:=x) (j:=X.length+1) (by rw[List.length_set];omega) rfl rfl ?_)
     clear hs;intro g7 hs ah;replace aq:=G.le.trans aq ah
     replace hs:St g0 g7 (eP (ll tw) (some ⟨b0,p0,none⟩) n c (((X++x::([]++z::(B++(Y2++V)))).set X.length z).set (X.length+1+([]:List bc).length) x)::L):=hs
     rw[xU,zH]at hs
     apply aD;apply bU;apply au;apply ar;refine Wp 3 rfl ?_;apply aD
     exact fun a ha=>⟨B.length,by simp,A++[z],B,g7,rfl,hs,aq,by rw[zm];simp,rfl,ha.keep ⟨rfl,rfl,rfl,rfl,rfl,rfl,kI rfl (by rw[wr (by omega) (by omega),List.length_append,List.length_singleton];omega),trivial⟩⟩
  ·refine aS (b:=IntKind.i64.wrap (((U.length+X.length:Nat):Int)-(U.length:Nat))==1) (by rw[wr (by omega) (by omega)];simp;omega) rfl ?_
   apply aE;apply au;apply aB;refine aX rfl ?_
   by_cases Ua:Y.length=1
   ·refine aJ (b:=IntKind.i64.wrap (((U.length+X.length+Y.length:Nat):Int)-(U.length+X.length:Nat))==1) (by rw[wr (by omega) (by omega)];simp;omega) rfl ?_
    obtain⟨y,rfl⟩:=List.length_eq_one_iff.1 Ua
    simp only[List.length_singleton]at*
    refine aX rfl ?_;refine aX rfl ?_;apply aB;apply aG
    refine bS (fun m a' w=> ∃(lo hi:Nat) (g':G),w=g'.w∧St g0 g' (eP (ll tw) ad n c (U++X++[y]++V)::L)∧G.le g g'∧lo≤hi∧hi≤X.length∧(∀t (h:t<X.length),t<lo→kl kf y X[t]=false)∧(∀t (h:t<X.length),hi≤t→kl kf y X[t]=true)∧m=hi-lo∧
      Fr 220 [] [(0,.slice ad n c),(1,.int .i64 (U.length:Nat)),(2,.int .i64 (U.length+X.length:Nat)),(3,.int .i64 (U.length+X.length+1:Nat)),(4,fo),(14,.int .i64 (U.length+lo:Nat)),(15,.int .i64 (U.length+hi:Nat))] a') X.length
     (fun a' ha=>⟨0,X.length,g,rfl,hs,aq,by omega,by omega,by intros;omega,by intros;omega,rfl,ha.keep ⟨rfl,rfl,rfl,rfl,rfl,rfl,rfl,trivial⟩⟩) ?_
    clear hs aq
    rintro m a' _ ⟨lo,hi,g',rfl,hs,aq,h1,h2,h3,h4,rfl,eI⟩
    revert a'
    apply cQ;apply aB;refine aX rfl ?_
    by_cases bh:lo<hi
    ·refine aJ (b:=decide (((U.length+lo:Nat):Int)<((U.length+hi:Nat):Int))) (by simp;omega) rfl ?_
     apply aE;apply au;apply aG;refine aX rfl ?_;apply aB
     obtain⟨md,Sr⟩: ∃md,md=(lo+hi)/2:=⟨_,rfl⟩
     have Kr:lo≤md:=by omega
     have Ss:md<hi:=by omega
     have xV:md<X.length:=by omega
     refine oG (l':=[(0,.slice ad n c),(1,.int .i64 (U.length:Nat)),(2,.int .i64 (U.length+X.length:Nat)),(3,.int .i64 (U.length+X.length+1:Nat)),(4,fo),(14,.int .i64 (U.length+lo:Nat)),(15,.int .i64 (U.length+hi:Nat)),(16,.int .i64 (U.length+md:Nat))]) ⟨rfl,rfl,rfl,rfl,rfl,rfl,rfl,kI rfl ((Gd (by omega)).trans (by omega)),trivial⟩ ?_
     obtain⟨b0,p0,rfl⟩: ∃b p,ad=some ⟨b,p,none⟩:=by
      rcases(hs.own 0 _ rfl).1.2 with⟨h0,_⟩|⟨b,off,cap,cur,hv,_⟩
      ·omega
      ·simp only[Value.slice.injEq]at hv;exact⟨b,off,hv.1⟩
     have gy:(U++X++[y]++V)[U.length+X.length]? =some y:=by
      rw[List.append_assoc,List.getElem?_append_right (by rw[List.length_append];omega),List.length_append,Nat.sub_self];rfl
     have gx:(U++X++[y]++V)[U.length+md]? =some X[md]:=by
      rw[List.append_assoc,List.append_assoc,List.getElem?_append_right (by omega),Nat.add_sub_cancel_left,List.getElem?_append_left xV,List.getElem?_eq_getElem xV]
     obtain⟨x,DG⟩: ∃x,x=X[md]:=⟨_,rfl⟩
     rw[←DG]at gx
     apply bO hs (fj (gE [])) 12 [(11,103)] (by kernel_rfl) rfl
     ·refine Dm [[],[],[]] [] hs (by kernel_rfl) rfl ?_
      refine aw (ak (js:=[(1,93),(2,94)]) (by kernel_rfl) fun gd hf=>ai rfl (ai rfl (aj (az rfl (cZ (α:=bc) 0 rfl (hs.dr.call hf) rfl (by omega) (by omega) rfl rfl rfl rfl rfl rfl fun b p hb=>⟨gd,rfl,aZ.refl _,?_⟩))))) ?_
      ·obtain⟨rfl,rfl⟩:b0=b∧p0=p:=by simpa using hb
       rfl
      refine aw (ak (js:=[(3,95)]) (by kernel_rfl) fun gd hf=>ai rfl (aj (az rfl (dR (α:=bc) 0 rfl (hs.dr.call hf) rfl rfl (j:=U.length+X.length) gy rfl rfl rfl ⟨gd,rfl,aZ.refl _,rfl⟩)))) ?_
      refine Dm [[],[]] [] hs (by kernel_rfl) rfl ?_
      refine aw (ak (js:=[(5,97),(6,98)]) (by kernel_rfl) fun gd hf=>ai rfl (ai rfl (aj (az rfl (cZ (α:=bc) 0 rfl (hs.dr.call hf) rfl (by omega) (by omega) rfl rfl rfl rfl rfl rfl fun b p hb=>⟨gd,rfl,aZ.refl _,?_⟩))))) ?_
      ·obtain⟨rfl,rfl⟩:b0=b∧p0=p:=by simpa using hb
       rfl
      refine aw (ak (js:=[(7,99)]) (by kernel_rfl) fun gd hf=>ai rfl (aj (az rfl (dR (α:=bc) 0 rfl (hs.dr.call hf) rfl rfl (j:=U.length+md) gx rfl rfl rfl ⟨gd,rfl,aZ.refl _,rfl⟩)))) ?_
      refine aw (ak (js:=[(0,92),(4,96),(8,100)]) (by kernel_rfl) fun gd hf=>ai rfl (ai rfl (ai rfl (aj (az rfl (eA rfl rfl rfl rfl rfl rfl (hk gd (aq.trans ((G.bJ _).trans hf.le)) y x) fun g' v h1 h2=>⟨g',rfl,h1,h2⟩)))))) ?_
      exact Dz [[9],[10]] [] hs (by kernel_rfl) rfl
     clear hs;intro g5 hs ah;replace aq:=G.le.trans aq ah
     apply cf
     cases j9:kl kf y x with
     |false=>
      refine aJ (b:=!decide (qK (kf y) (kf x)<0)) (by rw[kT,j9];rfl) rfl ?_
      apply ar;refine Wp 3 rfl ?_;apply aD;apply bU
      refine fun a ha=>⟨hi-(md+1),by omega,md+1,hi,g5,rfl,hs,aq,by omega,h2,?_,h4,rfl,ha.keep ⟨rfl,rfl,rfl,rfl,rfl,kI rfl (by rw[wr (by omega) (by omega)];omega),rfl,trivial⟩⟩
      rw[DG]at j9
      intro t ht Qo
      by_cases BW:t=md
      ·subst BW;exact j9
      ·have:=List.pairwise_iff_getElem.1 Kp t md ht xV (by omega)
       rw[iC]at j9 this⊢;omega
     |true=>
      refine aS (b:=!decide (qK (kf y) (kf x)<0)) (by rw[kT,j9];rfl) rfl ?_
      apply ar;refine Wp 2 rfl ?_;apply aD;apply bU
      refine fun a ha=>⟨md-lo,by omega,lo,md,g5,rfl,hs,aq,by omega,by omega,h3,?_,rfl,ha.keep ⟨rfl,rfl,rfl,rfl,rfl,rfl,rfl,trivial⟩⟩
      rw[DG]at j9
      intro t ht Qo
      by_cases BW:t=md
      ·subst BW;exact j9
      ·have:=List.pairwise_iff_getElem.1 Kp md t xV ht (by omega)
       rw[qt]at j9⊢;rw[iC]at this;omega
    ·refine aS (b:=decide (((U.length+lo:Nat):Int)<((U.length+hi:Nat):Int))) (by simp;omega) rfl ?_
     apply bE;apply bK;apply bK;apply dc;apply au;apply aB;refine aX rfl ?_;apply aG
     obtain rfl:lo=hi:=by omega
     have eX:=List.take_append_drop lo X
     have M':(X.take lo).length=lo:=by rw[List.length_take];omega
     have hM:lE kf X [y]=X.take lo++y::X.drop lo:=by
      have e:=wv (k:=kf) (A:=X.take lo) (B:=X.drop lo) (x:=y) (fun a ha=>by
       obtain⟨t,ht,rfl⟩:=List.mem_iff_getElem.1 ha
       rw[List.getElem_take];exact h3 _ _ (by omega)) (fun b hb=>by
       obtain⟨t,ht,rfl⟩:=List.mem_iff_getElem.1 hb
       rw[List.getElem_drop];exact h4 _ _ (by omega))
      rw[eX]at e;exact e
     have er:U++X++[y]++V=U++X.take lo++X.drop lo++y::([]++V):=by
      conv=>lhs;rw[←eX]
      simp only[List.append_assoc,List.cons_append,List.nil_append]
     rw[er]at hs
     rw[hM]
     have Ks:(X.drop lo).length=X.length-lo:=List.length_drop
     generalize X.take lo=X1 at hs M'
     generalize X.drop lo=X2 at hs Ks
     refine bS (fun m a' w=> ∃(A B:List bc) (g2:G),w=g2.w∧St g0 g2 (eP (ll tw) ad n c (U++X1++A++y::(B++V))::L)∧G.le g g2∧X2=A++B∧m=A.length∧
       Fr 220 [] [(0,.slice ad n c),(1,.int .i64 (U.length:Nat)),(2,.int .i64 (U.length+X.length:Nat)),(3,.int .i64 (U.length+X.length+1:Nat)),(4,fo),(14,.int .i64 (U.length+lo:Nat)),(17,.int .i64 (U.length+lo+A.length:Nat))] a') X2.length
      (fun a' ha=>⟨X2,[],g',rfl,hs,aq,by simp,rfl,ha.keep ⟨rfl,rfl,rfl,rfl,rfl,rfl,kI rfl (by rw[Ks];omega),trivial⟩⟩) ?_
     clear hs aq
     rintro m a' _ ⟨A,B,g2,rfl,hs,aq,zm,rfl,eI⟩
     have sP:A.length+B.length=X.length-lo:=by rw[←List.length_append,←zm,Ks]
     revert a'
     rcases List.eq_nil_or_concat A with rfl|⟨A,z,rfl⟩
     ·apply cQ;apply aB;refine aX rfl ?_
      refine aS (b:=decide (((U.length+lo:Nat):Int)<((U.length+lo+([]:List bc).length:Nat):Int))) (by simp) rfl ?_
      apply bE;apply bK;apply bK;apply dc;apply au
      refine aF (rR rfl (eu.intro aq ⟨rfl,?_⟩))
      rw[zm]
      simpa using hs
     ·rw[List.concat_eq_append]at*
      simp only[List.length_append,List.length_singleton]at sP
      obtain⟨b0,p0,rfl⟩: ∃b p,ad=some ⟨b,p,none⟩:=by
       rcases(hs.own 0 _ rfl).1.2 with⟨h0,_⟩|⟨b,off,cap,cur,hv,_⟩
       ·omega
       ·simp only[Value.slice.injEq]at hv;exact⟨b,off,hv.1⟩
      have Qp:U++X1++(A++[z])++y::(B++V)=(U++X1++A)++z::y::(B++V):=by simp
      rw[Qp]at hs
      have Gb:(U++X1++A).length=U.length+lo+A.length:=by rw[List.length_append,List.length_append,M']
      have ej:U.length+lo+(A++[z]).length=(U++X1++A).length+1:=by rw[Gb,List.length_append];rfl
      rw[ej]
      generalize hW:U++X1++A=W0 at hs Gb
      have Sq:(W0++z::y::(B++V)).length=n:=by rw[List.length_append,Gb];simp only[List.length_cons,List.length_append];omega
      have gz:(W0++z::y::(B++V))[W0.length]? =some z:=by simp
      have gy:(W0++z::y::(B++V))[W0.length+1]? =some y:=wx W0 [] _ z y
      apply cQ;apply aB;refine aX rfl ?_
      refine aJ (b:=decide (((U.length+lo:Nat):Int)<((W0.length+1:Nat):Int))) (by simp;omega) rfl ?_
      apply aE;apply au;apply aB;apply aG
      apply pw (gE (.e (.int .i64 (W0.length:Nat))::eJ (.e (.int .i64 (W0.length:Nat))::gE (eJ (fe [.f Fact.any]))))) 16 [(2,115),(4,117),(13,126)] [15] [[0,1,5,6,7,8,9,10,11,12,13,14]]
       (fun s=>match s with|0=>eP (ll tw) (some ⟨b0,p0,none⟩) n c (W0++z::y::(B++V))::L|_+1=>eP (ll tw) (some ⟨b0,p0,none⟩) n c ((W0++z::y::(B++V)).set (W0.length+1) z)::L) hs (by kernel_rfl) ⟨cY,trivial⟩
      ·refine Lm [[],[],[],[]] [] (by kernel_rfl) rfl ?_
       refine dk (my (js:=[(3,116)]) (by kernel_rfl) rfl fun s g' _ _ _ hf _=>ai rfl (aj (az rfl (aM _ T.ok rfl ⟨g',rfl,aZ.refl _,?_⟩)))) ?_
       ·exact congrArg (Value.int .i64) (by rw[wr (by omega) (by omega)];omega)
       refine Lm [[],[]] [] (by kernel_rfl) rfl ?_
       refine dk (my (js:=[(6,119)]) (by kernel_rfl) rfl fun s g' _ _ _ hf _=>ai rfl (aj (az rfl (aM _ T.ok rfl ⟨g',rfl,aZ.refl _,?_⟩)))) ?_
       ·exact congrArg (Value.int .i64) (by rw[wr (by omega) (by omega)];omega)
       refine dk (kM 0 0 (js:=[(5,118),(7,120)]) (by kernel_rfl) (by kernel_rfl) ?_) ?_
       ·intro s g' _ h1 hf hJ
        obtain rfl:s=0:=by omega
        refine ai rfl (ai rfl (aj (az rfl (cZ (α:=bc) 0 rfl hJ rfl (by omega) (by omega) rfl rfl rfl rfl rfl rfl fun b p hb=>⟨g',rfl,aZ.refl _,?_⟩))))
        obtain⟨rfl,rfl⟩:b0=b∧p0=p:=by simpa using hb
        rfl
       refine dk (kM 0 0 (js:=[(8,121)]) (by kernel_rfl) (by kernel_rfl) ?_) ?_
       ·intro s g' _ h1 hf hJ
        obtain rfl:s=0:=by omega
        exact ai rfl (aj (az rfl (dR (α:=bc) 0 rfl hJ rfl rfl (j:=W0.length) gz rfl rfl rfl ⟨g',rfl,aZ.refl _,rfl⟩)))
       refine Lm [[],[]] [] (by kernel_rfl) rfl ?_
       refine dk (kM 0 0 (js:=[(10,123),(11,124)]) (by kernel_rfl) (by kernel_rfl) ?_) ?_
       ·intro s g' _ h1 hf hJ
        obtain rfl:s=0:=by omega
        refine ai rfl (ai rfl (aj (az rfl (cZ (α:=bc) 0 rfl hJ rfl (by omega) (by omega) rfl rfl rfl rfl rfl rfl fun b p hb=>⟨g',rfl,aZ.refl _,?_⟩))))
        obtain⟨rfl,rfl⟩:b0=b∧p0=p:=by simpa using hb
        rfl
       refine dk (kM 0 0 (js:=[(12,125)]) (by kernel_rfl) (by kernel_rfl) ?_) ?_
       ·intro s g' _ h1 hf hJ
        obtain rfl:s=0:=by omega
        exact ai rfl (aj (az rfl (dR (α:=bc) 0 rfl hJ rfl rfl (j:=W0.length+1) gy rfl rfl rfl ⟨g',rfl,aZ.refl _,rfl⟩)))
       refine dk (kM 0 0 (js:=[(0,113),(1,114),(0,113),(1,114)]) (by kernel_rfl) (by kernel_rfl) ?_) ?_
       ·intro s g' _ h1 hf hJ
        obtain rfl:s=0:=by omega
        refine ai rfl (ai rfl (ai rfl (ai rfl (aj (az rfl (cZ (α:=bc) 0 rfl hJ rfl (by omega) (by omega) rfl rfl rfl rfl rfl rfl fun b p hb=>⟨g',rfl,aZ.refl _,?_⟩))))))
        obtain⟨rfl,rfl⟩:b0=b∧p0=p:=by simpa using hb
        rfl
       refine dk (vk 0 (js:=[(14,127),(9,122),(9,122)]) (by kernel_rfl) rfl fun g' hf hJ=>ai rfl (ai rfl (ai rfl (aj (qL rfl (fZ (α:=bc) 0 rfl hJ rfl rfl rfl (v:=z) (j:=W0.length+1) (by omega) rfl rfl fun g3 hs hle=>⟨g3,rfl,⟨hle,hs⟩,trivial⟩)))))) ?_
       exact xT
      clear hs;intro g6 hs ah;replace aq:=G.le.trans aq ah
      refine ai rfl (ai rfl (ai rfl (aj ?_)))
      refine an rfl rfl (cZ (α:=bc) 0 rfl hs rfl (by omega) (by omega) rfl rfl rfl rfl rfl rfl fun b p hb=> ?_)
      obtain⟨rfl,rfl⟩:b0=b∧p0=p:=by simpa using hb
      refine bg rfl (fZ (α:=bc) 0 rfl hs rfl rfl rfl (v:=y) (j:=W0.length) (by rw[List.length_set];omega) rfl rfl ?_)
      clear hs;intro g7 hs ah;replace aq:=G.le.trans aq ah
      replace hs:St g0 g7 (eP (ll tw) (some ⟨b0,p0,none⟩) n c (((W0++z::y::(B++V)).set (W0.length+1) z).set W0.length y)::L):=hs
      rw[xS,←hW]at hs
      apply aD;apply bU;apply au;apply ar;refine Wp 3 rfl ?_;apply aD
      exact fun a ha=>⟨A.length,by simp,A,z::B,g7,rfl,hs,aq,by rw[zm];simp,rfl,ha.keep ⟨rfl,rfl,rfl,rfl,rfl,rfl,kI rfl (by rw[wr (by omega) (by omega)];omega),trivial⟩⟩
   ·refine aS (b:=IntKind.i64.wrap (((U.length+X.length+Y.length:Nat):Int)-(U.length+X.length:Nat))==1) (by rw[wr (by omega) (by omega)];simp;omega) rfl ?_
    apply aE;apply au;(iterate 3 refine aX rfl ?_);apply aB;refine aX rfl ?_
    obtain⟨h,hh⟩: ∃h,h=(X.length+Y.length)/2:=⟨_,rfl⟩
    have hU:U.length≤1000000000:=by omega
    have DH:IntKind.i64.wrap (cG .u64 (IntKind.u64.wrap (IntKind.i64.wrap (((U.length:Nat):Int)+((U.length+X.length+Y.length:Nat):Int)))) 1)=((U.length+h:Nat):Int):=(Gd (by omega)).trans (by omega)
    refine oG (l':=[(0,.slice ad n c),(1,.int .i64 (U.length:Nat)),(2,.int .i64 (U.length+X.length:Nat)),(3,.int .i64 (U.length+X.length+Y.length:Nat)),(4,fo),(18,.int .i64 (U.length+h:Nat)),(19,.int .i64 (U.length+h+(U.length+X.length):Nat)),(20,.int .i64 0),(21,.int .i64 0),(140,.bool (decide (((U.length+h:Nat):Int)<((U.length+X.length:Nat):Int))))])
     ⟨rfl,rfl,rfl,rfl,rfl,kI rfl DH,kI rfl ((congrArg (fun z:Int=>IntKind.i64.wrap (z+((U.length+X.length:Nat):Int))) DH).trans (by show IntKind.i64.wrap _=_;rw[wr (by omega) (by omega)];omega)),rfl,rfl,congrArg (fun z:Int=>some (Value.bool (decide (z<((U.length+X.length:Nat):Int))))) DH,trivial⟩ ?_
    refine lL (fun a' w=>w=g.w∧ ∃p q,p≤q∧q≤h∧q≤X.length∧h≤p+Y.length∧(∀u v,0<p→X[p-1]? =some u→Y[h-p]? =some v→kl kf v u=false)∧(∀u v,q<h→X[q]? =some u→Y[h-1-q]? =some v→kl kf v u=true)∧
      Fr 220 [] [(0,.slice ad n c),(1,.int .i64 (U.length:Nat)),(2,.int .i64 (U.length+X.length:Nat)),(3,.int .i64 (U.length+X.length+Y.length:Nat)),(4,fo),(18,.int .i64 (U.length+h:Nat)),(19,.int .i64 (U.length+h+(U.length+X.length):Nat)),(20,.int .i64 (U.length+p:Nat)),(21,.int .i64 (U.length+q:Nat))] a') ?_ ?_
    ·by_cases Ub:h<X.length
     ·refine aJ (b:=decide (((U.length+h:Nat):Int)<((U.length+X.length:Nat):Int))) (by simp;omega) rfl ?_
      refine aX rfl ?_;apply ar;refine Wp 2 rfl ?_;apply aD
      exact fun a ha=>⟨rfl,h-Y.length,h,by omega,by omega,by omega,by omega,fun u v _ _ hv=>(by rw[List.getElem?_eq_none (by omega)]at hv;cases hv),fun u v hq=>absurd hq (by omega),ha.keep ⟨rfl,rfl,rfl,rfl,rfl,rfl,rfl,kI rfl (by rw[wr (by omega) (by omega)];omega),rfl,trivial⟩⟩
     ·refine aS (b:=decide (((U.length+h:Nat):Int)<((U.length+X.length:Nat):Int))) (by simp;omega) rfl ?_
      refine aX rfl ?_;apply ar;refine Wp 2 rfl ?_;apply aD
      exact fun a ha=>⟨rfl,0,X.length,by omega,by omega,by omega,by omega,fun u v hp=>absurd hp (by omega),fun u v _ hu=>(by rw[List.getElem?_eq_none (by omega)]at hu;cases hu),ha.keep ⟨rfl,rfl,rfl,rfl,rfl,rfl,rfl,rfl,rfl,trivial⟩⟩
    rintro a' _ ⟨rfl,p,q,h1,h2,h3,h4,i1,i2,eI⟩
    revert a'
    apply cQ;refine aX rfl ?_;apply aB;apply aG
    have Qq:=aq
    refine bS (fun m a' w=> ∃(p q:Nat) (g':G),w=g'.w∧St g0 g' (eP (ll tw) ad n c (U++X++Y++V)::L)∧G.le g g'∧p≤q∧q≤h∧q≤X.length∧h≤p+Y.length∧(∀u v,0<p→X[p-1]? =some u→Y[h-p]? =some v→kl kf v u=false)∧(∀u v,q<h→X[q]? =some u→Y[h-1-q]? =some v→kl kf v u=true)∧m=q-p∧
      Fr 220 [] [(0,.slice ad n c),(1,.int .i64 (U.length:Nat)),(2,.int .i64 (U.length+X.length:Nat)),(3,.int .i64 (U.length+X.length+Y.length:Nat)),(4,fo),(18,.int .i64 (U.length+h:Nat)),(19,.int .i64 (U.length+h+(U.length+X.length):Nat)),(20,.int .i64 (U.length+p:Nat)),(21,.int .i64 (U.length+q:Nat)),(22,.int .i64 (U.length+h+(U.length+X.length)-1:Nat))] a') (q-p)
     (fun a' ha=>⟨p,q,g,rfl,hs,aq,h1,h2,h3,h4,i1,i2,rfl,ha.keep ⟨rfl,rfl,rfl,rfl,rfl,rfl,rfl,rfl,rfl,kI rfl (by rw[wr (by omega) (by omega)];omega),trivial⟩⟩) ?_
    clear hs aq i1 i2 h1 h2 h3 h4 p q
    rintro m a' _ ⟨p,q,g',rfl,hs,aq,h1,h2,h3,h4,i1,i2,rfl,eI⟩
    revert a'
    apply cQ;apply aB;refine aX rfl ?_
    by_cases bh:p<q
    ·refine aJ (b:=decide (((U.length+p:Nat):Int)<((U.length+q:Nat):Int))) (by simp;omega) rfl ?_
     apply aE;apply au;apply aG;refine aX rfl ?_;apply aB
     obtain⟨md,Sr⟩: ∃md,md=(p+q)/2:=⟨_,rfl⟩
     have Kr:p≤md:=by omega
     have Ss:md<q:=by omega
     have DI:md<X.length:=by omega
     have xV:h-1-md<Y.length:=by omega
     refine oG (l':=[(0,.slice ad n c),(1,.int .i64 (U.length:Nat)),(2,.int .i64 (U.length+X.length:Nat)),(3,.int .i64 (U.length+X.length+Y.length:Nat)),(4,fo),(18,.int .i64 (U.length+h:Nat)),(19,.int .i64 (U.length+h+(U.length+X.length):Nat)),(20,.int .i64 (U.length+p:Nat)),(21,.int .i64 (U.length+q:Nat)),(22,.int .i64 (U.length+h+(U.length+X.length)-1:Nat)),(23,.int .i64 (U.length+md:Nat))]) ⟨rfl,rfl,rfl,rfl,rfl,rfl,rfl,rfl,rfl,rfl,kI rfl ((Gd (by omega)).trans (by omega)),trivial⟩ ?_
     obtain⟨b0,p0,rfl⟩: ∃b p,ad=some ⟨b,p,none⟩:=by
      rcases(hs.own 0 _ rfl).1.2 with⟨h0,_⟩|⟨b,off,cap,cur,hv,_⟩
      ·omega
      ·simp only[Value.slice.injEq]at hv;exact⟨b,off,hv.1⟩
     have gx:(U++X++Y++V)[U.length+md]? =some X[md]:=by
      rw[List.append_assoc,List.append_assoc,List.getElem?_append_right (by omega),Nat.add_sub_cancel_left,List.getElem?_append_left DI,List.getElem?_eq_getElem DI]
     have gy:(U++X++Y++V)[U.length+X.length+(h-1-md)]? =some Y[h-1-md]:=by
      rw[List.append_assoc,List.getElem?_append_right (by rw[List.length_append];omega),List.length_append,Nat.add_sub_cancel_left,List.getElem?_append_left xV,List.getElem?_eq_getElem xV]
     obtain⟨x,I7⟩: ∃x,x=X[md]:=⟨_,rfl⟩
     obtain⟨y,DG⟩: ∃y,y=Y[h-1-md]:=⟨_,rfl⟩
     rw[←I7]at gx
     rw[←DG]at gy
     apply bO hs (gE (.e (.int .i64 (U.length+X.length+(h-1-md):Nat))::fj (fe []))) 14 [(13,171)] (by kernel_rfl) rfl
     ·refine Dm [[],[],[],[]] [] hs (by kernel_rfl) rfl ?_
      refine aw (ak (js:=[(2,160),(3,161)]) (by kernel_rfl) fun gd hf=>ai rfl (ai rfl (aj (az rfl (aM _ T.ok rfl ⟨gd,rfl,aZ.refl _,?_⟩))))) ?_
      ·exact congrArg (Value.int .i64) (by rw[wr (by omega) (by omega)];omega)
      refine aw (ak (js:=[(1,159),(4,162)]) (by kernel_rfl) fun gd hf=>ai rfl (ai rfl (aj (az rfl (cZ (α:=bc) 0 rfl (hs.dr.call hf) rfl (by omega) (by omega) rfl rfl rfl rfl rfl rfl fun b p hb=>⟨gd,rfl,aZ.refl _,?_⟩))))) ?_
      ·obtain⟨rfl,rfl⟩:b0=b∧p0=p:=by simpa using hb
       rfl
      refine aw (ak (js:=[(5,163)]) (by kernel_rfl) fun gd hf=>ai rfl (aj (az rfl (dR (α:=bc) 0 rfl (hs.dr.call hf) rfl rfl (j:=U.length+X.length+(h-1-md)) gy rfl rfl rfl ⟨gd,rfl,aZ.refl _,rfl⟩)))) ?_
      refine Dm [[],[]] [] hs (by kernel_rfl) rfl ?_
      refine aw (ak (js:=[(7,165),(8,166)]) (by kernel_rfl) fun gd hf=>ai rfl (ai rfl (aj (az rfl (cZ (α:=bc) 0 rfl (hs.dr.call hf) rfl (by omega) (by omega) rfl rfl rfl rfl rfl rfl fun b p hb=>⟨gd,rfl,aZ.refl _,?_⟩))))) ?_
      ·obtain⟨rfl,rfl⟩:b0=b∧p0=p:=by simpa using hb
       rfl
      refine aw (ak (js:=[(9,167)]) (by kernel_rfl) fun gd hf=>ai rfl (aj (az rfl (dR (α:=bc) 0 rfl (hs.dr.call hf) rfl rfl (j:=U.length+md) gx rfl rfl rfl ⟨gd,rfl,aZ.refl _,rfl⟩)))) ?_
      refine aw (ak (js:=[(0,158),(6,164),(10,168)]) (by kernel_rfl) fun gd hf=>ai rfl (ai rfl (ai rfl (aj (az rfl (eA rfl rfl rfl rfl rfl rfl (hk gd (aq.trans ((G.bJ _).trans hf.le)) y x) fun g' v h1 h2=>⟨g',rfl,h1,h2⟩)))))) ?_
      exact Dz [[11],[12]] [] hs (by kernel_rfl) rfl
     clear hs;intro g5 hs ah;replace aq:=G.le.trans aq ah
     apply cf
     cases j9:kl kf y x with
     |false=>
      refine aJ (b:=!decide (qK (kf y) (kf x)<0)) (by rw[kT,j9];rfl) rfl ?_
      apply ar;refine Wp 3 rfl ?_;apply aD;apply bU
      refine fun a ha=>⟨q-(md+1),by omega,md+1,q,g5,rfl,hs,aq,by omega,h2,h3,by omega,?_,i2,rfl,ha.keep ⟨rfl,rfl,rfl,rfl,rfl,rfl,rfl,kI rfl (by rw[wr (by omega) (by omega)];omega),rfl,rfl,trivial⟩⟩
      intro u v _ hu hv
      rw[Nat.add_sub_cancel,List.getElem?_eq_getElem DI]at hu
      rw[show h-(md+1)=h-1-md from by omega,List.getElem?_eq_getElem xV]at hv
      obtain rfl:=Option.some.inj hu;obtain rfl:=Option.some.inj hv
      rw[I7,DG]at j9;exact j9
     |true=>
      refine aS (b:=!decide (qK (kf y) (kf x)<0)) (by rw[kT,j9];rfl) rfl ?_
      apply ar;refine Wp 2 rfl ?_;apply aD;apply bU
      refine fun a ha=>⟨md-p,by omega,p,md,g5,rfl,hs,aq,by omega,by omega,by omega,h4,i1,?_,rfl,ha.keep ⟨rfl,rfl,rfl,rfl,rfl,rfl,rfl,rfl,rfl,rfl,trivial⟩⟩
      intro u v _ hu hv
      rw[List.getElem?_eq_getElem DI]at hu
      rw[List.getElem?_eq_getElem xV]at hv
      obtain rfl:=Option.some.inj hu;obtain rfl:=Option.some.inj hv
      rw[I7,DG]at j9;exact j9
    ·refine aS (b:=decide (((U.length+p:Nat):Int)<((U.length+q:Nat):Int))) (by simp;omega) rfl ?_
     obtain rfl:p=q:=by omega
     have eX:=List.take_append_drop p X
     have eY:=List.take_append_drop (h-p) Y
     have M':(X.take p).length=p:=by rw[List.length_take];omega
     have Ks:(X.drop p).length=X.length-p:=List.length_drop
     have M_:(Y.take (h-p)).length=h-p:=by rw[List.length_take];omega
     have OT:(Y.drop (h-p)).length=Y.length-(h-p):=List.length_drop
     have c1: ∀x∈X.take p,∀y∈Y.drop (h-p),kl kf y x=false:=by
      intro x hx y hy
      obtain⟨t,ht,rfl⟩:=List.mem_iff_getElem.1 hx
      obtain⟨u,hu,rfl⟩:=List.mem_iff_getElem.1 hy
      rw[M']at ht
      rw[OT]at hu
      rw[List.getElem_take,List.getElem_drop]
      have e:=i1 _ _ (by omega) (List.getElem?_eq_getElem (by omega:p-1<X.length)) (List.getElem?_eq_getElem (by omega:h-p<Y.length))
      have ex:kl kf X[p-1] X[t]=false:=by
       by_cases BW:t=p-1
       ·subst BW;rw[iC];omega
       ·exact List.pairwise_iff_getElem.1 Kp t (p-1) (by omega) (by omega) (by omega)
      have ey:kl kf Y[h-p+u] Y[h-p]=false:=by
       by_cases Qr:u=0
       ·subst Qr;rw[iC];simp
       ·exact List.pairwise_iff_getElem.1 Kq (h-p) (h-p+u) (by omega) (by omega) (by omega)
      rw[iC]at e ex ey⊢;omega
     have c2: ∀y∈Y.take (h-p),∀x∈X.drop p,kl kf y x=true:=by
      intro y hy x hx
      obtain⟨t,ht,rfl⟩:=List.mem_iff_getElem.1 hx
      obtain⟨u,hu,rfl⟩:=List.mem_iff_getElem.1 hy
      rw[Ks]at ht
      rw[M_]at hu
      rw[List.getElem_take,List.getElem_drop]
      have e:=i2 _ _ (by omega) (List.getElem?_eq_getElem (by omega:p<X.length)) (List.getElem?_eq_getElem (by omega:h-1-p<Y.length))
      have ex:kl kf X[p+t] X[p]=false:=by
       by_cases BW:t=0
       ·subst BW;rw[iC];simp
       ·exact List.pairwise_iff_getElem.1 Kp p (p+t) (by omega) (by omega) (by omega)
      have ey:kl kf Y[h-1-p] Y[u]=false:=by
       by_cases Qr:u=h-1-p
       ·subst Qr;rw[iC];omega
       ·exact List.pairwise_iff_getElem.1 Kq u (h-1-p) (by omega) (by omega) (by omega)
      rw[qt]at e⊢;rw[iC]at ex ey;omega
     have hM:=gQ (X.take p) (Y.take (h-p)) c1 c2
     rw[eX,eY]at hM
     (repeat (first|refine bE ?_|with_reducible refine bK ?_|with_reducible refine dc ?_|with_reducible refine au ?_))
     have Su:zj kf (X.take p):=Kp.sublist (List.take_sublist ..)
     have Sv:zj kf (X.drop p):=Kp.sublist (List.drop_sublist ..)
     have Sw:zj kf (Y.take (h-p)):=Kq.sublist (List.take_sublist ..)
     have Sx:zj kf (Y.drop (h-p)):=Kq.sublist (List.drop_sublist ..)
     have er:U++X++Y++V=U++X.take p++X.drop p++Y.take (h-p)++(Y.drop (h-p)++V):=by
      conv=>lhs;rw[←eX,←eY]
      simp only[List.append_assoc]
     rw[er]at hs
     rw[hM]
     clear c1 c2 eX eY i1 i2 hM er
     generalize X.take p=X1 at hs M' Su
     generalize X.drop p=X2 at hs Ks Sv
     generalize Y.take (h-p)=Y1 at hs M_ Sw
     generalize Y.drop (h-p)=Y2 at hs OT Sx
     refine aX rfl ?_
     refine oG (l':=[(0,.slice ad n c),(1,.int .i64 (U.length:Nat)),(2,.int .i64 (U.length+X.length:Nat)),(3,.int .i64 (U.length+X.length+Y.length:Nat)),(4,fo),(18,.int .i64 (U.length+h:Nat)),(20,.int .i64 (U.length+p:Nat)),(24,.int .i64 (U.length+X.length+(h-p):Nat))]) ⟨rfl,rfl,rfl,rfl,rfl,rfl,rfl,kI rfl (by rw[wr (by omega) (by omega)];omega),trivial⟩ ?_
     apply aB
     refine lL (fun a' w=> ∃g',w=g'.w∧St g0 g' (eP (ll tw) ad n c (U++X1++Y1++(X2++Y2++V))::L)∧G.le g g'∧Fr 220 [] [(0,.slice ad n c),(1,.int .i64 (U.length:Nat)),(2,.int .i64 (U.length+X.length:Nat)),(3,.int .i64 (U.length+X.length+Y.length:Nat)),(4,fo),(18,.int .i64 (U.length+h:Nat)),(20,.int .i64 (U.length+p:Nat)),(24,.int .i64 (U.length+X.length+(h-p):Nat))] a') ?_ ?_
     ·by_cases hp:p<X.length
      ·apply aB
       apply ar
       refine Wp 4 rfl ?_
       refine cE (.bool true) (t:=181) rfl (congrArg Value.bool (by simp;omega)) ?_
       refine ba rfl ?_
       by_cases hq:0<h-p
       ·refine aJ (b:=decide (((U.length+X.length:Nat):Int)<((U.length+X.length+(h-p):Nat):Int))) (by simp;omega) rfl ?_
        apply ar;refine Wp 5 rfl ?_
        refine cE (.int .i64 ((U++X1).length:Nat)) (t:=187) rfl (congrArg (Value.int .i64) (by rw[List.length_append];omega)) ?_
        refine cE (.int .i64 ((U++X1).length+X2.length:Nat)) (t:=188) rfl (congrArg (Value.int .i64) (by rw[List.length_append];omega)) ?_
        refine cE (.int .i64 ((U++X1).length+X2.length+Y1.length:Nat)) (t:=189) rfl (congrArg (Value.int .i64) (by rw[List.length_append];omega)) ?_
        refine an rfl rfl (dv (Ql tw) aI rfl rfl rfl rfl rfl (DF tw (U++X1) X2 Y1 (Y2++V) (by omega) (by omega) (by simp only[List.length_append];omega) hm hs) ?_)
        clear hs
        rintro g6 _ ah ⟨rfl,hs⟩;replace aq:=G.le.trans aq ah
        apply aD
        exact fun a ha=>⟨g6,rfl,by simpa using hs,aq,ha.keep (by(repeat (first|exact trivial|refine⟨rfl,?_⟩)))⟩
       ·refine aS (b:=decide (((U.length+X.length:Nat):Int)<((U.length+X.length+(h-p):Nat):Int))) (by simp;omega) rfl ?_
        apply aE
        obtain rfl:Y1=[]:=List.length_eq_zero_iff.1 (by omega)
        exact fun a ha=>⟨g',rfl,by simpa using hs,aq,ha.keep (by(repeat (first|exact trivial|refine⟨rfl,?_⟩)))⟩
      ·apply aB
       apply ar
       refine Wp 4 rfl ?_
       refine cE (.bool false) (t:=181) rfl (congrArg Value.bool (by simp;omega)) ?_
       refine ba rfl ?_
       refine aS rfl rfl ?_
       apply aE
       obtain rfl:X2=[]:=List.length_eq_zero_iff.1 (by omega)
       exact fun a ha=>⟨g',rfl,by simpa using hs,aq,ha.keep (by(repeat (first|exact trivial|refine⟨rfl,?_⟩)))⟩
     clear hs aq
     rintro a' _ ⟨g7,rfl,hs,aq,eI⟩
     revert a'
     apply cQ
     apply aB
     refine lL (fun a' w=> ∃g',w=g'.w∧St g0 g' (eP (ll tw) ad n c (U++lE kf X1 Y1++(X2++Y2++V))::L)∧G.le g g'∧Fr 220 [] [(0,.slice ad n c),(1,.int .i64 (U.length:Nat)),(2,.int .i64 (U.length+X.length:Nat)),(3,.int .i64 (U.length+X.length+Y.length:Nat)),(4,fo),(18,.int .i64 (U.length+h:Nat)),(20,.int .i64 (U.length+p:Nat)),(24,.int .i64 (U.length+X.length+(h-p):Nat))] a') ?_ ?_
     ·by_cases hp:0<p
      ·apply aB
       apply ar
       refine Wp 4 rfl ?_
       refine cE (.bool true) (t:=195) rfl (congrArg Value.bool (by simp;omega)) ?_
       refine ba rfl ?_
       by_cases hq:p<h
       ·refine aJ (b:=decide (((U.length+p:Nat):Int)<((U.length+h:Nat):Int))) (by simp;omega) rfl ?_
        apply ar;refine Wp 5 rfl ?_
        refine cE (.int .i64 (U.length+X1.length:Nat)) (t:=202) rfl (congrArg (Value.int .i64) (by omega)) ?_
        refine cE (.int .i64 (U.length+X1.length+Y1.length:Nat)) (t:=203) rfl (congrArg (Value.int .i64) (by omega)) ?_
        refine an rfl rfl (dv (Ga tw) aI rfl rfl rfl rfl rfl (ih (X1.length+Y1.length) (by omega) U X1 Y1 (X2++Y2++V) rfl (by omega) (by omega) Su Sw (by simp only[List.length_append];omega) (hk.mono aq) hs) ?_)
        clear hs
        rintro g6 _ ah ⟨rfl,hs⟩;replace aq:=G.le.trans aq ah
        apply aD
        exact fun a ha=>⟨g6,rfl,hs,aq,ha.keep (by(repeat (first|exact trivial|refine⟨rfl,?_⟩)))⟩
       ·refine aS (b:=decide (((U.length+p:Nat):Int)<((U.length+h:Nat):Int))) (by simp;omega) rfl ?_
        apply aE
        obtain rfl:Y1=[]:=List.length_eq_zero_iff.1 (by omega)
        exact fun a ha=>⟨g7,rfl,by simpa [gC]using hs,aq,ha.keep (by(repeat (first|exact trivial|refine⟨rfl,?_⟩)))⟩
      ·apply aB
       apply ar
       refine Wp 4 rfl ?_
       refine cE (.bool false) (t:=195) rfl (congrArg Value.bool (by simp;omega)) ?_
       refine ba rfl ?_
       refine aS rfl rfl ?_
       apply aE
       obtain rfl:X1=[]:=List.length_eq_zero_iff.1 (by omega)
       exact fun a ha=>⟨g7,rfl,by simpa [lE]using hs,aq,ha.keep (by(repeat (first|exact trivial|refine⟨rfl,?_⟩)))⟩
     clear hs aq
     rintro a' _ ⟨g8,rfl,hs,aq,eI⟩
     revert a'
     apply cQ
     have lM:(lE kf X1 Y1).length=X1.length+Y1.length:=by rw[(mP (k:=kf) X1 Y1).length_eq,List.length_append]
     generalize lE kf X1 Y1=M1 at hs lM
     by_cases hp:p<X.length
     ·apply aB
      apply ar
      refine Wp 4 rfl ?_
      refine cE (.bool true) (t:=209) rfl (congrArg Value.bool (by simp;omega)) ?_
      refine ba rfl ?_
      by_cases hq:h-p<Y.length
      ·refine aJ (b:=decide (((U.length+X.length+(h-p):Nat):Int)<((U.length+X.length+Y.length:Nat):Int))) (by simp;omega) rfl ?_
       apply ar;refine Wp 5 rfl ?_
       refine cE (.int .i64 ((U++M1).length:Nat)) (t:=215) rfl (congrArg (Value.int .i64) (by rw[List.length_append];omega)) ?_
       refine cE (.int .i64 ((U++M1).length+X2.length:Nat)) (t:=216) rfl (congrArg (Value.int .i64) (by rw[List.length_append];omega)) ?_
       refine cE (.int .i64 ((U++M1).length+X2.length+Y2.length:Nat)) (t:=217) rfl (congrArg (Value.int .i64) (by rw[List.length_append];omega)) ?_
       refine an rfl rfl (dv (Ga tw) aI rfl rfl rfl rfl rfl (ih (X2.length+Y2.length) (by omega) (U++M1) X2 Y2 V rfl (by omega) (by omega) Sv Sx (by simp only[List.length_append];omega) (hk.mono aq) (by simpa using hs)) ?_)
       clear hs
       rintro g6 _ ah ⟨rfl,hs⟩;replace aq:=G.le.trans aq ah
       apply aD
       exact k5 rfl (eu.intro aq ⟨rfl,by simpa using hs⟩)
      ·refine aS (b:=decide (((U.length+X.length+(h-p):Nat):Int)<((U.length+X.length+Y.length:Nat):Int))) (by simp;omega) rfl ?_
       apply aE
       obtain rfl:Y2=[]:=List.length_eq_zero_iff.1 (by omega)
       exact k5 rfl (eu.intro aq ⟨rfl,by simpa [gC]using hs⟩)
     ·apply aB
      apply ar
      refine Wp 4 rfl ?_
      refine cE (.bool false) (t:=209) rfl (congrArg Value.bool (by simp;omega)) ?_
      refine ba rfl ?_
      refine aS rfl rfl ?_
      apply aE
      obtain rfl:X2=[]:=List.length_eq_zero_iff.1 (by omega)
      exact k5 rfl (eu.intro aq ⟨rfl,by simpa [lE]using hs⟩)
end Go.Proofs.YtebobfdheanknaaGreatDoor
