/- Parts of the proof, from: Sorting facts by a function that compares: two sorted stretches merged in place. -/
import Derived.Test.YtebobfdheanknaaGreatDoorYh
import Derived.Test.YtebobfdheanknaaGreatDoorYg
namespace Go.Proofs.YtebobfdheanknaaGreatDoor
open Go Go.K
set_option maxRecDepth 10000
attribute [local irreducible] W WL cT cn bX bA bB bD cW cG
set_option maxHeartbeats 8000000
theorem Gc{α:Type}{k:α→Int×Int}{A B:List α}{x:α}(h1: ∀a∈A,kl k a x=true)(h2: ∀b∈B,kl k b x=false):lE k [x] (A++B)=A++x::B:=by
 have e:=gQ (k:=k) [] A (a2:=[x]) (b2:=B) (by simp) (fun a ha y hy=>by rw[List.mem_singleton.1 hy];exact h1 a ha)
 have e2:=gQ (k:=k) [x] [] (a2:=[]) (b2:=B) (fun y hy b hb=>by rw[List.mem_singleton.1 hy];exact h2 b hb) (by simp)
 simp only[List.nil_append,List.append_nil]at e e2
 rw[e,e2,gC];rfl
theorem T'{n:Int}(h1:0≤n)(h2:n≤9223372036854775807):IntKind.u64.wrap n=n:=by
 unfold IntKind.wrap
 simp[IntKind.bits,IntKind.signed]
 omega
theorem Gd{a b:Nat}(h:a+b≤4000000000):IntKind.i64.wrap (cG .u64 (IntKind.u64.wrap (IntKind.i64.wrap ((a:Int)+(b:Int)))) 1)=(((a+b)/2:Nat):Int):=by
 rw[wr (n:=(a:Int)+b) (by omega) (by omega),T' (by omega) (by omega)]
 have e:cG .u64 ((a:Int)+b) 1=((a+b)/2:Nat):=by
  unfold cG
  simp only[IntKind.bits]
  rw[show(2:Int)^(min 1 64)=2 from rfl,Int.fdiv_eq_ediv_of_nonneg _ (by omega)]
  omega
 rw[e,wr (by omega) (by omega)]
theorem sQ(tw:Bool){fo:Value}{kf:bc→Int×Int}{ad:Option Addr}{n c:Nat}{L:List cV}(hm:n≤1000000000): ∀(sz:Nat) (U X Y V:List bc) {g0 g:G},X.length+Y.length=sz→0<X.length→0<Y.length→zj kf X→zj kf Y→n=U.length+X.length+Y.length+V.length→zG fo kf g→St g0 g (eP (ll tw) ad n c (U++X++Y++V)::L)→
  CallsIn Wd 0 Tryz.prog (M6 tw) #[.slice ad n c,.int .i64 (U.length:Nat),.int .i64 (U.length+X.length:Nat),.int .i64 (U.length+X.length+Y.length:Nat),fo] g.w (eu g fun g' r=>r= .tuple #[]∧St g0 g' (eP (ll tw) ad n c (U++lE kf X Y++V)::L)):=by
 cases tw
 case' false=>let tw:=false
 case' true=>let tw:=true
 all_goals
  intro sz
  induction sz using Nat.strongRecOn with
  |_ sz ih=>
  intro U X Y V g0 g cS hX hY Yq Kq hn hk hs
  have aq:=G.le.refl g
  first|refine enter Tryz.func263 rfl Tryz.ntmps263 rfl ?_|refine enter Tryz.func293 rfl Tryz.ntmps293 rfl ?_
  apply aB;refine aX rfl ?_
  by_cases A0:X.length=1
  ·refine aJ (b:=IntKind.i64.wrap (((U.length+X.length:Nat):Int)-(U.length:Nat))==1) (by rw[wr (by omega) (by omega)];simp;omega) rfl ?_
   obtain⟨x,rfl⟩:=List.length_eq_one_iff.1 A0
   simp only[List.length_singleton]at*
   refine aX rfl ?_;refine aX rfl ?_;apply aB;apply aG
   refine bS (fun m a' w=> ∃(lo hi:Nat) (g':G),w=g'.w∧St g0 g' (eP (ll tw) ad n c (U++[x]++Y++V)::L)∧G.le g g'∧lo≤hi∧hi≤Y.length∧(∀t (h:t<Y.length),t<lo→kl kf Y[t] x=true)∧(∀t (h:t<Y.length),hi≤t→kl kf Y[t] x=false)∧m=hi-lo∧
     Fr 220 [] [(0,.slice ad n c),(1,.int .i64 (U.length:Nat)),(2,.int .i64 (U.length+1:Nat)),(3,.int .i64 (U.length+1+Y.length:Nat)),(4,fo),(10,.int .i64 (U.length+1+lo:Nat)),(11,.int .i64 (U.length+1+hi:Nat))] a') Y.length
    (fun a' ha=>⟨0,Y.length,g,rfl,hs,aq,by omega,by omega,by intros;omega,by intros;omega,rfl,ha.keep ⟨rfl,rfl,rfl,rfl,rfl,rfl,rfl,trivial⟩⟩) ?_
   clear hs aq
   rintro m a' _ ⟨lo,hi,g',rfl,hs,aq,h1,h2,h3,h4,rfl,eI⟩
   revert a'
   apply cQ;apply aB;refine aX rfl ?_
   by_cases bh:lo<hi
   ·refine aJ (b:=decide (((U.length+1+lo:Nat):Int)<((U.length+1+hi:Nat):Int))) (by simp;omega) rfl ?_
    apply aE;apply au;apply aG;refine aX rfl ?_;apply aB
    obtain⟨md,Sr⟩: ∃md,md=(lo+hi)/2:=⟨_,rfl⟩
    have Kr:lo≤md:=by omega
    have Ss:md<hi:=by omega
    have xV:md<Y.length:=by omega
    refine oG (l':=[(0,.slice ad n c),(1,.int .i64 (U.length:Nat)),(2,.int .i64 (U.length+1:Nat)),(3,.int .i64 (U.length+1+Y.length:Nat)),(4,fo),(10,.int .i64 (U.length+1+lo:Nat)),(11,.int .i64 (U.length+1+hi:Nat)),(12,.int .i64 (U.length+1+md:Nat))]) ⟨rfl,rfl,rfl,rfl,rfl,rfl,rfl,kI rfl ((Gd (by omega)).trans (by omega)),trivial⟩ ?_
    obtain⟨b0,p0,rfl⟩: ∃b p,ad=some ⟨b,p,none⟩:=by
     rcases(hs.own 0 _ rfl).1.2 with⟨h0,_⟩|⟨b,off,cap,cur,hv,_⟩
     ·omega
     ·simp only[Value.slice.injEq]at hv;exact⟨b,off,hv.1⟩
    have gx:(U++[x]++Y++V)[U.length]? =some x:=by simp
    have gy:(U++[x]++Y++V)[U.length+1+md]? =some Y[md]:=by
     rw[List.append_assoc,List.getElem?_append_right (by simp only[List.length_append,List.length_singleton];omega),List.getElem?_append_left (by simp only[List.length_append,List.length_singleton];omega),List.length_append,List.length_singleton,Nat.add_sub_cancel_left,List.getElem?_eq_getElem xV]
    obtain⟨y,DG⟩: ∃y,y=Y[md]:=⟨_,rfl⟩
    rw[←DG]at gy
    apply bO hs (fj (eJ (fe []))) 11 [(10,50)] (by kernel_rfl) rfl
    ·refine Dm [[],[],[]] [] hs (by kernel_rfl) rfl ?_
     refine aw (ak (js:=[(1,41),(2,42)]) (by kernel_rfl) fun gd hf=>ai rfl (ai rfl (aj (az rfl (cZ (α:=bc) 0 rfl (hs.dr.call hf) rfl (by omega) (by omega) rfl rfl rfl rfl rfl rfl fun b p hb=>⟨gd,rfl,aZ.refl _,?_⟩))))) ?_
     ·obtain⟨rfl,rfl⟩:b0=b∧p0=p:=by simpa using hb
      rfl
     refine aw (ak (js:=[(3,43)]) (by kernel_rfl) fun gd hf=>ai rfl (aj (az rfl (dR (α:=bc) 0 rfl (hs.dr.call hf) rfl rfl (j:=U.length+1+md) gy rfl rfl rfl ⟨gd,rfl,aZ.refl _,rfl⟩)))) ?_
     refine Dm [[],[]] [] hs (by kernel_rfl) rfl ?_
     refine aw (ak (js:=[(5,45),(6,46)]) (by kernel_rfl) fun gd hf=>ai rfl (ai rfl (aj (az rfl (cZ (α:=bc) 0 rfl (hs.dr.call hf) rfl (by omega) (by omega) rfl rfl rfl rfl rfl rfl fun b p hb=>⟨gd,rfl,aZ.refl _,?_⟩))))) ?_
     ·obtain⟨rfl,rfl⟩:b0=b∧p0=p:=by simpa using hb
      rfl
     refine aw (ak (js:=[(7,47)]) (by kernel_rfl) fun gd hf=>ai rfl (aj (az rfl (dR (α:=bc) 0 rfl (hs.dr.call hf) rfl rfl (j:=U.length) gx rfl rfl rfl ⟨gd,rfl,aZ.refl _,rfl⟩)))) ?_
     refine aw (ak (js:=[(0,40),(4,44),(8,48)]) (by kernel_rfl) fun gd hf=>ai rfl (ai rfl (ai rfl (aj (az rfl (eA rfl rfl rfl rfl rfl rfl (hk gd (aq.trans ((G.bJ _).trans hf.le)) y x) fun g' v h1 h2=>⟨g',rfl,h1,h2⟩)))))) ?_
     exact Dz [[9]] [] hs (by kernel_rfl) rfl
    clear hs;intro g5 hs ah;replace aq:=G.le.trans aq ah
    apply cf
    cases j9:kl kf y x with
    |true=>
     refine aJ (b:=decide (qK (kf y) (kf x)<0)) (by rw[kT];exact j9) rfl ?_
     apply ar;refine Wp 3 rfl ?_;apply aD;apply bU
     refine fun a ha=>⟨hi-(md+1),by omega,md+1,hi,g5,rfl,hs,aq,by omega,h2,?_,h4,rfl,ha.keep ⟨rfl,rfl,rfl,rfl,rfl,kI rfl (by rw[wr (by omega) (by omega)];omega),rfl,trivial⟩⟩
     rw[DG]at j9
     intro t ht Qo
     by_cases BW:t=md
     ·subst BW;exact j9
     ·have:=List.pairwise_iff_getElem.1 Kq t md ht xV (by omega)
      rw[qt]at j9⊢;rw[iC]at this;omega
    |false=>
     refine aS (b:=decide (qK (kf y) (kf x)<0)) (by rw[kT];exact j9) rfl ?_
     apply ar;refine Wp 2 rfl ?_;apply aD;apply bU
     refine fun a ha=>⟨md-lo,by omega,lo,md,g5,rfl,hs,aq,by omega,by omega,h3,?_,rfl,ha.keep ⟨rfl,rfl,rfl,rfl,rfl,rfl,rfl,trivial⟩⟩
     rw[DG]at j9
     intro t ht Qo
     by_cases BW:t=md
     ·subst BW;exact j9
     ·have:=List.pairwise_iff_getElem.1 Kq md t xV ht (by omega)
      rw[iC]at j9 this⊢;omega
   ·refine aS (b:=decide (((U.length+1+lo:Nat):Int)<((U.length+1+hi:Nat):Int))) (by simp;omega) rfl ?_
    apply bE;apply bK;apply bK;apply dc;apply au;apply aB;refine aX rfl ?_;apply aG
    obtain rfl:lo=hi:=by omega
    have eY:=List.take_append_drop lo Y
    have M_:(Y.take lo).length=lo:=by rw[List.length_take];omega
    have hM:lE kf [x] Y=Y.take lo++x::Y.drop lo:=by
     have e:=Gc (k:=kf) (A:=Y.take lo) (B:=Y.drop lo) (x:=x) (fun a ha=>by
      obtain⟨t,ht,rfl⟩:=List.mem_iff_getElem.1 ha
      rw[List.getElem_take];exact h3 _ _ (by omega)) (fun b hb=>by
      obtain⟨t,ht,rfl⟩:=List.mem_iff_getElem.1 hb
      rw[List.getElem_drop];exact h4 _ _ (by omega))
     rw[eY]at e;exact e
    have er:U++[x]++Y++V=U++[]++x::(Y.take lo++(Y.drop lo++V)):=by
     conv=>lhs;rw[←eY]
     simp only[List.append_assoc,List.cons_append,List.nil_append]
    rw[er]at hs
    rw[hM]
    have OT:(Y.drop lo).length=Y.length-lo:=List.length_drop
    generalize Y.take lo=Y1 at hs M_
    generalize Y.drop lo=Y2 at hs OT
    have T_:(Y2++V).length=Y2.length+V.length:=List.length_append
    refine bS (fun m a' w=> ∃(A B:List bc) (g2:G),w=g2.w∧St g0 g2 (eP (ll tw) ad n c (U++A++x::(B++(Y2++V)))::L)∧G.le g g2∧Y1=A++B∧m=B.length∧
      Fr 220 [] [(0,.slice ad n c),(1,.int .i64 (U.length:Nat)),(2,.int .i64 (U.length+1:Nat)),(3,.int .i64 (U.length+1+Y.length:Nat)),(4,fo),(10,.int .i64 (U.length+1+lo:Nat)),(13,.int .i64 (U.length+A.length:Nat))] a') Y1.length
     (fun a' ha=>⟨[],Y1,g',rfl,hs,aq,by simp,rfl,ha.keep ⟨rfl,rfl,rfl,rfl,rfl,rfl,rfl,trivial⟩⟩) ?_
    clear hs aq
    rintro m a' _ ⟨A,B,g2,rfl,hs,aq,zm,rfl,eI⟩
    have sP:A.length+B.length=lo:=by rw[←List.length_append,←zm,M_]
    revert a'
    apply cQ;apply aB;refine aX rfl ?_
    cases B with
    |nil=>
     refine aS (b:=decide (((U.length+A.length:Nat):Int)<IntKind.i64.wrap (((U.length+1+lo:Nat):Int)-1))) (by rw[wr (by omega) (by omega)];simp only[List.length_nil]at sP;simp;omega) rfl ?_
     apply bE;apply bK;apply bK;apply dc;apply au
     refine aF (rR rfl (eu.intro aq ⟨rfl,?_⟩))
     rw[zm]
     simpa using hs
    |cons z B=>
     refine aJ (b:=decide (((U.length+A.length:Nat):Int)<IntKind.i64.wrap (((U.length+1+lo:Nat):Int)-1))) (by rw[wr (by omega) (by omega)];simp only[List.length_cons]at sP;simp;omega) rfl ?_
     simp only[List.length_cons]at sP
     obtain⟨b0,p0,rfl⟩: ∃b p,ad=some ⟨b,p,none⟩:=by
      rcases(hs.own 0 _ rfl).1.2 with⟨h0,_⟩|⟨b,off,cap,cur,hv,_⟩
      ·omega
      ·simp only[Value.slice.injEq]at hv;exact⟨b,off,hv.1⟩
     have ej:U.length+A.length=(U++A).length:=by rw[List.length_append]
     have eN:A++[z]=A++[z]:=rfl
     have zH:(U++A)++z::([]++x::(B++(Y2++V)))=U++(A++[z])++x::(B++(Y2++V)):=by simp
     have Qp:U++A++x::(z::B++(Y2++V))=(U++A)++x::([]++z::(B++(Y2++V))):=rfl
     rw[Qp]at hs
     rw[ej]
     have Gb:(U++A).length=U.length+A.length:=List.length_append
     generalize U++A=X at hs Gb zH
     have Sq:(X++x::([]++z::(B++(Y2++V)))).length=n:=by rw[List.length_append,Gb];simp only[List.length_cons,List.length_append,List.length_nil];omega
     have gx:(X++x::([]++z::(B++(Y2++V))))[X.length]? =some x:=by simp
     have gz:(X++x::([]++z::(B++(Y2++V))))[X.length+1]? =some z:=wx X [] _ x z
     apply aE;apply au;apply aB;apply aG
     apply pw (gE (.e (.int .i64 (X.length+1:Nat))::eJ (.e (.int .i64 (X.length+1:Nat))::gE (eJ (fe [.f Fact.any]))))) 16 [(2,63),(4,65),(13,74)] [15] [[0,1,5,6,7,8,9,10,11,12,13,14]]
      (fun s=>match s with|0=>eP (ll tw) (some ⟨b0,p0,none⟩) n c (X++x::([]++z::(B++(Y2++V))))::L|_+1=>eP (ll tw) (some ⟨b0,p0,none⟩) n c ((X++x::([]++z::(B++(Y2++V)))).set X.length z)::L) hs (by kernel_rfl) ⟨cY,trivial⟩
     ·refine Lm [[],[],[],[]] [] (by kernel_rfl) rfl ?_
      refine dk (my (js:=[(3,64)]) (by kernel_rfl) rfl fun s g' _ _ _ hf _=>ai rfl (aj (az rfl (aM _ T.ok rfl ⟨g',rfl,aZ.refl _,?_⟩)))) ?_
      ·exact congrArg (Value.int .i64) (by rw[wr (by omega) (by omega)];omega)
      refine Lm [[],[]] [] (by kernel_rfl) rfl ?_
      refine dk (my (js:=[(6,67)]) (by kernel_rfl) rfl fun s g' _ _ _ hf _=>ai rfl (aj (az rfl (aM _ T.ok rfl ⟨g',rfl,aZ.refl _,?_⟩)))) ?_
      ·exact congrArg (Value.int .i64) (by rw[wr (by omega) (by omega)];omega)
      refine dk (kM 0 0 (js:=[(5,66),(7,68)]) (by kernel_rfl) (by kernel_rfl) ?_) ?_
      ·intro s g' _ h1 hf hJ
       obtain rfl:s=0:=by omega
       refine ai rfl (ai rfl (aj (az rfl (cZ (α:=bc) 0 rfl hJ rfl (by omega) (by omega) rfl rfl rfl rfl rfl rfl fun b p hb=>⟨g',rfl,aZ.refl _,?_⟩))))
       obtain⟨rfl,rfl⟩:b0=b∧p0=p:=by simpa using hb
       rfl
      refine dk (kM 0 0 (js:=[(8,69)]) (by kernel_rfl) (by kernel_rfl) ?_) ?_
      ·intro s g' _ h1 hf hJ
       obtain rfl:s=0:=by omega
       exact ai rfl (aj (az rfl (dR (α:=bc) 0 rfl hJ rfl rfl (j:=X.length+1) gz rfl rfl rfl ⟨g',rfl,aZ.refl _,rfl⟩)))
      refine Lm [[],[]] [] (by kernel_rfl) rfl ?_
      refine dk (kM 0 0 (js:=[(10,71),(11,72)]) (by kernel_rfl) (by kernel_rfl) ?_) ?_
      ·intro s g' _ h1 hf hJ
       obtain rfl:s=0:=by omega
       refine ai rfl (ai rfl (aj (az rfl (cZ (α:=bc) 0 rfl hJ rfl (by omega) (by omega) rfl rfl rfl rfl rfl rfl fun b p hb=>⟨g',rfl,aZ.refl _,?_⟩))))
       obtain⟨rfl,rfl⟩:b0=b∧p0=p:=by simpa using hb
       rfl
      refine dk (kM 0 0 (js:=[(12,73)]) (by kernel_rfl) (by kernel_rfl) ?_) ?_
      ·intro s g' _ h1 hf hJ
       obtain rfl:s=0:=by omega
       exact ai rfl (aj (az rfl (dR (α:=bc) 0 rfl hJ rfl rfl (j:=X.length) gx rfl rfl rfl ⟨g',rfl,aZ.refl _,rfl⟩)))
      refine dk (kM 0 0 (js:=[(0,61),(1,62),(0,61),(1,62)]) (by kernel_rfl) (by kernel_rfl) ?_) ?_
      ·intro s g' _ h1 hf hJ
       obtain rfl:s=0:=by omega
       refine ai rfl (ai rfl (ai rfl (ai rfl (aj (az rfl (cZ (α:=bc) 0 rfl hJ rfl (by omega) (by omega) rfl rfl rfl rfl rfl rfl fun b p hb=>⟨g',rfl,aZ.refl _,?_⟩))))))
       obtain⟨rfl,rfl⟩:b0=b∧p0=p:=by simpa using hb
       rfl
      refine dk (vk 0 (js:=[(14,75),(9,70),(9,70)]) (by kernel_rfl) rfl fun g' hf hJ=>ai rfl (ai rfl (ai rfl (aj (qL rfl (fZ (α:=bc) 0 rfl hJ rfl rfl rfl (v:=z) (j:=X.length) (by omega) rfl rfl fun g3 hs hle=>⟨g3,rfl,⟨hle,hs⟩,trivial⟩)))))) ?_
      exact xT
     clear hs;intro g6 hs ah;replace aq:=G.le.trans aq ah
     refine ai rfl (ai rfl (ai rfl (aj ?_)))
     refine an rfl rfl (cZ (α:=bc) 0 rfl hs rfl (by omega) (by omega) rfl rfl rfl rfl rfl rfl fun b p hb=>?_)
     obtain⟨rfl,rfl⟩:b0=b∧p0=p:=by simpa using hb
     refine bg rfl (fZ (α:=bc) 0 rfl hs rfl rfl rfl (v:=x) (j:=X.length+1) (by rw[List.length_set];omega) rfl rfl ?_)
     clear hs;intro g7 hs ah;replace aq:=G.le.trans aq ah
     replace hs:St g0 g7 (eP (ll tw) (some ⟨b0,p0,none⟩) n c (((X++x::([]++z::(B++(Y2++V)))).set X.length z).set (X.length+1+([]:List bc).length) x)::L):=hs
     rw[xU,zH]at hs
     apply aD;apply bU;apply au;apply ar;refine Wp 3 rfl ?_;apply aD
     exact fun a ha=>⟨B.length,by simp,A++[z],B,g7,rfl,hs,aq,by rw[zm];simp,rfl,ha.keep ⟨rfl,rfl,rfl,rfl,rfl,rfl,kI rfl (by rw[wr (by omega) (by omega),List.length_append,List.length_singleton];omega),trivial⟩⟩
  ·refine aS (b:=IntKind.i64.wrap (((U.length+X.length:Nat):Int)-(U.length:Nat))==1) (by rw[wr (by omega) (by omega)];simp;omega) rfl ?_
   apply aE;apply au;apply aB;refine aX rfl ?_
   by_cases Ua:Y.length=1
   ·refine aJ (b:=IntKind.i64.wrap (((U.length+X.length+Y.length:Nat):Int)-(U.length+X.length:Nat))==1) (by rw[wr (by omega) (by omega)];simp;omega) rfl ?_
    obtain⟨y,rfl⟩:=List.length_eq_one_iff.1 Ua
    simp only[List.length_singleton]at*
    refine aX rfl ?_;refine aX rfl ?_;apply aB;apply aG
    refine bS (fun m a' w=> ∃(lo hi:Nat) (g':G),w=g'.w∧St g0 g' (eP (ll tw) ad n c (U++X++[y]++V)::L)∧G.le g g'∧lo≤hi∧hi≤X.length∧(∀t (h:t<X.length),t<lo→kl kf y X[t]=false)∧(∀t (h:t<X.length),hi≤t→kl kf y X[t]=true)∧m=hi-lo∧
      Fr 220 [] [(0,.slice ad n c),(1,.int .i64 (U.length:Nat)),(2,.int .i64 (U.length+X.length:Nat)),(3,.int .i64 (U.length+X.length+1:Nat)),(4,fo),(14,.int .i64 (U.length+lo:Nat)),(15,.int .i64 (U.length+hi:Nat))] a') X.length
     (fun a' ha=>⟨0,X.length,g,rfl,hs,aq,by omega,by omega,by intros;omega,by intros;omega,rfl,ha.keep ⟨rfl,rfl,rfl,rfl,rfl,rfl,rfl,trivial⟩⟩) ?_
    clear hs aq
    rintro m a' _ ⟨lo,hi,g',rfl,hs,aq,h1,h2,h3,h4,rfl,eI⟩
    revert a'
    apply cQ;apply aB;refine aX rfl ?_
    by_cases bh:lo<hi
    ·refine aJ (b:=decide (((U.length+lo:Nat):Int)<((U.length+hi:Nat):Int))) (by simp;omega) rfl ?_
     apply aE;apply au;apply aG;refine aX rfl ?_;apply aB
     obtain⟨md,Sr⟩: ∃md,md=(lo+hi)/2:=⟨_,rfl⟩
     have Kr:lo≤md:=by omega
     have Ss:md<hi:=by omega
     have xV:md<X.length:=by omega
     refine oG (l':=[(0,.slice ad n c),(1,.int .i64 (U.length:Nat)),(2,.int .i64 (U.length+X.length:Nat)),(3,.int .i64 (U.length+X.length+1:Nat)),(4,fo),(14,.int .i64 (U.length+lo:Nat)),(15,.int .i64 (U.length+hi:Nat)),(16,.int .i64 (U.length+md:Nat))]) ⟨rfl,rfl,rfl,rfl,rfl,rfl,rfl,kI rfl ((Gd (by omega)).trans (by omega)),trivial⟩ ?_
     obtain⟨b0,p0,rfl⟩: ∃b p,ad=some ⟨b,p,none⟩:=by
      rcases(hs.own 0 _ rfl).1.2 with⟨h0,_⟩|⟨b,off,cap,cur,hv,_⟩
      ·omega
      ·simp only[Value.slice.injEq]at hv;exact⟨b,off,hv.1⟩
     have gy:(U++X++[y]++V)[U.length+X.length]? =some y:=by
      rw[List.append_assoc,List.getElem?_append_right (by rw[List.length_append];omega),List.length_append,Nat.sub_self];rfl
     have gx:(U++X++[y]++V)[U.length+md]? =some X[md]:=by
      rw[List.append_assoc,List.append_assoc,List.getElem?_append_right (by omega),Nat.add_sub_cancel_left,List.getElem?_append_left xV,List.getElem?_eq_getElem xV]
     obtain⟨x,DG⟩: ∃x,x=X[md]:=⟨_,rfl⟩
     rw[←DG]at gx
     apply bO hs (fj (gE [])) 12 [(11,103)] (by kernel_rfl) rfl
     ·refine Dm [[],[],[]] [] hs (by kernel_rfl) rfl ?_
      refine aw (ak (js:=[(1,93),(2,94)]) (by kernel_rfl) fun gd hf=>ai rfl (ai rfl (aj (az rfl (cZ (α:=bc) 0 rfl (hs.dr.call hf) rfl (by omega) (by omega) rfl rfl rfl rfl rfl rfl fun b p hb=>⟨gd,rfl,aZ.refl _,?_⟩))))) ?_
      ·obtain⟨rfl,rfl⟩:b0=b∧p0=p:=by simpa using hb
       rfl
      refine aw (ak (js:=[(3,95)]) (by kernel_rfl) fun gd hf=>ai rfl (aj (az rfl (dR (α:=bc) 0 rfl (hs.dr.call hf) rfl rfl (j:=U.length+X.length) gy rfl rfl rfl ⟨gd,rfl,aZ.refl _,rfl⟩)))) ?_
      refine Dm [[],[]] [] hs (by kernel_rfl) rfl ?_
      refine aw (ak (js:=[(5,97),(6,98)]) (by kernel_rfl) fun gd hf=>ai rfl (ai rfl (aj (az rfl (cZ (α:=bc) 0 rfl (hs.dr.call hf) rfl (by omega) (by omega) rfl rfl rfl rfl rfl rfl fun b p hb=>⟨gd,rfl,aZ.refl _,?_⟩))))) ?_
      ·obtain⟨rfl,rfl⟩:b0=b∧p0=p:=by simpa using hb
       rfl
      refine aw (ak (js:=[(7,99)]) (by kernel_rfl) fun gd hf=>ai rfl (aj (az rfl (dR (α:=bc) 0 rfl (hs.dr.call hf) rfl rfl (j:=U.length+md) gx rfl rfl rfl ⟨gd,rfl,aZ.refl _,rfl⟩)))) ?_
      refine aw (ak (js:=[(0,92),(4,96),(8,100)]) (by kernel_rfl) fun gd hf=>ai rfl (ai rfl (ai rfl (aj (az rfl (eA rfl rfl rfl rfl rfl rfl (hk gd (aq.trans ((G.bJ _).trans hf.le)) y x) fun g' v h1 h2=>⟨g',rfl,h1,h2⟩)))))) ?_
      exact Dz [[9],[10]] [] hs (by kernel_rfl) rfl
     clear hs;intro g5 hs ah;replace aq:=G.le.trans aq ah
     apply cf
     cases j9:kl kf y x with
     |false=>
      refine aJ (b:=!decide (qK (kf y) (kf x)<0)) (by rw[kT,j9];rfl) rfl ?_
      apply ar;refine Wp 3 rfl ?_;apply aD;apply bU
      refine fun a ha=>⟨hi-(md+1),by omega,md+1,hi,g5,rfl,hs,aq,by omega,h2,?_,h4,rfl,ha.keep ⟨rfl,rfl,rfl,rfl,rfl,kI rfl (by rw[wr (by omega) (by omega)];omega),rfl,trivial⟩⟩
      rw[DG]at j9
      intro t ht Qo
      by_cases BW:t=md
      ·subst BW;exact j9
      ·have:=List.pairwise_iff_getElem.1 Yq t md ht xV (by omega)
       rw[iC]at j9 this⊢;omega
     |true=>
      refine aS (b:=!decide (qK (kf y) (kf x)<0)) (by rw[kT,j9];rfl) rfl ?_
      apply ar;refine Wp 2 rfl ?_;apply aD;apply bU
      refine fun a ha=>⟨md-lo,by omega,lo,md,g5,rfl,hs,aq,by omega,by omega,h3,?_,rfl,ha.keep ⟨rfl,rfl,rfl,rfl,rfl,rfl,rfl,trivial⟩⟩
      rw[DG]at j9
      intro t ht Qo
      by_cases BW:t=md
      ·subst BW;exact j9
      ·have:=List.pairwise_iff_getElem.1 Yq md t xV ht (by omega)
       rw[qt]at j9⊢;rw[iC]at this;omega
    ·refine aS (b:=decide (((U.length+lo:Nat):Int)<((U.length+hi:Nat):Int))) (by simp;omega) rfl ?_
     apply bE;apply bK;apply bK;apply dc;apply au;apply aB;refine aX rfl ?_;apply aG
     obtain rfl:lo=hi:=by omega
     have eX:=List.take_append_drop lo X
     have M':(X.take lo).length=lo:=by rw[List.length_take];omega
     have hM:lE kf X [y]=X.take lo++y::X.drop lo:=by
      have e:=wv (k:=kf) (A:=X.take lo) (B:=X.drop lo) (x:=y) (fun a ha=>by
       obtain⟨t,ht,rfl⟩:=List.mem_iff_getElem.1 ha
       rw[List.getElem_take];exact h3 _ _ (by omega)) (fun b hb=>by
       obtain⟨t,ht,rfl⟩:=List.mem_iff_getElem.1 hb
       rw[List.getElem_drop];exact h4 _ _ (by omega))
      rw[eX]at e;exact e
     have er:U++X++[y]++V=U++X.take lo++X.drop lo++y::([]++V):=by
      conv=>lhs;rw[←eX]
      simp only[List.append_assoc,List.cons_append,List.nil_append]
     rw[er]at hs
     rw[hM]
     have Ks:(X.drop lo).length=X.length-lo:=List.length_drop
     generalize X.take lo=X1 at hs M'
     generalize X.drop lo=X2 at hs Ks
     refine bS (fun m a' w=> ∃(A B:List bc) (g2:G),w=g2.w∧St g0 g2 (eP (ll tw) ad n c (U++X1++A++y::(B++V))::L)∧G.le g g2∧X2=A++B∧m=A.length∧
       Fr 220 [] [(0,.slice ad n c),(1,.int .i64 (U.length:Nat)),(2,.int .i64 (U.length+X.length:Nat)),(3,.int .i64 (U.length+X.length+1:Nat)),(4,fo),(14,.int .i64 (U.length+lo:Nat)),(17,.int .i64 (U.length+lo+A.length:Nat))] a') X2.length
      (fun a' ha=>⟨X2,[],g',rfl,hs,aq,by simp,rfl,ha.keep ⟨rfl,rfl,rfl,rfl,rfl,rfl,kI rfl (by rw[Ks];omega),trivial⟩⟩) ?_
     clear hs aq
     rintro m a' _ ⟨A,B,g2,rfl,hs,aq,zm,rfl,eI⟩
     have sP:A.length+B.length=X.length-lo:=by rw[←List.length_append,←zm,Ks]
     revert a'
     rcases List.eq_nil_or_concat A with rfl|⟨A,z,rfl⟩
     ·apply cQ;apply aB;refine aX rfl ?_
      refine aS (b:=decide (((U.length+lo:Nat):Int)<((U.length+lo+([]:List bc).length:Nat):Int))) (by simp) rfl ?_
      apply bE;apply bK;apply bK;apply dc;apply au
      refine aF (rR rfl (eu.intro aq ⟨rfl,?_⟩))
      rw[zm]
      simpa using hs
     ·rw[List.concat_eq_append]at*
      simp only[List.length_append,List.length_singleton]at sP
      obtain⟨b0,p0,rfl⟩: ∃b p,ad=some ⟨b,p,none⟩:=by
       rcases(hs.own 0 _ rfl).1.2 with⟨h0,_⟩|⟨b,off,cap,cur,hv,_⟩
       ·omega
       ·simp only[Value.slice.injEq]at hv;exact⟨b,off,hv.1⟩
      have Qp:U++X1++(A++[z])++y::(B++V)=(U++X1++A)++z::y::(B++V):=by simp
      rw[Qp]at hs
      have Gb:(U++X1++A).length=U.length+lo+A.length:=by rw[List.length_append,List.length_append,M']
      have ej:U.length+lo+(A++[z]).length=(U++X1++A).length+1:=by rw[Gb,List.length_append];rfl
      rw[ej]
      generalize hW:U++X1++A=W0 at hs Gb
      have Sq:(W0++z::y::(B++V)).length=n:=by rw[List.length_append,Gb];simp only[List.length_cons,List.length_append];omega
      have gz:(W0++z::y::(B++V))[W0.length]? =some z:=by simp
      have gy:(W0++z::y::(B++V))[W0.length+1]? =some y:=wx W0 [] _ z y
      apply cQ;apply aB;refine aX rfl ?_
      refine aJ (b:=decide (((U.length+lo:Nat):Int)<((W0.length+1:Nat):Int))) (by simp;omega) rfl ?_
      apply aE;apply au;apply aB;apply aG
      apply pw (gE (.e (.int .i64 (W0.length:Nat))::eJ (.e (.int .i64 (W0.length:Nat))::gE (eJ (fe [.f Fact.any]))))) 16 [(2,115),(4,117),(13,126)] [15] [[0,1,5,6,7,8,9,10,11,12,13,14]]
       (fun s=>match s with|0=>eP (ll tw) (some ⟨b0,p0,none⟩) n c (W0++z::y::(B++V))::L|_+1=>eP (ll tw) (some ⟨b0,p0,none⟩) n c ((W0++z::y::(B++V)).set (W0.length+1) z)::L) hs (by kernel_rfl) ⟨cY,trivial⟩
      ·refine Lm [[],[],[],[]] [] (by kernel_rfl) rfl ?_
       refine dk (my (js:=[(3,116)]) (by kernel_rfl) rfl fun s g' _ _ _ hf _=>ai rfl (aj (az rfl (aM _ T.ok rfl ⟨g',rfl,aZ.refl _,?_⟩)))) ?_
       ·exact congrArg (Value.int .i64) (by rw[wr (by omega) (by omega)];omega)
       refine Lm [[],[]] [] (by kernel_rfl) rfl ?_
       refine dk (my (js:=[(6,119)]) (by kernel_rfl) rfl fun s g' _ _ _ hf _=>ai rfl (aj (az rfl (aM _ T.ok rfl ⟨g',rfl,aZ.refl _,?_⟩)))) ?_
       ·exact congrArg (Value.int .i64) (by rw[wr (by omega) (by omega)];omega)
       refine dk (kM 0 0 (js:=[(5,118),(7,120)]) (by kernel_rfl) (by kernel_rfl) ?_) ?_
       ·intro s g' _ h1 hf hJ
        obtain rfl:s=0:=by omega
        refine ai rfl (ai rfl (aj (az rfl (cZ (α:=bc) 0 rfl hJ rfl (by omega) (by omega) rfl rfl rfl rfl rfl rfl fun b p hb=>⟨g',rfl,aZ.refl _,?_⟩))))
        obtain⟨rfl,rfl⟩:b0=b∧p0=p:=by simpa using hb
        rfl
       refine dk (kM 0 0 (js:=[(8,121)]) (by kernel_rfl) (by kernel_rfl) ?_) ?_
       ·intro s g' _ h1 hf hJ
        obtain rfl:s=0:=by omega
        exact ai rfl (aj (az rfl (dR (α:=bc) 0 rfl hJ rfl rfl (j:=W0.length) gz rfl rfl rfl ⟨g',rfl,aZ.refl _,rfl⟩)))
       refine Lm [[],[]] [] (by kernel_rfl) rfl ?_
       refine dk (kM 0 0 (js:=[(10,123),(11,124)]) (by kernel_rfl) (by kernel_rfl) ?_) ?_
       ·intro s g' _ h1 hf hJ
        obtain rfl:s=0:=by omega
        refine ai rfl (ai rfl (aj (az rfl (cZ (α:=bc) 0 rfl hJ rfl (by omega) (by omega) rfl rfl rfl rfl rfl rfl fun b p hb=>⟨g',rfl,aZ.refl _,?_⟩))))
        obtain⟨rfl,rfl⟩:b0=b∧p0=p:=by simpa using hb
        rfl
       refine dk (kM 0 0 (js:=[(12,125)]) (by kernel_rfl) (by kernel_rfl) ?_) ?_
       ·intro s g' _ h1 hf hJ
        obtain rfl:s=0:=by omega
        exact ai rfl (aj (az rfl (dR (α:=bc) 0 rfl hJ rfl rfl (j:=W0.length+1) gy rfl rfl rfl ⟨g',rfl,aZ.refl _,rfl⟩)))
       refine dk (kM 0 0 (js:=[(0,113),(1,114),(0,113),(1,114)]) (by kernel_rfl) (by kernel_rfl) ?_) ?_
       ·intro s g' _ h1 hf hJ
        obtain rfl:s=0:=by omega
        refine ai rfl (ai rfl (ai rfl (ai rfl (aj (az rfl (cZ (α:=bc) 0 rfl hJ rfl (by omega) (by omega) rfl rfl rfl rfl rfl rfl fun b p hb=>⟨g',rfl,aZ.refl _,?_⟩))))))
        obtain⟨rfl,rfl⟩:b0=b∧p0=p:=by simpa using hb
        rfl
       refine dk (vk 0 (js:=[(14,127),(9,122),(9,122)]) (by kernel_rfl) rfl fun g' hf hJ=>ai rfl (ai rfl (ai rfl (aj (qL rfl (fZ (α:=bc) 0 rfl hJ rfl rfl rfl (v:=z) (j:=W0.length+1) (by omega) rfl rfl fun g3 hs hle=>⟨g3,rfl,⟨hle,hs⟩,trivial⟩)))))) ?_
       exact xT
      clear hs;intro g6 hs ah;replace aq:=G.le.trans aq ah
      refine ai rfl (ai rfl (ai rfl (aj ?_)))
      refine an rfl rfl (cZ (α:=bc) 0 rfl hs rfl (by omega) (by omega) rfl rfl rfl rfl rfl rfl fun b p hb=>?_)
      obtain⟨rfl,rfl⟩:b0=b∧p0=p:=by simpa using hb
      refine bg rfl (fZ (α:=bc) 0 rfl hs rfl rfl rfl (v:=y) (j:=W0.length) (by rw[List.length_set];omega) rfl rfl ?_)
      clear hs;intro g7 hs ah;replace aq:=G.le.trans aq ah
      replace hs:St g0 g7 (eP (ll tw) (some ⟨b0,p0,none⟩) n c (((W0++z::y::(B++V)).set (W0.length+1) z).set W0.length y)::L):=hs
      rw[xS,←hW]at hs
      apply aD;apply bU;apply au;apply ar;refine Wp 3 rfl ?_;apply aD
      exact fun a ha=>⟨A.length,by simp,A,z::B,g7,rfl,hs,aq,by rw[zm];simp,rfl,ha.keep ⟨rfl,rfl,rfl,rfl,rfl,rfl,kI rfl (by rw[wr (by omega) (by omega)];omega),trivial⟩⟩
   ·refine aS (b:=IntKind.i64.wrap (((U.length+X.length+Y.length:Nat):Int)-(U.length+X.length:Nat))==1) (by rw[wr (by omega) (by omega)];simp;omega) rfl ?_
    apply aE;apply au;(iterate 3 refine aX rfl ?_);apply aB;refine aX rfl ?_
    obtain⟨h,hh⟩: ∃h,h=(X.length+Y.length)/2:=⟨_,rfl⟩
    have hU:U.length≤1000000000:=by omega
    have DH:IntKind.i64.wrap (cG .u64 (IntKind.u64.wrap (IntKind.i64.wrap (((U.length:Nat):Int)+((U.length+X.length+Y.length:Nat):Int)))) 1)=((U.length+h:Nat):Int):=(Gd (by omega)).trans (by omega)
    refine oG (l':=[(0,.slice ad n c),(1,.int .i64 (U.length:Nat)),(2,.int .i64 (U.length+X.length:Nat)),(3,.int .i64 (U.length+X.length+Y.length:Nat)),(4,fo),(18,.int .i64 (U.length+h:Nat)),(19,.int .i64 (U.length+h+(U.length+X.length):Nat)),(20,.int .i64 0),(21,.int .i64 0),(140,.bool (decide (((U.length+h:Nat):Int)<((U.length+X.length:Nat):Int))))])
     ⟨rfl,rfl,rfl,rfl,rfl,kI rfl DH,kI rfl ((congrArg (fun z:Int=>IntKind.i64.wrap (z+((U.length+X.length:Nat):Int))) DH).trans (by show IntKind.i64.wrap _=_;rw[wr (by omega) (by omega)];omega)),rfl,rfl,congrArg (fun z:Int=>some (Value.bool (decide (z<((U.length+X.length:Nat):Int))))) DH,trivial⟩ ?_
    refine lL (fun a' w=>w=g.w∧ ∃p q,p≤q∧q≤h∧q≤X.length∧h≤p+Y.length∧(∀u v,0<p→X[p-1]? =some u→Y[h-p]? =some v→kl kf v u=false)∧(∀u v,q<h→X[q]? =some u→Y[h-1-q]? =some v→kl kf v u=true)∧
      Fr 220 [] [(0,.slice ad n c),(1,.int .i64 (U.length:Nat)),(2,.int .i64 (U.length+X.length:Nat)),(3,.int .i64 (U.length+X.length+Y.length:Nat)),(4,fo),(18,.int .i64 (U.length+h:Nat)),(19,.int .i64 (U.length+h+(U.length+X.length):Nat)),(20,.int .i64 (U.length+p:Nat)),(21,.int .i64 (U.length+q:Nat))] a') ?_ ?_
    ·by_cases Ub:h<X.length
     ·refine aJ (b:=decide (((U.length+h:Nat):Int)<((U.length+X.length:Nat):Int))) (by simp;omega) rfl ?_
      refine aX rfl ?_;apply ar;refine Wp 2 rfl ?_;apply aD
      exact fun a ha=>⟨rfl,h-Y.length,h,by omega,by omega,by omega,by omega,fun u v _ _ hv=>(by rw[List.getElem?_eq_none (by omega)]at hv;cases hv),fun u v hq=>absurd hq (by omega),ha.keep ⟨rfl,rfl,rfl,rfl,rfl,rfl,rfl,kI rfl (by rw[wr (by omega) (by omega)];omega),rfl,trivial⟩⟩
     ·refine aS (b:=decide (((U.length+h:Nat):Int)<((U.length+X.length:Nat):Int))) (by simp;omega) rfl ?_
      refine aX rfl ?_;apply ar;refine Wp 2 rfl ?_;apply aD
      exact fun a ha=>⟨rfl,0,X.length,by omega,by omega,by omega,by omega,fun u v hp=>absurd hp (by omega),fun u v _ hu=>(by rw[List.getElem?_eq_none (by omega)]at hu;cases hu),ha.keep ⟨rfl,rfl,rfl,rfl,rfl,rfl,rfl,rfl,rfl,trivial⟩⟩
    rintro a' _ ⟨rfl,p,q,h1,h2,h3,h4,i1,i2,eI⟩
    revert a'
    apply cQ;refine aX rfl ?_;apply aB;apply aG
    have Qq:=aq
    refine bS (fun m a' w=> ∃(p q:Nat) (g':G),w=g'.w∧St g0 g' (eP (ll tw) ad n c (U++X++Y++V)::L)∧G.le g g'∧p≤q∧q≤h∧q≤X.length∧h≤p+Y.length∧(∀u v,0<p→X[p-1]? =some u→Y[h-p]? =some v→kl kf v u=false)∧(∀u v,q<h→X[q]? =some u→Y[h-1-q]? =some v→kl kf v u=true)∧m=q-p∧
      Fr 220 [] [(0,.slice ad n c),(1,.int .i64 (U.length:Nat)),(2,.int .i64 (U.length+X.length:Nat)),(3,.int .i64 (U.length+X.length+Y.length:Nat)),(4,fo),(18,.int .i64 (U.length+h:Nat)),(19,.int .i64 (U.length+h+(U.length+X.length):Nat)),(20,.int .i64 (U.length+p:Nat)),(21,.int .i64 (U.length+q:Nat)),(22,.int .i64 (U.length+h+(U.length+X.length)-1:Nat))] a') (q-p)
     (fun a' ha=>⟨p,q,g,rfl,hs,aq,h1,h2,h3,h4,i1,i2,rfl,ha.keep ⟨rfl,rfl,rfl,rfl,rfl,rfl,rfl,rfl,rfl,kI rfl (by rw[wr (by omega) (by omega)];omega),trivial⟩⟩) ?_
    clear hs aq i1 i2 h1 h2 h3 h4 p q
    rintro m a' _ ⟨p,q,g',rfl,hs,aq,h1,h2,h3,h4,i1,i2,rfl,eI⟩
    revert a'
    apply cQ;apply aB;refine aX rfl ?_
    by_cases bh:p<q
    ·refine aJ (b:=decide (((U.length+p:Nat):Int)<((U.length+q:Nat):Int))) (by simp;omega) rfl ?_
     apply aE;apply au;apply aG;refine aX rfl ?_;apply aB
     obtain⟨md,Sr⟩: ∃md,md=(p+q)/2:=⟨_,rfl⟩
     have Kr:p≤md:=by omega
     have Ss:md<q:=by omega
     have DI:md<X.length:=by omega
     have xV:h-1-md<Y.length:=by omega
     refine oG (l':=[(0,.slice ad n c),(1,.int .i64 (U.length:Nat)),(2,.int .i64 (U.length+X.length:Nat)),(3,.int .i64 (U.length+X.length+Y.length:Nat)),(4,fo),(18,.int .i64 (U.length+h:Nat)),(19,.int .i64 (U.length+h+(U.length+X.length):Nat)),(20,.int .i64 (U.length+p:Nat)),(21,.int .i64 (U.length+q:Nat)),(22,.int .i64 (U.length+h+(U.length+X.length)-1:Nat)),(23,.int .i64 (U.length+md:Nat))]) ⟨rfl,rfl,rfl,rfl,rfl,rfl,rfl,rfl,rfl,rfl,kI rfl ((Gd (by omega)).trans (by omega)),trivial⟩ ?_
     obtain⟨b0,p0,rfl⟩: ∃b p,ad=some ⟨b,p,none⟩:=by
      rcases(hs.own 0 _ rfl).1.2 with⟨h0,_⟩|⟨b,off,cap,cur,hv,_⟩
      ·omega
      ·simp only[Value.slice.injEq]at hv;exact⟨b,off,hv.1⟩
     have gx:(U++X++Y++V)[U.length+md]? =some X[md]:=by
      rw[List.append_assoc,List.append_assoc,List.getElem?_append_right (by omega),Nat.add_sub_cancel_left,List.getElem?_append_left DI,List.getElem?_eq_getElem DI]
     have gy:(U++X++Y++V)[U.length+X.length+(h-1-md)]? =some Y[h-1-md]:=by
      rw[List.append_assoc,List.getElem?_append_right (by rw[List.length_append];omega),List.length_append,Nat.add_sub_cancel_left,List.getElem?_append_left xV,List.getElem?_eq_getElem xV]
     obtain⟨x,I7⟩: ∃x,x=X[md]:=⟨_,rfl⟩
     obtain⟨y,DG⟩: ∃y,y=Y[h-1-md]:=⟨_,rfl⟩
     rw[←I7]at gx
     rw[←DG]at gy
     apply bO hs (gE (.e (.int .i64 (U.length+X.length+(h-1-md):Nat))::fj (fe []))) 14 [(13,171)] (by kernel_rfl) rfl
     ·refine Dm [[],[],[],[]] [] hs (by kernel_rfl) rfl ?_
      refine aw (ak (js:=[(2,160),(3,161)]) (by kernel_rfl) fun gd hf=>ai rfl (ai rfl (aj (az rfl (aM _ T.ok rfl ⟨gd,rfl,aZ.refl _,?_⟩))))) ?_
      ·exact congrArg (Value.int .i64) (by rw[wr (by omega) (by omega)];omega)
      refine aw (ak (js:=[(1,159),(4,162)]) (by kernel_rfl) fun gd hf=>ai rfl (ai rfl (aj (az rfl (cZ (α:=bc) 0 rfl (hs.dr.call hf) rfl (by omega) (by omega) rfl rfl rfl rfl rfl rfl fun b p hb=>⟨gd,rfl,aZ.refl _,?_⟩))))) ?_
      ·obtain⟨rfl,rfl⟩:b0=b∧p0=p:=by simpa using hb
       rfl
      refine aw (ak (js:=[(5,163)]) (by kernel_rfl) fun gd hf=>ai rfl (aj (az rfl (dR (α:=bc) 0 rfl (hs.dr.call hf) rfl rfl (j:=U.length+X.length+(h-1-md)) gy rfl rfl rfl ⟨gd,rfl,aZ.refl _,rfl⟩)))) ?_
      refine Dm [[],[]] [] hs (by kernel_rfl) rfl ?_
      refine aw (ak (js:=[(7,165),(8,166)]) (by kernel_rfl) fun gd hf=>ai rfl (ai rfl (aj (az rfl (cZ (α:=bc) 0 rfl (hs.dr.call hf) rfl (by omega) (by omega) rfl rfl rfl rfl rfl rfl fun b p hb=>⟨gd,rfl,aZ.refl _,?_⟩))))) ?_
      ·obtain⟨rfl,rfl⟩:b0=b∧p0=p:=by simpa using hb
       rfl
      refine aw (ak (js:=[(9,167)]) (by kernel_rfl) fun gd hf=>ai rfl (aj (az rfl (dR (α:=bc) 0 rfl (hs.dr.call hf) rfl rfl (j:=U.length+md) gx rfl rfl rfl ⟨gd,rfl,aZ.refl _,rfl⟩)))) ?_
      refine aw (ak (js:=[(0,158),(6,164),(10,168)]) (by kernel_rfl) fun gd hf=>ai rfl (ai rfl (ai rfl (aj (az rfl (eA rfl rfl rfl rfl rfl rfl (hk gd (aq.trans ((G.bJ _).trans hf.le)) y x) fun g' v h1 h2=>⟨g',rfl,h1,h2⟩)))))) ?_
      exact Dz [[11],[12]] [] hs (by kernel_rfl) rfl
     clear hs;intro g5 hs ah;replace aq:=G.le.trans aq ah
     apply cf
     cases j9:kl kf y x with
     |false=>
      refine aJ (b:=!decide (qK (kf y) (kf x)<0)) (by rw[kT,j9];rfl) rfl ?_
      apply ar;refine Wp 3 rfl ?_;apply aD;apply bU
      refine fun a ha=>⟨q-(md+1),by omega,md+1,q,g5,rfl,hs,aq,by omega,h2,h3,by omega,?_,i2,rfl,ha.keep ⟨rfl,rfl,rfl,rfl,rfl,rfl,rfl,kI rfl (by rw[wr (by omega) (by omega)];omega),rfl,rfl,trivial⟩⟩
      intro u v _ hu hv
      rw[Nat.add_sub_cancel,List.getElem?_eq_getElem DI]at hu
      rw[show h-(md+1)=h-1-md from by omega,List.getElem?_eq_getElem xV]at hv
      obtain rfl:=Option.some.inj hu;obtain rfl:=Option.some.inj hv
      rw[I7,DG]at j9;exact j9
     |true=>
      refine aS (b:=!decide (qK (kf y) (kf x)<0)) (by rw[kT,j9];rfl) rfl ?_
      apply ar;refine Wp 2 rfl ?_;apply aD;apply bU
      refine fun a ha=>⟨md-p,by omega,p,md,g5,rfl,hs,aq,by omega,by omega,by omega,h4,i1,?_,rfl,ha.keep ⟨rfl,rfl,rfl,rfl,rfl,rfl,rfl,rfl,rfl,rfl,trivial⟩⟩
      intro u v _ hu hv
      rw[List.getElem?_eq_getElem DI]at hu
      rw[List.getElem?_eq_getElem xV]at hv
      obtain rfl:=Option.some.inj hu;obtain rfl:=Option.some.inj hv
      rw[I7,DG]at j9;exact j9
    ·refine aS (b:=decide (((U.length+p:Nat):Int)<((U.length+q:Nat):Int))) (by simp;omega) rfl ?_
     obtain rfl:p=q:=by omega
     have eX:=List.take_append_drop p X
     have eY:=List.take_append_drop (h-p) Y
     have M':(X.take p).length=p:=by rw[List.length_take];omega
     have Ks:(X.drop p).length=X.length-p:=List.length_drop
     have M_:(Y.take (h-p)).length=h-p:=by rw[List.length_take];omega
     have OT:(Y.drop (h-p)).length=Y.length-(h-p):=List.length_drop
     have c1: ∀x∈X.take p,∀y∈Y.drop (h-p),kl kf y x=false:=by
      intro x hx y hy
      obtain⟨t,ht,rfl⟩:=List.mem_iff_getElem.1 hx
      obtain⟨u,hu,rfl⟩:=List.mem_iff_getElem.1 hy
      rw[M']at ht
      rw[OT]at hu
      rw[List.getElem_take,List.getElem_drop]
      have e:=i1 _ _ (by omega) (List.getElem?_eq_getElem (by omega:p-1<X.length)) (List.getElem?_eq_getElem (by omega:h-p<Y.length))
      have ex:kl kf X[p-1] X[t]=false:=by
       by_cases BW:t=p-1
       ·subst BW;rw[iC];omega
       ·exact List.pairwise_iff_getElem.1 Yq t (p-1) (by omega) (by omega) (by omega)
      have ey:kl kf Y[h-p+u] Y[h-p]=false:=by
       by_cases Qr:u=0
       ·subst Qr;rw[iC];simp
       ·exact List.pairwise_iff_getElem.1 Kq (h-p) (h-p+u) (by omega) (by omega) (by omega)
      rw[iC]at e ex ey⊢;omega
     have c2: ∀y∈Y.take (h-p),∀x∈X.drop p,kl kf y x=true:=by
      intro y hy x hx
      obtain⟨t,ht,rfl⟩:=List.mem_iff_getElem.1 hx
      obtain⟨u,hu,rfl⟩:=List.mem_iff_getElem.1 hy
      rw[Ks]at ht
      rw[M_]at hu
      rw[List.getElem_take,List.getElem_drop]
      have e:=i2 _ _ (by omega) (List.getElem?_eq_getElem (by omega:p<X.length)) (List.getElem?_eq_getElem (by omega:h-1-p<Y.length))
      have ex:kl kf X[p+t] X[p]=false:=by
       by_cases BW:t=0
       ·subst BW;rw[iC];simp
       ·exact List.pairwise_iff_getElem.1 Yq p (p+t) (by omega) (by omega) (by omega)
      have ey:kl kf Y[h-1-p] Y[u]=false:=by
       by_cases Qr:u=h-1-p
       ·subst Qr;rw[iC];omega
       ·exact List.pairwise_iff_getElem.1 Kq u (h-1-p) (by omega) (by omega) (by omega)
      rw[qt]at e⊢;rw[iC]at ex ey;omega
     have hM:=gQ (X.take p) (Y.take (h-p)) c1 c2
     rw[eX,eY]at hM
     (repeat (first|refine bE ?_|with_reducible refine bK ?_|with_reducible refine dc ?_|with_reducible refine au ?_))
     have Su:zj kf (X.take p):=Yq.sublist (List.take_sublist ..)
     have Sv:zj kf (X.drop p):=Yq.sublist (List.drop_sublist ..)
     have Sw:zj kf (Y.take (h-p)):=Kq.sublist (List.take_sublist ..)
     have Sx:zj kf (Y.drop (h-p)):=Kq.sublist (List.drop_sublist ..)
     have er:U++X++Y++V=U++X.take p++X.drop p++Y.take (h-p)++(Y.drop (h-p)++V):=by
      conv=>lhs;rw[←eX,←eY]
      simp only[List.append_assoc]
     rw[er]at hs
     rw[hM]
     clear c1 c2 eX eY i1 i2 hM er
     generalize X.take p=X1 at hs M' Su
     generalize X.drop p=X2 at hs Ks Sv
     generalize Y.take (h-p)=Y1 at hs M_ Sw
     generalize Y.drop (h-p)=Y2 at hs OT Sx
     refine aX rfl ?_
     refine oG (l':=[(0,.slice ad n c),(1,.int .i64 (U.length:Nat)),(2,.int .i64 (U.length+X.length:Nat)),(3,.int .i64 (U.length+X.length+Y.length:Nat)),(4,fo),(18,.int .i64 (U.length+h:Nat)),(20,.int .i64 (U.length+p:Nat)),(24,.int .i64 (U.length+X.length+(h-p):Nat))]) ⟨rfl,rfl,rfl,rfl,rfl,rfl,rfl,kI rfl (by rw[wr (by omega) (by omega)];omega),trivial⟩ ?_
     apply aB
     refine lL (fun a' w=> ∃g',w=g'.w∧St g0 g' (eP (ll tw) ad n c (U++X1++Y1++(X2++Y2++V))::L)∧G.le g g'∧Fr 220 [] [(0,.slice ad n c),(1,.int .i64 (U.length:Nat)),(2,.int .i64 (U.length+X.length:Nat)),(3,.int .i64 (U.length+X.length+Y.length:Nat)),(4,fo),(18,.int .i64 (U.length+h:Nat)),(20,.int .i64 (U.length+p:Nat)),(24,.int .i64 (U.length+X.length+(h-p):Nat))] a') ?_ ?_
     ·by_cases hp:p<X.length
      ·apply aB
       apply ar
       refine Wp 4 rfl ?_
       refine cE (.bool true) (t:=181) rfl (congrArg Value.bool (by simp;omega)) ?_
       refine ba rfl ?_
       by_cases hq:0<h-p
       ·refine aJ (b:=decide (((U.length+X.length:Nat):Int)<((U.length+X.length+(h-p):Nat):Int))) (by simp;omega) rfl ?_
        apply ar;refine Wp 5 rfl ?_
        refine cE (.int .i64 ((U++X1).length:Nat)) (t:=187) rfl (congrArg (Value.int .i64) (by rw[List.length_append];omega)) ?_
        refine cE (.int .i64 ((U++X1).length+X2.length:Nat)) (t:=188) rfl (congrArg (Value.int .i64) (by rw[List.length_append];omega)) ?_
        refine cE (.int .i64 ((U++X1).length+X2.length+Y1.length:Nat)) (t:=189) rfl (congrArg (Value.int .i64) (by rw[List.length_append];omega)) ?_
        refine an rfl rfl (dv (Ql tw) aI rfl rfl rfl rfl rfl (DF tw (U++X1) X2 Y1 (Y2++V) (by omega) (by omega) (by simp only[List.length_append];omega) hm hs) ?_)
        clear hs
        rintro g6 _ ah ⟨rfl,hs⟩;replace aq:=G.le.trans aq ah
        apply aD
        exact fun a ha=>⟨g6,rfl,by simpa using hs,aq,ha.keep (by(repeat (first|exact trivial|refine⟨rfl,?_⟩)))⟩
       ·refine aS (b:=decide (((U.length+X.length:Nat):Int)<((U.length+X.length+(h-p):Nat):Int))) (by simp;omega) rfl ?_
        apply aE
        obtain rfl:Y1=[]:=List.length_eq_zero_iff.1 (by omega)
        exact fun a ha=>⟨g',rfl,by simpa using hs,aq,ha.keep (by(repeat (first|exact trivial|refine⟨rfl,?_⟩)))⟩
      ·apply aB
       apply ar
       refine Wp 4 rfl ?_
       refine cE (.bool false) (t:=181) rfl (congrArg Value.bool (by simp;omega)) ?_
       refine ba rfl ?_
       refine aS rfl rfl ?_
       apply aE
       obtain rfl:X2=[]:=List.length_eq_zero_iff.1 (by omega)
       exact fun a ha=>⟨g',rfl,by simpa using hs,aq,ha.keep (by(repeat (first|exact trivial|refine⟨rfl,?_⟩)))⟩
     clear hs aq
     rintro a' _ ⟨g7,rfl,hs,aq,eI⟩
     revert a'
     apply cQ
     apply aB
     refine lL (fun a' w=> ∃g',w=g'.w∧St g0 g' (eP (ll tw) ad n c (U++lE kf X1 Y1++(X2++Y2++V))::L)∧G.le g g'∧Fr 220 [] [(0,.slice ad n c),(1,.int .i64 (U.length:Nat)),(2,.int .i64 (U.length+X.length:Nat)),(3,.int .i64 (U.length+X.length+Y.length:Nat)),(4,fo),(18,.int .i64 (U.length+h:Nat)),(20,.int .i64 (U.length+p:Nat)),(24,.int .i64 (U.length+X.length+(h-p):Nat))] a') ?_ ?_
     ·by_cases hp:0<p
      ·apply aB
       apply ar
       refine Wp 4 rfl ?_
       refine cE (.bool true) (t:=195) rfl (congrArg Value.bool (by simp;omega)) ?_
       refine ba rfl ?_
       by_cases hq:p<h
       ·refine aJ (b:=decide (((U.length+p:Nat):Int)<((U.length+h:Nat):Int))) (by simp;omega) rfl ?_
        apply ar;refine Wp 5 rfl ?_
        refine cE (.int .i64 (U.length+X1.length:Nat)) (t:=202) rfl (congrArg (Value.int .i64) (by omega)) ?_
        refine cE (.int .i64 (U.length+X1.length+Y1.length:Nat)) (t:=203) rfl (congrArg (Value.int .i64) (by omega)) ?_
        refine an rfl rfl (dv (Ga tw) aI rfl rfl rfl rfl rfl (ih (X1.length+Y1.length) (by omega) U X1 Y1 (X2++Y2++V) rfl (by omega) (by omega) Su Sw (by simp only[List.length_append];omega) (hk.mono aq) hs) ?_)
        clear hs
        rintro g6 _ ah ⟨rfl,hs⟩;replace aq:=G.le.trans aq ah
        apply aD
        exact fun a ha=>⟨g6,rfl,hs,aq,ha.keep (by(repeat (first|exact trivial|refine⟨rfl,?_⟩)))⟩
       ·refine aS (b:=decide (((U.length+p:Nat):Int)<((U.length+h:Nat):Int))) (by simp;omega) rfl ?_
        apply aE
        obtain rfl:Y1=[]:=List.length_eq_zero_iff.1 (by omega)
        exact fun a ha=>⟨g7,rfl,by simpa [gC]using hs,aq,ha.keep (by(repeat (first|exact trivial|refine⟨rfl,?_⟩)))⟩
      ·apply aB
       apply ar
       refine Wp 4 rfl ?_
       refine cE (.bool false) (t:=195) rfl (congrArg Value.bool (by simp;omega)) ?_
       refine ba rfl ?_
       refine aS rfl rfl ?_
       apply aE
       obtain rfl:X1=[]:=List.length_eq_zero_iff.1 (by omega)
       exact fun a ha=>⟨g7,rfl,by simpa [lE]using hs,aq,ha.keep (by(repeat (first|exact trivial|refine⟨rfl,?_⟩)))⟩
     clear hs aq
     rintro a' _ ⟨g8,rfl,hs,aq,eI⟩
     revert a'
     apply cQ
     have lM:(lE kf X1 Y1).length=X1.length+Y1.length:=by rw[(mP (k:=kf) X1 Y1).length_eq,List.length_append]
     generalize lE kf X1 Y1=M1 at hs lM
     by_cases hp:p<X.length
     ·apply aB
      apply ar
      refine Wp 4 rfl ?_
      refine cE (.bool true) (t:=209) rfl (congrArg Value.bool (by simp;omega)) ?_
      refine ba rfl ?_
      by_cases hq:h-p<Y.length
      ·refine aJ (b:=decide (((U.length+X.length+(h-p):Nat):Int)<((U.length+X.length+Y.length:Nat):Int))) (by simp;omega) rfl ?_
       apply ar;refine Wp 5 rfl ?_
       refine cE (.int .i64 ((U++M1).length:Nat)) (t:=215) rfl (congrArg (Value.int .i64) (by rw[List.length_append];omega)) ?_
       refine cE (.int .i64 ((U++M1).length+X2.length:Nat)) (t:=216) rfl (congrArg (Value.int .i64) (by rw[List.length_append];omega)) ?_
       refine cE (.int .i64 ((U++M1).length+X2.length+Y2.length:Nat)) (t:=217) rfl (congrArg (Value.int .i64) (by rw[List.length_append];omega)) ?_
       refine an rfl rfl (dv (Ga tw) aI rfl rfl rfl rfl rfl (ih (X2.length+Y2.length) (by omega) (U++M1) X2 Y2 V rfl (by omega) (by omega) Sv Sx (by simp only[List.length_append];omega) (hk.mono aq) (by simpa using hs)) ?_)
       clear hs
       rintro g6 _ ah ⟨rfl,hs⟩;replace aq:=G.le.trans aq ah
       apply aD
       exact mv rfl (eu.intro aq ⟨rfl,by simpa using hs⟩)
      ·refine aS (b:=decide (((U.length+X.length+(h-p):Nat):Int)<((U.length+X.length+Y.length:Nat):Int))) (by simp;omega) rfl ?_
       apply aE
       obtain rfl:Y2=[]:=List.length_eq_zero_iff.1 (by omega)
       exact mv rfl (eu.intro aq ⟨rfl,by simpa [gC]using hs⟩)
     ·apply aB
      apply ar
      refine Wp 4 rfl ?_
      refine cE (.bool false) (t:=209) rfl (congrArg Value.bool (by simp;omega)) ?_
      refine ba rfl ?_
      refine aS rfl rfl ?_
      apply aE
      obtain rfl:X2=[]:=List.length_eq_zero_iff.1 (by omega)
      exact mv rfl (eu.intro aq ⟨rfl,by simpa [lE]using hs⟩)
end Go.Proofs.YtebobfdheanknaaGreatDoor
namespace Go.Proofs.YtebobfdheanknaaGreatDoor
open Go Go.K
set_option maxRecDepth 10000
attribute [local irreducible] W WL cT cn bX bA bB bD cW cG
set_option maxHeartbeats 8000000
def rV{α:Type}(k:α→Int×Int)(B:Nat):Nat→List α→List α
 |0,l=>dK k l
 |n+1,l=>dK k (l.take B)++rV k B n (l.drop B)
def bk{α:Type}(k:α→Int×Int)(B:Nat)(l:List α):List α:=rV k B (l.length/B) l
theorem px{α:Type}{k:α→Int×Int}{B:Nat}{l:List α}(h:l.length<B):bk k B l=dK k l:=by
 unfold bk;rw[Nat.div_eq_of_lt h];rfl
theorem nM{α:Type}{k:α→Int×Int}{B:Nat}{l:List α}(h0:0<B)(h:B≤l.length):bk k B l=dK k (l.take B)++bk k B (l.drop B):=by
 unfold bk
 rw[List.length_drop,Nat.div_eq_sub_div h0 h];rfl
theorem DL{α:Type}{k:α→Int×Int}{B:Nat}{l:List α}(h0:0<B)(h:l.length≤B):bk k B l=dK k l:=by
 rcases Nat.lt_or_ge l.length B with h1|h1
 ·exact px h1
 ·rw[nM h0 h1,List.take_of_length_le h,List.drop_of_length_le h,px (by simpa using h0)];simp[dK]
theorem fR{α:Type}{k:α→Int×Int}(l:List α):(dK k l).length=l.length:=(iM l).length_eq
theorem A1{α:Type}{k:α→Int×Int}{B:Nat}: ∀(n:Nat) (l:List α),(rV k B n l).length=l.length
 |0,l=>fR l
 |n+1,l=>by
  show(dK k (l.take B)++rV k B n (l.drop B)).length=_
  rw[List.length_append,fR,A1 n,List.length_take,List.length_drop];omega
theorem I8{α:Type}{k:α→Int×Int}{B:Nat}(l:List α):(bk k B l).length=l.length:=A1 _ l
theorem DN(tw:Bool){fo:Value}{kf:bc→Int×Int}{ad:Option Addr}{n c:Nat}{L:List cV}(Z:List bc){g0 g:G}(hn:Z.length=n)(hm:n≤1000000000)(hk:zG fo kf g)(hs:St g0 g (eP (ll tw) ad n c Z::L)):
  CallsIn Wd 0 Tryz.prog (M7 tw) #[.slice ad n c,.int .i64 (n:Nat),fo] g.w (eu g fun g' r=>r= .tuple #[]∧St g0 g' (eP (ll tw) ad n c (dK kf Z)::L)):=by
 cases tw
 case' false=>let tw:=false
 case' true=>let tw:=true
 all_goals
  have aq:=G.le.refl g
  first|refine enter Tryz.func193 rfl Tryz.ntmps193 rfl ?_|refine enter Tryz.func264 rfl Tryz.ntmps264 rfl ?_
  refine aX rfl ?_;refine aX rfl ?_;apply aB;apply aG
  refine bS (fun m a' w=> ∃(X Y:List bc) (g':G),w=g'.w∧St g0 g' (eP (ll tw) ad n c (X++Y)::L)∧G.le g g'∧X++bk kf 20 Y=bk kf 20 Z∧X.length+Y.length=n∧m=Y.length∧
    Fr 63 [] [(0,.slice ad n c),(1,.int .i64 (n:Nat)),(2,fo),(6,.int .i64 20),(7,.int .i64 (X.length:Nat)),(8,.int .i64 (X.length+20:Nat))] a') n
   (fun a' ha=>⟨[],Z,g,rfl,hs,aq,rfl,by simpa using hn,hn.symm,ha.keep ⟨rfl,rfl,rfl,rfl,rfl,rfl,trivial⟩⟩) ?_
  clear hs aq
  rintro m a' _ ⟨X,Y,g',rfl,hs,aq,h1,h2,rfl,eI⟩
  revert a'
  apply cQ;apply aB;refine aX rfl ?_
  by_cases bh:20≤Y.length
  ·refine aJ (b:=decide (((X.length+20:Nat):Int)≤((n:Nat):Int))) (by simp;omega) rfl ?_
   apply aE;apply au;apply aG;refine cP 4 rfl ?_
   have hS:(Y.take 20).length=20:=by rw[List.length_take];omega
   have hV:(Y.drop 20).length=Y.length-20:=List.length_drop
   refine cE (.int .i64 (X.length+(Y.take 20).length:Nat)) (t:=16) rfl (congrArg (Value.int .i64) (by rw[hS])) ?_
   refine an rfl rfl (dv (M3 tw) aI rfl rfl rfl rfl rfl (H3 tw X (Y.take 20) (Y.drop 20) (by omega) hm (hk.mono aq) (by rw[List.append_assoc,List.take_append_drop];exact hs)) ?_)
   clear hs
   rintro g5 _ ah ⟨rfl,hs⟩;replace aq:=G.le.trans aq ah
   apply cf;refine aX rfl ?_;apply ar;refine Wp 4 rfl ?_;apply aD;apply bU
   rw[nM (by decide) bh]at h1
   have hl:=fR (k:=kf) (Y.take 20)
   exact fun a ha=>⟨(Y.drop 20).length,by omega,X++dK kf (Y.take 20),Y.drop 20,g5,rfl,hs,aq,by rw[List.append_assoc];exact h1,by rw[List.length_append];omega,rfl,ha.keep ⟨rfl,rfl,rfl,rfl,kI rfl (by rw[List.length_append];omega),kI rfl (by rw[wr (by omega) (by omega),List.length_append];omega),trivial⟩⟩
  ·refine aS (b:=decide (((X.length+20:Nat):Int)≤((n:Nat):Int))) (by simp;omega) rfl ?_
   apply bE;apply bK;apply bK;apply dc;apply au;refine cP 4 rfl ?_
   refine cE (.int .i64 (X.length+Y.length:Nat)) (t:=25) rfl (congrArg (Value.int .i64) (by rw[h2])) ?_
   refine an rfl rfl (dv (M3 tw) aI rfl rfl rfl rfl rfl (H3 tw X Y [] (by simpa using h2.symm) hm (hk.mono aq) (by rw[List.append_nil];exact hs)) ?_)
   clear hs
   rintro g5 _ ah ⟨rfl,hs⟩;replace aq:=G.le.trans aq ah
   rw[List.append_nil,←px (k:=kf) (B:=20) (l:=Y) (by omega),h1]at hs
   clear h1 h2 bh
   apply cf;apply aG
   refine bS (fun m a' w=> ∃(B:Nat) (g':G),w=g'.w∧St g0 g' (eP (ll tw) ad n c (bk kf B Z)::L)∧G.le g g'∧1≤B∧B≤2000000000∧m=n-B∧
     Fr 63 [] [(0,.slice ad n c),(1,.int .i64 (n:Nat)),(2,fo),(6,.int .i64 (B:Nat))] a') (n-20)
    (fun a' ha=>⟨20,g5,rfl,hs,aq,by omega,by omega,rfl,ha.keep ⟨rfl,rfl,rfl,rfl,trivial⟩⟩) ?_
   clear hs aq
   rintro m a' _ ⟨B,g',rfl,hs,aq,hB,Wk,rfl,eI⟩
   revert a'
   apply cQ;apply aB;refine aX rfl ?_
   by_cases bh:B<n
   ·refine aJ (b:=decide (((B:Nat):Int)<((n:Nat):Int))) (by simp;omega) rfl ?_
    apply aE;apply au;apply aG;refine aX rfl ?_;apply aB;apply aG
    refine bS (fun m a' w=> ∃(X Y:List bc) (g':G),w=g'.w∧St g0 g' (eP (ll tw) ad n c (X++bk kf B Y)::L)∧G.le g g'∧X++bk kf (2*B) Y=bk kf (2*B) Z∧X.length+Y.length=n∧m=Y.length∧
      Fr 63 [] [(0,.slice ad n c),(1,.int .i64 (n:Nat)),(2,fo),(6,.int .i64 (B:Nat)),(7,.int .i64 (X.length:Nat)),(8,.int .i64 (X.length+2*B:Nat))] a') n
     (fun a' ha=>⟨[],Z,g',rfl,hs,aq,rfl,by simpa using hn,hn.symm,ha.keep ⟨rfl,rfl,rfl,rfl,rfl,kI rfl (by rw[wr (by omega) (by omega)];simp),trivial⟩⟩) ?_
    clear hs aq
    rintro m a' _ ⟨X,Y,g',rfl,hs,aq,h1,h2,rfl,eI⟩
    revert a'
    apply cQ;apply aB;refine aX rfl ?_
    by_cases hle:2*B≤Y.length
    ·refine aJ (b:=decide (((X.length+2*B:Nat):Int)≤((n:Nat):Int))) (by simp;omega) rfl ?_
     apply aE;apply au;apply aG;refine cP 7 rfl ?_
     have l1:(Y.take B).length=B:=by rw[List.length_take];omega
     have l2:((Y.drop B).take B).length=B:=by rw[List.length_take,List.length_drop];omega
     have l3:(Y.drop (2*B)).length=Y.length-2*B:=List.length_drop
     rw[nM (by omega) (by omega),nM (l:=Y.drop B) (by omega) (by rw[List.length_drop];omega),List.drop_drop,show B+B=2*B from by omega,←List.append_assoc,←List.append_assoc]at hs
     rw[nM (by omega) hle]at h1
     have e1:dK kf (Y.take (2*B))=lE kf (dK kf (Y.take B)) (dK kf ((Y.drop B).take B)):=by
      rw[←pb,show 2*B=B+B from by omega,List.take_add]
     have m1:=fR (k:=kf) (Y.take B)
     have m2:=fR (k:=kf) ((Y.drop B).take B)
     have s1:=jG (k:=kf) (Y.take B)
     have s2:=jG (k:=kf) ((Y.drop B).take B)
     have m4:=I8 (k:=kf) (B:=B) (Y.drop (2*B))
     generalize dK kf (Y.take B)=XA at hs e1 m1 s1
     generalize dK kf ((Y.drop B).take B)=XB at hs e1 m2 s2
     refine cE (.int .i64 (X.length+XA.length:Nat)) (t:=40) rfl (congrArg (Value.int .i64) (by rw[wr (by omega) (by omega)];omega)) ?_
     refine cE (.int .i64 (X.length+XA.length+XB.length:Nat)) (t:=41) rfl (congrArg (Value.int .i64) (by omega)) ?_
     refine an rfl rfl (dv (Ga tw) aI rfl rfl rfl rfl rfl (sQ tw hm _ X XA XB _ rfl (by omega) (by omega) s1 s2 (by omega) (hk.mono aq) hs) ?_)
     clear hs
     rintro g6 _ ah ⟨rfl,hs⟩;replace aq:=G.le.trans aq ah
     apply cf;refine aX rfl ?_;apply ar;refine Wp 5 rfl ?_;apply aD;apply bU
     rw[←e1]at hs
     have m3:=fR (k:=kf) (Y.take (2*B))
     have l4:(Y.take (2*B)).length=2*B:=by rw[List.length_take];omega
     exact fun a ha=>⟨(Y.drop (2*B)).length,by omega,X++dK kf (Y.take (2*B)),Y.drop (2*B),g6,rfl,hs,aq,by rw[List.append_assoc];exact h1,by rw[List.length_append];omega,rfl,ha.keep ⟨rfl,rfl,rfl,rfl,kI rfl (by rw[List.length_append];omega),kI rfl (by rw[wr (n:=2*_) (by omega) (by omega),wr (by omega) (by omega),List.length_append];omega),trivial⟩⟩
    ·refine aS (b:=decide (((X.length+2*B:Nat):Int)≤((n:Nat):Int))) (by simp;omega) rfl ?_
     apply bE;apply bK;apply bK;apply dc;apply au;apply aB;refine aX rfl ?_;refine aX rfl ?_
     rw[px (by omega)]at h1
     by_cases Wl:B<Y.length
     ·refine aJ (b:=decide (IntKind.i64.wrap (((X.length:Nat):Int)+((B:Nat):Int))<((n:Nat):Int))) (by rw[wr (by omega) (by omega)];simp;omega) rfl ?_
      apply ar;refine Wp 5 rfl ?_
      have l1:(Y.take B).length=B:=by rw[List.length_take];omega
      have l2:(Y.drop B).length=Y.length-B:=List.length_drop
      rw[nM (by omega) (by omega),px (l:=Y.drop B) (by omega),←List.append_assoc]at hs
      have e1:dK kf Y=lE kf (dK kf (Y.take B)) (dK kf (Y.drop B)):=by rw[←pb,List.take_append_drop]
      have m1:=fR (k:=kf) (Y.take B)
      have m2:=fR (k:=kf) (Y.drop B)
      have s1:=jG (k:=kf) (Y.take B)
      have s2:=jG (k:=kf) (Y.drop B)
      generalize dK kf (Y.take B)=XA at hs e1 m1 s1
      generalize dK kf (Y.drop B)=XB at hs e1 m2 s2
      refine cE (.int .i64 (X.length+XA.length:Nat)) (t:=57) rfl (congrArg (Value.int .i64) (by rw[wr (by omega) (by omega)];omega)) ?_
      refine cE (.int .i64 (X.length+XA.length+XB.length:Nat)) (t:=58) rfl (congrArg (Value.int .i64) (by omega)) ?_
      refine an rfl rfl (dv (Ga tw) aI rfl rfl rfl rfl rfl (sQ tw hm _ X XA XB [] rfl (by omega) (by omega) s1 s2 (by simp only[List.length_nil];omega) (hk.mono aq) (by rw[List.append_nil];exact hs)) ?_)
      clear hs
      rintro g6 _ ah ⟨rfl,hs⟩;replace aq:=G.le.trans aq ah
      apply cf;apply ar;refine Wp 3 rfl ?_;apply aD;apply bU
      rw[←e1,List.append_nil,h1]at hs
      exact fun a ha=>⟨n-2*B,by omega,2*B,g6,rfl,hs,aq,by omega,by omega,rfl,ha.keep ⟨rfl,rfl,rfl,kI rfl (by rw[wr (by omega) (by omega)];omega),trivial⟩⟩
     ·refine aS (b:=decide (IntKind.i64.wrap (((X.length:Nat):Int)+((B:Nat):Int))<((n:Nat):Int))) (by rw[wr (by omega) (by omega)];simp;omega) rfl ?_
      apply aE;apply au;apply ar;refine Wp 3 rfl ?_;apply aD;apply bU
      rw[DL (by omega) (by omega),h1]at hs
      exact fun a ha=>⟨n-2*B,by omega,2*B,g',rfl,hs,aq,by omega,by omega,rfl,ha.keep ⟨rfl,rfl,rfl,kI rfl (by rw[wr (by omega) (by omega)];omega),trivial⟩⟩
   ·refine aS (b:=decide (((B:Nat):Int)<((n:Nat):Int))) (by simp;omega) rfl ?_
    apply bE;apply bK;apply bK;apply dc
    rw[DL (by omega) (by omega)]at hs
    exact mv rfl (eu.intro aq ⟨rfl,hs⟩)
theorem vm(tw:Bool){fo:Value}{kf:bc→Int×Int}{ad:Option Addr}{n c:Nat}{L:List cV}(Z:List bc){g0 g:G}(hn:Z.length=n)(hm:n≤1000000000)(hk:zG fo kf g)(hs:St g0 g (eP (ll tw) ad n c Z::L)):
  CallsIn Wd 0 Tryz.prog (M8 tw) #[.slice ad n c,fo] g.w (eu g fun g' r=>r= .tuple #[]∧St g0 g' (eP (ll tw) ad n c (dK kf Z)::L)):=by
 cases tw
 case' false=>let tw:=false
 case' true=>let tw:=true
 all_goals
  have aq:=G.le.refl g
  first|refine enter Tryz.func110 rfl Tryz.ntmps110 rfl ?_|refine enter Tryz.func199 rfl Tryz.ntmps199 rfl ?_
  apply ar;refine Wp 4 rfl ?_
  refine an rfl rfl (dv (Qm tw) aI rfl rfl rfl rfl rfl (DN tw Z hn hm hk hs) ?_)
  clear hs
  rintro g6 _ ah ⟨rfl,hs⟩;replace aq:=G.le.trans aq ah
  apply aD
  exact mv rfl (eu.intro aq ⟨rfl,hs⟩)
theorem DO{fi:Nat}{kf:bc→Int×Int}{ad:Option Addr}{n c:Nat}{L:List cV}(Z:List bc){g0 g:G}(hn:Z.length=n)(hm:n≤1000000000)(hk:DC (.func (.func fi) #[] #[]) kf g)(hs:St g0 g (eP 54 ad n c Z::L)):
  CallsIn Wd 0 Tryz.prog 43 #[.slice ad n c,.func (.func fi) #[] #[]] g.w (eu g fun g' r=>r= .tuple #[]∧St g0 g' (eP 54 ad n c (dK kf Z)::L)):=by
 have aq:=G.le.refl g
 refine enter Tryz.func43 rfl Tryz.ntmps43 rfl ?_
 apply c_
 refine an rfl rfl (aR rfl hs rfl rfl ?_);clear hs;rintro b1 g1 hs ah;replace aq:=G.le.trans aq ah
 obtain⟨g2,bR,aU,ah,aL⟩:=hs.a_ (i:=0) rfl;replace hs:=aU;clear aU;rw[←bR];replace aq:=G.le.trans aq ah
 have aC:=aL;clear aL
 apply cf;apply ar;refine Wp 2 rfl ?_
 refine an rfl rfl (dv (M9 false) aI rfl rfl rfl rfl rfl (vm false Z hn hm (fun g' h x y=>de (first:=#[]) (args:=[fv x,fv y]) (captured:=#[.pointer (some ⟨b1,0,none⟩)]) Li rfl (DD x y g' (aC.mono h) (hk.mono (aq.trans h)))) hs) ?_)
 clear hs
 rintro g6 _ ah ⟨rfl,hs⟩;replace aq:=G.le.trans aq ah
 apply aD
 exact mv rfl (eu.intro aq ⟨rfl,hs⟩)
end Go.Proofs.YtebobfdheanknaaGreatDoor
namespace Go.Proofs.YtebobfdheanknaaGreatDoor
open Go Go.K
set_option maxRecDepth 10000
attribute [local irreducible] W WL cT cn bX bA bB bD cW cG
set_option maxHeartbeats 8000000
def sR{κ:Type}[DecidableEq κ][fg κ](g:G)(b:Nat)(m:List (κ×Value)):Prop:=g.im b∧g.w.heap[b]? =some (ct m)
theorem sR.mono{κ:Type}[DecidableEq κ][fg κ]{g g':G}{b:Nat}{m:List (κ×Value)}(h:sR g b m)(hle:g.le g'):sR g' b m:=⟨(hle b h.1).1,(hle b h.1).2.trans h.2⟩
theorem DP{κ:Type}[DecidableEq κ][fg κ]{g0 g:G}{L:List cV}(hs:St g0 g L){i b:Nat}{m:List (κ×Value)}(hi:L[i]? =some (.obj b (ct m))): ∃g',g'.w=g.w∧St g0 g' (L.eraseIdx i)∧g.le g'∧sR g' b m:=
 ⟨g.fz _ fun b hb=>((hs.own i _ hi).lt b hb).2.1,rfl,hs.fz hi,G.ph _ _ _,.inr rfl,(hs.own i _ hi).2.1⟩
def sS(b:Nat)(sl:Nat→Value):cV:=.obj b (.cells ((List.range 11).map sl).toArray 35 (0,0))
def wz(sl:Nat→Value)(xs:Nat→List bc):List cV:=(List.range 11).map fun i=> .row 54 19 (sl i) (xs i).length (fl (xs i))
def xC{α:Type}(f:Nat→α)(i:Nat)(x:α):Nat→α:=fun j=>if j=i then x else f j
theorem Ge(sl:Nat→Value)(xs:Nat→List bc):(wz sl xs).length=11:=by simp[wz]
theorem wA{sl:Nat→Value}{xs:Nat→List bc}{i:Nat}(hi:i<11):(wz sl xs)[i]? =some (.row 54 19 (sl i) (xs i).length (fl (xs i))):=by
 unfold wz;rw[List.getElem?_map,List.getElem?_range hi];rfl
theorem A2{sl:Nat→Value}{xs:Nat→List bc}{i:Nat}(v:Value)(ys:List bc):(wz sl xs).set i (.row 54 19 v ys.length (fl ys))=wz (xC sl i v) (xC xs i ys):=by
 refine List.ext_getElem? fun j=>?_
 unfold wz xC
 rw[List.getElem?_set,List.getElem?_map,List.getElem?_map,List.length_map]
 by_cases h:i=j
 ·subst h
  rcases Nat.lt_or_ge i 11 with hj|hj
  ·simp[hj]
  ·simp[hj,List.length_range]
 ·rw[if_neg h]
  rcases Nat.lt_or_ge j 11 with hj|hj
  ·rw[List.getElem?_range hj];simp only[Option.map_some];rw[if_neg fun e=>h e.symm];rw[if_neg fun e=>h e.symm]
  ·rw[List.getElem?_eq_none (by simpa using hj)];rfl
theorem Gf{sl:Nat→Value}{i:Nat}(hi:i<11)(v:Value):lF ((List.range 11).map sl) i [v]=(List.range 11).map (xC sl i v):=by
 have h:((List.range 11).map sl).set i v=(List.range 11).map (xC sl i v):=by
  refine List.ext_getElem? fun j=>?_
  unfold xC
  rw[List.getElem?_set,List.getElem?_map,List.getElem?_map,List.length_map,List.length_range]
  by_cases h:i=j
  ·subst h;simp[hi]
  ·rw[if_neg h]
   rcases Nat.lt_or_ge j 11 with hj|hj
   ·rw[List.getElem?_range hj];simp only[Option.map_some];rw[if_neg fun e=>h e.symm]
   ·rw[List.getElem?_eq_none (by simpa using hj)];rfl
 rw[←h]
 unfold lF
 rw[List.set_eq_take_append_cons_drop,if_pos (by simpa using hi)]
 simp
def iI(g:G)(v:Value)(b:fX):Prop:=∃sl:Nat→Value,v= .agg ((List.range 11).map sl).toArray∧ ∀i,i<11→Rs g (sl i) (b.ls i)
theorem iI.mono{g g':G}{v:Value}{b:fX}(h:iI g v b)(hle:g.le g'):iI g' v b:=by
 obtain⟨sl,e,h⟩:=h;exact⟨sl,e,fun i hi=>(h i hi).mono hle⟩
instance{g g':G}{v:Value}{b:fX}:Mn (iI g v b) g g' (iI g' v b):=⟨fun h a=>a.mono h⟩
theorem cO.fl(g:G): ∀xs:List bc,cO g (Go.K.fl xs) xs
 |[]=>rfl
 |x::xs=>⟨bW x,Go.K.fl xs,sk x xs,rfl,cO.fl g xs⟩
theorem DQ{sl:Nat→Value}{i:Nat}(hi:i<11):ve T 24 ((List.range 11).map sl) i=some (sl i):=by
 show((List.range 11).map sl)[i]? =_
 rw[List.getElem?_map,List.getElem?_range hi];rfl
theorem ky: ∀(n:Nat) (js:List Nat),js.Nodup→(∀j∈js,j<n)→js.length≤n
 |0,[],_,_=>Nat.le_refl _
 |0,j::_,_,h=>absurd (h j (List.mem_cons_self ..)) (by omega)
 |n+1,js,hn,h=>by
  have ih:=ky n (js.erase n) (hn.erase n) (fun j hj=>by
   have h1:=h j (List.mem_of_mem_erase hj)
   have h2:j≠n:=fun e=>by subst e;exact(List.Nodup.not_mem_erase hn) hj
   omega)
  have:=List.length_erase (a:=n) (l:=js)
  split at this<;>omega
theorem vn{α:Type}: ∀{l:List α} {i:Nat} (x:α),i<l.length→(x::l.eraseIdx i).Perm (l.set i x)
 |[],_,_,h=>absurd h (Nat.not_lt_zero _)
 |y::l,0,x,_=>List.Perm.refl _
 |y::l,i+1,x,h=>(List.Perm.swap _ _ _).trans ((vn x (by simpa using h)).cons y)
theorem DR{g0:G}{sl:Nat→Value}{xs:Nat→List bc}: ∀(is:List Nat) {g:G} {R:List cV},St g0 g ((is.map fun i=> .row 54 19 (sl i) (xs i).length (fl (xs i)))++R)→ ∃g',g'.w=g.w∧St g0 g' R∧g.le g'∧ ∀i∈is,Rs g' (sl i) (xs i)
 |[],g,R,hs=>⟨g,rfl,hs,G.le.refl g,by simp⟩
 |i::is,g,R,hs=>by
  obtain⟨g1,e1,h1,h2,h3⟩:=hs.cL (α:=bc) (i:=0) rfl (cO.fl g (xs i))
  obtain⟨g2,e2,k1,k2,k3⟩:=DR is (g:=g1) h1
  refine⟨g2,e2.trans e1,k1,h2.trans k2,fun j hj=>?_⟩
  rcases List.mem_cons.1 hj with rfl|hj
  ·exact h3.mono k2
  ·exact k3 j hj
theorem DS{M:KF}{js:List Nat}{j:Nat}{p:List UInt8×bc}(hp:M[j]? =some p)(i:Nat):gH (qw M (js++[j])) i=gH (qw M js) i++(if !p.2.gone&&decide (p.2.kind=(i:Int)+1)then [p.2]else []):=by
 rw[sH hp,Db]
 congr 1
 unfold gH
 rw[List.filter_cons]
 split<;>rfl
theorem BX{j:Nat}{q:Int×Value}(h:kx[j]? =some q):j<11∧q=((j:Int)+1,pv j):=by
 have bh:j<11:=by have:=(List.getElem?_eq_some_iff.1 h).1;exact this
 rcases ku bh with rfl|rfl|rfl|rfl|rfl|rfl|rfl|rfl|rfl|rfl|rfl<;>exact⟨bh,(Option.some.inj h).symm⟩
def H4(g0:G)(A:List cV)(sl:Nat→Value)(xs:Nat→List bc)(i:Nat)(f:bc)(ρ:Nat→Option Value)(g:G):Prop:=
 match ρ 6 with
 |none=>St g0 g (A++wz sl xs)
 |some v=>(∃a c,v= .slice a ((xs i).length+1) c)∧St g0 g (A++wz (xC sl i v) (xC xs i (xs i++[f])))
theorem DT{g0:G}{A:List cV}{sl:Nat→Value}{xs:Nat→List bc}{i:Nat}{f:bc}(ρ:Nat→Option Value)(g g':G)(hf:aZ g g')(h:H4 g0 A sl xs i f ρ g):H4 g0 A sl xs i f ρ g':=by
 unfold H4 at h⊢
 split at h
 ·exact h.call hf
 ·exact⟨h.1,h.2.call hf⟩
theorem DU{f:bc}(h:fp f≠[]):1≤f.kind∧f.kind≤11:=by
 have v1:fm f=true:=by cases e:fm f with|true=>rfl|false=>exact absurd (by unfold fp;rw[e];rfl) h
 obtain⟨s,hs,_⟩:=kQ v1
 obtain⟨_,_,_,_,_,_,h1,h2⟩:=mO hs
 exact⟨h1,h2⟩
theorem Na{sl:Nat→Value}(h: ∀i,i<11→(sl i).oneCell'=true):((((List.range 11).map sl).drop 0).take 11).all Value.oneCell'=true:=by
 rw[List.all_eq_true]
 intro v hv
 obtain⟨i,hi,rfl⟩:=List.mem_map.1 (List.mem_of_mem_drop (List.mem_of_mem_take hv))
 exact h i (List.mem_range.1 hi)
theorem Qs(v:Value)(l:List bc)(day:Int)(g:G)(aH:Rs g v l)(hl:l.length≤1000000):CallsIn Wd 0 Tryz.prog 13 #[v,.int .i64 day] g.w (cR g fun g' r=>iI g' r (ofM l day)):=by
 have hs:=St.start g
 have aq:=G.le.refl g
 obtain⟨a,c,rfl⟩:=aH.isSlice
 have hT:qJ (List UInt8) Tryz.prog 79 _:=zw T.ok rfl rfl rfl rfl rfl
 have hK:qJ Int Tryz.prog 82 _:=zw T.ok rfl rfl rfl rfl rfl
 refine enter Tryz.func13 rfl Tryz.ntmps13 rfl ?_
 apply c_
 refine an rfl rfl (aK T.ok rfl hs rfl rfl ?_);clear hs;rintro b4 g1 hs ah;obtain⟨aq,aH⟩:=cC ah aq aH
 apply cf;apply c_
 refine an rfl rfl (jH (κ:=List UInt8) rfl hs ?_)
 clear hs;intro bm g1 hs ah;obtain⟨aq,aH⟩:=cC ah aq aH
 refine ba rfl ?_;apply aB;refine aX rfl ?_;apply aG
 refine bS (fun m a' w=> ∃(i:Nat) (g':G),w=g'.w∧St g g' [.obj bm (ct (cq (jU day (l.take i)))),sS b4 fun _=> .slice none 0 0]∧G.le g g'∧Rs g' (.slice a l.length c) l∧i≤l.length∧m=l.length-i∧
   Fr 91 [] [(1,.int .i64 day),(4,.pointer (some ⟨b4,0,none⟩)),(5,.map (some bm)),(19,.slice a l.length c),(20,.int .i64 (l.length:Nat)),(21,.int .i64 (i:Nat))] a') l.length
  (fun a' ha=>⟨0,g1,rfl,hs,aq,aH,Nat.zero_le _,rfl,ha.keep (by(repeat (first|exact trivial|refine⟨rfl,?_⟩)))⟩) ?_
 clear hs aH aq
 rintro m a' _ ⟨i,g',rfl,hs,aq,aH,hi,rfl,eI⟩
 revert a'
 apply cQ;refine aX rfl ?_;apply aB
 by_cases bh:i<l.length
 ·refine aJ (b:=decide ((i:Int)<(l.length:Int))) (decide_eq_true (by omega)) rfl ?_
  have ic:dA l (i:Int)=some l[i]:=cU rfl bh
  have cB:l.take (i+1)=l.take i++[l[i]]:=by rw[List.take_add_one,List.getElem?_eq_getElem bh];rfl
  generalize l[i]=x at*
  have jn:jU day (l.take (i+1))=iD day (jU day (l.take i)) x:=by rw[cB,C_]
  generalize jU day (l.take i)=M at hs jn
  apply aE;apply au;apply aB;apply aG;apply c_
  refine an rfl rfl (aW T.ok rfl aH (y:=x) ic rfl rfl rfl rfl rfl rfl ?_)
  rintro b p ys aL eK
  obtain rfl:ys=bW x:=eK
  have aC:=aL;clear aL
  refine Wm 1 [.e aC 0] (St.start _) rfl ?_
  refine an rfl rfl (aK T.ok rfl hs rfl rfl ?_);clear hs;rintro b7 g1 hs ah;obtain⟨aq,aH⟩:=cC ah aq aH
  refine bg rfl (aA T.ok 0 rfl hs rfl rfl rfl rfl rfl rfl rfl rfl rfl ?_);replace hs:=hs;rintro g1 hs ah;obtain⟨aq,aH⟩:=cC ah aq aH
  obtain⟨g2,bR,aU,ah,aL⟩:=hs.a_ (i:=0) rfl;replace hs:=aU;clear aU;rw[←bR];obtain⟨aq,aH⟩:=cC ah aq aH
  have aP:=aL;clear aL
  clear aC
  apply cf;refine dx 1 [.z aP] (St.start _) rfl ?_
  refine an rfl rfl (ay IQ aI rfl rfl rfl rfl rfl (Ds x _) ?_);rintro g1 _ aN rfl;replace hs:=hs.call aN;have ah:=aN.le;obtain⟨aq,aP,aH⟩:=ef ah aq aP aH
  refine ba rfl ?_;apply aB;refine cP 3 rfl ?_
  by_cases hk:fp x=[]
  ·refine cE (.bool true) (t:=29) rfl (congrArg Value.bool (by show((bs (fp x)).toList==(bs []).toList)=true;rw[cD,cD,hk];rfl)) ?_
   refine ba rfl ?_
   refine aJ rfl rfl ?_
   apply bE;apply bK;apply dc;apply au;apply ar;refine Wp 2 rfl ?_;apply aD
   have e:iD day M x=M:=by unfold iD;rw[if_pos (.inl hk)]
   rw[e]at jn
   exact fun a ha=>⟨l.length-(i+1),by omega,i+1,_,rfl,by rw[jn];exact hs,aq,aH,by omega,rfl,ha.keep ⟨rfl,rfl,rfl,rfl,rfl,kI rfl (by rw[wr (by omega) (by omega)];omega),trivial⟩⟩
  refine cE (.bool false) (t:=29) rfl (congrArg Value.bool (by show((bs (fp x)).toList==(bs []).toList)=false;rw[cD,cD];simp[hk])) ?_
  refine A3 [.z aP] (St.start _) rfl ?_
  by_cases hd:day<x.day
  ·refine aJ (b:=decide (day<x.day)) (decide_eq_true hd) rfl ?_
   apply bE;apply bK;apply dc;apply au;apply ar;refine Wp 2 rfl ?_;apply aD
   have e:iD day M x=M:=by unfold iD;rw[if_pos (.inr hd)]
   rw[e]at jn
   exact fun a ha=>⟨l.length-(i+1),by omega,i+1,_,rfl,by rw[jn];exact hs,aq,aH,by omega,rfl,ha.keep ⟨rfl,rfl,rfl,rfl,rfl,kI rfl (by rw[wr (by omega) (by omega)];omega),trivial⟩⟩
  refine aS (b:=decide (day<x.day)) (decide_eq_false hd) rfl ?_
  apply aE;apply au;refine cP 2 rfl ?_
  refine an rfl rfl (l_ hT rfl (hs.own 0 _ rfl).2.1 rfl (a:=fp x) rfl ?_)
  have hg:=AK (fp x) M
  have hb:iD day M x=if(match zt (fp x) M with|none=>true|some o=>oa x o)=true then mE (fp x) x M else M:=by
   unfold iD;exact if_neg (by simp[hk,hd])
  cases Nb:zt (fp x) M with
  |none=>
   rw[Nb]at hg hb
   refine cE (.tuple #[fv gF,.bool false]) (t:=38) rfl (by rw[hg];rfl) ?_
   refine Wp 3 rfl ?_
   refine an rfl rfl (aK T.ok rfl hs rfl rfl ?_);clear hs;rintro b9 g1 hs ah;obtain⟨aq,aP,aH⟩:=ef ah aq aP aH
   refine bg rfl (aA T.ok 0 rfl hs rfl rfl rfl rfl rfl rfl rfl rfl rfl ?_);replace hs:=hs;rintro g1 hs ah;obtain⟨aq,aP,aH⟩:=ef ah aq aP aH
   obtain⟨g2,bR,aU,ah,aL⟩:=hs.a_ (i:=0) rfl;replace hs:=aU;clear aU;rw[←bR];obtain⟨aq,aP,aH⟩:=ef ah aq aP aH
   have dO:=aL;clear aL
   refine ba rfl ?_;refine aX rfl ?_
   refine aJ rfl rfl ?_
   apply ar;refine Wm 3 [.z aP] (St.start _) rfl ?_
   refine bg rfl (dC hT 0 (.inl rfl) hs rfl rfl (a:=fp x) rfl rfl ?_)
   clear hs;intro g6 hs ah;obtain⟨aq,aP,dO,aH⟩:=dE ah aq aP dO aH
   replace hs:St g g6 [.obj bm (ct (iX (fp x) (fv x) (cq M))),sS b4 fun _=> .slice none 0 0]:=hs
   rw[wg]at hs
   apply aD;apply bU;apply au;apply ar;refine Wp 2 rfl ?_;apply aD
   rw[hb,if_pos rfl]at jn
   exact fun a ha=>⟨l.length-(i+1),by omega,i+1,_,rfl,by rw[jn];exact hs,aq,aH,by omega,rfl,ha.keep ⟨rfl,rfl,rfl,rfl,rfl,kI rfl (by rw[wr (by omega) (by omega)];omega),trivial⟩⟩
  |some o=>
   rw[Nb]at hg hb
   refine cE (.tuple #[fv o,.bool true]) (t:=38) rfl (by rw[hg];rfl) ?_
   refine Wp 3 rfl ?_
   refine an rfl rfl (aK T.ok rfl hs rfl rfl ?_);clear hs;rintro b9 g1 hs ah;obtain⟨aq,aP,aH⟩:=ef ah aq aP aH
   refine bg rfl (aA T.ok 0 rfl hs rfl rfl rfl rfl rfl rfl rfl rfl rfl ?_);replace hs:=hs;rintro g1 hs ah;obtain⟨aq,aP,aH⟩:=ef ah aq aP aH
   obtain⟨g2,bR,aU,ah,aL⟩:=hs.a_ (i:=0) rfl;replace hs:=aU;clear aU;rw[←bR];obtain⟨aq,aP,aH⟩:=ef ah aq aP aH
   have dO:=aL;clear aL
   refine ba rfl ?_;refine dx 5 [.z aP,.z dO] (St.start _) rfl ?_
   refine an rfl rfl (ay PG aI rfl rfl rfl rfl rfl (zF x o _) ?_);rintro g1 _ aN rfl;replace hs:=hs.call aN;have ah:=aN.le;obtain⟨aq,aP,aH⟩:=ef ah aq aP aH
   refine ba rfl ?_
   cases hp:oa x o with
   |true=>
    refine aJ rfl rfl ?_
    apply ar;refine Wm 3 [.z aP] (St.start _) rfl ?_
    refine bg rfl (dC hT 0 (.inl rfl) hs rfl rfl (a:=fp x) rfl rfl ?_)
    clear hs;intro g6 hs ah;obtain⟨aq,aP,aH⟩:=ef ah aq aP aH
    replace hs:St g g6 [.obj bm (ct (iX (fp x) (fv x) (cq M))),sS b4 fun _=> .slice none 0 0]:=hs
    rw[wg]at hs
    apply aD;apply bU;apply au;apply ar;refine Wp 2 rfl ?_;apply aD
    rw[hb,if_pos hp]at jn
    exact fun a ha=>⟨l.length-(i+1),by omega,i+1,_,rfl,by rw[jn];exact hs,aq,aH,by omega,rfl,ha.keep ⟨rfl,rfl,rfl,rfl,rfl,kI rfl (by rw[wr (by omega) (by omega)];omega),trivial⟩⟩
   |false=>
    refine aS rfl rfl ?_
    apply aE;apply bU;apply au;apply ar;refine Wp 2 rfl ?_;apply aD
    rw[hb,if_neg (by simp[hp])]at jn
    exact fun a ha=>⟨l.length-(i+1),by omega,i+1,_,rfl,by rw[jn];exact hs,aq,aH,by omega,rfl,ha.keep ⟨rfl,rfl,rfl,rfl,rfl,kI rfl (by rw[wr (by omega) (by omega)];omega),trivial⟩⟩
 ·refine aS (b:=decide ((i:Int)<(l.length:Int))) (decide_eq_false (by omega)) rfl ?_
  rw[List.take_of_length_le (by omega)]at hs
  have hM:=AM day l
  have Sy:=xK day l
  have Sz:ofM l day=⟨fun i=>dK (lj i) (gH (jU day l) i)⟩:=rfl
  rw[Sz]
  generalize jU day l=M at hs hM Sy
  clear Sz hi bh aH
  apply bE;apply bK;apply bK;apply dc;apply au;apply c_
  obtain⟨g2,bR,aU,ah,kz⟩:=DP hs (i:=0) rfl
  rw[←bR];replace hs:=aU;clear aU;replace aq:=G.le.trans aq ah;clear bR ah
  refine an rfl rfl (aK T.ok rfl hs rfl rfl ?_);clear hs;rintro we g1 hs ah;replace aq:=G.le.trans aq ah;replace kz:=kz.mono ah
  apply cf;apply c_
  refine an rfl rfl (ay PH aI rfl rfl rfl rfl rfl (F_ _) ?_)
  rintro g5 _ oe ⟨bk,rfl,rS,CX⟩
  have lq:sR g5 bk kx:=⟨rS,CX⟩;clear rS CX
  replace hs:=hs.call oe;have ah:=oe.le;replace aq:=G.le.trans aq ah;replace kz:=kz.mono ah
  clear oe
  refine ba rfl ?_;apply aB;refine cP 1 rfl ?_
  refine an rfl rfl (qM hT rfl kz.2 rfl hs ?_)
  clear hs;intro r1 g6 hs ah;replace aq:=G.le.trans aq ah;replace kz:=kz.mono ah;replace lq:=lq.mono ah
  iterate 11 replace hs:=hs.gI 54 19 none
  replace hs:St g g6 (wz (fun _=> .slice none 0 0) (fun _=>[])++[.obj r1 (wB bm (cq M).length #[]),sS we fun _=> .slice none 0 0,sS b4 fun _=> .slice none 0 0]):=hs
  replace hs:=hs.perm List.perm_append_comm
  apply cf;apply aG
  refine bS (fun m a' w=> ∃(seen:Array Nat) (sl:Nat→Value) (g':G),w=g'.w∧St g g' ([.obj r1 (wB bm (cq M).length seen),sS we sl,sS b4 fun _=> .slice none 0 0]++wz sl fun i=>gH (qw M seen.toList) i)∧G.le g g'∧sR g' bm (cq M)∧sR g' bk kx∧seen.toList.Nodup∧(∀j∈seen.toList,j<M.length)∧m=M.length-seen.toList.length∧
    Fr 91 [] [(4,.pointer (some ⟨b4,0,none⟩)),(11,.pointer (some ⟨we,0,none⟩)),(12,.map (some bk)),(54,.pointer (some ⟨r1,0,none⟩))] a') M.length
   (fun a' ha=>⟨#[],fun _=> .slice none 0 0,g6,rfl,hs,aq,kz,lq,by simp,by simp,rfl,ha.keep (by(repeat (first|exact trivial|refine⟨rfl,?_⟩)))⟩) ?_
  clear hs aq kz lq
  rintro m a' _ ⟨seen,sl,g',rfl,hs,aq,kz,lq,AN,bh,rfl,eI⟩
  have H5:=ky _ _ AN bh
  revert a'
  apply cQ;apply c_
  refine an rfl rfl (sT 0 rfl hs rfl kz.2 rfl (fun dh=>?_) (fun j q g6 hq hj H6 ah=>?_))
  rotate_left
  ·obtain⟨p,hp,rfl⟩:=IM hq
   have OU:j<M.length:=(List.getElem?_eq_some_iff.1 hp).1
   have wC:(seen.toList++[j]).Nodup:=List.nodup_append.2 ⟨AN,by simp,by intro a ha b hb;rw[List.mem_singleton.1 hb];rintro rfl;exact hj (by simpa using ha)⟩
   have rW: ∀k∈seen.toList++[j],k<M.length:=by intro k hk;rcases List.mem_append.1 hk with hk|hk;exact bh k hk;rw[List.mem_singleton.1 hk];exact OU
   have BY:=ky _ _ wC rW
   rw[List.length_append,List.length_singleton]at BY
   have jm: ∀i,gH (qw M (seen.push j).toList) i=gH (qw M seen.toList) i++(if !p.2.gone&&decide (p.2.kind=(i:Int)+1)then [p.2]else []):=fun i=>by rw[Array.toList_push];exact DS hp i
   have zI:=wh M seen.toList
   clear hs;replace hs:=H6;clear H6;replace aq:=G.le.trans aq ah;replace kz:=kz.mono ah;replace lq:=lq.mono ah
   replace hs:St g g6 ([.obj r1 (wB bm (cq M).length (seen.push j)),sS we sl,sS b4 fun _=> .slice none 0 0]++wz sl fun i=>gH (qw M seen.toList) i):=hs
   refine ba rfl ?_;apply aB
   refine aJ rfl rfl ?_
   apply aE;apply au;apply aG;apply c_
   refine an rfl rfl (qN 0 rfl hs rfl kz.2 rfl hq ?_)
   refine Wp 1 rfl ?_
   refine an rfl rfl (aK T.ok rfl hs rfl rfl ?_);clear hs;rintro Pq g1 hs ah;replace aq:=G.le.trans aq ah;replace kz:=kz.mono ah;replace lq:=lq.mono ah
   refine bg rfl (aA T.ok 0 rfl hs rfl rfl rfl rfl rfl rfl rfl rfl rfl ?_);replace hs:=hs;rintro g1 hs ah;replace aq:=G.le.trans aq ah;replace kz:=kz.mono ah;replace lq:=lq.mono ah
   obtain⟨g2,bR,aU,ah,aL⟩:=hs.a_ (i:=0) rfl;replace hs:=aU;clear aU;rw[←bR];replace aq:=G.le.trans aq ah;replace kz:=kz.mono ah;replace lq:=lq.mono ah
   have aP:=aL;clear aL
   apply cf;refine nK [.z aP] (St.start _) rfl ?_
   have Kt:=hM.2 p (List.mem_of_getElem? hp)
   rw[Kt.1]at Kt
   obtain⟨rS,CX⟩:=DU Kt.2
   clear Kt
   generalize p.2=f at*
   cases I9:f.gone with
   |true=>
    refine aS rfl rfl ?_
    apply aE;apply bU
    have e:(fun i=>gH (qw M seen.toList) i)=fun i=>gH (qw M (seen.push j).toList) i:=by funext i;rw[jm,I9];simp
    rw[e]at hs
    exact fun a ha=>⟨M.length-(seen.push j).toList.length,by rw[Array.toList_push,List.length_append,List.length_singleton];omega,seen.push j,sl,_,rfl,hs,aq,kz,lq,by rw[Array.toList_push];exact wC,by rw[Array.toList_push];exact rW,rfl,ha.keep (by(repeat (first|exact trivial|refine⟨rfl,?_⟩)))⟩
   |false=>
    refine aJ rfl rfl ?_
    obtain⟨i,kK⟩: ∃i:Nat,f.kind=(i:Int)+1:=⟨(f.kind-1).toNat,by omega⟩
    have hi:i<11:=by omega
    have SA:=BU rS CX
    rw[show(f.kind-1).toNat=i from by omega]at SA
    obtain⟨xs,I7⟩: ∃xs,xs=fun i=>gH (qw M seen.toList) i:=⟨_,rfl⟩
    have zJ: ∀i,gH (qw M seen.toList) i=xs i:=fun i=>by rw[I7]
    rw[←I7]at hs
    have e:xC xs i (xs i++[f])=fun i=>gH (qw M (seen.push j).toList) i:=by
     funext k;unfold xC;rw[jm,I9,kK,zJ]
     by_cases Dt:k=i
     ·subst Dt;simp
     ·rw[if_neg Dt,if_neg (by simp;omega),List.append_nil]
    have FJ:(xs i).length≤1000000:=by have:=sI (qw M seen.toList) i;rw[zJ]at this;omega
    clear jm zI hp zJ I7
    refine dx 3 [.z aP] (St.start _) rfl ?_
    refine an rfl rfl (l_ hK rfl lq.2 rfl (a:=f.kind) rfl ?_)
    refine cE (pv i) (t:=65) rfl (by rw[SA];rfl) ?_
    refine Wp 1 rfl ?_
    refine an rfl rfl (ay (Dw (ku hi)) aI rfl rfl rfl rfl rfl (H2 (ku hi) we _) ?_)
    rintro g7 _ uM rfl;replace hs:=hs.call uM;have ah:=uM.le;obtain⟨aq,aP⟩:=cC ah aq aP;replace kz:=kz.mono ah;replace lq:=lq.mono ah
    refine ba rfl ?_
    have hL:=hs.own (i+3) _ (wA hi)
    obtain⟨sa,sc,jr⟩:=hL.1.form
    clear hL
    apply lJ (eJ (fe (.e (.slice sa (xs i).length sc)::fe (.f (Fact.rs [f]):: .f Fact.any::[])))) 7 [(0,68),(6,74)] [6] [[3]] (H4 g [.obj r1 (wB bm (cq M).length (seen.push j)),sS we sl,sS b4 fun _=> .slice none 0 0] sl xs i f) DT (by unfold H4;exact hs.dr) (by kernel_rfl) ⟨cr _,cY,trivial⟩
    ·refine Um [[],[],[1]] [] (by kernel_rfl) rfl ?_
     refine bC (cH (js:=[(2,70)]) (by kernel_rfl) rfl fun ρ g8 h1 _ hle hJ=>cI rfl (bd (az rfl ?_))) ?_
     ·unfold H4 at hJ;rw[h1 0 [3] 6 rfl rfl (by simp)]at hJ
      exact eS T.ok 1 rfl hJ rfl rfl ((DQ hi).trans (by rw[jr])) ⟨g8,rfl,aZ.refl _,rfl⟩
     refine Um [[]] [.z aP] (by kernel_rfl) rfl ?_
     refine bC (cH (js:=[(4,72)]) (by kernel_rfl) rfl fun ρ g8 _ _ hle hJ=>cI rfl (bd (az rfl (bj T.ok rfl (St.start g8) (vs:=[(0,fv f)]) (cells:=bW f) rfl rfl rfl rfl rfl rfl (by decide) (by decide) (by kernel_rfl) rfl fun b g' iS _=>?_)))) ?_
     ·obtain⟨g2,e1,e2,e3⟩:=kj (α:=bc) iS (xs:=[f]) ⟨bW f,[],(List.append_nil _).symm,rfl,rfl⟩
      exact⟨g2,e1,e2,e3⟩
     refine bC (il (js:=[(3,71),(5,73)]) (by kernel_rfl) rfl fun ρ g8 h1 _ h3 hle hJ=>cI rfl (cJ fun v5 h5=>bd ⟨rfl,?_⟩)) ?_
     ·unfold H4 at hJ;rw[h3]at hJ
      replace h5:Rs g8 v5 [f]:=h5
      obtain⟨a5,c5,rfl⟩:=h5.isSlice
      obtain⟨_,news,hn,gn⟩:=Src.jq h5
      obtain⟨c1,c2,rfl,rfl,rfl⟩:=hn
      rw[List.append_nil]at gn
      refine b_ T.ok (i+3) rfl hJ (wA hi) (by rw[jr];rfl) rfl rfl rfl rfl rfl (by decide) rfl gn (El.one (α:=bc) (g:=g8) (x:=f) rfl) (by show((xs i).length+1)*160≤_;omega) (by show(xs i).length+1≤maxLen;unfold maxLen;omega) fun a' c' g9 FL DV=>⟨g9,rfl,⟨DV,?_⟩,trivial⟩
      refine(show(∃a c,Value.slice a' ((xs i).length+1) c'= .slice a ((xs i).length+1) c)∧St g g9 (_++wz (xC sl i (.slice a' ((xs i).length+1) c')) (xC xs i (xs i++[f])))from⟨⟨a',c',rfl⟩,?_⟩)
      rw[←A2,List.length_append,List.length_singleton,lr]
      have e5:fl [f]=bW f:=List.append_nil _
      rw[e5]
      exact FL
     exact vc
    intro ρ g9 hle hJ dh
    refine cI rfl (fH rfl fun v6 _ r6=>bd ?_)
    unfold H4 at hJ;rw[r6]at hJ
    obtain⟨⟨a6,c6,rfl⟩,hs⟩:=hJ
    have ah:=(G.bJ _).trans hle;obtain⟨aq,aP⟩:=cC ah aq aP;replace kz:=kz.mono ah;replace lq:=lq.mono ah
    clear hle dh r6 ρ
    refine Wp 1 rfl ?_
    refine bg rfl (aA T.ok 1 rfl hs rfl rfl rfl rfl rfl rfl rfl (Nat.ble_eq_true_of_le (by show i+1≤11;omega)) (Gf hi _) ?_)
    clear hs;intro g10 hs ah;obtain⟨aq,aP⟩:=cC ah aq aP;replace kz:=kz.mono ah;replace lq:=lq.mono ah
    replace hs:St g g10 ([.obj r1 (wB bm (cq M).length (seen.push j)),sS we (xC sl i (.slice a6 ((xs i).length+1) c6)),sS b4 fun _=> .slice none 0 0]++wz (xC sl i (.slice a6 ((xs i).length+1) c6)) (xC xs i (xs i++[f]))):=hs
    rw[e]at hs
    apply aD;apply bU
    exact fun a ha=>⟨M.length-(seen.push j).toList.length,by rw[Array.toList_push,List.length_append,List.length_singleton];omega,seen.push j,_,_,rfl,hs,aq,kz,lq,by rw[Array.toList_push];exact wC,by rw[Array.toList_push];exact rW,rfl,ha.keep (by(repeat (first|exact trivial|refine⟨rfl,?_⟩)))⟩
  ·have rX:(qw M seen.toList).Perm M:=AO AN bh fun j hj=>by simpa using dh j (by rw[F0];exact hj)
   have lG: ∀i,(gH (qw M seen.toList) i).length≤1000000:=fun i=>by have:=sI (qw M seen.toList) i;have:=wh M seen.toList;omega
   have dm: ∀i,dK (lj i) (gH M i)=dK (lj i) (gH (qw M seen.toList) i):=fun i=>(zu hM (BQ rX i)).symm
   simp only[dm]
   clear rX dm AN bh H5 dh kz
   refine ba rfl ?_;apply aB
   refine aS rfl rfl ?_
   apply bE;apply bK;apply bK;apply dc;apply au;apply aB;refine cP 1 rfl ?_
   refine an rfl rfl (qM hK rfl lq.2 rfl hs ?_)
   clear hs;intro r2 g6 hs ah;replace aq:=G.le.trans aq ah;replace lq:=lq.mono ah
   replace hs:St g g6 ([.obj r2 (wB bk kx.length #[]),sS we sl,sS b4 fun _=> .slice none 0 0]++wz sl fun i=>gH (qw M seen.toList) i):=hs.drop 1
   generalize gH (qw M seen.toList)=xs at hs lG
   clear hM Sy hK
   apply cf;apply aG
   refine bS (fun m a' w=> ∃(seen:Array Nat) (ys:Nat→List bc) (g':G),w=g'.w∧St g g' ([.obj r2 (wB bk kx.length seen),sS we sl,sS b4 fun _=> .slice none 0 0]++wz sl ys)∧G.le g g'∧sR g' bk kx∧seen.toList.Nodup∧(∀j∈seen.toList,j<11)∧(∀i,ys i=if i∈seen.toList then dK (lj i) (xs i)else xs i)∧m=11-seen.toList.length∧
     Fr 91 [] [(4,.pointer (some ⟨b4,0,none⟩)),(11,.pointer (some ⟨we,0,none⟩)),(77,.pointer (some ⟨r2,0,none⟩))] a') 11
    (fun a' ha=>⟨#[],xs,g6,rfl,hs,aq,lq,by simp,by simp,by simp,rfl,ha.keep (by(repeat (first|exact trivial|refine⟨rfl,?_⟩)))⟩) ?_
   clear hs aq lq
   rintro m a' _ ⟨seen,ys,g',rfl,hs,aq,lq,AN,bh,H7,rfl,eI⟩
   have H5:=ky _ _ AN bh
   revert a'
   apply cQ;apply c_
   refine an rfl rfl (sT 0 rfl hs rfl lq.2 rfl (fun dh=>?_) (fun j q g6 hq hj H6 ah=>?_))
   rotate_left
   ·obtain⟨xW,rfl⟩:=BX hq
    have wD:j∉seen.toList:=by simpa using hj
    have wC:(seen.toList++[j]).Nodup:=List.nodup_append.2 ⟨AN,by simp,by intro a ha b hb;rw[List.mem_singleton.1 hb];rintro rfl;exact wD ha⟩
    have rW: ∀k∈seen.toList++[j],k<11:=by intro k hk;rcases List.mem_append.1 hk with hk|hk;exact bh k hk;rw[List.mem_singleton.1 hk];exact xW
    have BY:=ky _ _ wC rW
    rw[List.length_append,List.length_singleton]at BY
    clear hs;replace hs:=H6;clear H6;replace aq:=G.le.trans aq ah;replace lq:=lq.mono ah
    replace hs:St g g6 ([.obj r2 (wB bk kx.length (seen.push j)),sS we sl,sS b4 fun _=> .slice none 0 0]++wz sl ys):=hs
    refine ba rfl ?_;apply aB
    refine aJ rfl rfl ?_
    apply aE;apply au;apply aG;apply c_
    refine an rfl rfl (qN 0 rfl hs rfl lq.2 rfl hq ?_)
    refine Wp 1 rfl ?_
    refine an rfl rfl (aK T.ok rfl hs rfl rfl ?_);clear hs;rintro Pr g1 hs ah;replace aq:=G.le.trans aq ah;replace lq:=lq.mono ah
    refine bg rfl (aA T.ok 0 rfl hs rfl rfl rfl rfl rfl rfl rfl rfl rfl ?_);replace hs:=hs;rintro g1 hs ah;replace aq:=G.le.trans aq ah;replace lq:=lq.mono ah
    obtain⟨g2,bR,aU,ah,aL⟩:=hs.a_ (i:=0) rfl;replace hs:=aU;clear aU;rw[←bR];replace aq:=G.le.trans aq ah;replace lq:=lq.mono ah
    have aP:=aL;clear aL
    apply cf
    replace hs:St g _ ([.obj r2 (wB bk kx.length (seen.push j)),sS we sl,sS b4 fun _=> .slice none 0 0]++wz sl ys):=hs
    have hL:=hs.own (j+3) _ (wA xW)
    obtain⟨sa,sc,jr⟩:=hL.1.form
    clear hL
    apply bO hs (gE (.e (.slice sa (ys j).length sc)::eJ [])) 7 [(4,86),(6,88)] (by kernel_rfl) rfl
    ·refine Dm [[],[0],[1],[2]] [.z aP,.c (Dw (ku xW)) fun g _=>H2 (ku xW) we g] hs (by kernel_rfl) rfl ?_
     refine aw (ak (js:=[(3,85)]) (by kernel_rfl) fun gd hf=>ai rfl (aj (az rfl (eS T.ok 1 rfl (hs.dr.call hf) rfl rfl ((DQ xW).trans (by rw[jr])) ⟨gd,rfl,aZ.refl _,rfl⟩)))) ?_
     exact Dz [[],[5]] [.z aP] hs (by kernel_rfl) rfl
    clear hs;intro g8 hs ah;replace aq:=G.le.trans aq ah;replace lq:=lq.mono ah
    have aU:=hs.front (i:=j+3) (wA xW)
    rw[jr]at aU
    refine an rfl rfl (dv PI aI rfl rfl rfl rfl rfl (DO (fi:=rk j) (kf:=lj j) (ys j) rfl (by have:=lG j;rw[H7];split;rw[fR];all_goals omega) (fun g' _ f=>de (first:=#[]) (args:=[fv f]) (captured:=#[]) (I5 (ku xW)) rfl (MX (ku xW) f g')) aU) ?_)
    clear hs aU
    rintro g9 _ ah ⟨rfl,hs⟩;replace aq:=G.le.trans aq ah;replace lq:=lq.mono ah
    have e6:eP 54 sa (ys j).length sc (dK (lj j) (ys j))= .row 54 19 (sl j) (dK (lj j) (ys j)).length (fl (dK (lj j) (ys j))):=by rw[fR,jr]
    rw[e6]at hs
    replace hs:=hs.perm (vn _ (by rw[List.length_append,Ge];show j+3<3+11;omega))
    replace hs:St g g9 ([.obj r2 (wB bk kx.length (seen.push j)),sS we sl,sS b4 fun _=> .slice none 0 0]++(wz sl ys).set j (.row 54 19 (sl j) (dK (lj j) (ys j)).length (fl (dK (lj j) (ys j))))):=hs
    rw[A2,show xC sl j (sl j)=sl from by funext i;unfold xC;split<;>simp[*]]at hs
    apply aD;apply bU
    refine fun a ha=>⟨11-(seen.push j).toList.length,by rw[Array.toList_push,List.length_append,List.length_singleton];omega,seen.push j,_,_,rfl,hs,aq,lq,by rw[Array.toList_push];exact wC,by rw[Array.toList_push];exact rW,fun i=>?_,rfl,ha.keep (by(repeat (first|exact trivial|refine⟨rfl,?_⟩)))⟩
    unfold xC
    rw[Array.toList_push]
    by_cases zK:i=j
    ·subst zK;rw[if_pos rfl,if_pos (by simp),H7,if_neg wD]
    ·rw[if_neg zK,H7];simp[zK]
   ·have Uc: ∀i,i<11→ys i=dK (lj i) (xs i):=fun i hi=>by rw[H7,if_pos (by simpa using dh i hi)]
    replace hs:=hs.perm List.perm_append_comm
    obtain⟨g7,BZ,B0,ah,py⟩:=DR (List.range 11) hs
    rw[←BZ];clear hs;replace hs:=B0;clear B0;clear BZ
    have h1: ∀i,i<11→(sl i).oneCell'=true:=fun i hi=>by
     obtain⟨a,c,e⟩:=(py i (List.mem_range.2 hi)).isSlice
     rw[e];rfl
    refine ba rfl ?_;apply aB
    refine aS rfl rfl ?_
    apply bE;apply bK;apply bK;apply dc;apply au;refine dx 1 [.o 1] hs rfl ?_
    refine bg rfl (aA T.ok 2 rfl hs rfl rfl rfl rfl rfl rfl (Na h1) rfl rfl ?_)
    clear hs;intro g8 hs ah
    apply cf
    refine aF (kJ T.ok 2 rfl hs rfl rfl rfl (hs.ret ⟨sl,rfl,fun i hi=>?_⟩))
    have:=(py i (List.mem_range.2 hi)).mono ah
    rw[Uc i hi]at this
    exact this
end Go.Proofs.YtebobfdheanknaaGreatDoor
namespace Go.K
open Go Go.RowKit
variable {P:Program} {N:Nat} {l:Env} {g0 g:G} {L:List cV} {R:Ending→World→Prop}
theorem s7{fn:Func}{tb:Tb}(dn:tb.ok P)(i:Nat){t T b u:Nat}{cs:List Value}{E:TypeId}{fz:Nat×Nat}{v x:Value}(hr:fn.results=#[.cell t T,.tmp u])(hs:St g0 g L)(hi:L[i]? =some (.obj b (.cells cs.toArray E fz)))
  (hl:lk l t=some (.pointer (some ⟨b,0,none⟩))) (hv:ve tb T cs 0=some v) (hu:lk l u=some x) (hR:R (.returned (.tuple #[v,x])) g.w) (a:Act) (ha:Fr N [] l a):bodyPost P fn R .ret a g.w:=by
 refine⟨ha.defers,_,?_,hR⟩
 have:=iR (P:=P) (w:=g.w) (off:=0) (o:=0) dn hv (kg (hs.own i _ hi).2.1)
 simp only[Nat.add_zero]at this
 simp[results,hr,ha.get t _ hl,asAddr,this,ha.get u _ hu]
theorem NN{fn:Func}{tb:Tb}(dn:tb.ok P)(i:Nat){t T b u:Nat}{cs:List Value}{E:TypeId}{fz:Nat×Nat}{v x:Value}(hr:fn.results=#[.tmp u,.cell t T])(hs:St g0 g L)(hi:L[i]? =some (.obj b (.cells cs.toArray E fz)))
  (hl:lk l t=some (.pointer (some ⟨b,0,none⟩))) (hv:ve tb T cs 0=some v) (hu:lk l u=some x) (hR:R (.returned (.tuple #[x,v])) g.w) (a:Act) (ha:Fr N [] l a):bodyPost P fn R .ret a g.w:=by
 refine⟨ha.defers,_,?_,hR⟩
 have:=iR (P:=P) (w:=g.w) (off:=0) (o:=0) dn hv (kg (hs.own i _ hi).2.1)
 simp only[Nat.add_zero]at this
 simp[results,hr,ha.get t _ hl,asAddr,this,ha.get u _ hu]
end Go.K
namespace Go.Proofs.YtebobfdheanknaaGreatDoor
def visit(f:bV):Nat→List Bool→Int→List Bool
 |0,out,_=>out
 |k+1,out,n=>(jy (dG f n)).foldl (fun o m=>if o.getD m.toNat true then o else visit f k o m) (out.set n.toNat true)
def dT(f:bV)(k:Nat)(o:List Bool)(l:List Int):List Bool:=l.foldl (fun o m=>if o.getD m.toNat true then o else visit f k o m) o
theorem sV(f:bV)(k:Nat)(out:List Bool)(n:Int):visit f (k+1) out n=dT f k (out.set n.toNat true) (jy (dG f n)):=rfl
theorem uN(f:bV)(k:Nat)(o:List Bool)(pre:List Int)(x:Int):
  dT f k o (pre++[x])=if(dT f k o pre).getD x.toNat true=true then dT f k o pre else visit f k (dT f k o pre) x:=by
 unfold dT
 rw[List.foldl_append,List.foldl_cons,List.foldl_nil]
def ee(f:bV)(n:Int):List Bool:=visit f f.steps.length (List.replicate f.steps.length false) n
def jI:Nat→List Bool→List Int
 |_,[]=>[]
 |k,b::r=>(if b then [(k:Int)]else [])++jI (k+1) r
def reach(f:bV)(n:Int):List Int:=if given f [n]then jI 0 (ee f n)else []
def ends(f:bV):List Int:=(reach f 0).filter fun n=>xX (dG f n)
theorem mW(f:bV)(k:Nat)(hv: ∀o n,(visit f k o n).length=o.length∧(visit f k o n).count false≤o.count false)(l:List Int)(o:List Bool):
  (dT f k o l).length=o.length∧(dT f k o l).count false≤o.count false:=by
 induction l generalizing o with
 |nil=>exact⟨rfl,Nat.le_refl _⟩
 |cons m r ih=>
  unfold dT at ih⊢
  rw[List.foldl_cons]
  by_cases h:o.getD m.toNat true=true
  ·rw[if_pos h];exact ih o
  ·rw[if_neg h]
   have h1:=ih (visit f k o m)
   have h2:=hv o m
   exact⟨h1.1.trans h2.1,Nat.le_trans h1.2 h2.2⟩
theorem sW(o:List Bool)(i:Nat):(o.set i true).count false≤o.count false:=by
 by_cases h:i<o.length
 ·rw[List.count_set h];simp
 ·rw[List.set_eq_of_length_le (by omega)];exact Nat.le_refl _
theorem rl(f:bV)(k:Nat): ∀o n,(visit f k o n).length=o.length∧(visit f k o n).count false≤o.count false:=by
 induction k with
 |zero=>intro o n;exact⟨rfl,Nat.le_refl _⟩
 |succ k ih=>
  intro o n
  rw[sV]
  have h:=mW f k ih (jy (dG f n)) (o.set n.toNat true)
  exact⟨by rw[h.1];simp,Nat.le_trans h.2 (sW o _)⟩
theorem pz{o:List Bool}{i:Nat}(h:o[i]? =some false):(o.set i true).count false+1=o.count false:=by
 obtain⟨hi,he⟩:=List.getElem?_eq_some_iff.1 h
 rw[List.count_set hi,he]
 have:0<o.count false:=List.count_pos_iff.2 (List.mem_iff_getElem.2 ⟨i,hi,he⟩)
 simp;omega
theorem xY{back:Int}{l:List Int}{m:Int}(h:m∈eL back l):m∈l∨(m=back∧0≤back):=by
 induction l generalizing back with
 |nil=>
  unfold eL at h
  split at h
  ·simp at h;exact .inr ⟨h,by assumption⟩
  ·simp at h
 |cons n r ih=>
  unfold eL at h
  rw[List.mem_append]at h
  rcases h with h|h
  ·split at h
   ·simp at h;rename_i hc;exact .inr ⟨h,hc.1⟩
   ·simp at h
  ·rcases List.mem_cons.1 h with rfl|h
   ·exact .inl (List.mem_cons_self)
   ·rcases ih h with h|⟨h1,h2⟩
    ·exact .inl (List.mem_cons_of_mem _ h)
    ·split at h1
     ·rename_i hc;rw[if_pos hc]at h2;omega
     ·rename_i hc;rw[if_neg hc]at h2;exact .inr ⟨h1,h2⟩
theorem B1{lo hi p:Int}{l:List Int}(h:kU lo hi p l=true): ∀m∈l,lo≤m∧m≤hi∧p<m:=by
 induction l generalizing p with
 |nil=>simp
 |cons n r ih=>
  simp only[kU,within,Bool.and_eq_true,decide_eq_true_eq]at h
  intro m hm
  rcases List.mem_cons.1 hm with rfl|hm
  ·omega
  ·have:=ih h.2 m hm;omega
theorem uO{lo hi:Int}{l:List Int}(h:ascending l lo hi=true): ∀m∈l,lo≤m∧m≤hi:=by
 cases l with
 |nil=>simp
 |cons n r=>
  simp only[ascending,within,Bool.and_eq_true,decide_eq_true_eq]at h
  intro m hm
  rcases List.mem_cons.1 hm with rfl|hm
  ·omega
  ·have:=B1 h.2 m hm;omega
theorem sX{s:Step}{n:Int}(h:cg s n=true): ∀m∈s.next,0≤m∧m<n:=by
 unfold cg at h
 simp only[Bool.and_eq_true,decide_eq_true_eq]at h
 intro m hm
 have:=uO h.1.1.1.2 m hm
 omega
theorem zL{s:Step}{n:Int}(h:cg s n=true):s.back<n∨s.back= -1:=by
 unfold cg within at h
 simp only[Bool.and_eq_true,decide_eq_true_eq,Bool.or_eq_true,beq_iff_eq]at h
 rcases h.1.1.1.1.1.1.1 with h|h<;>omega
theorem xZ{f:bV}(h:valid f=true){n:Int}(h0:0≤n)(h1:n<f.steps.length): ∀m∈jy (dG f n),0≤m∧m<f.steps.length:=by
 intro m hm
 have hr:=oH h h0 h1
 rcases xY hm with h2|⟨rfl,h2⟩
 ·exact sX hr m h2
 ·rcases zL hr with h3|h3<;>omega
end Go.Proofs.YtebobfdheanknaaGreatDoor
namespace Go.Proofs.YtebobfdheanknaaGreatDoor
open Go Go.K
set_option maxRecDepth 10000
attribute [local irreducible] W WL cT cn bX bA bB bD cW cG
set_option maxHeartbeats 1000000
def tG(ob N:Nat)(out:List Bool):cV:=.row 4 1 (.slice (some ⟨ob,0,none⟩) N N) N (out.map Value.bool)
structure tH(g:G)(f:bV)(ob N bo bf bv:Nat):Prop where
 QO:EP g bo 0 [.slice (some ⟨ob,0,none⟩) N N]
 MW: ∃cs,EP g bf 0 cs∧qU g cs f
 SU:EP g bv 0 [.func (.func 154) #[] #[.pointer (some ⟨bo,0,none⟩),.pointer (some ⟨bf,0,none⟩),.pointer (some ⟨bv,0,none⟩)]]
theorem tH.mono{g g':G}{f:bV}{ob N bo bf bv:Nat}(h:tH g f ob N bo bf bv)(hle:g.le g'):tH g' f ob N bo bf bv:=
 ⟨h.QO.mono hle,by obtain⟨cs,h1,h2⟩:=h.MW;exact⟨cs,h1.mono hle,h2.mono hle⟩,h.SU.mono hle⟩
theorem GS(f:bV)(iG:valid f=true)(ob N bo bf bv:Nat)(hN:N=f.steps.length): ∀(k:Nat) (g0 g:G) (L:List cV) (i:Nat) (out:List Bool) (n:Int),
  St g0 g L→L[i]? =some (tG ob N out)→tH g f ob N bo bf bv→out.length=N→0≤n→out[n.toNat]? =some false→out.count false≤k→
  CallsIn Wd 0 Tryz.prog 154 #[.int .i64 n,.pointer (some ⟨bo,0,none⟩),.pointer (some ⟨bf,0,none⟩),.pointer (some ⟨bv,0,none⟩)] g.w
   fun e w'=> ∃g',g'.w=w'∧e= .returned (.tuple #[])∧St g0 g' (L.set i (tG ob N (visit f k out n)))∧g.le g':=by
 intro k
 induction k with
 |zero=>
  intro g0 g L i out n _ _ _ _ _ hn hc
  exact absurd (List.count_pos_iff.2 (List.mem_of_getElem? hn)) (by omega)
 |succ k ih=>
  intro g0 g L i out n hs hi Aa hlen h0 hn hc
  have bh:n.toNat<N:=by rw[←hlen];exact(List.getElem?_eq_some_iff.1 hn).1
  have O4:i<L.length:=(List.getElem?_eq_some_iff.1 hi).1
  have aq:=G.le.refl g
  have aC:=Aa.QO
  obtain⟨cs,aP,a1,n1,c1,a2,n2,c2,rfl,aH,aT⟩:=Aa.MW
  obtain⟨_,_,e⟩:=aH.isSlice;obtain⟨rfl,rfl,rfl⟩:=Value.slice.inj e;clear e
  have UC:=Aa
  refine qH Tryz.func154 rfl Tryz.ntmps154 rfl ?_
  refine dx 2 [.z aC] (St.start _) rfl ?_
  refine an rfl rfl (iy T.ok rfl (hs.own i _ hi).1 h0 bh rfl rfl rfl rfl rfl rfl ?_)
  rintro b p hh;obtain⟨rfl,rfl⟩:ob=b∧0=p:=by simpa using hh
  refine bg rfl (kD T.ok i (n.toNat*1) (us:=[.bool true]) rfl hs hi rfl rfl rfl rfl rfl rfl (by decide) (by simp;omega) (xs':=(out.set n.toNat true).map Value.bool) ?_ ?_)
  ·rw[Nat.mul_one,List.map_set]
   unfold lF
   rw[List.set_eq_take_append_cons_drop]
   simp[hlen,bh]
  rintro g1 hs ah;obtain⟨aq,aC,aP,aH⟩:=dE ah aq aC aP aH
  replace Aa:=Aa.mono ah
  apply cf;refine dx 3 [.z aP] (St.start _) rfl ?_
  have C1:n<f.steps.length:=by omega
  refine an rfl rfl (aW T.ok rfl aH (y:=dG f n) (by unfold dG;rw[cU (j:=n.toNat) (by omega) (by omega)];simp[List.getD_eq_getElem?_getD,show n.toNat<f.steps.length from by omega]) rfl rfl rfl rfl rfl rfl ?_)
  rintro b q ys aL eK
  have NT:ja _ (.agg ys.toArray) (dG f n):=⟨ys,rfl,eK⟩
  obtain⟨b1,b2,b3,b4,b5,b6,rfl,_,_⟩:=eK
  refine Wm 1 [.e aL 0] (St.start _) rfl ?_
  skip
  refine an rfl rfl (ay LG aI rfl rfl rfl rfl rfl (GR _ _ _ NT) ?_);rintro g4 v kL ⟨jR,eG,rfl,fY,UD⟩;replace hs:=hs.call kL
  have ah:=kL.le;obtain⟨aq,aC,aP⟩:=ef ah aq aC aP
  replace Aa:=Aa.mono ah
  apply cf;apply aG
  have NU:=rl f k
  have iU:=pz hn
  refine AY (N:=24) hs rfl fY UD rfl (fun _=>rfl)
   (fun pre L' _=>L'=L.set i (tG ob N (dT f k (out.set n.toNat true) pre))) (fun _ _ _ _=>False)
   (fun _ _ _ _ _ h=>h) (fun _ _ _ _ _ _ h=>h) rfl (fun x=>[(5,.int .i64 x),(1,.pointer (some ⟨bo,0,none⟩)),(2,.pointer (some ⟨bf,0,none⟩)),(3,.pointer (some ⟨bv,0,none⟩))]) ?_ ?_ ?_ ?_
  ·intro x ro w
   apply ar;refine Wp 1 rfl ?_;apply aD
   exact fun a ha=>⟨rfl,ha.keep (by(repeat (first|exact trivial|refine⟨rfl,?_⟩)))⟩
  ·rintro lp D ro pre x rest gr Lr jm hle hs rfl
   have Aa:=Aa.mono hle
   have cN:=G.le.refl gr
   have aC:=Aa.QO
   obtain⟨cs',aP,SV⟩:=Aa.MW
   have dO:=Aa.SU
   obtain⟨h3,h4⟩:=xZ iG h0 C1 x (by rw[jm];simp)
   have Kt:=mW f k NU pre (out.set n.toNat true)
   have uI:(dT f k (out.set n.toNat true) pre).length=N:=by rw[Kt.1];simp[hlen]
   have lG:x.toNat<(dT f k (out.set n.toNat true) pre).length:=by omega
   have QP:(cV.obj lp (ro LoopState.busy)::cV.obj D fM::L.set i (tG ob N (dT f k (out.set n.toNat true) pre)))[i+2]? =some (tG ob N (dT f k (out.set n.toNat true) pre)):=by
    simp[O4]
   have k_:dT f k (out.set n.toNat true) (pre++[x])=if(dT f k (out.set n.toNat true) pre)[x.toNat]=true then dT f k (out.set n.toNat true) pre else visit f k (dT f k (out.set n.toNat true) pre) x:=by
    rw[uN,List.getD_eq_getElem?_getD,List.getElem?_eq_getElem lG]
    rfl
   apply aG;refine dx 2 [.z aC] (St.start _) rfl ?_
   refine an rfl rfl (iy T.ok rfl (hs.own (i+2) _ QP).1 h3 (by omega) rfl rfl rfl rfl rfl rfl ?_)
   rintro b p hh;obtain⟨rfl,rfl⟩:ob=b∧0=p:=by simpa using hh
   refine an rfl rfl (iP T.ok (x.toNat*1) rfl (hs.own (i+2) _ QP).1 rfl (v:=.bool ((dT f k (out.set n.toNat true) pre)[x.toNat])) (by show(List.map Value.bool _)[x.toNat*1]? =_;rw[Nat.mul_one,List.getElem?_map,List.getElem?_eq_getElem lG];rfl) ?_)
   refine ba rfl ?_
   cases hb:(dT f k (out.set n.toNat true) pre)[x.toNat]with
   |true=>
    refine aS rfl rfl ?_
    apply aE;apply bU
    exact fun a ha=>⟨_,_,rfl,hs,cN,by rw[k_,if_pos hb]⟩
   |false=>
    refine aJ rfl rfl ?_
    apply ar;refine Wm 2 [.z dO] (St.start _) rfl ?_
    have nh:=ih g0 gr _ (i+2) _ x hs QP Aa uI h3 (by rw[List.getElem?_eq_getElem lG,hb]) (by omega)
    have QQ:=de (first:=#[]) (args:=[.int .i64 x]) (captured:=#[.pointer (some ⟨bo,0,none⟩),.pointer (some ⟨bf,0,none⟩),.pointer (some ⟨bv,0,none⟩)]) HG rfl nh
    refine an rfl rfl (eT rfl rfl rfl rfl rfl rfl (QQ.mono ?_))
    rintro _ _ ⟨g5,rfl,rfl,ED,ah⟩
    refine⟨_,rfl,?_⟩
    replace cN:=G.le.trans cN ah
    apply aD;apply bU
    exact fun a ha=>⟨_,_,rfl,ED,cN,by rw[k_,if_neg (by simp[hb]),List.set_set]⟩
  ·rintro lp D o Lr ge hle hs rfl
   apply bU
   refine H0 1 rfl hs rfl (fun g' iS fL=>?_)
   refine⟨g',rfl,rfl,?_,(aq.trans hle).trans fL⟩
   have:=iS.drop 0
   rw[sV]
   exact this
  ·rintro c lp D o pre Lr ge _ _ _ h
   exact h.elim
end Go.Proofs.YtebobfdheanknaaGreatDoor
