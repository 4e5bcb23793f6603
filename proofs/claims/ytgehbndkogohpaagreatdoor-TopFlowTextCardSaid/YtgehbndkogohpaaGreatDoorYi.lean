/- Parts of the proof, from: Sorting facts by a function that compares: two sorted stretches merged in place. -/
import Derived.Test.YtgehbndkogohpaaGreatDoorYh
import Derived.Test.YtgehbndkogohpaaGreatDoorYg
namespace Go.Proofs.YtgehbndkogohpaaGreatDoor
open Go Go.K
set_option maxRecDepth 10000
attribute [local irreducible] W WL cD bc bK bd bg bh cq ck
set_option maxHeartbeats 8000000
theorem HG{α:Type}{k:α→Int×Int}{A B:List α}{x:α}(h1: ∀a∈A,kl k a x=true)(h2: ∀b∈B,kl k b x=false):lW k [x] (A++B)=A++x::B:=by have e:=gZ (k:=k) [] A (a2:=[x]) (b2:=B) (by simp) (fun a ha y hy=>by rw[List.mem_singleton.1 hy];exact h1 a ha);have e2:=gZ (k:=k) [x] [] (a2:=[]) (b2:=B) (fun y hy b hb=>by rw[List.mem_singleton.1 hy];exact h2 b hb) (by simp);simp only[List.nil_append,List.append_nil]at e e2;rw[e,e2,gL];rfl
theorem Wl{n:Int}(h1:0≤n)(h2:n≤9223372036854775807):IntKind.u64.wrap n=n:=by unfold IntKind.wrap;simp[IntKind.bits,IntKind.signed];omega
theorem HH{a b:Nat}(h:a+b≤4000000000):IntKind.i64.wrap (ck .u64 (IntKind.u64.wrap (IntKind.i64.wrap ((a:Int)+(b:Int)))) 1)=(((a+b)/2:Nat):Int):=by
 rw[wr (n:=(a:Int)+b) (by omega) (by omega),Wl (by omega) (by omega)];have e:ck .u64 ((a:Int)+b) 1=((a+b)/2:Nat):=by unfold ck;simp only[IntKind.bits];rw[show(2:Int)^(min 1 64)=2 from rfl,Int.fdiv_eq_ediv_of_nonneg _ (by omega)];omega
 rw[e,wr (by omega) (by omega)]
theorem tV(tw:Bool){fo:Value}{kf:bH→Int×Int}{ad:Option Addr}{n c:Nat}{L:List cS}(hm:n≤1000000000): ∀(sz:Nat) (U X Y V:List bH) {g0 g:G},X.length+Y.length=sz→0<X.length→0<Y.length→AE kf X→AE kf Y→n=U.length+X.length+Y.length+V.length→A1 fo kf g→St g0 g (fy (lN tw) ad n c (U++X++Y++V)::L)→
  CallsIn Wd 0 Tryz.prog (O0 tw) #[.slice ad n c,.int .i64 (U.length:Nat),.int .i64 (U.length+X.length:Nat),.int .i64 (U.length+X.length+Y.length:Nat),fo] g.w (ek g fun g' r=>r= .tuple #[]∧St g0 g' (fy (lN tw) ad n c (U++lW kf X Y++V)::L)):=by
 cases tw
 case' false=>let tw:=false
 case' true=>let tw:=true
 all_goals
  intro sz
  induction sz using Nat.strongRecOn with
  |_ sz ih=>
  intro U X Y V g0 g cP hX hY Mq Mr hn hk hs;have aq:=G.le.refl g
  first|refine enter Tryz.func249 rfl Tryz.ntmps249 rfl ?_|refine enter Tryz.func277 rfl Tryz.ntmps277 rfl ?_
  apply aD;refine aY rfl ?_;by_cases A2:X.length=1
  ·refine aM (b:=IntKind.i64.wrap (((U.length+X.length:Nat):Int)-(U.length:Nat))==1) (by rw[wr (by omega) (by omega)];simp;omega) rfl ?_;obtain⟨x,rfl⟩:=List.length_eq_one_iff.1 A2;simp only[List.length_singleton]at*;refine aY rfl ?_;refine aY rfl ?_;apply aD;apply aG;refine bM (fun m a' w=> ∃(lo hi:Nat) (g':G),w=g'.w∧St g0 g' (fy (lN tw) ad n c (U++[x]++Y++V)::L)∧G.le g g'∧lo≤hi∧hi≤Y.length∧(∀t (h:t<Y.length),t<lo→kl kf Y[t] x=true)∧(∀t (h:t<Y.length),hi≤t→kl kf Y[t] x=false)∧m=hi-lo∧
     Fr 220 [] [(0,.slice ad n c),(1,.int .i64 (U.length:Nat)),(2,.int .i64 (U.length+1:Nat)),(3,.int .i64 (U.length+1+Y.length:Nat)),(4,fo),(10,.int .i64 (U.length+1+lo:Nat)),(11,.int .i64 (U.length+1+hi:Nat))] a') Y.length
    (fun a' ha=>⟨0,Y.length,g,rfl,hs,aq,by omega,by omega,by intros;omega,by intros;omega,rfl,ha.keep ⟨rfl,rfl,rfl,rfl,rfl,rfl,rfl,trivial⟩⟩) ?_
   clear hs aq;rintro m a' _ ⟨lo,hi,g',rfl,hs,aq,h1,h2,h3,h4,rfl,eF⟩;revert a';apply cI;apply aD;refine aY rfl ?_;by_cases bC:lo<hi
   ·refine aM (b:=decide (((U.length+1+lo:Nat):Int)<((U.length+1+hi:Nat):Int))) (by simp;omega) rfl ?_;apply aF;apply ar;apply aG;refine aY rfl ?_;apply aD;obtain⟨md,O4⟩: ∃md,md=(lo+hi)/2:=⟨_,rfl⟩
    have JR:lo≤md:=by omega
    have Ms:md<hi:=by omega
    have A3:md<Y.length:=by omega
    refine pP (l':=[(0,.slice ad n c),(1,.int .i64 (U.length:Nat)),(2,.int .i64 (U.length+1:Nat)),(3,.int .i64 (U.length+1+Y.length:Nat)),(4,fo),(10,.int .i64 (U.length+1+lo:Nat)),(11,.int .i64 (U.length+1+hi:Nat)),(12,.int .i64 (U.length+1+md:Nat))]) ⟨rfl,rfl,rfl,rfl,rfl,rfl,rfl,kI rfl ((HH (by omega)).trans (by omega)),trivial⟩ ?_;obtain⟨b0,p0,rfl⟩: ∃b p,ad=some ⟨b,p,none⟩:=by
     rcases(hs.own 0 _ rfl).1.2 with⟨h0,_⟩|⟨b,off,cap,cur,hv,_⟩
     ·omega
     simp only[Value.slice.injEq]at hv;exact⟨b,off,hv.1⟩
    have gx:(U++[x]++Y++V)[U.length]? =some x:=by simp
    have gy:(U++[x]++Y++V)[U.length+1+md]? =some Y[md]:=by rw[List.append_assoc,List.getElem?_append_right (by simp only[List.length_append,List.length_singleton];omega),List.getElem?_append_left (by simp only[List.length_append,List.length_singleton];omega),List.length_append,List.length_singleton,Nat.add_sub_cancel_left,List.getElem?_eq_getElem A3]
    obtain⟨y,E0⟩: ∃y,y=Y[md]:=⟨_,rfl⟩
    rw[←E0]at gy;apply bP hs (eO (eQ (fe []))) 11 [(10,50)] (by kernel_rfl) rfl
    ·refine Dm [[],[],[]] [] hs (by kernel_rfl) rfl ?_;refine ay (an (js:=[(1,41),(2,42)]) (by kernel_rfl) fun gd hf=>ai rfl (ai rfl (aj (aB rfl (cX (α:=bH) 0 rfl (hs.dr.call hf) rfl (by omega) (by omega) rfl rfl rfl rfl rfl rfl fun b p hb=>⟨gd,rfl,a_.refl _,?_⟩))))) ?_
     ·obtain⟨rfl,rfl⟩:b0=b∧p0=p:=by simpa using hb
      rfl
     refine ay (an (js:=[(3,43)]) (by kernel_rfl) fun gd hf=>ai rfl (aj (aB rfl (dV (α:=bH) 0 rfl (hs.dr.call hf) rfl rfl (j:=U.length+1+md) gy rfl rfl rfl ⟨gd,rfl,a_.refl _,rfl⟩)))) ?_;refine Dm [[],[]] [] hs (by kernel_rfl) rfl ?_;refine ay (an (js:=[(5,45),(6,46)]) (by kernel_rfl) fun gd hf=>ai rfl (ai rfl (aj (aB rfl (cX (α:=bH) 0 rfl (hs.dr.call hf) rfl (by omega) (by omega) rfl rfl rfl rfl rfl rfl fun b p hb=>⟨gd,rfl,a_.refl _,?_⟩))))) ?_
     ·obtain⟨rfl,rfl⟩:b0=b∧p0=p:=by simpa using hb
      rfl
     refine ay (an (js:=[(7,47)]) (by kernel_rfl) fun gd hf=>ai rfl (aj (aB rfl (dV (α:=bH) 0 rfl (hs.dr.call hf) rfl rfl (j:=U.length) gx rfl rfl rfl ⟨gd,rfl,a_.refl _,rfl⟩)))) ?_;refine ay (an (js:=[(0,40),(4,44),(8,48)]) (by kernel_rfl) fun gd hf=>ai rfl (ai rfl (ai rfl (aj (aB rfl (eE rfl rfl rfl rfl rfl rfl (hk gd (aq.trans ((G.bu _).trans hf.le)) y x) fun g' v h1 h2=>⟨g',rfl,h1,h2⟩)))))) ?_;exact Dz [[9]] [] hs (by kernel_rfl) rfl
    clear hs;intro g5 hs ah;replace aq:=G.le.trans aq ah;apply bW;cases lg:kl kf y x with
    |true=>
     refine aM (b:=decide (rJ (kf y) (kf x)<0)) (by rw[lx];exact lg) rfl ?_;apply aA;refine Wp 3 rfl ?_;apply aE;apply bR;refine fun a ha=>⟨hi-(md+1),by omega,md+1,hi,g5,rfl,hs,aq,by omega,h2,?_,h4,rfl,ha.keep ⟨rfl,rfl,rfl,rfl,rfl,kI rfl (by rw[wr (by omega) (by omega)];omega),rfl,trivial⟩⟩
     rw[E0]at lg;intro t ht SN;by_cases Di:t=md
     ·subst Di;exact lg
     have:=List.pairwise_iff_getElem.1 Mr t md ht A3 (by omega);rw[rv]at lg⊢;rw[iA]at this;omega
    |false=>
     refine aV (b:=decide (rJ (kf y) (kf x)<0)) (by rw[lx];exact lg) rfl ?_;apply aA;refine Wp 2 rfl ?_;apply aE;apply bR;refine fun a ha=>⟨md-lo,by omega,lo,md,g5,rfl,hs,aq,by omega,by omega,h3,?_,rfl,ha.keep ⟨rfl,rfl,rfl,rfl,rfl,rfl,rfl,trivial⟩⟩
     rw[E0]at lg;intro t ht SN;by_cases Di:t=md
     ·subst Di;exact lg
     have:=List.pairwise_iff_getElem.1 Mr md t A3 ht (by omega);rw[iA]at lg this⊢;omega
   refine aV (b:=decide (((U.length+1+lo:Nat):Int)<((U.length+1+hi:Nat):Int))) (by simp;omega) rfl ?_;apply bF;apply bG;apply bG;apply c_;apply ar;apply aD;refine aY rfl ?_;apply aG;obtain rfl:lo=hi:=by omega
   have eY:=List.take_append_drop lo Y;have O5:(Y.take lo).length=lo:=by rw[List.length_take];omega
   have hM:lW kf [x] Y=Y.take lo++x::Y.drop lo:=by
    have e:=HG (k:=kf) (A:=Y.take lo) (B:=Y.drop lo) (x:=x) (fun a ha=>by
     obtain⟨t,ht,rfl⟩:=List.mem_iff_getElem.1 ha;rw[List.getElem_take];exact h3 _ _ (by omega)) (fun b hb=>by
     obtain⟨t,ht,rfl⟩:=List.mem_iff_getElem.1 hb;rw[List.getElem_drop];exact h4 _ _ (by omega))
    rw[eY]at e;exact e
   have er:U++[x]++Y++V=U++[]++x::(Y.take lo++(Y.drop lo++V)):=by
    conv=>lhs;rw[←eY]
    simp only[List.append_assoc,List.cons_append,List.nil_append]
   rw[er]at hs;rw[hM];have QX:(Y.drop lo).length=Y.length-lo:=List.length_drop;generalize Y.take lo=Y1 at hs O5;generalize Y.drop lo=Y2 at hs QX;have Wk:(Y2++V).length=Y2.length+V.length:=List.length_append;refine bM (fun m a' w=> ∃(A B:List bH) (g2:G),w=g2.w∧St g0 g2 (fy (lN tw) ad n c (U++A++x::(B++(Y2++V)))::L)∧G.le g g2∧Y1=A++B∧m=B.length∧
     Fr 220 [] [(0,.slice ad n c),(1,.int .i64 (U.length:Nat)),(2,.int .i64 (U.length+1:Nat)),(3,.int .i64 (U.length+1+Y.length:Nat)),(4,fo),(10,.int .i64 (U.length+1+lo:Nat)),(13,.int .i64 (U.length+A.length:Nat))] a') Y1.length
    (fun a' ha=>⟨[],Y1,g',rfl,hs,aq,by simp,rfl,ha.keep ⟨rfl,rfl,rfl,rfl,rfl,rfl,rfl,trivial⟩⟩) ?_
   clear hs aq;rintro m a' _ ⟨A,B,g2,rfl,hs,aq,AI,rfl,eF⟩;have wo:A.length+B.length=lo:=by rw[←List.length_append,←AI,O5]
   revert a';apply cI;apply aD;refine aY rfl ?_;cases B with
   |nil=>
    refine aV (b:=decide (((U.length+A.length:Nat):Int)<IntKind.i64.wrap (((U.length+1+lo:Nat):Int)-1))) (by rw[wr (by omega) (by omega)];simp only[List.length_nil]at wo;simp;omega) rfl ?_;apply bF;apply bG;apply bG;apply c_;apply ar;refine aI (s3 rfl (ek.intro aq ⟨rfl,?_⟩));rw[AI];simpa using hs
   |cons z B=>
    refine aM (b:=decide (((U.length+A.length:Nat):Int)<IntKind.i64.wrap (((U.length+1+lo:Nat):Int)-1))) (by rw[wr (by omega) (by omega)];simp only[List.length_cons]at wo;simp;omega) rfl ?_;simp only[List.length_cons]at wo;obtain⟨b0,p0,rfl⟩: ∃b p,ad=some ⟨b,p,none⟩:=by
     rcases(hs.own 0 _ rfl).1.2 with⟨h0,_⟩|⟨b,off,cap,cur,hv,_⟩
     ·omega
     simp only[Value.slice.injEq]at hv;exact⟨b,off,hv.1⟩
    have ej:U.length+A.length=(U++A).length:=by rw[List.length_append]
    have eN:A++[z]=A++[z]:=rfl;have A4:(U++A)++z::([]++x::(B++(Y2++V)))=U++(A++[z])++x::(B++(Y2++V)):=by simp
    have SO:U++A++x::(z::B++(Y2++V))=(U++A)++x::([]++z::(B++(Y2++V))):=rfl;rw[SO]at hs;rw[ej];have HF:(U++A).length=U.length+A.length:=List.length_append;generalize U++A=X at hs HF A4;have Uz:(X++x::([]++z::(B++(Y2++V)))).length=n:=by rw[List.length_append,HF];simp only[List.length_cons,List.length_append,List.length_nil];omega
    have gx:(X++x::([]++z::(B++(Y2++V))))[X.length]? =some x:=by simp
    have gz:(X++x::([]++z::(B++(Y2++V))))[X.length+1]? =some z:=xE X [] _ x z;apply aF;apply ar;apply aD;apply aG;apply qz (iY (.e (.int .i64 (X.length+1:Nat))::eQ (.e (.int .i64 (X.length+1:Nat))::iY (eQ (fe [.f Fact.any]))))) 16 [(2,63),(4,65),(13,74)] [15] [[0,1,5,6,7,8,9,10,11,12,13,14]]
     (fun s=>match s with|0=>fy (lN tw) (some ⟨b0,p0,none⟩) n c (X++x::([]++z::(B++(Y2++V))))::L|_+1=>fy (lN tw) (some ⟨b0,p0,none⟩) n c ((X++x::([]++z::(B++(Y2++V)))).set X.length z)::L) hs (by kernel_rfl) ⟨dk,trivial⟩
    ·refine Lm [[],[],[],[]] [] (by kernel_rfl) rfl ?_;refine dm (ni (js:=[(3,64)]) (by kernel_rfl) rfl fun s g' _ _ _ hf _=>ai rfl (aj (aB rfl (aN _ T.ok rfl ⟨g',rfl,a_.refl _,?_⟩)))) ?_
     ·exact congrArg (Value.int .i64) (by rw[wr (by omega) (by omega)];omega)
     refine Lm [[],[]] [] (by kernel_rfl) rfl ?_;refine dm (ni (js:=[(6,67)]) (by kernel_rfl) rfl fun s g' _ _ _ hf _=>ai rfl (aj (aB rfl (aN _ T.ok rfl ⟨g',rfl,a_.refl _,?_⟩)))) ?_
     ·exact congrArg (Value.int .i64) (by rw[wr (by omega) (by omega)];omega)
     refine dm (lj 0 0 (js:=[(5,66),(7,68)]) (by kernel_rfl) (by kernel_rfl) ?_) ?_
     ·intro s g' _ h1 hf hJ;obtain rfl:s=0:=by omega
      refine ai rfl (ai rfl (aj (aB rfl (cX (α:=bH) 0 rfl hJ rfl (by omega) (by omega) rfl rfl rfl rfl rfl rfl fun b p hb=>⟨g',rfl,a_.refl _,?_⟩))));obtain⟨rfl,rfl⟩:b0=b∧p0=p:=by simpa using hb
      rfl
     refine dm (lj 0 0 (js:=[(8,69)]) (by kernel_rfl) (by kernel_rfl) ?_) ?_
     ·intro s g' _ h1 hf hJ;obtain rfl:s=0:=by omega
      exact ai rfl (aj (aB rfl (dV (α:=bH) 0 rfl hJ rfl rfl (j:=X.length+1) gz rfl rfl rfl ⟨g',rfl,a_.refl _,rfl⟩)))
     refine Lm [[],[]] [] (by kernel_rfl) rfl ?_;refine dm (lj 0 0 (js:=[(10,71),(11,72)]) (by kernel_rfl) (by kernel_rfl) ?_) ?_
     ·intro s g' _ h1 hf hJ;obtain rfl:s=0:=by omega
      refine ai rfl (ai rfl (aj (aB rfl (cX (α:=bH) 0 rfl hJ rfl (by omega) (by omega) rfl rfl rfl rfl rfl rfl fun b p hb=>⟨g',rfl,a_.refl _,?_⟩))));obtain⟨rfl,rfl⟩:b0=b∧p0=p:=by simpa using hb
      rfl
     refine dm (lj 0 0 (js:=[(12,73)]) (by kernel_rfl) (by kernel_rfl) ?_) ?_
     ·intro s g' _ h1 hf hJ;obtain rfl:s=0:=by omega
      exact ai rfl (aj (aB rfl (dV (α:=bH) 0 rfl hJ rfl rfl (j:=X.length) gx rfl rfl rfl ⟨g',rfl,a_.refl _,rfl⟩)))
     refine dm (lj 0 0 (js:=[(0,61),(1,62),(0,61),(1,62)]) (by kernel_rfl) (by kernel_rfl) ?_) ?_
     ·intro s g' _ h1 hf hJ;obtain rfl:s=0:=by omega
      refine ai rfl (ai rfl (ai rfl (ai rfl (aj (aB rfl (cX (α:=bH) 0 rfl hJ rfl (by omega) (by omega) rfl rfl rfl rfl rfl rfl fun b p hb=>⟨g',rfl,a_.refl _,?_⟩))))));obtain⟨rfl,rfl⟩:b0=b∧p0=p:=by simpa using hb
      rfl
     refine dm (wq 0 (js:=[(14,75),(9,70),(9,70)]) (by kernel_rfl) rfl fun g' hf hJ=>ai rfl (ai rfl (ai rfl (aj (rK rfl (gw (α:=bH) 0 rfl hJ rfl rfl rfl (v:=z) (j:=X.length) (by omega) rfl rfl fun g3 hs hle=>⟨g3,rfl,⟨hle,hs⟩,trivial⟩)))))) ?_;exact zl
    clear hs;intro g6 hs ah;replace aq:=G.le.trans aq ah;refine ai rfl (ai rfl (ai rfl (aj ?_)));refine ak rfl rfl (cX (α:=bH) 0 rfl hs rfl (by omega) (by omega) rfl rfl rfl rfl rfl rfl fun b p hb=>?_);obtain⟨rfl,rfl⟩:b0=b∧p0=p:=by simpa using hb
    refine bA rfl (gw (α:=bH) 0 rfl hs rfl rfl rfl (v:=x) (j:=X.length+1) (by rw[List.length_set];omega) rfl rfl ?_);clear hs;intro g7 hs ah;replace aq:=G.le.trans aq ah;replace hs:St g0 g7 (fy (lN tw) (some ⟨b0,p0,none⟩) n c (((X++x::([]++z::(B++(Y2++V)))).set X.length z).set (X.length+1+([]:List bH).length) x)::L):=hs;rw[zm,A4]at hs;apply aE;apply bR;apply ar;apply aA;refine Wp 3 rfl ?_;apply aE;exact fun a ha=>⟨B.length,by simp,A++[z],B,g7,rfl,hs,aq,by rw[AI];simp,rfl,ha.keep ⟨rfl,rfl,rfl,rfl,rfl,rfl,kI rfl (by rw[wr (by omega) (by omega),List.length_append,List.length_singleton];omega),trivial⟩⟩
  refine aV (b:=IntKind.i64.wrap (((U.length+X.length:Nat):Int)-(U.length:Nat))==1) (by rw[wr (by omega) (by omega)];simp;omega) rfl ?_;apply aF;apply ar;apply aD;refine aY rfl ?_;by_cases Wn:Y.length=1
  ·refine aM (b:=IntKind.i64.wrap (((U.length+X.length+Y.length:Nat):Int)-(U.length+X.length:Nat))==1) (by rw[wr (by omega) (by omega)];simp;omega) rfl ?_;obtain⟨y,rfl⟩:=List.length_eq_one_iff.1 Wn;simp only[List.length_singleton]at*;refine aY rfl ?_;refine aY rfl ?_;apply aD;apply aG;refine bM (fun m a' w=> ∃(lo hi:Nat) (g':G),w=g'.w∧St g0 g' (fy (lN tw) ad n c (U++X++[y]++V)::L)∧G.le g g'∧lo≤hi∧hi≤X.length∧(∀t (h:t<X.length),t<lo→kl kf y X[t]=false)∧(∀t (h:t<X.length),hi≤t→kl kf y X[t]=true)∧m=hi-lo∧
     Fr 220 [] [(0,.slice ad n c),(1,.int .i64 (U.length:Nat)),(2,.int .i64 (U.length+X.length:Nat)),(3,.int .i64 (U.length+X.length+1:Nat)),(4,fo),(14,.int .i64 (U.length+lo:Nat)),(15,.int .i64 (U.length+hi:Nat))] a') X.length
    (fun a' ha=>⟨0,X.length,g,rfl,hs,aq,by omega,by omega,by intros;omega,by intros;omega,rfl,ha.keep ⟨rfl,rfl,rfl,rfl,rfl,rfl,rfl,trivial⟩⟩) ?_
   clear hs aq;rintro m a' _ ⟨lo,hi,g',rfl,hs,aq,h1,h2,h3,h4,rfl,eF⟩;revert a';apply cI;apply aD;refine aY rfl ?_;by_cases bC:lo<hi
   ·refine aM (b:=decide (((U.length+lo:Nat):Int)<((U.length+hi:Nat):Int))) (by simp;omega) rfl ?_;apply aF;apply ar;apply aG;refine aY rfl ?_;apply aD;obtain⟨md,O4⟩: ∃md,md=(lo+hi)/2:=⟨_,rfl⟩
    have JR:lo≤md:=by omega
    have Ms:md<hi:=by omega
    have A3:md<X.length:=by omega
    refine pP (l':=[(0,.slice ad n c),(1,.int .i64 (U.length:Nat)),(2,.int .i64 (U.length+X.length:Nat)),(3,.int .i64 (U.length+X.length+1:Nat)),(4,fo),(14,.int .i64 (U.length+lo:Nat)),(15,.int .i64 (U.length+hi:Nat)),(16,.int .i64 (U.length+md:Nat))]) ⟨rfl,rfl,rfl,rfl,rfl,rfl,rfl,kI rfl ((HH (by omega)).trans (by omega)),trivial⟩ ?_;obtain⟨b0,p0,rfl⟩: ∃b p,ad=some ⟨b,p,none⟩:=by
     rcases(hs.own 0 _ rfl).1.2 with⟨h0,_⟩|⟨b,off,cap,cur,hv,_⟩
     ·omega
     simp only[Value.slice.injEq]at hv;exact⟨b,off,hv.1⟩
    have gy:(U++X++[y]++V)[U.length+X.length]? =some y:=by rw[List.append_assoc,List.getElem?_append_right (by rw[List.length_append];omega),List.length_append,Nat.sub_self];rfl
    have gx:(U++X++[y]++V)[U.length+md]? =some X[md]:=by rw[List.append_assoc,List.append_assoc,List.getElem?_append_right (by omega),Nat.add_sub_cancel_left,List.getElem?_append_left A3,List.getElem?_eq_getElem A3]
    obtain⟨x,E0⟩: ∃x,x=X[md]:=⟨_,rfl⟩
    rw[←E0]at gx;apply bP hs (eO (iY [])) 12 [(11,103)] (by kernel_rfl) rfl
    ·refine Dm [[],[],[]] [] hs (by kernel_rfl) rfl ?_;refine ay (an (js:=[(1,93),(2,94)]) (by kernel_rfl) fun gd hf=>ai rfl (ai rfl (aj (aB rfl (cX (α:=bH) 0 rfl (hs.dr.call hf) rfl (by omega) (by omega) rfl rfl rfl rfl rfl rfl fun b p hb=>⟨gd,rfl,a_.refl _,?_⟩))))) ?_
     ·obtain⟨rfl,rfl⟩:b0=b∧p0=p:=by simpa using hb
      rfl
     refine ay (an (js:=[(3,95)]) (by kernel_rfl) fun gd hf=>ai rfl (aj (aB rfl (dV (α:=bH) 0 rfl (hs.dr.call hf) rfl rfl (j:=U.length+X.length) gy rfl rfl rfl ⟨gd,rfl,a_.refl _,rfl⟩)))) ?_;refine Dm [[],[]] [] hs (by kernel_rfl) rfl ?_;refine ay (an (js:=[(5,97),(6,98)]) (by kernel_rfl) fun gd hf=>ai rfl (ai rfl (aj (aB rfl (cX (α:=bH) 0 rfl (hs.dr.call hf) rfl (by omega) (by omega) rfl rfl rfl rfl rfl rfl fun b p hb=>⟨gd,rfl,a_.refl _,?_⟩))))) ?_
     ·obtain⟨rfl,rfl⟩:b0=b∧p0=p:=by simpa using hb
      rfl
     refine ay (an (js:=[(7,99)]) (by kernel_rfl) fun gd hf=>ai rfl (aj (aB rfl (dV (α:=bH) 0 rfl (hs.dr.call hf) rfl rfl (j:=U.length+md) gx rfl rfl rfl ⟨gd,rfl,a_.refl _,rfl⟩)))) ?_;refine ay (an (js:=[(0,92),(4,96),(8,100)]) (by kernel_rfl) fun gd hf=>ai rfl (ai rfl (ai rfl (aj (aB rfl (eE rfl rfl rfl rfl rfl rfl (hk gd (aq.trans ((G.bu _).trans hf.le)) y x) fun g' v h1 h2=>⟨g',rfl,h1,h2⟩)))))) ?_;exact Dz [[9],[10]] [] hs (by kernel_rfl) rfl
    clear hs;intro g5 hs ah;replace aq:=G.le.trans aq ah;apply bW;cases lg:kl kf y x with
    |false=>
     refine aM (b:=!decide (rJ (kf y) (kf x)<0)) (by rw[lx,lg];rfl) rfl ?_;apply aA;refine Wp 3 rfl ?_;apply aE;apply bR;refine fun a ha=>⟨hi-(md+1),by omega,md+1,hi,g5,rfl,hs,aq,by omega,h2,?_,h4,rfl,ha.keep ⟨rfl,rfl,rfl,rfl,rfl,kI rfl (by rw[wr (by omega) (by omega)];omega),rfl,trivial⟩⟩
     rw[E0]at lg;intro t ht SN;by_cases Di:t=md
     ·subst Di;exact lg
     have:=List.pairwise_iff_getElem.1 Mq t md ht A3 (by omega);rw[iA]at lg this⊢;omega
    |true=>
     refine aV (b:=!decide (rJ (kf y) (kf x)<0)) (by rw[lx,lg];rfl) rfl ?_;apply aA;refine Wp 2 rfl ?_;apply aE;apply bR;refine fun a ha=>⟨md-lo,by omega,lo,md,g5,rfl,hs,aq,by omega,by omega,h3,?_,rfl,ha.keep ⟨rfl,rfl,rfl,rfl,rfl,rfl,rfl,trivial⟩⟩
     rw[E0]at lg;intro t ht SN;by_cases Di:t=md
     ·subst Di;exact lg
     have:=List.pairwise_iff_getElem.1 Mq md t A3 ht (by omega);rw[rv]at lg⊢;rw[iA]at this;omega
   refine aV (b:=decide (((U.length+lo:Nat):Int)<((U.length+hi:Nat):Int))) (by simp;omega) rfl ?_;apply bF;apply bG;apply bG;apply c_;apply ar;apply aD;refine aY rfl ?_;apply aG;obtain rfl:lo=hi:=by omega
   have eX:=List.take_append_drop lo X;have O6:(X.take lo).length=lo:=by rw[List.length_take];omega
   have hM:lW kf X [y]=X.take lo++y::X.drop lo:=by
    have e:=xD (k:=kf) (A:=X.take lo) (B:=X.drop lo) (x:=y) (fun a ha=>by
     obtain⟨t,ht,rfl⟩:=List.mem_iff_getElem.1 ha;rw[List.getElem_take];exact h3 _ _ (by omega)) (fun b hb=>by
     obtain⟨t,ht,rfl⟩:=List.mem_iff_getElem.1 hb;rw[List.getElem_drop];exact h4 _ _ (by omega))
    rw[eX]at e;exact e
   have er:U++X++[y]++V=U++X.take lo++X.drop lo++y::([]++V):=by
    conv=>lhs;rw[←eX]
    simp only[List.append_assoc,List.cons_append,List.nil_append]
   rw[er]at hs;rw[hM];have Mt:(X.drop lo).length=X.length-lo:=List.length_drop;generalize X.take lo=X1 at hs O6;generalize X.drop lo=X2 at hs Mt;refine bM (fun m a' w=> ∃(A B:List bH) (g2:G),w=g2.w∧St g0 g2 (fy (lN tw) ad n c (U++X1++A++y::(B++V))::L)∧G.le g g2∧X2=A++B∧m=A.length∧
     Fr 220 [] [(0,.slice ad n c),(1,.int .i64 (U.length:Nat)),(2,.int .i64 (U.length+X.length:Nat)),(3,.int .i64 (U.length+X.length+1:Nat)),(4,fo),(14,.int .i64 (U.length+lo:Nat)),(17,.int .i64 (U.length+lo+A.length:Nat))] a') X2.length
    (fun a' ha=>⟨X2,[],g',rfl,hs,aq,by simp,rfl,ha.keep ⟨rfl,rfl,rfl,rfl,rfl,rfl,kI rfl (by rw[Mt];omega),trivial⟩⟩) ?_
   clear hs aq;rintro m a' _ ⟨A,B,g2,rfl,hs,aq,AI,rfl,eF⟩;have wo:A.length+B.length=X.length-lo:=by rw[←List.length_append,←AI,Mt]
   revert a';rcases List.eq_nil_or_concat A with rfl|⟨A,z,rfl⟩
   ·apply cI;apply aD;refine aY rfl ?_;refine aV (b:=decide (((U.length+lo:Nat):Int)<((U.length+lo+([]:List bH).length:Nat):Int))) (by simp) rfl ?_;apply bF;apply bG;apply bG;apply c_;apply ar;refine aI (s3 rfl (ek.intro aq ⟨rfl,?_⟩));rw[AI];simpa using hs
   rw[List.concat_eq_append]at*;simp only[List.length_append,List.length_singleton]at wo;obtain⟨b0,p0,rfl⟩: ∃b p,ad=some ⟨b,p,none⟩:=by
    rcases(hs.own 0 _ rfl).1.2 with⟨h0,_⟩|⟨b,off,cap,cur,hv,_⟩
    ·omega
    simp only[Value.slice.injEq]at hv;exact⟨b,off,hv.1⟩
   have SO:U++X1++(A++[z])++y::(B++V)=(U++X1++A)++z::y::(B++V):=by simp
   rw[SO]at hs;have HF:(U++X1++A).length=U.length+lo+A.length:=by rw[List.length_append,List.length_append,O6]
   have ej:U.length+lo+(A++[z]).length=(U++X1++A).length+1:=by rw[HF,List.length_append];rfl
   rw[ej];generalize hW:U++X1++A=W0 at hs HF;have Uz:(W0++z::y::(B++V)).length=n:=by rw[List.length_append,HF];simp only[List.length_cons,List.length_append];omega
   have gz:(W0++z::y::(B++V))[W0.length]? =some z:=by simp
   have gy:(W0++z::y::(B++V))[W0.length+1]? =some y:=xE W0 [] _ z y;apply cI;apply aD;refine aY rfl ?_;refine aM (b:=decide (((U.length+lo:Nat):Int)<((W0.length+1:Nat):Int))) (by simp;omega) rfl ?_;apply aF;apply ar;apply aD;apply aG;apply qz (iY (.e (.int .i64 (W0.length:Nat))::eQ (.e (.int .i64 (W0.length:Nat))::iY (eQ (fe [.f Fact.any]))))) 16 [(2,115),(4,117),(13,126)] [15] [[0,1,5,6,7,8,9,10,11,12,13,14]]
    (fun s=>match s with|0=>fy (lN tw) (some ⟨b0,p0,none⟩) n c (W0++z::y::(B++V))::L|_+1=>fy (lN tw) (some ⟨b0,p0,none⟩) n c ((W0++z::y::(B++V)).set (W0.length+1) z)::L) hs (by kernel_rfl) ⟨dk,trivial⟩
   ·refine Lm [[],[],[],[]] [] (by kernel_rfl) rfl ?_;refine dm (ni (js:=[(3,116)]) (by kernel_rfl) rfl fun s g' _ _ _ hf _=>ai rfl (aj (aB rfl (aN _ T.ok rfl ⟨g',rfl,a_.refl _,?_⟩)))) ?_
    ·exact congrArg (Value.int .i64) (by rw[wr (by omega) (by omega)];omega)
    refine Lm [[],[]] [] (by kernel_rfl) rfl ?_;refine dm (ni (js:=[(6,119)]) (by kernel_rfl) rfl fun s g' _ _ _ hf _=>ai rfl (aj (aB rfl (aN _ T.ok rfl ⟨g',rfl,a_.refl _,?_⟩)))) ?_
    ·exact congrArg (Value.int .i64) (by rw[wr (by omega) (by omega)];omega)
    refine dm (lj 0 0 (js:=[(5,118),(7,120)]) (by kernel_rfl) (by kernel_rfl) ?_) ?_
    ·intro s g' _ h1 hf hJ;obtain rfl:s=0:=by omega
     refine ai rfl (ai rfl (aj (aB rfl (cX (α:=bH) 0 rfl hJ rfl (by omega) (by omega) rfl rfl rfl rfl rfl rfl fun b p hb=>⟨g',rfl,a_.refl _,?_⟩))));obtain⟨rfl,rfl⟩:b0=b∧p0=p:=by simpa using hb
     rfl
    refine dm (lj 0 0 (js:=[(8,121)]) (by kernel_rfl) (by kernel_rfl) ?_) ?_
    ·intro s g' _ h1 hf hJ;obtain rfl:s=0:=by omega
     exact ai rfl (aj (aB rfl (dV (α:=bH) 0 rfl hJ rfl rfl (j:=W0.length) gz rfl rfl rfl ⟨g',rfl,a_.refl _,rfl⟩)))
    refine Lm [[],[]] [] (by kernel_rfl) rfl ?_;refine dm (lj 0 0 (js:=[(10,123),(11,124)]) (by kernel_rfl) (by kernel_rfl) ?_) ?_
    ·intro s g' _ h1 hf hJ;obtain rfl:s=0:=by omega
     refine ai rfl (ai rfl (aj (aB rfl (cX (α:=bH) 0 rfl hJ rfl (by omega) (by omega) rfl rfl rfl rfl rfl rfl fun b p hb=>⟨g',rfl,a_.refl _,?_⟩))));obtain⟨rfl,rfl⟩:b0=b∧p0=p:=by simpa using hb
     rfl
    refine dm (lj 0 0 (js:=[(12,125)]) (by kernel_rfl) (by kernel_rfl) ?_) ?_
    ·intro s g' _ h1 hf hJ;obtain rfl:s=0:=by omega
     exact ai rfl (aj (aB rfl (dV (α:=bH) 0 rfl hJ rfl rfl (j:=W0.length+1) gy rfl rfl rfl ⟨g',rfl,a_.refl _,rfl⟩)))
    refine dm (lj 0 0 (js:=[(0,113),(1,114),(0,113),(1,114)]) (by kernel_rfl) (by kernel_rfl) ?_) ?_
    ·intro s g' _ h1 hf hJ;obtain rfl:s=0:=by omega
     refine ai rfl (ai rfl (ai rfl (ai rfl (aj (aB rfl (cX (α:=bH) 0 rfl hJ rfl (by omega) (by omega) rfl rfl rfl rfl rfl rfl fun b p hb=>⟨g',rfl,a_.refl _,?_⟩))))));obtain⟨rfl,rfl⟩:b0=b∧p0=p:=by simpa using hb
     rfl
    refine dm (wq 0 (js:=[(14,127),(9,122),(9,122)]) (by kernel_rfl) rfl fun g' hf hJ=>ai rfl (ai rfl (ai rfl (aj (rK rfl (gw (α:=bH) 0 rfl hJ rfl rfl rfl (v:=z) (j:=W0.length+1) (by omega) rfl rfl fun g3 hs hle=>⟨g3,rfl,⟨hle,hs⟩,trivial⟩)))))) ?_;exact zl
   clear hs;intro g6 hs ah;replace aq:=G.le.trans aq ah;refine ai rfl (ai rfl (ai rfl (aj ?_)));refine ak rfl rfl (cX (α:=bH) 0 rfl hs rfl (by omega) (by omega) rfl rfl rfl rfl rfl rfl fun b p hb=>?_);obtain⟨rfl,rfl⟩:b0=b∧p0=p:=by simpa using hb
   refine bA rfl (gw (α:=bH) 0 rfl hs rfl rfl rfl (v:=y) (j:=W0.length) (by rw[List.length_set];omega) rfl rfl ?_);clear hs;intro g7 hs ah;replace aq:=G.le.trans aq ah;replace hs:St g0 g7 (fy (lN tw) (some ⟨b0,p0,none⟩) n c (((W0++z::y::(B++V)).set (W0.length+1) z).set W0.length y)::L):=hs;rw[zk,←hW]at hs;apply aE;apply bR;apply ar;apply aA;refine Wp 3 rfl ?_;apply aE;exact fun a ha=>⟨A.length,by simp,A,z::B,g7,rfl,hs,aq,by rw[AI];simp,rfl,ha.keep ⟨rfl,rfl,rfl,rfl,rfl,rfl,kI rfl (by rw[wr (by omega) (by omega)];omega),trivial⟩⟩
  refine aV (b:=IntKind.i64.wrap (((U.length+X.length+Y.length:Nat):Int)-(U.length+X.length:Nat))==1) (by rw[wr (by omega) (by omega)];simp;omega) rfl ?_;apply aF;apply ar;(iterate 3 refine aY rfl ?_);apply aD;refine aY rfl ?_;obtain⟨h,hh⟩: ∃h,h=(X.length+Y.length)/2:=⟨_,rfl⟩
  have hU:U.length≤1000000000:=by omega
  have Dj:IntKind.i64.wrap (ck .u64 (IntKind.u64.wrap (IntKind.i64.wrap (((U.length:Nat):Int)+((U.length+X.length+Y.length:Nat):Int)))) 1)=((U.length+h:Nat):Int):=(HH (by omega)).trans (by omega);refine pP (l':=[(0,.slice ad n c),(1,.int .i64 (U.length:Nat)),(2,.int .i64 (U.length+X.length:Nat)),(3,.int .i64 (U.length+X.length+Y.length:Nat)),(4,fo),(18,.int .i64 (U.length+h:Nat)),(19,.int .i64 (U.length+h+(U.length+X.length):Nat)),(20,.int .i64 0),(21,.int .i64 0),(140,.bool (decide (((U.length+h:Nat):Int)<((U.length+X.length:Nat):Int))))])
   ⟨rfl,rfl,rfl,rfl,rfl,kI rfl Dj,kI rfl ((congrArg (fun z:Int=>IntKind.i64.wrap (z+((U.length+X.length:Nat):Int))) Dj).trans (by show IntKind.i64.wrap _=_;rw[wr (by omega) (by omega)];omega)),rfl,rfl,congrArg (fun z:Int=>some (Value.bool (decide (z<((U.length+X.length:Nat):Int))))) Dj,trivial⟩ ?_
  refine pb (fun a' w=>w=g.w∧ ∃p q,p≤q∧q≤h∧q≤X.length∧h≤p+Y.length∧(∀u v,0<p→X[p-1]? =some u→Y[h-p]? =some v→kl kf v u=false)∧(∀u v,q<h→X[q]? =some u→Y[h-1-q]? =some v→kl kf v u=true)∧
    Fr 220 [] [(0,.slice ad n c),(1,.int .i64 (U.length:Nat)),(2,.int .i64 (U.length+X.length:Nat)),(3,.int .i64 (U.length+X.length+Y.length:Nat)),(4,fo),(18,.int .i64 (U.length+h:Nat)),(19,.int .i64 (U.length+h+(U.length+X.length):Nat)),(20,.int .i64 (U.length+p:Nat)),(21,.int .i64 (U.length+q:Nat))] a') ?_ ?_
  ·by_cases Wo:h<X.length
   ·refine aM (b:=decide (((U.length+h:Nat):Int)<((U.length+X.length:Nat):Int))) (by simp;omega) rfl ?_;refine aY rfl ?_;apply aA;refine Wp 2 rfl ?_;apply aE;exact fun a ha=>⟨rfl,h-Y.length,h,by omega,by omega,by omega,by omega,fun u v _ _ hv=>(by rw[List.getElem?_eq_none (by omega)]at hv;cases hv),fun u v hq=>absurd hq (by omega),ha.keep ⟨rfl,rfl,rfl,rfl,rfl,rfl,rfl,kI rfl (by rw[wr (by omega) (by omega)];omega),rfl,trivial⟩⟩
   refine aV (b:=decide (((U.length+h:Nat):Int)<((U.length+X.length:Nat):Int))) (by simp;omega) rfl ?_;refine aY rfl ?_;apply aA;refine Wp 2 rfl ?_;apply aE;exact fun a ha=>⟨rfl,0,X.length,by omega,by omega,by omega,by omega,fun u v hp=>absurd hp (by omega),fun u v _ hu=>(by rw[List.getElem?_eq_none (by omega)]at hu;cases hu),ha.keep ⟨rfl,rfl,rfl,rfl,rfl,rfl,rfl,rfl,rfl,trivial⟩⟩
  rintro a' _ ⟨rfl,p,q,h1,h2,h3,h4,i1,i2,eF⟩;revert a';apply cI;refine aY rfl ?_;apply aD;apply aG;have SP:=aq;refine bM (fun m a' w=> ∃(p q:Nat) (g':G),w=g'.w∧St g0 g' (fy (lN tw) ad n c (U++X++Y++V)::L)∧G.le g g'∧p≤q∧q≤h∧q≤X.length∧h≤p+Y.length∧(∀u v,0<p→X[p-1]? =some u→Y[h-p]? =some v→kl kf v u=false)∧(∀u v,q<h→X[q]? =some u→Y[h-1-q]? =some v→kl kf v u=true)∧m=q-p∧
    Fr 220 [] [(0,.slice ad n c),(1,.int .i64 (U.length:Nat)),(2,.int .i64 (U.length+X.length:Nat)),(3,.int .i64 (U.length+X.length+Y.length:Nat)),(4,fo),(18,.int .i64 (U.length+h:Nat)),(19,.int .i64 (U.length+h+(U.length+X.length):Nat)),(20,.int .i64 (U.length+p:Nat)),(21,.int .i64 (U.length+q:Nat)),(22,.int .i64 (U.length+h+(U.length+X.length)-1:Nat))] a') (q-p)
   (fun a' ha=>⟨p,q,g,rfl,hs,aq,h1,h2,h3,h4,i1,i2,rfl,ha.keep ⟨rfl,rfl,rfl,rfl,rfl,rfl,rfl,rfl,rfl,kI rfl (by rw[wr (by omega) (by omega)];omega),trivial⟩⟩) ?_
  clear hs aq i1 i2 h1 h2 h3 h4 p q;rintro m a' _ ⟨p,q,g',rfl,hs,aq,h1,h2,h3,h4,i1,i2,rfl,eF⟩;revert a';apply cI;apply aD;refine aY rfl ?_;by_cases bC:p<q
  ·refine aM (b:=decide (((U.length+p:Nat):Int)<((U.length+q:Nat):Int))) (by simp;omega) rfl ?_;apply aF;apply ar;apply aG;refine aY rfl ?_;apply aD;obtain⟨md,O4⟩: ∃md,md=(p+q)/2:=⟨_,rfl⟩
   have JR:p≤md:=by omega
   have Ms:md<q:=by omega
   have E1:md<X.length:=by omega
   have A3:h-1-md<Y.length:=by omega
   refine pP (l':=[(0,.slice ad n c),(1,.int .i64 (U.length:Nat)),(2,.int .i64 (U.length+X.length:Nat)),(3,.int .i64 (U.length+X.length+Y.length:Nat)),(4,fo),(18,.int .i64 (U.length+h:Nat)),(19,.int .i64 (U.length+h+(U.length+X.length):Nat)),(20,.int .i64 (U.length+p:Nat)),(21,.int .i64 (U.length+q:Nat)),(22,.int .i64 (U.length+h+(U.length+X.length)-1:Nat)),(23,.int .i64 (U.length+md:Nat))]) ⟨rfl,rfl,rfl,rfl,rfl,rfl,rfl,rfl,rfl,rfl,kI rfl ((HH (by omega)).trans (by omega)),trivial⟩ ?_;obtain⟨b0,p0,rfl⟩: ∃b p,ad=some ⟨b,p,none⟩:=by
    rcases(hs.own 0 _ rfl).1.2 with⟨h0,_⟩|⟨b,off,cap,cur,hv,_⟩
    ·omega
    simp only[Value.slice.injEq]at hv;exact⟨b,off,hv.1⟩
   have gx:(U++X++Y++V)[U.length+md]? =some X[md]:=by rw[List.append_assoc,List.append_assoc,List.getElem?_append_right (by omega),Nat.add_sub_cancel_left,List.getElem?_append_left E1,List.getElem?_eq_getElem E1]
   have gy:(U++X++Y++V)[U.length+X.length+(h-1-md)]? =some Y[h-1-md]:=by rw[List.append_assoc,List.getElem?_append_right (by rw[List.length_append];omega),List.length_append,Nat.add_sub_cancel_left,List.getElem?_append_left A3,List.getElem?_eq_getElem A3]
   obtain⟨x,KN⟩: ∃x,x=X[md]:=⟨_,rfl⟩
   obtain⟨y,E0⟩: ∃y,y=Y[h-1-md]:=⟨_,rfl⟩
   rw[←KN]at gx;rw[←E0]at gy;apply bP hs (iY (.e (.int .i64 (U.length+X.length+(h-1-md):Nat))::eO (fe []))) 14 [(13,171)] (by kernel_rfl) rfl
   ·refine Dm [[],[],[],[]] [] hs (by kernel_rfl) rfl ?_;refine ay (an (js:=[(2,160),(3,161)]) (by kernel_rfl) fun gd hf=>ai rfl (ai rfl (aj (aB rfl (aN _ T.ok rfl ⟨gd,rfl,a_.refl _,?_⟩))))) ?_
    ·exact congrArg (Value.int .i64) (by rw[wr (by omega) (by omega)];omega)
    refine ay (an (js:=[(1,159),(4,162)]) (by kernel_rfl) fun gd hf=>ai rfl (ai rfl (aj (aB rfl (cX (α:=bH) 0 rfl (hs.dr.call hf) rfl (by omega) (by omega) rfl rfl rfl rfl rfl rfl fun b p hb=>⟨gd,rfl,a_.refl _,?_⟩))))) ?_
    ·obtain⟨rfl,rfl⟩:b0=b∧p0=p:=by simpa using hb
     rfl
    refine ay (an (js:=[(5,163)]) (by kernel_rfl) fun gd hf=>ai rfl (aj (aB rfl (dV (α:=bH) 0 rfl (hs.dr.call hf) rfl rfl (j:=U.length+X.length+(h-1-md)) gy rfl rfl rfl ⟨gd,rfl,a_.refl _,rfl⟩)))) ?_;refine Dm [[],[]] [] hs (by kernel_rfl) rfl ?_;refine ay (an (js:=[(7,165),(8,166)]) (by kernel_rfl) fun gd hf=>ai rfl (ai rfl (aj (aB rfl (cX (α:=bH) 0 rfl (hs.dr.call hf) rfl (by omega) (by omega) rfl rfl rfl rfl rfl rfl fun b p hb=>⟨gd,rfl,a_.refl _,?_⟩))))) ?_
    ·obtain⟨rfl,rfl⟩:b0=b∧p0=p:=by simpa using hb
     rfl
    refine ay (an (js:=[(9,167)]) (by kernel_rfl) fun gd hf=>ai rfl (aj (aB rfl (dV (α:=bH) 0 rfl (hs.dr.call hf) rfl rfl (j:=U.length+md) gx rfl rfl rfl ⟨gd,rfl,a_.refl _,rfl⟩)))) ?_;refine ay (an (js:=[(0,158),(6,164),(10,168)]) (by kernel_rfl) fun gd hf=>ai rfl (ai rfl (ai rfl (aj (aB rfl (eE rfl rfl rfl rfl rfl rfl (hk gd (aq.trans ((G.bu _).trans hf.le)) y x) fun g' v h1 h2=>⟨g',rfl,h1,h2⟩)))))) ?_;exact Dz [[11],[12]] [] hs (by kernel_rfl) rfl
   clear hs;intro g5 hs ah;replace aq:=G.le.trans aq ah;apply bW;cases lg:kl kf y x with
   |false=>
    refine aM (b:=!decide (rJ (kf y) (kf x)<0)) (by rw[lx,lg];rfl) rfl ?_;apply aA;refine Wp 3 rfl ?_;apply aE;apply bR;refine fun a ha=>⟨q-(md+1),by omega,md+1,q,g5,rfl,hs,aq,by omega,h2,h3,by omega,?_,i2,rfl,ha.keep ⟨rfl,rfl,rfl,rfl,rfl,rfl,rfl,kI rfl (by rw[wr (by omega) (by omega)];omega),rfl,rfl,trivial⟩⟩
    intro u v _ hu hv;rw[Nat.add_sub_cancel,List.getElem?_eq_getElem E1]at hu;rw[show h-(md+1)=h-1-md from by omega,List.getElem?_eq_getElem A3]at hv;obtain rfl:=Option.some.inj hu;obtain rfl:=Option.some.inj hv;rw[KN,E0]at lg;exact lg
   |true=>
    refine aV (b:=!decide (rJ (kf y) (kf x)<0)) (by rw[lx,lg];rfl) rfl ?_;apply aA;refine Wp 2 rfl ?_;apply aE;apply bR;refine fun a ha=>⟨md-p,by omega,p,md,g5,rfl,hs,aq,by omega,by omega,by omega,h4,i1,?_,rfl,ha.keep ⟨rfl,rfl,rfl,rfl,rfl,rfl,rfl,rfl,rfl,rfl,trivial⟩⟩
    intro u v _ hu hv;rw[List.getElem?_eq_getElem E1]at hu;rw[List.getElem?_eq_getElem A3]at hv;obtain rfl:=Option.some.inj hu;obtain rfl:=Option.some.inj hv;rw[KN,E0]at lg;exact lg
  refine aV (b:=decide (((U.length+p:Nat):Int)<((U.length+q:Nat):Int))) (by simp;omega) rfl ?_;obtain rfl:p=q:=by omega
  have eX:=List.take_append_drop p X;have eY:=List.take_append_drop (h-p) Y;have O6:(X.take p).length=p:=by rw[List.length_take];omega
  have Mt:(X.drop p).length=X.length-p:=List.length_drop;have O5:(Y.take (h-p)).length=h-p:=by rw[List.length_take];omega
  have QX:(Y.drop (h-p)).length=Y.length-(h-p):=List.length_drop;have c1: ∀x∈X.take p,∀y∈Y.drop (h-p),kl kf y x=false:=by
   intro x hx y hy;obtain⟨t,ht,rfl⟩:=List.mem_iff_getElem.1 hx;obtain⟨u,hu,rfl⟩:=List.mem_iff_getElem.1 hy;rw[O6]at ht;rw[QX]at hu;rw[List.getElem_take,List.getElem_drop];have e:=i1 _ _ (by omega) (List.getElem?_eq_getElem (by omega:p-1<X.length)) (List.getElem?_eq_getElem (by omega:h-p<Y.length));have ex:kl kf X[p-1] X[t]=false:=by
    by_cases Di:t=p-1
    ·subst Di;rw[iA];omega
    exact List.pairwise_iff_getElem.1 Mq t (p-1) (by omega) (by omega) (by omega)
   have ey:kl kf Y[h-p+u] Y[h-p]=false:=by
    by_cases SQ:u=0
    ·subst SQ;rw[iA];simp
    exact List.pairwise_iff_getElem.1 Mr (h-p) (h-p+u) (by omega) (by omega) (by omega)
   rw[iA]at e ex ey⊢;omega
  have c2: ∀y∈Y.take (h-p),∀x∈X.drop p,kl kf y x=true:=by
   intro y hy x hx;obtain⟨t,ht,rfl⟩:=List.mem_iff_getElem.1 hx;obtain⟨u,hu,rfl⟩:=List.mem_iff_getElem.1 hy;rw[Mt]at ht;rw[O5]at hu;rw[List.getElem_take,List.getElem_drop];have e:=i2 _ _ (by omega) (List.getElem?_eq_getElem (by omega:p<X.length)) (List.getElem?_eq_getElem (by omega:h-1-p<Y.length));have ex:kl kf X[p+t] X[p]=false:=by
    by_cases Di:t=0
    ·subst Di;rw[iA];simp
    exact List.pairwise_iff_getElem.1 Mq p (p+t) (by omega) (by omega) (by omega)
   have ey:kl kf Y[h-1-p] Y[u]=false:=by
    by_cases SQ:u=h-1-p
    ·subst SQ;rw[iA];omega
    exact List.pairwise_iff_getElem.1 Mr u (h-1-p) (by omega) (by omega) (by omega)
   rw[rv]at e⊢;rw[iA]at ex ey;omega
  have hM:=gZ (X.take p) (Y.take (h-p)) c1 c2;rw[eX,eY]at hM
  (repeat (first|refine bF ?_|with_reducible refine bG ?_|with_reducible refine c_ ?_|with_reducible refine ar ?_))
  have UA:AE kf (X.take p):=Mq.sublist (List.take_sublist ..);have UB:AE kf (X.drop p):=Mq.sublist (List.drop_sublist ..);have UC:AE kf (Y.take (h-p)):=Mr.sublist (List.take_sublist ..);have UD:AE kf (Y.drop (h-p)):=Mr.sublist (List.drop_sublist ..);have er:U++X++Y++V=U++X.take p++X.drop p++Y.take (h-p)++(Y.drop (h-p)++V):=by
   conv=>lhs;rw[←eX,←eY]
   simp only[List.append_assoc]
  rw[er]at hs;rw[hM];clear c1 c2 eX eY i1 i2 hM er;generalize X.take p=X1 at hs O6 UA;generalize X.drop p=X2 at hs Mt UB;generalize Y.take (h-p)=Y1 at hs O5 UC;generalize Y.drop (h-p)=Y2 at hs QX UD;refine aY rfl ?_;refine pP (l':=[(0,.slice ad n c),(1,.int .i64 (U.length:Nat)),(2,.int .i64 (U.length+X.length:Nat)),(3,.int .i64 (U.length+X.length+Y.length:Nat)),(4,fo),(18,.int .i64 (U.length+h:Nat)),(20,.int .i64 (U.length+p:Nat)),(24,.int .i64 (U.length+X.length+(h-p):Nat))]) ⟨rfl,rfl,rfl,rfl,rfl,rfl,rfl,kI rfl (by rw[wr (by omega) (by omega)];omega),trivial⟩ ?_;apply aD;refine pb (fun a' w=> ∃g',w=g'.w∧St g0 g' (fy (lN tw) ad n c (U++X1++Y1++(X2++Y2++V))::L)∧G.le g g'∧Fr 220 [] [(0,.slice ad n c),(1,.int .i64 (U.length:Nat)),(2,.int .i64 (U.length+X.length:Nat)),(3,.int .i64 (U.length+X.length+Y.length:Nat)),(4,fo),(18,.int .i64 (U.length+h:Nat)),(20,.int .i64 (U.length+p:Nat)),(24,.int .i64 (U.length+X.length+(h-p):Nat))] a') ?_ ?_
  ·by_cases hp:p<X.length
   ·apply aD;apply aA;refine Wp 4 rfl ?_;refine cY (.bool true) (t:=181) rfl (congrArg Value.bool (by simp;omega)) ?_;refine bj rfl ?_;by_cases hq:0<h-p
    ·refine aM (b:=decide (((U.length+X.length:Nat):Int)<((U.length+X.length+(h-p):Nat):Int))) (by simp;omega) rfl ?_;apply aA;refine Wp 5 rfl ?_;refine cY (.int .i64 ((U++X1).length:Nat)) (t:=187) rfl (congrArg (Value.int .i64) (by rw[List.length_append];omega)) ?_;refine cY (.int .i64 ((U++X1).length+X2.length:Nat)) (t:=188) rfl (congrArg (Value.int .i64) (by rw[List.length_append];omega)) ?_;refine cY (.int .i64 ((U++X1).length+X2.length+Y1.length:Nat)) (t:=189) rfl (congrArg (Value.int .i64) (by rw[List.length_append];omega)) ?_;refine ak rfl rfl (du (SK tw) aJ rfl rfl rfl rfl rfl (EZ tw (U++X1) X2 Y1 (Y2++V) (by omega) (by omega) (by simp only[List.length_append];omega) hm hs) ?_);clear hs;rintro g6 _ ah ⟨rfl,hs⟩;replace aq:=G.le.trans aq ah;apply aE;exact fun a ha=>⟨g6,rfl,by simpa using hs,aq,ha.keep (by(repeat (first|exact trivial|refine⟨rfl,?_⟩)))⟩
    refine aV (b:=decide (((U.length+X.length:Nat):Int)<((U.length+X.length+(h-p):Nat):Int))) (by simp;omega) rfl ?_;apply aF;obtain rfl:Y1=[]:=List.length_eq_zero_iff.1 (by omega);exact fun a ha=>⟨g',rfl,by simpa using hs,aq,ha.keep (by(repeat (first|exact trivial|refine⟨rfl,?_⟩)))⟩
   apply aD;apply aA;refine Wp 4 rfl ?_;refine cY (.bool false) (t:=181) rfl (congrArg Value.bool (by simp;omega)) ?_;refine bj rfl ?_;refine aV rfl rfl ?_;apply aF;obtain rfl:X2=[]:=List.length_eq_zero_iff.1 (by omega);exact fun a ha=>⟨g',rfl,by simpa using hs,aq,ha.keep (by(repeat (first|exact trivial|refine⟨rfl,?_⟩)))⟩
  clear hs aq;rintro a' _ ⟨g7,rfl,hs,aq,eF⟩;revert a';apply cI;apply aD;refine pb (fun a' w=> ∃g',w=g'.w∧St g0 g' (fy (lN tw) ad n c (U++lW kf X1 Y1++(X2++Y2++V))::L)∧G.le g g'∧Fr 220 [] [(0,.slice ad n c),(1,.int .i64 (U.length:Nat)),(2,.int .i64 (U.length+X.length:Nat)),(3,.int .i64 (U.length+X.length+Y.length:Nat)),(4,fo),(18,.int .i64 (U.length+h:Nat)),(20,.int .i64 (U.length+p:Nat)),(24,.int .i64 (U.length+X.length+(h-p):Nat))] a') ?_ ?_
  ·by_cases hp:0<p
   ·apply aD;apply aA;refine Wp 4 rfl ?_;refine cY (.bool true) (t:=195) rfl (congrArg Value.bool (by simp;omega)) ?_;refine bj rfl ?_;by_cases hq:p<h
    ·refine aM (b:=decide (((U.length+p:Nat):Int)<((U.length+h:Nat):Int))) (by simp;omega) rfl ?_;apply aA;refine Wp 5 rfl ?_;refine cY (.int .i64 (U.length+X1.length:Nat)) (t:=202) rfl (congrArg (Value.int .i64) (by omega)) ?_;refine cY (.int .i64 (U.length+X1.length+Y1.length:Nat)) (t:=203) rfl (congrArg (Value.int .i64) (by omega)) ?_;refine ak rfl rfl (du (HE tw) aJ rfl rfl rfl rfl rfl (ih (X1.length+Y1.length) (by omega) U X1 Y1 (X2++Y2++V) rfl (by omega) (by omega) UA UC (by simp only[List.length_append];omega) (hk.mono aq) hs) ?_);clear hs;rintro g6 _ ah ⟨rfl,hs⟩;replace aq:=G.le.trans aq ah;apply aE;exact fun a ha=>⟨g6,rfl,hs,aq,ha.keep (by(repeat (first|exact trivial|refine⟨rfl,?_⟩)))⟩
    refine aV (b:=decide (((U.length+p:Nat):Int)<((U.length+h:Nat):Int))) (by simp;omega) rfl ?_;apply aF;obtain rfl:Y1=[]:=List.length_eq_zero_iff.1 (by omega);exact fun a ha=>⟨g7,rfl,by simpa [gL]using hs,aq,ha.keep (by(repeat (first|exact trivial|refine⟨rfl,?_⟩)))⟩
   apply aD;apply aA;refine Wp 4 rfl ?_;refine cY (.bool false) (t:=195) rfl (congrArg Value.bool (by simp;omega)) ?_;refine bj rfl ?_;refine aV rfl rfl ?_;apply aF;obtain rfl:X1=[]:=List.length_eq_zero_iff.1 (by omega);exact fun a ha=>⟨g7,rfl,by simpa [lW]using hs,aq,ha.keep (by(repeat (first|exact trivial|refine⟨rfl,?_⟩)))⟩
  clear hs aq;rintro a' _ ⟨g8,rfl,hs,aq,eF⟩;revert a';apply cI;have lM:(lW kf X1 Y1).length=X1.length+Y1.length:=by rw[(nI (k:=kf) X1 Y1).length_eq,List.length_append]
  generalize lW kf X1 Y1=M1 at hs lM;by_cases hp:p<X.length
  ·apply aD;apply aA;refine Wp 4 rfl ?_;refine cY (.bool true) (t:=209) rfl (congrArg Value.bool (by simp;omega)) ?_;refine bj rfl ?_;by_cases hq:h-p<Y.length
   ·refine aM (b:=decide (((U.length+X.length+(h-p):Nat):Int)<((U.length+X.length+Y.length:Nat):Int))) (by simp;omega) rfl ?_;apply aA;refine Wp 5 rfl ?_;refine cY (.int .i64 ((U++M1).length:Nat)) (t:=215) rfl (congrArg (Value.int .i64) (by rw[List.length_append];omega)) ?_;refine cY (.int .i64 ((U++M1).length+X2.length:Nat)) (t:=216) rfl (congrArg (Value.int .i64) (by rw[List.length_append];omega)) ?_;refine cY (.int .i64 ((U++M1).length+X2.length+Y2.length:Nat)) (t:=217) rfl (congrArg (Value.int .i64) (by rw[List.length_append];omega)) ?_;refine ak rfl rfl (du (HE tw) aJ rfl rfl rfl rfl rfl (ih (X2.length+Y2.length) (by omega) (U++M1) X2 Y2 V rfl (by omega) (by omega) UB UD (by simp only[List.length_append];omega) (hk.mono aq) (by simpa using hs)) ?_);clear hs;rintro g6 _ ah ⟨rfl,hs⟩;replace aq:=G.le.trans aq ah;apply aE;exact kD rfl (ek.intro aq ⟨rfl,by simpa using hs⟩)
   refine aV (b:=decide (((U.length+X.length+(h-p):Nat):Int)<((U.length+X.length+Y.length:Nat):Int))) (by simp;omega) rfl ?_;apply aF;obtain rfl:Y2=[]:=List.length_eq_zero_iff.1 (by omega);exact kD rfl (ek.intro aq ⟨rfl,by simpa [gL]using hs⟩)
  apply aD;apply aA;refine Wp 4 rfl ?_;refine cY (.bool false) (t:=209) rfl (congrArg Value.bool (by simp;omega)) ?_;refine bj rfl ?_;refine aV rfl rfl ?_;apply aF;obtain rfl:X2=[]:=List.length_eq_zero_iff.1 (by omega);exact kD rfl (ek.intro aq ⟨rfl,by simpa [lW]using hs⟩)
end Go.Proofs.YtgehbndkogohpaaGreatDoor
namespace Go.Proofs.YtgehbndkogohpaaGreatDoor
open Go Go.K
set_option maxRecDepth 10000
attribute [local irreducible] W WL cD bc bK bd bg bh cq ck
set_option maxHeartbeats 8000000
def s5{α:Type}(k:α→Int×Int)(B:Nat):Nat→List α→List α
 |0,l=>dN k l
 |n+1,l=>dN k (l.take B)++s5 k B n (l.drop B)
def bk{α:Type}(k:α→Int×Int)(B:Nat)(l:List α):List α:=s5 k B (l.length/B) l
theorem qA{α:Type}{k:α→Int×Int}{B:Nat}{l:List α}(h:l.length<B):bk k B l=dN k l:=by unfold bk;rw[Nat.div_eq_of_lt h];rfl
theorem oJ{α:Type}{k:α→Int×Int}{B:Nat}{l:List α}(h0:0<B)(h:B≤l.length):bk k B l=dN k (l.take B)++bk k B (l.drop B):=by unfold bk;rw[List.length_drop,Nat.div_eq_sub_div h0 h];rfl
theorem E3{α:Type}{k:α→Int×Int}{B:Nat}{l:List α}(h0:0<B)(h:l.length≤B):bk k B l=dN k l:=by
 rcases Nat.lt_or_ge l.length B with h1|h1
 ·exact qA h1
 rw[oJ h0 h1,List.take_of_length_le h,List.drop_of_length_le h,qA (by simpa using h0)];simp[dN]
theorem fT{α:Type}{k:α→Int×Int}(l:List α):(dN k l).length=l.length:=(fR l).length_eq
theorem Cf{α:Type}{k:α→Int×Int}{B:Nat}: ∀(n:Nat) (l:List α),(s5 k B n l).length=l.length
 |0,l=>fT l
 |n+1,l=>by show(dN k (l.take B)++s5 k B n (l.drop B)).length=_;rw[List.length_append,fT,Cf n,List.length_take,List.length_drop];omega
theorem KO{α:Type}{k:α→Int×Int}{B:Nat}(l:List α):(bk k B l).length=l.length:=Cf _ l
theorem E4(tw:Bool){fo:Value}{kf:bH→Int×Int}{ad:Option Addr}{n c:Nat}{L:List cS}(Z:List bH){g0 g:G}(hn:Z.length=n)(hm:n≤1000000000)(hk:A1 fo kf g)(hs:St g0 g (fy (lN tw) ad n c Z::L)):
  CallsIn Wd 0 Tryz.prog (O1 tw) #[.slice ad n c,.int .i64 (n:Nat),fo] g.w (ek g fun g' r=>r= .tuple #[]∧St g0 g' (fy (lN tw) ad n c (dN kf Z)::L)):=by
 cases tw
 case' false=>let tw:=false
 case' true=>let tw:=true
 all_goals
  have aq:=G.le.refl g
  first|refine enter Tryz.func183 rfl Tryz.ntmps183 rfl ?_|refine enter Tryz.func252 rfl Tryz.ntmps252 rfl ?_
  refine aY rfl ?_;refine aY rfl ?_;apply aD;apply aG;refine bM (fun m a' w=> ∃(X Y:List bH) (g':G),w=g'.w∧St g0 g' (fy (lN tw) ad n c (X++Y)::L)∧G.le g g'∧X++bk kf 20 Y=bk kf 20 Z∧X.length+Y.length=n∧m=Y.length∧
    Fr 63 [] [(0,.slice ad n c),(1,.int .i64 (n:Nat)),(2,fo),(6,.int .i64 20),(7,.int .i64 (X.length:Nat)),(8,.int .i64 (X.length+20:Nat))] a') n
   (fun a' ha=>⟨[],Z,g,rfl,hs,aq,rfl,by simpa using hn,hn.symm,ha.keep ⟨rfl,rfl,rfl,rfl,rfl,rfl,trivial⟩⟩) ?_
  clear hs aq;rintro m a' _ ⟨X,Y,g',rfl,hs,aq,h1,h2,rfl,eF⟩;revert a';apply cI;apply aD;refine aY rfl ?_;by_cases bC:20≤Y.length
  ·refine aM (b:=decide (((X.length+20:Nat):Int)≤((n:Nat):Int))) (by simp;omega) rfl ?_;apply aF;apply ar;apply aG;refine cN 4 rfl ?_;have hS:(Y.take 20).length=20:=by rw[List.length_take];omega
   have hV:(Y.drop 20).length=Y.length-20:=List.length_drop;refine cY (.int .i64 (X.length+(Y.take 20).length:Nat)) (t:=16) rfl (congrArg (Value.int .i64) (by rw[hS])) ?_;refine ak rfl rfl (du (OX tw) aJ rfl rfl rfl rfl rfl (JQ tw X (Y.take 20) (Y.drop 20) (by omega) hm (hk.mono aq) (by rw[List.append_assoc,List.take_append_drop];exact hs)) ?_);clear hs;rintro g5 _ ah ⟨rfl,hs⟩;replace aq:=G.le.trans aq ah;apply bW;refine aY rfl ?_;apply aA;refine Wp 4 rfl ?_;apply aE;apply bR;rw[oJ (by decide) bC]at h1;have hl:=fT (k:=kf) (Y.take 20);exact fun a ha=>⟨(Y.drop 20).length,by omega,X++dN kf (Y.take 20),Y.drop 20,g5,rfl,hs,aq,by rw[List.append_assoc];exact h1,by rw[List.length_append];omega,rfl,ha.keep ⟨rfl,rfl,rfl,rfl,kI rfl (by rw[List.length_append];omega),kI rfl (by rw[wr (by omega) (by omega),List.length_append];omega),trivial⟩⟩
  refine aV (b:=decide (((X.length+20:Nat):Int)≤((n:Nat):Int))) (by simp;omega) rfl ?_;apply bF;apply bG;apply bG;apply c_;apply ar;refine cN 4 rfl ?_;refine cY (.int .i64 (X.length+Y.length:Nat)) (t:=25) rfl (congrArg (Value.int .i64) (by rw[h2])) ?_;refine ak rfl rfl (du (OX tw) aJ rfl rfl rfl rfl rfl (JQ tw X Y [] (by simpa using h2.symm) hm (hk.mono aq) (by rw[List.append_nil];exact hs)) ?_);clear hs;rintro g5 _ ah ⟨rfl,hs⟩;replace aq:=G.le.trans aq ah;rw[List.append_nil,←qA (k:=kf) (B:=20) (l:=Y) (by omega),h1]at hs;clear h1 h2 bC;apply bW;apply aG;refine bM (fun m a' w=> ∃(B:Nat) (g':G),w=g'.w∧St g0 g' (fy (lN tw) ad n c (bk kf B Z)::L)∧G.le g g'∧1≤B∧B≤2000000000∧m=n-B∧
    Fr 63 [] [(0,.slice ad n c),(1,.int .i64 (n:Nat)),(2,fo),(6,.int .i64 (B:Nat))] a') (n-20)
   (fun a' ha=>⟨20,g5,rfl,hs,aq,by omega,by omega,rfl,ha.keep ⟨rfl,rfl,rfl,rfl,trivial⟩⟩) ?_
  clear hs aq;rintro m a' _ ⟨B,g',rfl,hs,aq,hB,YU,rfl,eF⟩;revert a';apply cI;apply aD;refine aY rfl ?_;by_cases bC:B<n
  ·refine aM (b:=decide (((B:Nat):Int)<((n:Nat):Int))) (by simp;omega) rfl ?_;apply aF;apply ar;apply aG;refine aY rfl ?_;apply aD;apply aG;refine bM (fun m a' w=> ∃(X Y:List bH) (g':G),w=g'.w∧St g0 g' (fy (lN tw) ad n c (X++bk kf B Y)::L)∧G.le g g'∧X++bk kf (2*B) Y=bk kf (2*B) Z∧X.length+Y.length=n∧m=Y.length∧
     Fr 63 [] [(0,.slice ad n c),(1,.int .i64 (n:Nat)),(2,fo),(6,.int .i64 (B:Nat)),(7,.int .i64 (X.length:Nat)),(8,.int .i64 (X.length+2*B:Nat))] a') n
    (fun a' ha=>⟨[],Z,g',rfl,hs,aq,rfl,by simpa using hn,hn.symm,ha.keep ⟨rfl,rfl,rfl,rfl,rfl,kI rfl (by rw[wr (by omega) (by omega)];simp),trivial⟩⟩) ?_
   clear hs aq;rintro m a' _ ⟨X,Y,g',rfl,hs,aq,h1,h2,rfl,eF⟩;revert a';apply cI;apply aD;refine aY rfl ?_;by_cases hle:2*B≤Y.length
   ·refine aM (b:=decide (((X.length+2*B:Nat):Int)≤((n:Nat):Int))) (by simp;omega) rfl ?_;apply aF;apply ar;apply aG;refine cN 7 rfl ?_;have l1:(Y.take B).length=B:=by rw[List.length_take];omega
    have l2:((Y.drop B).take B).length=B:=by rw[List.length_take,List.length_drop];omega
    have l3:(Y.drop (2*B)).length=Y.length-2*B:=List.length_drop;rw[oJ (by omega) (by omega),oJ (l:=Y.drop B) (by omega) (by rw[List.length_drop];omega),List.drop_drop,show B+B=2*B from by omega,←List.append_assoc,←List.append_assoc]at hs;rw[oJ (by omega) hle]at h1;have e1:dN kf (Y.take (2*B))=lW kf (dN kf (Y.take B)) (dN kf ((Y.drop B).take B)):=by rw[←rI,show 2*B=B+B from by omega,List.take_add]
    have m1:=fT (k:=kf) (Y.take B);have m2:=fT (k:=kf) ((Y.drop B).take B);have s1:=jj (k:=kf) (Y.take B);have s2:=jj (k:=kf) ((Y.drop B).take B);have m4:=KO (k:=kf) (B:=B) (Y.drop (2*B));generalize dN kf (Y.take B)=XA at hs e1 m1 s1;generalize dN kf ((Y.drop B).take B)=XB at hs e1 m2 s2;refine cY (.int .i64 (X.length+XA.length:Nat)) (t:=40) rfl (congrArg (Value.int .i64) (by rw[wr (by omega) (by omega)];omega)) ?_;refine cY (.int .i64 (X.length+XA.length+XB.length:Nat)) (t:=41) rfl (congrArg (Value.int .i64) (by omega)) ?_;refine ak rfl rfl (du (HE tw) aJ rfl rfl rfl rfl rfl (tV tw hm _ X XA XB _ rfl (by omega) (by omega) s1 s2 (by omega) (hk.mono aq) hs) ?_);clear hs;rintro g6 _ ah ⟨rfl,hs⟩;replace aq:=G.le.trans aq ah;apply bW;refine aY rfl ?_;apply aA;refine Wp 5 rfl ?_;apply aE;apply bR;rw[←e1]at hs;have m3:=fT (k:=kf) (Y.take (2*B));have l4:(Y.take (2*B)).length=2*B:=by rw[List.length_take];omega
    exact fun a ha=>⟨(Y.drop (2*B)).length,by omega,X++dN kf (Y.take (2*B)),Y.drop (2*B),g6,rfl,hs,aq,by rw[List.append_assoc];exact h1,by rw[List.length_append];omega,rfl,ha.keep ⟨rfl,rfl,rfl,rfl,kI rfl (by rw[List.length_append];omega),kI rfl (by rw[wr (n:=2*_) (by omega) (by omega),wr (by omega) (by omega),List.length_append];omega),trivial⟩⟩
   refine aV (b:=decide (((X.length+2*B:Nat):Int)≤((n:Nat):Int))) (by simp;omega) rfl ?_;apply bF;apply bG;apply bG;apply c_;apply ar;apply aD;refine aY rfl ?_;refine aY rfl ?_;rw[qA (by omega)]at h1;by_cases YV:B<Y.length
   ·refine aM (b:=decide (IntKind.i64.wrap (((X.length:Nat):Int)+((B:Nat):Int))<((n:Nat):Int))) (by rw[wr (by omega) (by omega)];simp;omega) rfl ?_;apply aA;refine Wp 5 rfl ?_;have l1:(Y.take B).length=B:=by rw[List.length_take];omega
    have l2:(Y.drop B).length=Y.length-B:=List.length_drop;rw[oJ (by omega) (by omega),qA (l:=Y.drop B) (by omega),←List.append_assoc]at hs;have e1:dN kf Y=lW kf (dN kf (Y.take B)) (dN kf (Y.drop B)):=by rw[←rI,List.take_append_drop]
    have m1:=fT (k:=kf) (Y.take B);have m2:=fT (k:=kf) (Y.drop B);have s1:=jj (k:=kf) (Y.take B);have s2:=jj (k:=kf) (Y.drop B);generalize dN kf (Y.take B)=XA at hs e1 m1 s1;generalize dN kf (Y.drop B)=XB at hs e1 m2 s2;refine cY (.int .i64 (X.length+XA.length:Nat)) (t:=57) rfl (congrArg (Value.int .i64) (by rw[wr (by omega) (by omega)];omega)) ?_;refine cY (.int .i64 (X.length+XA.length+XB.length:Nat)) (t:=58) rfl (congrArg (Value.int .i64) (by omega)) ?_;refine ak rfl rfl (du (HE tw) aJ rfl rfl rfl rfl rfl (tV tw hm _ X XA XB [] rfl (by omega) (by omega) s1 s2 (by simp only[List.length_nil];omega) (hk.mono aq) (by rw[List.append_nil];exact hs)) ?_);clear hs;rintro g6 _ ah ⟨rfl,hs⟩;replace aq:=G.le.trans aq ah;apply bW;apply aA;refine Wp 3 rfl ?_;apply aE;apply bR;rw[←e1,List.append_nil,h1]at hs;exact fun a ha=>⟨n-2*B,by omega,2*B,g6,rfl,hs,aq,by omega,by omega,rfl,ha.keep ⟨rfl,rfl,rfl,kI rfl (by rw[wr (by omega) (by omega)];omega),trivial⟩⟩
   refine aV (b:=decide (IntKind.i64.wrap (((X.length:Nat):Int)+((B:Nat):Int))<((n:Nat):Int))) (by rw[wr (by omega) (by omega)];simp;omega) rfl ?_;apply aF;apply ar;apply aA;refine Wp 3 rfl ?_;apply aE;apply bR;rw[E3 (by omega) (by omega),h1]at hs;exact fun a ha=>⟨n-2*B,by omega,2*B,g',rfl,hs,aq,by omega,by omega,rfl,ha.keep ⟨rfl,rfl,rfl,kI rfl (by rw[wr (by omega) (by omega)];omega),trivial⟩⟩
  refine aV (b:=decide (((B:Nat):Int)<((n:Nat):Int))) (by simp;omega) rfl ?_;apply bF;apply bG;apply bG;apply c_;rw[E3 (by omega) (by omega)]at hs;exact kD rfl (ek.intro aq ⟨rfl,hs⟩)
theorem wu(tw:Bool){fo:Value}{kf:bH→Int×Int}{ad:Option Addr}{n c:Nat}{L:List cS}(Z:List bH){g0 g:G}(hn:Z.length=n)(hm:n≤1000000000)(hk:A1 fo kf g)(hs:St g0 g (fy (lN tw) ad n c Z::L)):
  CallsIn Wd 0 Tryz.prog (O2 tw) #[.slice ad n c,fo] g.w (ek g fun g' r=>r= .tuple #[]∧St g0 g' (fy (lN tw) ad n c (dN kf Z)::L)):=by
 cases tw
 case' false=>let tw:=false
 case' true=>let tw:=true
 all_goals
  have aq:=G.le.refl g
  first|refine enter Tryz.func91 rfl Tryz.ntmps91 rfl ?_|refine enter Tryz.func198 rfl Tryz.ntmps198 rfl ?_
  apply aA;refine Wp 4 rfl ?_;refine ak rfl rfl (du (SL tw) aJ rfl rfl rfl rfl rfl (E4 tw Z hn hm hk hs) ?_);clear hs;rintro g6 _ ah ⟨rfl,hs⟩;replace aq:=G.le.trans aq ah;apply aE;exact kD rfl (ek.intro aq ⟨rfl,hs⟩)
theorem E5{fi:Nat}{kf:bH→Int×Int}{ad:Option Addr}{n c:Nat}{L:List cS}(Z:List bH){g0 g:G}(hn:Z.length=n)(hm:n≤1000000000)(hk:EW (.func (.func fi) #[] #[]) kf g)(hs:St g0 g (fy 34 ad n c Z::L)):
  CallsIn Wd 0 Tryz.prog 28 #[.slice ad n c,.func (.func fi) #[] #[]] g.w (ek g fun g' r=>r= .tuple #[]∧St g0 g' (fy 34 ad n c (dN kf Z)::L)):=by
 have aq:=G.le.refl g;refine enter Tryz.func28 rfl Tryz.ntmps28 rfl ?_;apply cM;refine ak rfl rfl (aO rfl hs rfl rfl ?_);clear hs;rintro b1 g1 hs ah;replace aq:=G.le.trans aq ah;obtain⟨g2,bL,aT,ah,aL⟩:=hs.ba (i:=0) rfl;replace hs:=aT;clear aT;rw[←bL];replace aq:=G.le.trans aq ah;have aC:=aL;clear aL;apply bW;apply aA;refine Wp 2 rfl ?_;refine ak rfl rfl (du (O3 false) aJ rfl rfl rfl rfl rfl (wu false Z hn hm (fun g' h x y=>cW (first:=#[]) (args:=[fv x,fv y]) (captured:=#[.pointer (some ⟨b1,0,none⟩)]) Sj rfl (EX x y g' (aC.mono h) (hk.mono (aq.trans h)))) hs) ?_);clear hs;rintro g6 _ ah ⟨rfl,hs⟩;replace aq:=G.le.trans aq ah;apply aE;exact kD rfl (ek.intro aq ⟨rfl,hs⟩)
end Go.Proofs.YtgehbndkogohpaaGreatDoor
namespace Go.Proofs.YtgehbndkogohpaaGreatDoor
open Go Go.K
set_option maxRecDepth 10000
attribute [local irreducible] W WL cD bc bK bd bg bh cq ck
set_option maxHeartbeats 8000000
def rL{κ:Type}[DecidableEq κ][fk κ](g:G)(b:Nat)(m:List (κ×Value)):Prop:=g.im b∧g.w.heap[b]? =some (eA m)
theorem rL.mono{κ:Type}[DecidableEq κ][fk κ]{g g':G}{b:Nat}{m:List (κ×Value)}(h:rL g b m)(hle:g.le g'):rL g' b m:=⟨(hle b h.1).1,(hle b h.1).2.trans h.2⟩
theorem E6{κ:Type}[DecidableEq κ][fk κ]{g0 g:G}{L:List cS}(hs:St g0 g L){i b:Nat}{m:List (κ×Value)}(hi:L[i]? =some (.obj b (eA m))): ∃g',g'.w=g.w∧St g0 g' (L.eraseIdx i)∧g.le g'∧rL g' b m:=
 ⟨g.fz _ fun b hb=>((hs.own i _ hi).lt b hb).2.1,rfl,hs.fz hi,G.qt _ _ _,.inr rfl,(hs.own i _ hi).2.1⟩
def tW(b:Nat)(sl:Nat→Value):cS:=.obj b (.cells ((List.range 11).map sl).toArray 36 (0,0))
def xG(sl:Nat→Value)(xs:Nat→List bH):List cS:=(List.range 11).map fun i=> .row 34 19 (sl i) (xs i).length (fl (xs i))
def yT{α:Type}(f:Nat→α)(i:Nat)(x:α):Nat→α:=fun j=>if j=i then x else f j
theorem HI(sl:Nat→Value)(xs:Nat→List bH):(xG sl xs).length=11:=by simp[xG]
theorem xH{sl:Nat→Value}{xs:Nat→List bH}{i:Nat}(hi:i<11):(xG sl xs)[i]? =some (.row 34 19 (sl i) (xs i).length (fl (xs i))):=by unfold xG;rw[List.getElem?_map,List.getElem?_range hi];rfl
theorem Cg{sl:Nat→Value}{xs:Nat→List bH}{i:Nat}(v:Value)(ys:List bH):(xG sl xs).set i (.row 34 19 v ys.length (fl ys))=xG (yT sl i v) (yT xs i ys):=by
 refine List.ext_getElem? fun j=>?_;unfold xG yT;rw[List.getElem?_set,List.getElem?_map,List.getElem?_map,List.length_map];by_cases h:i=j
 ·subst h;rcases Nat.lt_or_ge i 11 with hj|hj
  ·simp[hj]
  simp[hj,List.length_range]
 rw[if_neg h];rcases Nat.lt_or_ge j 11 with hj|hj
 ·rw[List.getElem?_range hj];simp only[Option.map_some];rw[if_neg fun e=>h e.symm];rw[if_neg fun e=>h e.symm]
 rw[List.getElem?_eq_none (by simpa using hj)];rfl
theorem HJ{sl:Nat→Value}{i:Nat}(hi:i<11)(v:Value):lh ((List.range 11).map sl) i [v]=(List.range 11).map (yT sl i v):=by
 have h:((List.range 11).map sl).set i v=(List.range 11).map (yT sl i v):=by
  refine List.ext_getElem? fun j=>?_;unfold yT;rw[List.getElem?_set,List.getElem?_map,List.getElem?_map,List.length_map,List.length_range];by_cases h:i=j
  ·subst h;simp[hi]
  rw[if_neg h];rcases Nat.lt_or_ge j 11 with hj|hj
  ·rw[List.getElem?_range hj];simp only[Option.map_some];rw[if_neg fun e=>h e.symm]
  rw[List.getElem?_eq_none (by simpa using hj)];rfl
 rw[←h];unfold lh;rw[List.set_eq_take_append_cons_drop,if_pos (by simpa using hi)];simp
def mG(g:G)(v:Value)(b:gn):Prop:=∃sl:Nat→Value,v= .agg ((List.range 11).map sl).toArray∧ ∀i,i<11→Rs g (sl i) (b.ls i)
theorem mG.mono{g g':G}{v:Value}{b:gn}(h:mG g v b)(hle:g.le g'):mG g' v b:=by obtain⟨sl,e,h⟩:=h;exact⟨sl,e,fun i hi=>(h i hi).mono hle⟩
instance{g g':G}{v:Value}{b:gn}:Mn (mG g v b) g g' (mG g' v b):=⟨fun h a=>a.mono h⟩
theorem cG.fl(g:G): ∀xs:List bH,cG g (Go.K.fl xs) xs
 |[]=>rfl
 |x::xs=>⟨cg x,Go.K.fl xs,ve x xs,rfl,cG.fl g xs⟩
theorem xI{sl:Nat→Value}{i:Nat}(hi:i<11):vj T 24 ((List.range 11).map sl) i=some (sl i):=by show((List.range 11).map sl)[i]? =_;rw[List.getElem?_map,List.getElem?_range hi];rfl
theorem ju: ∀(n:Nat) (js:List Nat),js.Nodup→(∀j∈js,j<n)→js.length≤n
 |0,[],_,_=>Nat.le_refl _
 |0,j::_,_,h=>absurd (h j (List.mem_cons_self ..)) (by omega)
 |n+1,js,hn,h=>by
  have ih:=ju n (js.erase n) (hn.erase n) (fun j hj=>by
   have h1:=h j (List.mem_of_mem_erase hj);have h2:j≠n:=fun e=>by subst e;exact(List.Nodup.not_mem_erase hn) hj
   omega)
  have:=List.length_erase (a:=n) (l:=js);split at this<;>omega
theorem wx{α:Type}: ∀{l:List α} {i:Nat} (x:α),i<l.length→(x::l.eraseIdx i).Perm (l.set i x)
 |[],_,_,h=>absurd h (Nat.not_lt_zero _)
 |y::l,0,x,_=>List.Perm.refl _
 |y::l,i+1,x,h=>(List.Perm.swap _ _ _).trans ((wx x (by simpa using h)).cons y)
theorem E7{g0:G}{sl:Nat→Value}{xs:Nat→List bH}: ∀(is:List Nat) {g:G} {R:List cS},St g0 g ((is.map fun i=> .row 34 19 (sl i) (xs i).length (fl (xs i)))++R)→ ∃g',g'.w=g.w∧St g0 g' R∧g.le g'∧ ∀i∈is,Rs g' (sl i) (xs i)
 |[],g,R,hs=>⟨g,rfl,hs,G.le.refl g,by simp⟩
 |i::is,g,R,hs=>by
  obtain⟨g1,e1,h1,h2,h3⟩:=hs.cK (α:=bH) (i:=0) rfl (cG.fl g (xs i));obtain⟨g2,e2,k1,k2,k3⟩:=E7 is (g:=g1) h1;refine⟨g2,e2.trans e1,k1,h2.trans k2,fun j hj=>?_⟩;rcases List.mem_cons.1 hj with rfl|hj
  ·exact h3.mono k2
  exact k3 j hj
theorem E8{M:KF}{js:List Nat}{j:Nat}{p:List UInt8×bH}(hp:M[j]? =some p)(i:Nat):gR (rz M (js++[j])) i=gR (rz M js) i++(if !p.2.gone&&decide (p.2.kind=(i:Int)+1)then [p.2]else []):=by rw[tN hp,Ex];congr 1;unfold gR;rw[List.filter_cons];split<;>rfl
theorem wz{j:Nat}{q:Int×Value}(h:iB[j]? =some q):j<11∧q=((j:Int)+1,qx j):=by
 have bC:j<11:=by have:=(List.getElem?_eq_some_iff.1 h).1;exact this
 rcases gS bC with rfl|rfl|rfl|rfl|rfl|rfl|rfl|rfl|rfl|rfl|rfl<;>exact⟨bC,(Option.some.inj h).symm⟩
def JS(g0:G)(A:List cS)(sl:Nat→Value)(xs:Nat→List bH)(i:Nat)(f:bH)(ρ:Nat→Option Value)(g:G):Prop:=
 match ρ 6 with
 |none=>St g0 g (A++xG sl xs)
 |some v=>(∃a c,v= .slice a ((xs i).length+1) c)∧St g0 g (A++xG (yT sl i v) (yT xs i (xs i++[f])))
theorem E9{g0:G}{A:List cS}{sl:Nat→Value}{xs:Nat→List bH}{i:Nat}{f:bH}(ρ:Nat→Option Value)(g g':G)(hf:a_ g g')(h:JS g0 A sl xs i f ρ g):JS g0 A sl xs i f ρ g':=by
 unfold JS at h⊢;split at h
 ·exact h.call hf
 exact⟨h.1,h.2.call hf⟩
theorem E_{f:bH}(h:eP f≠[]):1≤f.kind∧f.kind≤11:=by
 have v1:eC f=true:=by cases e:eC f with|true=>rfl|false=>exact absurd (by unfold eP;rw[e];rfl) h
 obtain⟨s,hs,_⟩:=ln v1;obtain⟨_,_,_,_,_,_,h1,h2⟩:=nH hs;exact⟨h1,h2⟩
theorem O7{sl:Nat→Value}(h: ∀i,i<11→(sl i).oneCell'=true):((((List.range 11).map sl).drop 0).take 11).all Value.oneCell'=true:=by rw[List.all_eq_true];intro v hv;obtain⟨i,hi,rfl⟩:=List.mem_map.1 (List.mem_of_mem_drop (List.mem_of_mem_take hv));exact h i (List.mem_range.1 hi)
theorem O8(v:Value)(l:List bH)(day:Int)(g:G)(aH:Rs g v l)(hl:l.length≤1000000):CallsIn Wd 0 Tryz.prog 9 #[v,.int .i64 day] g.w (cF g fun g' r=>mG g' r (ofM l day)):=by
 have hs:=St.start g;have aq:=G.le.refl g;obtain⟨a,c,rfl⟩:=aH.isSlice;have hT:qy (List UInt8) Tryz.prog 74 _:=zc T.ok rfl rfl rfl rfl rfl;have hK:qy Int Tryz.prog 78 _:=zc T.ok rfl rfl rfl rfl rfl;refine enter Tryz.func9 rfl Tryz.ntmps9 rfl ?_;apply cM;refine ak rfl rfl (aK T.ok rfl hs rfl rfl ?_);clear hs;rintro b4 g1 hs ah;obtain⟨aq,aH⟩:=cf ah aq aH;apply bW;apply cM;refine ak rfl rfl (jV (κ:=List UInt8) rfl hs ?_);clear hs;intro bm g1 hs ah;obtain⟨aq,aH⟩:=cf ah aq aH;refine bj rfl ?_;apply aD;refine aY rfl ?_;apply aG;refine bM (fun m a' w=> ∃(i:Nat) (g':G),w=g'.w∧St g g' [.obj bm (eA (cu (jl day (l.take i)))),tW b4 fun _=> .slice none 0 0]∧G.le g g'∧Rs g' (.slice a l.length c) l∧i≤l.length∧m=l.length-i∧
   Fr 91 [] [(1,.int .i64 day),(4,.pointer (some ⟨b4,0,none⟩)),(5,.map (some bm)),(19,.slice a l.length c),(20,.int .i64 (l.length:Nat)),(21,.int .i64 (i:Nat))] a') l.length
  (fun a' ha=>⟨0,g1,rfl,hs,aq,aH,Nat.zero_le _,rfl,ha.keep (by(repeat (first|exact trivial|refine⟨rfl,?_⟩)))⟩) ?_
 clear hs aH aq;rintro m a' _ ⟨i,g',rfl,hs,aq,aH,hi,rfl,eF⟩;revert a';apply cI;refine aY rfl ?_;apply aD;by_cases bC:i<l.length
 ·refine aM (b:=decide ((i:Int)<(l.length:Int))) (decide_eq_true (by omega)) rfl ?_;have jG:dS l (i:Int)=some l[i]:=cZ rfl bC;have fP:l.take (i+1)=l.take i++[l[i]]:=by rw[List.take_add_one,List.getElem?_eq_getElem bC];rfl
  generalize l[i]=x at*;have lO:jl day (l.take (i+1))=gH day (jl day (l.take i)) x:=by rw[fP,Ev]
  generalize jl day (l.take i)=M at hs lO;apply aF;apply ar;apply aD;apply aG;apply cM;refine ak rfl rfl (aW T.ok rfl aH (y:=x) jG rfl rfl rfl rfl rfl rfl ?_);rintro b p ys aL d_;obtain rfl:ys=cg x:=d_;have aC:=aL;clear aL;refine Wm 1 [.e aC 0] (St.start _) rfl ?_;refine ak rfl rfl (aK T.ok rfl hs rfl rfl ?_);clear hs;rintro b7 g1 hs ah;obtain⟨aq,aH⟩:=cf ah aq aH;refine bA rfl (az T.ok 0 rfl hs rfl rfl rfl rfl rfl rfl rfl rfl rfl ?_);replace hs:=hs;rintro g1 hs ah;obtain⟨aq,aH⟩:=cf ah aq aH;obtain⟨g2,bL,aT,ah,aL⟩:=hs.ba (i:=0) rfl;replace hs:=aT;clear aT;rw[←bL];obtain⟨aq,aH⟩:=cf ah aq aH;have aR:=aL;clear aL;clear aC;apply bW;refine dz 1 [.z aR] (St.start _) rfl ?_;refine ak rfl rfl (au Kt aJ rfl rfl rfl rfl rfl (EO x _) ?_);rintro g1 _ aP rfl;replace hs:=hs.call aP;have ah:=aP.le;obtain⟨aq,aR,aH⟩:=dy ah aq aR aH;refine bj rfl ?_;apply aD;refine cN 3 rfl ?_;by_cases hk:eP x=[]
  ·refine cY (.bool true) (t:=29) rfl (congrArg Value.bool (by show((bs (eP x)).toList==(bs []).toList)=true;rw[cB,cB,hk];rfl)) ?_;refine bj rfl ?_;refine aM rfl rfl ?_;apply bF;apply bG;apply c_;apply ar;apply aA;refine Wp 2 rfl ?_;apply aE;have e:gH day M x=M:=by unfold gH;rw[if_pos (.inl hk)]
   rw[e]at lO;exact fun a ha=>⟨l.length-(i+1),by omega,i+1,_,rfl,by rw[lO];exact hs,aq,aH,by omega,rfl,ha.keep ⟨rfl,rfl,rfl,rfl,rfl,kI rfl (by rw[wr (by omega) (by omega)];omega),trivial⟩⟩
  refine cY (.bool false) (t:=29) rfl (congrArg Value.bool (by show((bs (eP x)).toList==(bs []).toList)=false;rw[cB,cB];simp[hk])) ?_;refine Dk [.z aR] (St.start _) rfl ?_;by_cases hd:day<x.day
  ·refine aM (b:=decide (day<x.day)) (decide_eq_true hd) rfl ?_;apply bF;apply bG;apply c_;apply ar;apply aA;refine Wp 2 rfl ?_;apply aE;have e:gH day M x=M:=by unfold gH;rw[if_pos (.inr hd)]
   rw[e]at lO;exact fun a ha=>⟨l.length-(i+1),by omega,i+1,_,rfl,by rw[lO];exact hs,aq,aH,by omega,rfl,ha.keep ⟨rfl,rfl,rfl,rfl,rfl,kI rfl (by rw[wr (by omega) (by omega)];omega),trivial⟩⟩
  refine aV (b:=decide (day<x.day)) (decide_eq_false hd) rfl ?_;apply aF;apply ar;refine cN 2 rfl ?_;refine ak rfl rfl (mF hT rfl (hs.own 0 _ rfl).2.1 rfl (a:=eP x) rfl ?_);have hg:=B0 (eP x) M;have hb:gH day M x=if(match AO (eP x) M with|none=>true|some o=>o8 x o)=true then nr (eP x) x M else M:=by unfold gH;exact if_neg (by simp[hk,hd])
  cases HK:AO (eP x) M with
  |none=>
   rw[HK]at hg hb;refine cY (.tuple #[fv iy,.bool false]) (t:=38) rfl (by rw[hg];rfl) ?_;refine Wp 3 rfl ?_;refine ak rfl rfl (aK T.ok rfl hs rfl rfl ?_);clear hs;rintro b9 g1 hs ah;obtain⟨aq,aR,aH⟩:=dy ah aq aR aH;refine bA rfl (az T.ok 0 rfl hs rfl rfl rfl rfl rfl rfl rfl rfl rfl ?_);replace hs:=hs;rintro g1 hs ah;obtain⟨aq,aR,aH⟩:=dy ah aq aR aH;obtain⟨g2,bL,aT,ah,aL⟩:=hs.ba (i:=0) rfl;replace hs:=aT;clear aT;rw[←bL];obtain⟨aq,aR,aH⟩:=dy ah aq aR aH;have cU:=aL;clear aL;refine bj rfl ?_;refine aY rfl ?_;refine aM rfl rfl ?_;apply aA;refine Wm 3 [.z aR] (St.start _) rfl ?_;refine bA rfl (dK hT 0 (.inl rfl) hs rfl rfl (a:=eP x) rfl rfl ?_);clear hs;intro g6 hs ah;obtain⟨aq,aR,cU,aH⟩:=eS ah aq aR cU aH;replace hs:St g g6 [.obj bm (eA (jk (eP x) (fv x) (cu M))),tW b4 fun _=> .slice none 0 0]:=hs;rw[xv]at hs;apply aE;apply bR;apply ar;apply aA;refine Wp 2 rfl ?_;apply aE;rw[hb,if_pos rfl]at lO;exact fun a ha=>⟨l.length-(i+1),by omega,i+1,_,rfl,by rw[lO];exact hs,aq,aH,by omega,rfl,ha.keep ⟨rfl,rfl,rfl,rfl,rfl,kI rfl (by rw[wr (by omega) (by omega)];omega),trivial⟩⟩
  |some o=>
   rw[HK]at hg hb;refine cY (.tuple #[fv o,.bool true]) (t:=38) rfl (by rw[hg];rfl) ?_;refine Wp 3 rfl ?_;refine ak rfl rfl (aK T.ok rfl hs rfl rfl ?_);clear hs;rintro b9 g1 hs ah;obtain⟨aq,aR,aH⟩:=dy ah aq aR aH;refine bA rfl (az T.ok 0 rfl hs rfl rfl rfl rfl rfl rfl rfl rfl rfl ?_);replace hs:=hs;rintro g1 hs ah;obtain⟨aq,aR,aH⟩:=dy ah aq aR aH;obtain⟨g2,bL,aT,ah,aL⟩:=hs.ba (i:=0) rfl;replace hs:=aT;clear aT;rw[←bL];obtain⟨aq,aR,aH⟩:=dy ah aq aR aH;have cU:=aL;clear aL;refine bj rfl ?_;refine dz 5 [.z aR,.z cU] (St.start _) rfl ?_;refine ak rfl rfl (au RJ aJ rfl rfl rfl rfl rfl (A0 x o _) ?_);rintro g1 _ aP rfl;replace hs:=hs.call aP;have ah:=aP.le;obtain⟨aq,aR,aH⟩:=dy ah aq aR aH;refine bj rfl ?_;cases hp:o8 x o with
   |true=>
    refine aM rfl rfl ?_;apply aA;refine Wm 3 [.z aR] (St.start _) rfl ?_;refine bA rfl (dK hT 0 (.inl rfl) hs rfl rfl (a:=eP x) rfl rfl ?_);clear hs;intro g6 hs ah;obtain⟨aq,aR,aH⟩:=dy ah aq aR aH;replace hs:St g g6 [.obj bm (eA (jk (eP x) (fv x) (cu M))),tW b4 fun _=> .slice none 0 0]:=hs;rw[xv]at hs;apply aE;apply bR;apply ar;apply aA;refine Wp 2 rfl ?_;apply aE;rw[hb,if_pos hp]at lO;exact fun a ha=>⟨l.length-(i+1),by omega,i+1,_,rfl,by rw[lO];exact hs,aq,aH,by omega,rfl,ha.keep ⟨rfl,rfl,rfl,rfl,rfl,kI rfl (by rw[wr (by omega) (by omega)];omega),trivial⟩⟩
   |false=>
    refine aV rfl rfl ?_;apply aF;apply bR;apply ar;apply aA;refine Wp 2 rfl ?_;apply aE;rw[hb,if_neg (by simp[hp])]at lO;exact fun a ha=>⟨l.length-(i+1),by omega,i+1,_,rfl,by rw[lO];exact hs,aq,aH,by omega,rfl,ha.keep ⟨rfl,rfl,rfl,rfl,rfl,kI rfl (by rw[wr (by omega) (by omega)];omega),trivial⟩⟩
 refine aV (b:=decide ((i:Int)<(l.length:Int))) (decide_eq_false (by omega)) rfl ?_;rw[List.take_of_length_le (by omega)]at hs;have hM:=B2 day l;have Mu:=y_ day l;have UE:ofM l day=⟨fun i=>dN (lK i) (gR (jl day l) i)⟩:=rfl;rw[UE];generalize jl day l=M at hs hM Mu;clear UE hi bC aH;apply bF;apply bG;apply bG;apply c_;apply ar;apply cM;obtain⟨g2,bL,aT,ah,kU⟩:=E6 hs (i:=0) rfl;rw[←bL];replace hs:=aT;clear aT;replace aq:=G.le.trans aq ah;clear bL ah;refine ak rfl rfl (aK T.ok rfl hs rfl rfl ?_);clear hs;rintro AN g1 hs ah;replace aq:=G.le.trans aq ah;replace kU:=kU.mono ah;apply bW;apply cM;refine ak rfl rfl (au MT aJ rfl rfl rfl rfl rfl (Cd _) ?_);rintro g5 _ nD ⟨bk,rfl,o_,yU⟩;have iS:rL g5 bk iB:=⟨o_,yU⟩;clear o_ yU;replace hs:=hs.call nD;have ah:=nD.le;replace aq:=G.le.trans aq ah;replace kU:=kU.mono ah;clear nD;refine bj rfl ?_;apply aD;refine cN 1 rfl ?_;refine ak rfl rfl (oK hT rfl kU.2 rfl hs ?_);clear hs;intro r1 g6 hs ah;replace aq:=G.le.trans aq ah;replace kU:=kU.mono ah;replace iS:=iS.mono ah
 iterate 11 replace hs:=hs.iN 34 19 none
 replace hs:St g g6 (xG (fun _=> .slice none 0 0) (fun _=>[])++[.obj r1 (vk bm (cu M).length #[]),tW AN fun _=> .slice none 0 0,tW b4 fun _=> .slice none 0 0]):=hs;replace hs:=hs.perm List.perm_append_comm;apply bW;apply aG;refine bM (fun m a' w=> ∃(seen:Array Nat) (sl:Nat→Value) (g':G),w=g'.w∧St g g' ([.obj r1 (vk bm (cu M).length seen),tW AN sl,tW b4 fun _=> .slice none 0 0]++xG sl fun i=>gR (rz M seen.toList) i)∧G.le g g'∧rL g' bm (cu M)∧rL g' bk iB∧seen.toList.Nodup∧(∀j∈seen.toList,j<M.length)∧m=M.length-seen.toList.length∧
   Fr 91 [] [(4,.pointer (some ⟨b4,0,none⟩)),(11,.pointer (some ⟨AN,0,none⟩)),(12,.map (some bk)),(54,.pointer (some ⟨r1,0,none⟩))] a') M.length
  (fun a' ha=>⟨#[],fun _=> .slice none 0 0,g6,rfl,hs,aq,kU,iS,by simp,by simp,rfl,ha.keep (by(repeat (first|exact trivial|refine⟨rfl,?_⟩)))⟩) ?_
 clear hs aq kU iS;rintro m a' _ ⟨seen,sl,g',rfl,hs,aq,kU,iS,za,bC,rfl,eF⟩;have wA:=ju _ _ za bC;revert a';apply cI;apply cM;refine ak rfl rfl (qB 0 rfl hs rfl kU.2 rfl (fun cR=>?_) (fun j q g6 hq hj Fa ah=>?_));rotate_left
 ·obtain⟨p,hp,rfl⟩:=Kr hq;have QY:j<M.length:=(List.getElem?_eq_some_iff.1 hp).1;have s6:(seen.toList++[j]).Nodup:=List.nodup_append.2 ⟨za,by simp,by intro a ha b hb;rw[List.mem_singleton.1 hb];rintro rfl;exact hj (by simpa using ha)⟩;have pQ: ∀k∈seen.toList++[j],k<M.length:=by intro k hk;rcases List.mem_append.1 hk with hk|hk;exact bC k hk;rw[List.mem_singleton.1 hk];exact QY
  have zn:=ju _ _ s6 pQ;rw[List.length_append,List.length_singleton]at zn;have jf: ∀i,gR (rz M (seen.push j).toList) i=gR (rz M seen.toList) i++(if !p.2.gone&&decide (p.2.kind=(i:Int)+1)then [p.2]else []):=fun i=>by rw[Array.toList_push];exact E8 hp i
  have A5:=xw M seen.toList;clear hs;replace hs:=Fa;clear Fa;replace aq:=G.le.trans aq ah;replace kU:=kU.mono ah;replace iS:=iS.mono ah;replace hs:St g g6 ([.obj r1 (vk bm (cu M).length (seen.push j)),tW AN sl,tW b4 fun _=> .slice none 0 0]++xG sl fun i=>gR (rz M seen.toList) i):=hs;refine bj rfl ?_;apply aD;refine aM rfl rfl ?_;apply aF;apply ar;apply aG;apply cM;refine ak rfl rfl (oL 0 rfl hs rfl kU.2 rfl hq ?_);refine Wp 1 rfl ?_;refine ak rfl rfl (aK T.ok rfl hs rfl rfl ?_);clear hs;rintro RB g1 hs ah;replace aq:=G.le.trans aq ah;replace kU:=kU.mono ah;replace iS:=iS.mono ah;refine bA rfl (az T.ok 0 rfl hs rfl rfl rfl rfl rfl rfl rfl rfl rfl ?_);replace hs:=hs;rintro g1 hs ah;replace aq:=G.le.trans aq ah;replace kU:=kU.mono ah;replace iS:=iS.mono ah;obtain⟨g2,bL,aT,ah,aL⟩:=hs.ba (i:=0) rfl;replace hs:=aT;clear aT;rw[←bL];replace aq:=G.le.trans aq ah;replace kU:=kU.mono ah;replace iS:=iS.mono ah;have aR:=aL;clear aL;apply bW;refine l_ [.z aR] (St.start _) rfl ?_;have Mv:=hM.2 p (List.mem_of_getElem? hp);rw[Mv.1]at Mv;obtain⟨o_,yU⟩:=E_ Mv.2;clear Mv;generalize p.2=f at*;cases KP:f.gone with
  |true=>
   refine aV rfl rfl ?_;apply aF;apply bR;have e:(fun i=>gR (rz M seen.toList) i)=fun i=>gR (rz M (seen.push j).toList) i:=by funext i;rw[jf,KP];simp
   rw[e]at hs;exact fun a ha=>⟨M.length-(seen.push j).toList.length,by rw[Array.toList_push,List.length_append,List.length_singleton];omega,seen.push j,sl,_,rfl,hs,aq,kU,iS,by rw[Array.toList_push];exact s6,by rw[Array.toList_push];exact pQ,rfl,ha.keep (by(repeat (first|exact trivial|refine⟨rfl,?_⟩)))⟩
  |false=>
   refine aM rfl rfl ?_;obtain⟨i,jK⟩: ∃i:Nat,f.kind=(i:Int)+1:=⟨(f.kind-1).toNat,by omega⟩
   have hi:i<11:=by omega
   have UF:=Dg o_ yU;rw[show(f.kind-1).toNat=i from by omega]at UF;obtain⟨xs,KN⟩: ∃xs,xs=fun i=>gR (rz M seen.toList) i:=⟨_,rfl⟩
   have yV: ∀i,gR (rz M seen.toList) i=xs i:=fun i=>by rw[KN]
   rw[←KN]at hs;have e:yT xs i (xs i++[f])=fun i=>gR (rz M (seen.push j).toList) i:=by
    funext k;unfold yT;rw[jf,KP,jK,yV];by_cases ER:k=i
    ·subst ER;simp
    rw[if_neg ER,if_neg (by simp;omega),List.append_nil]
   have HD:(xs i).length≤1000000:=by have:=tO (rz M seen.toList) i;rw[yV]at this;omega
   clear jf A5 hp yV KN;refine dz 3 [.z aR] (St.start _) rfl ?_;refine ak rfl rfl (mF hK rfl iS.2 rfl (a:=f.kind) rfl ?_);refine cY (qx i) (t:=65) rfl (by rw[UF];rfl) ?_;refine Wp 1 rfl ?_;refine ak rfl rfl (au (xC (gS hi)) aJ rfl rfl rfl rfl rfl (Cc (gS hi) AN _) ?_);rintro g7 _ AJ rfl;replace hs:=hs.call AJ;have ah:=AJ.le;obtain⟨aq,aR⟩:=cf ah aq aR;replace kU:=kU.mono ah;replace iS:=iS.mono ah;refine bj rfl ?_;have hL:=hs.own (i+3) _ (xH hi);obtain⟨sa,sc,kx⟩:=hL.1.form;clear hL;apply nO (eQ (fe (.e (.slice sa (xs i).length sc)::fe (.f (Fact.rs [f]):: .f Fact.any::[])))) 7 [(0,68),(6,74)] [6] [[3]] (JS g [.obj r1 (vk bm (cu M).length (seen.push j)),tW AN sl,tW b4 fun _=> .slice none 0 0] sl xs i f) E9 (by unfold JS;exact hs.dr) (by kernel_rfl) ⟨cr _,dk,trivial⟩
   ·refine Um [[],[],[1]] [] (by kernel_rfl) rfl ?_;refine bI (cL (js:=[(2,70)]) (by kernel_rfl) rfl fun ρ g8 h1 _ hle hJ=>cT rfl (bE (aB rfl ?_))) ?_
    ·unfold JS at hJ;rw[h1 0 [3] 6 rfl rfl (by simp)]at hJ;exact e_ T.ok 1 rfl hJ rfl rfl ((xI hi).trans (by rw[kx])) ⟨g8,rfl,a_.refl _,rfl⟩
    refine Um [[]] [.z aR] (by kernel_rfl) rfl ?_;refine bI (cL (js:=[(4,72)]) (by kernel_rfl) rfl fun ρ g8 _ _ hle hJ=>cT rfl (bE (aB rfl (bD T.ok rfl (St.start g8) (vs:=[(0,fv f)]) (cells:=cg f) rfl rfl rfl rfl rfl rfl (by decide) (by decide) (by kernel_rfl) rfl fun b g' jo _=>?_)))) ?_
    ·obtain⟨g2,e1,e2,e3⟩:=pI (α:=bH) jo (xs:=[f]) ⟨cg f,[],(List.append_nil _).symm,rfl,rfl⟩;exact⟨g2,e1,e2,e3⟩
    refine bI (jr (js:=[(3,71),(5,73)]) (by kernel_rfl) rfl fun ρ g8 h1 _ h3 hle hJ=>cT rfl (cQ fun v5 h5=>bE ⟨rfl,?_⟩)) ?_
    ·unfold JS at hJ;rw[h3]at hJ;replace h5:Rs g8 v5 [f]:=h5;obtain⟨a5,c5,rfl⟩:=h5.isSlice;obtain⟨_,news,hn,g_⟩:=Src.lq h5;obtain⟨c1,c2,rfl,rfl,rfl⟩:=hn;rw[List.append_nil]at g_;refine cd T.ok (i+3) rfl hJ (xH hi) (by rw[kx];rfl) rfl rfl rfl rfl rfl (by decide) rfl g_ (El.one (α:=bH) (g:=g8) (x:=f) rfl) (by show((xs i).length+1)*160≤_;omega) (by show(xs i).length+1≤maxLen;unfold maxLen;omega) fun a' c' g9 Ch SR=>⟨g9,rfl,⟨SR,?_⟩,trivial⟩
     refine(show(∃a c,Value.slice a' ((xs i).length+1) c'= .slice a ((xs i).length+1) c)∧St g g9 (_++xG (yT sl i (.slice a' ((xs i).length+1) c')) (yT xs i (xs i++[f])))from⟨⟨a',c',rfl⟩,?_⟩);rw[←Cg,List.length_append,List.length_singleton,lP];have e5:fl [f]=cg f:=List.append_nil _;rw[e5];exact Ch
    exact zd
   intro ρ g9 hle hJ cR;refine cT rfl (gv rfl fun v6 _ r6=>bE ?_);unfold JS at hJ;rw[r6]at hJ;obtain⟨⟨a6,c6,rfl⟩,hs⟩:=hJ;have ah:=(G.bu _).trans hle;obtain⟨aq,aR⟩:=cf ah aq aR;replace kU:=kU.mono ah;replace iS:=iS.mono ah;clear hle cR r6 ρ;refine Wp 1 rfl ?_;refine bA rfl (az T.ok 1 rfl hs rfl rfl rfl rfl rfl rfl rfl (Nat.ble_eq_true_of_le (by show i+1≤11;omega)) (HJ hi _) ?_);clear hs;intro g10 hs ah;obtain⟨aq,aR⟩:=cf ah aq aR;replace kU:=kU.mono ah;replace iS:=iS.mono ah;replace hs:St g g10 ([.obj r1 (vk bm (cu M).length (seen.push j)),tW AN (yT sl i (.slice a6 ((xs i).length+1) c6)),tW b4 fun _=> .slice none 0 0]++xG (yT sl i (.slice a6 ((xs i).length+1) c6)) (yT xs i (xs i++[f]))):=hs;rw[e]at hs;apply aE;apply bR;exact fun a ha=>⟨M.length-(seen.push j).toList.length,by rw[Array.toList_push,List.length_append,List.length_singleton];omega,seen.push j,_,_,rfl,hs,aq,kU,iS,by rw[Array.toList_push];exact s6,by rw[Array.toList_push];exact pQ,rfl,ha.keep (by(repeat (first|exact trivial|refine⟨rfl,?_⟩)))⟩
 have rq:(rz M seen.toList).Perm M:=B3 za bC fun j hj=>by simpa using cR j (by rw[Hs];exact hj)
 have lX: ∀i,(gR (rz M seen.toList) i).length≤1000000:=fun i=>by have:=tO (rz M seen.toList) i;have:=xw M seen.toList;omega
 have dH: ∀i,dN (lK i) (gR M i)=dN (lK i) (gR (rz M seen.toList) i):=fun i=>(AP hM (Dc rq i)).symm;simp only[dH];clear rq dH za bC wA cR kU;refine bj rfl ?_;apply aD;refine aV rfl rfl ?_;apply bF;apply bG;apply bG;apply c_;apply ar;apply aD;refine cN 1 rfl ?_;refine ak rfl rfl (oK hK rfl iS.2 rfl hs ?_);clear hs;intro r2 g6 hs ah;replace aq:=G.le.trans aq ah;replace iS:=iS.mono ah;replace hs:St g g6 ([.obj r2 (vk bk iB.length #[]),tW AN sl,tW b4 fun _=> .slice none 0 0]++xG sl fun i=>gR (rz M seen.toList) i):=hs.drop 1;generalize gR (rz M seen.toList)=xs at hs lX;clear hM Mu hK;apply bW;apply aG;refine bM (fun m a' w=> ∃(seen:Array Nat) (ys:Nat→List bH) (g':G),w=g'.w∧St g g' ([.obj r2 (vk bk iB.length seen),tW AN sl,tW b4 fun _=> .slice none 0 0]++xG sl ys)∧G.le g g'∧rL g' bk iB∧seen.toList.Nodup∧(∀j∈seen.toList,j<11)∧(∀i,ys i=if i∈seen.toList then dN (lK i) (xs i)else xs i)∧m=11-seen.toList.length∧
   Fr 91 [] [(4,.pointer (some ⟨b4,0,none⟩)),(11,.pointer (some ⟨AN,0,none⟩)),(77,.pointer (some ⟨r2,0,none⟩))] a') 11
  (fun a' ha=>⟨#[],xs,g6,rfl,hs,aq,iS,by simp,by simp,by simp,rfl,ha.keep (by(repeat (first|exact trivial|refine⟨rfl,?_⟩)))⟩) ?_
 clear hs aq iS;rintro m a' _ ⟨seen,ys,g',rfl,hs,aq,iS,za,bC,JT,rfl,eF⟩;have wA:=ju _ _ za bC;revert a';apply cI;apply cM;refine ak rfl rfl (qB 0 rfl hs rfl iS.2 rfl (fun cR=>?_) (fun j q g6 hq hj Fa ah=>?_));rotate_left
 ·obtain⟨nt,rfl⟩:=wz hq;have vu:j∉seen.toList:=by simpa using hj
  have s6:(seen.toList++[j]).Nodup:=List.nodup_append.2 ⟨za,by simp,by intro a ha b hb;rw[List.mem_singleton.1 hb];rintro rfl;exact vu ha⟩;have pQ: ∀k∈seen.toList++[j],k<11:=by intro k hk;rcases List.mem_append.1 hk with hk|hk;exact bC k hk;rw[List.mem_singleton.1 hk];exact nt
  have zn:=ju _ _ s6 pQ;rw[List.length_append,List.length_singleton]at zn;clear hs;replace hs:=Fa;clear Fa;replace aq:=G.le.trans aq ah;replace iS:=iS.mono ah;replace hs:St g g6 ([.obj r2 (vk bk iB.length (seen.push j)),tW AN sl,tW b4 fun _=> .slice none 0 0]++xG sl ys):=hs;refine bj rfl ?_;apply aD;refine aM rfl rfl ?_;apply aF;apply ar;apply aG;apply cM;refine ak rfl rfl (oL 0 rfl hs rfl iS.2 rfl hq ?_);refine Wp 1 rfl ?_;refine ak rfl rfl (aK T.ok rfl hs rfl rfl ?_);clear hs;rintro MO g1 hs ah;replace aq:=G.le.trans aq ah;replace iS:=iS.mono ah;refine bA rfl (az T.ok 0 rfl hs rfl rfl rfl rfl rfl rfl rfl rfl rfl ?_);replace hs:=hs;rintro g1 hs ah;replace aq:=G.le.trans aq ah;replace iS:=iS.mono ah;obtain⟨g2,bL,aT,ah,aL⟩:=hs.ba (i:=0) rfl;replace hs:=aT;clear aT;rw[←bL];replace aq:=G.le.trans aq ah;replace iS:=iS.mono ah;have aR:=aL;clear aL;apply bW;replace hs:St g _ ([.obj r2 (vk bk iB.length (seen.push j)),tW AN sl,tW b4 fun _=> .slice none 0 0]++xG sl ys):=hs;have hL:=hs.own (j+3) _ (xH nt);obtain⟨sa,sc,kx⟩:=hL.1.form;clear hL;apply bP hs (iY (.e (.slice sa (ys j).length sc)::eQ [])) 7 [(4,86),(6,88)] (by kernel_rfl) rfl
  ·refine Dm [[],[0],[1],[2]] [.z aR,.c (xC (gS nt)) fun g _=>Cc (gS nt) AN g] hs (by kernel_rfl) rfl ?_;refine ay (an (js:=[(3,85)]) (by kernel_rfl) fun gd hf=>ai rfl (aj (aB rfl (e_ T.ok 1 rfl (hs.dr.call hf) rfl rfl ((xI nt).trans (by rw[kx])) ⟨gd,rfl,a_.refl _,rfl⟩)))) ?_;exact Dz [[],[5]] [.z aR] hs (by kernel_rfl) rfl
  clear hs;intro g8 hs ah;replace aq:=G.le.trans aq ah;replace iS:=iS.mono ah;have aT:=hs.front (i:=j+3) (xH nt);rw[kx]at aT;refine ak rfl rfl (du RL aJ rfl rfl rfl rfl rfl (E5 (fi:=su j) (kf:=lK j) (ys j) rfl (by have:=lX j;rw[JT];split;rw[fT];all_goals omega) (fun g' _ f=>cW (first:=#[]) (args:=[fv f]) (captured:=#[]) (KK (gS nt)) rfl (OV (gS nt) f g')) aT) ?_);clear hs aT;rintro g9 _ ah ⟨rfl,hs⟩;replace aq:=G.le.trans aq ah;replace iS:=iS.mono ah;have e6:fy 34 sa (ys j).length sc (dN (lK j) (ys j))= .row 34 19 (sl j) (dN (lK j) (ys j)).length (fl (dN (lK j) (ys j))):=by rw[fT,kx]
  rw[e6]at hs;replace hs:=hs.perm (wx _ (by rw[List.length_append,HI];show j+3<3+11;omega));replace hs:St g g9 ([.obj r2 (vk bk iB.length (seen.push j)),tW AN sl,tW b4 fun _=> .slice none 0 0]++(xG sl ys).set j (.row 34 19 (sl j) (dN (lK j) (ys j)).length (fl (dN (lK j) (ys j))))):=hs;rw[Cg,show yT sl j (sl j)=sl from by funext i;unfold yT;split<;>simp[*]]at hs;apply aE;apply bR;refine fun a ha=>⟨11-(seen.push j).toList.length,by rw[Array.toList_push,List.length_append,List.length_singleton];omega,seen.push j,_,_,rfl,hs,aq,iS,by rw[Array.toList_push];exact s6,by rw[Array.toList_push];exact pQ,fun i=>?_,rfl,ha.keep (by(repeat (first|exact trivial|refine⟨rfl,?_⟩)))⟩
  unfold yT;rw[Array.toList_push];by_cases vv:i=j
  ·subst vv;rw[if_pos rfl,if_pos (by simp),JT,if_neg vu]
  rw[if_neg vv,JT];simp[vv]
 have Wq: ∀i,i<11→ys i=dN (lK i) (xs i):=fun i hi=>by rw[JT,if_pos (by simpa using cR i hi)]
 replace hs:=hs.perm List.perm_append_comm;obtain⟨g7,KQ,Hf,ah,rM⟩:=E7 (List.range 11) hs;rw[←KQ];clear hs;replace hs:=Hf;clear Hf;clear KQ;have h1: ∀i,i<11→(sl i).oneCell'=true:=fun i hi=>by obtain⟨a,c,e⟩:=(rM i (List.mem_range.2 hi)).isSlice;rw[e];rfl
 refine bj rfl ?_;apply aD;refine aV rfl rfl ?_;apply bF;apply bG;apply bG;apply c_;apply ar;refine dz 1 [.o 1] hs rfl ?_;refine bA rfl (az T.ok 2 rfl hs rfl rfl rfl rfl rfl rfl (O7 h1) rfl rfl ?_);clear hs;intro g8 hs ah;apply bW;refine aI (kC T.ok 2 rfl hs rfl rfl rfl (hs.ret ⟨sl,rfl,fun i hi=>?_⟩));have:=(rM i (List.mem_range.2 hi)).mono ah;rw[Wq i hi]at this;exact this
end Go.Proofs.YtgehbndkogohpaaGreatDoor
namespace Go.K
open Go Go.RowKit
variable {P:Program} {N:Nat} {l:Env} {g0 g:G} {L:List cS} {R:Ending→World→Prop}
theorem sy{fn:Func}{tb:Tb}(dq:tb.ok P)(i:Nat){t T b u:Nat}{cs:List Value}{E:TypeId}{fz:Nat×Nat}{v x:Value}(hr:fn.results=#[.cell t T,.tmp u])(hs:St g0 g L)(hi:L[i]? =some (.obj b (.cells cs.toArray E fz)))
  (hl:lk l t=some (.pointer (some ⟨b,0,none⟩))) (hv:vj tb T cs 0=some v) (hu:lk l u=some x) (hR:R (.returned (.tuple #[v,x])) g.w) (a:Act) (ha:Fr N [] l a):bodyPost P fn R .ret a g.w:=by
 refine⟨ha.defers,_,?_,hR⟩;have:=gm (P:=P) (w:=g.w) (off:=0) (o:=0) dq hv (je (hs.own i _ hi).2.1);simp only[Nat.add_zero]at this;simp[results,hr,ha.get t _ hl,asAddr,this,ha.get u _ hu]
end Go.K
namespace Go.Proofs.YtgehbndkogohpaaGreatDoor
def visit(f:bQ):Nat→List Bool→Int→List Bool
 |0,out,_=>out
 |k+1,out,n=>(gA (cn f n)).foldl (fun o m=>if o.getD m.toNat true then o else visit f k o m) (out.set n.toNat true)
def dW(f:bQ)(k:Nat)(o:List Bool)(l:List Int):List Bool:=l.foldl (fun o m=>if o.getD m.toNat true then o else visit f k o m) o
theorem t_(f:bQ)(k:Nat)(out:List Bool)(n:Int):visit f (k+1) out n=dW f k (out.set n.toNat true) (gA (cn f n)):=rfl
theorem vw(f:bQ)(k:Nat)(o:List Bool)(pre:List Int)(x:Int):
  dW f k o (pre++[x])=if(dW f k o pre).getD x.toNat true=true then dW f k o pre else visit f k (dW f k o pre) x:=by
 unfold dW;rw[List.foldl_append,List.foldl_cons,List.foldl_nil]
def eg(f:bQ)(n:Int):List Bool:=visit f f.steps.length (List.replicate f.steps.length false) n
def jX:Nat→List Bool→List Int
 |_,[]=>[]
 |k,b::r=>(if b then [(k:Int)]else [])++jX (k+1) r
def reach(f:bQ)(n:Int):List Int:=if given f [n]then jX 0 (eg f n)else []
def ends(f:bQ):List Int:=(reach f 0).filter fun n=>zo (cn f n)
theorem nQ(f:bQ)(k:Nat)(hv: ∀o n,(visit f k o n).length=o.length∧(visit f k o n).count false≤o.count false)(l:List Int)(o:List Bool):
  (dW f k o l).length=o.length∧(dW f k o l).count false≤o.count false:=by
 induction l generalizing o with
 |nil=>exact⟨rfl,Nat.le_refl _⟩
 |cons m r ih=>
  unfold dW at ih⊢;rw[List.foldl_cons];by_cases h:o.getD m.toNat true=true
  ·rw[if_pos h];exact ih o
  rw[if_neg h];have h1:=ih (visit f k o m);have h2:=hv o m;exact⟨h1.1.trans h2.1,Nat.le_trans h1.2 h2.2⟩
theorem ub(o:List Bool)(i:Nat):(o.set i true).count false≤o.count false:=by
 by_cases h:i<o.length
 ·rw[List.count_set h];simp
 rw[List.set_eq_of_length_le (by omega)];exact Nat.le_refl _
theorem sw(f:bQ)(k:Nat): ∀o n,(visit f k o n).length=o.length∧(visit f k o n).count false≤o.count false:=by
 induction k with
 |zero=>intro o n;exact⟨rfl,Nat.le_refl _⟩
 |succ k ih=>
  intro o n;rw[t_];have h:=nQ f k ih (gA (cn f n)) (o.set n.toNat true);exact⟨by rw[h.1];simp,Nat.le_trans h.2 (ub o _)⟩
theorem mI{o:List Bool}{i:Nat}(h:o[i]? =some false):(o.set i true).count false+1=o.count false:=by obtain⟨hi,he⟩:=List.getElem?_eq_some_iff.1 h;rw[List.count_set hi,he];have:0<o.count false:=List.count_pos_iff.2 (List.mem_iff_getElem.2 ⟨i,hi,he⟩);simp;omega
theorem zp{back:Int}{l:List Int}{m:Int}(h:m∈eU back l):m∈l∨(m=back∧0≤back):=by
 induction l generalizing back with
 |nil=>
  unfold eU at h;split at h
  ·simp at h;exact .inr ⟨h,by assumption⟩
  simp at h
 |cons n r ih=>
  unfold eU at h;rw[List.mem_append]at h;rcases h with h|h
  ·split at h
   ·simp at h;rename_i hc;exact .inr ⟨h,hc.1⟩
   simp at h
  rcases List.mem_cons.1 h with rfl|h
  ·exact .inl (List.mem_cons_self)
  rcases ih h with h|⟨h1,h2⟩
  ·exact .inl (List.mem_cons_of_mem _ h)
  split at h1
  ·rename_i hc;rw[if_pos hc]at h2;omega
  rename_i hc;rw[if_neg hc]at h2;exact .inr ⟨h1,h2⟩
theorem Dl{lo hi p:Int}{l:List Int}(h:iF lo hi p l=true): ∀m∈l,lo≤m∧m≤hi∧p<m:=by
 induction l generalizing p with
 |nil=>simp
 |cons n r ih=>
  simp only[iF,within,Bool.and_eq_true,decide_eq_true_eq]at h;intro m hm;rcases List.mem_cons.1 hm with rfl|hm
  ·omega
  have:=ih h.2 m hm;omega
theorem vx{lo hi:Int}{l:List Int}(h:ascending l lo hi=true): ∀m∈l,lo≤m∧m≤hi:=by
 cases l with
 |nil=>simp
 |cons n r=>
  simp only[ascending,within,Bool.and_eq_true,decide_eq_true_eq]at h;intro m hm;rcases List.mem_cons.1 hm with rfl|hm
  ·omega
  have:=Dl h.2 m hm;omega
theorem ud{s:Step}{n:Int}(h:bT s n=true): ∀m∈s.next,0≤m∧m<n:=by unfold bT at h;simp only[Bool.and_eq_true,decide_eq_true_eq]at h;intro m hm;have:=vx h.1.1.1.2 m hm;omega
theorem A6{s:Step}{n:Int}(h:bT s n=true):s.back<n∨s.back= -1:=by unfold bT within at h;simp only[Bool.and_eq_true,decide_eq_true_eq,Bool.or_eq_true,beq_iff_eq]at h;rcases h.1.1.1.1.1.1.1 with h|h<;>omega
theorem nR{f:bQ}(h:valid f=true){n:Int}(h0:0≤n)(h1:n<f.steps.length): ∀m∈gA (cn f n),0≤m∧m<f.steps.length:=by
 intro m hm;have hr:=mH h h0 h1;rcases zp hm with h2|⟨rfl,h2⟩
 ·exact ud hr m h2
 rcases A6 hr with h3|h3<;>omega
end Go.Proofs.YtgehbndkogohpaaGreatDoor
namespace Go.Proofs.YtgehbndkogohpaaGreatDoor
open Go Go.K
set_option maxRecDepth 10000
attribute [local irreducible] W WL cD bc bK bd bg bh cq ck
set_option maxHeartbeats 1000000
def pT(ob N:Nat)(out:List Bool):cS:=.row 4 1 (.slice (some ⟨ob,0,none⟩) N N) N (out.map Value.bool)
structure uG(g:G)(f:bQ)(ob N bo bf bv:Nat):Prop where
 JZ:EP g bo 0 [.slice (some ⟨ob,0,none⟩) N N]
 OU: ∃cs,EP g bf 0 cs∧rV g cs f
 UZ:EP g bv 0 [.func (.func 133) #[] #[.pointer (some ⟨bo,0,none⟩),.pointer (some ⟨bf,0,none⟩),.pointer (some ⟨bv,0,none⟩)]]
theorem uG.mono{g g':G}{f:bQ}{ob N bo bf bv:Nat}(h:uG g f ob N bo bf bv)(hle:g.le g'):uG g' f ob N bo bf bv:=
 ⟨h.JZ.mono hle,by obtain⟨cs,h1,h2⟩:=h.OU;exact⟨cs,h1.mono hle,h2.mono hle⟩,h.UZ.mono hle⟩
theorem Io(f:bQ)(fu:valid f=true)(ob N bo bf bv:Nat)(hN:N=f.steps.length): ∀(k:Nat) (g0 g:G) (L:List cS) (i:Nat) (out:List Bool) (n:Int),
  St g0 g L→L[i]? =some (pT ob N out)→uG g f ob N bo bf bv→out.length=N→0≤n→out[n.toNat]? =some false→out.count false≤k→
  CallsIn Wd 0 Tryz.prog 133 #[.int .i64 n,.pointer (some ⟨bo,0,none⟩),.pointer (some ⟨bf,0,none⟩),.pointer (some ⟨bv,0,none⟩)] g.w
   fun e w'=> ∃g',g'.w=w'∧e= .returned (.tuple #[])∧St g0 g' (L.set i (pT ob N (visit f k out n)))∧g.le g':=by
 intro k
 induction k with
 |zero=>
  intro g0 g L i out n _ _ _ _ _ hn hc;exact absurd (List.count_pos_iff.2 (List.mem_of_getElem? hn)) (by omega)
 |succ k ih=>
  intro g0 g L i out n hs hi Bp hlen h0 hn hc;have bC:n.toNat<N:=by rw[←hlen];exact(List.getElem?_eq_some_iff.1 hn).1
  have MC:i<L.length:=(List.getElem?_eq_some_iff.1 hi).1;have aq:=G.le.refl g;have aC:=Bp.JZ;obtain⟨cs,aR,a1,n1,c1,a2,n2,c2,rfl,aH,aU⟩:=Bp.OU;obtain⟨_,_,e⟩:=aH.isSlice;obtain⟨rfl,rfl,rfl⟩:=Value.slice.inj e;clear e;have WV:=Bp;refine pL Tryz.func133 rfl Tryz.ntmps133 rfl ?_;refine dz 2 [.z aC] (St.start _) rfl ?_;refine ak rfl rfl (dC T.ok rfl (hs.own i _ hi).1 h0 bC rfl rfl rfl rfl rfl rfl ?_);rintro b p hh;obtain⟨rfl,rfl⟩:ob=b∧0=p:=by simpa using hh
  refine bA rfl (gT T.ok i (n.toNat*1) (us:=[.bool true]) rfl hs hi rfl rfl rfl rfl rfl rfl (by decide) (by simp;omega) (xs':=(out.set n.toNat true).map Value.bool) ?_ ?_)
  ·rw[Nat.mul_one,List.map_set];unfold lh;rw[List.set_eq_take_append_cons_drop];simp[hlen,bC]
  rintro g1 hs ah;obtain⟨aq,aC,aR,aH⟩:=eS ah aq aC aR aH;replace Bp:=Bp.mono ah;apply bW;refine dz 3 [.z aR] (St.start _) rfl ?_;have Em:n<f.steps.length:=by omega
  refine ak rfl rfl (aW T.ok rfl aH (y:=cn f n) (by unfold cn;rw[cZ (j:=n.toNat) (by omega) (by omega)];simp[List.getD_eq_getElem?_getD,show n.toNat<f.steps.length from by omega]) rfl rfl rfl rfl rfl rfl ?_);rintro b q ys aL d_;have Ic:fV _ (.agg ys.toArray) (cn f n):=⟨ys,rfl,d_⟩
  obtain⟨b1,b2,b3,b4,b5,b6,rfl,_,_⟩:=d_;refine Wm 1 [.e aL 0] (St.start _) rfl ?_;skip;refine ak rfl rfl (au Jr aJ rfl rfl rfl rfl rfl (Cw _ _ _ Ic) ?_);rintro g4 v ki ⟨jW,eI,rfl,fr,UO⟩;replace hs:=hs.call ki;have ah:=ki.le;obtain⟨aq,aC,aR⟩:=dy ah aq aC aR;replace Bp:=Bp.mono ah;apply bW;apply aG;have PS:=sw f k;have gJ:=mI hn;refine xB (N:=24) hs rfl fr UO rfl (fun _=>rfl)
   (fun pre L' _=>L'=L.set i (pT ob N (dW f k (out.set n.toNat true) pre))) (fun _ _ _ _=>False)
   (fun _ _ _ _ _ h=>h) (fun _ _ _ _ _ _ h=>h) rfl (fun x=>[(5,.int .i64 x),(1,.pointer (some ⟨bo,0,none⟩)),(2,.pointer (some ⟨bf,0,none⟩)),(3,.pointer (some ⟨bv,0,none⟩))]) ?_ ?_ ?_ ?_
  ·intro x ro w;apply aA;refine Wp 1 rfl ?_;apply aE;exact fun a ha=>⟨rfl,ha.keep (by(repeat (first|exact trivial|refine⟨rfl,?_⟩)))⟩
  ·rintro lp D ro pre x rest gr Lr jf hle hs rfl;have Bp:=Bp.mono hle;have cC:=G.le.refl gr;have aC:=Bp.JZ;obtain⟨cs',aR,U0⟩:=Bp.OU;have cU:=Bp.UZ;obtain⟨h3,h4⟩:=nR fu h0 Em x (by rw[jf];simp);have Mv:=nQ f k PS pre (out.set n.toNat true);have zg:(dW f k (out.set n.toNat true) pre).length=N:=by rw[Mv.1];simp[hlen]
   have lX:x.toNat<(dW f k (out.set n.toNat true) pre).length:=by omega
   have Cx:(cS.obj lp (ro LoopState.busy)::cS.obj D fK::L.set i (pT ob N (dW f k (out.set n.toNat true) pre)))[i+2]? =some (pT ob N (dW f k (out.set n.toNat true) pre)):=by simp[MC]
   have jZ:dW f k (out.set n.toNat true) (pre++[x])=if(dW f k (out.set n.toNat true) pre)[x.toNat]=true then dW f k (out.set n.toNat true) pre else visit f k (dW f k (out.set n.toNat true) pre) x:=by rw[vw,List.getD_eq_getElem?_getD,List.getElem?_eq_getElem lX];rfl
   apply aG;refine dz 2 [.z aC] (St.start _) rfl ?_;refine ak rfl rfl (dC T.ok rfl (hs.own (i+2) _ Cx).1 h3 (by omega) rfl rfl rfl rfl rfl rfl ?_);rintro b p hh;obtain⟨rfl,rfl⟩:ob=b∧0=p:=by simpa using hh
   refine ak rfl rfl (dL T.ok (x.toNat*1) rfl (hs.own (i+2) _ Cx).1 rfl (v:=.bool ((dW f k (out.set n.toNat true) pre)[x.toNat])) (by show(List.map Value.bool _)[x.toNat*1]? =_;rw[Nat.mul_one,List.getElem?_map,List.getElem?_eq_getElem lX];rfl) ?_);refine bj rfl ?_;cases hb:(dW f k (out.set n.toNat true) pre)[x.toNat]with
   |true=>
    refine aV rfl rfl ?_;apply aF;apply bR;exact fun a ha=>⟨_,_,rfl,hs,cC,by rw[jZ,if_pos hb]⟩
   |false=>
    refine aM rfl rfl ?_;apply aA;refine Wm 2 [.z cU] (St.start _) rfl ?_;have n4:=ih g0 gr _ (i+2) _ x hs Cx Bp zg h3 (by rw[List.getElem?_eq_getElem lX,hb]) (by omega);have K_:=cW (first:=#[]) (args:=[.int .i64 x]) (captured:=#[.pointer (some ⟨bo,0,none⟩),.pointer (some ⟨bf,0,none⟩),.pointer (some ⟨bv,0,none⟩)]) Jq rfl n4;refine ak rfl rfl (eo rfl rfl rfl rfl rfl rfl (K_.mono ?_));rintro _ _ ⟨g5,rfl,rfl,DC,ah⟩;refine⟨_,rfl,?_⟩;replace cC:=G.le.trans cC ah;apply aE;apply bR;exact fun a ha=>⟨_,_,rfl,DC,cC,by rw[jZ,if_neg (by simp[hb]),List.set_set]⟩
  ·rintro lp D o Lr ge hle hs rfl;apply bR;refine EN 1 rfl hs rfl (fun g' jo fw=>?_);refine⟨g',rfl,rfl,?_,(aq.trans hle).trans fw⟩;have:=jo.drop 0;rw[t_];exact this
  rintro c lp D o pre Lr ge _ _ _ h;exact h.elim
end Go.Proofs.YtgehbndkogohpaaGreatDoor
