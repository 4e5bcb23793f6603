/- Parts of the proof, from: Sorting facts by a function that compares: two sorted stretches merged in place. -/
import Derived.Test.YtkpojaffabjibaaGreatDoorYg
namespace Go.Proofs.YtkpojaffabjibaaGreatDoor
open Go Go.K Tryz
attribute [local irreducible] W WL cQ aP bG aR aQ aS cK ct
set_option maxRecDepth 10000
set_option maxHeartbeats 8000000
theorem Nr{α:Type}{k:α→Int×Int}{A B:List α}{x:α}(h1: ∀a∈A,kl k a x=true)(h2: ∀b∈B,kl k b x=false):oH k [x] (A++B)=A++x::B:=by have e:=ju (k:=k) [] A (a2:=[x]) (b2:=B) (by simp) (fun a ha y hy=>by rw[aaL.1 hy];exact h1 a ha);have e2:=ju (k:=k) [x] [] (a2:=[]) (b2:=B) (fun y hy b hb=>by rw[aaL.1 hy];exact h2 b hb) (by simp);simp only[aa1,aaI]at e e2;rw[e,e2,ja];rfl
theorem wru{n:Int}(h1:0≤n)(h2:n≤9223372036854775807):IntKind.u64.wrap n=n:=by unfold IntKind.wrap;simp[IntKind.bits,IntKind.signed];omega
theorem Ns{a b:Nat}(h:a+b≤4000000000):IntKind.i64.wrap (ct .u64 (IntKind.u64.wrap (IntKind.i64.wrap ((a:Int)+(b:Int)))) 1)=(((a+b)/2:Nat):Int):=by
 rw[wq (n:=(a:Int)+b),wru (by omega) (by omega)];have e:ct .u64 ((a:Int)+b) 1=((a+b)/2:Nat):=by unfold ct;simp only[IntKind.bits];rw[show(2:Int)^(min 1 64)=2 from rfl,Int.fdiv_eq_ediv_of_nonneg _ (by omega)];omega
 rw[e,wq]
theorem yJ(tw:Bool){fo:Value}{kf:bc→Int×Int}{ad:Option Addr}{n c:Nat}{L:List dc}(hm:n≤1000000000): ∀(sz:Nat) (U X Y V:List bc) {g0 g:G},X.length+Y.length=sz→0<X.length→0<Y.length→CX kf X→CX kf Y→n=U.length+X.length+Y.length+V.length→FB fo kf g→St g0 g (gG (ow tw) ad n c (U++X++Y++V)::L)→
  CallsIn Wd 0 prog (Sx tw) #[.slice ad n c,vI (U.length:Nat),vI (U.length+X.length:Nat),vI (U.length+X.length+Y.length:Nat),fo] g.w (df g fun g' r=>r= .tuple #[]∧St g0 g' (gG (ow tw) ad n c (U++oH kf X Y++V)::L)):=by
 cases tw
 case' false=>let tw:=false
 case' true=>let tw:=true
 all_goals
  intro sz
  induction sz using Nat.strongRecOn with
  |_ sz ih=>
  intro U X Y V g0 g dk hX hY RC RD hn hk hs;have aj:=G.le.refl g
  first|refine enter func202 rfl ntmps202 rfl ?_|refine enter func249 rfl ntmps249 rfl ?_
  refine ak<|aD rfl ?_;by_cases Fg:X.length=1
  ·refine aG (b:=IntKind.i64.wrap (((U.length+X.length:Nat):Int)-(U.length:Nat))==1) (by rw[wq];simp;omega) rfl ?_;obtain⟨x,rfl⟩:=List.length_eq_one_iff.1 Fg;simp only[aaF]at*;refine aD rfl<|aD rfl<|ak<|aw ?_
   refine aZ (fun m a' w=> ∃(lo hi:Nat) (g':G),w=g'.w∧St g0 g' (gG (ow tw) ad n c (U++[x]++Y++V)::L)∧G.le g g'∧lo≤hi∧hi≤Y.length∧(∀t (h:t<Y.length),t<lo→kl kf Y[t] x=true)∧(∀t (h:t<Y.length),hi≤t→kl kf Y[t] x=false)∧m=hi-lo∧
     Fr 220 [] [(0,.slice ad n c),(1,vI (U.length:Nat)),(2,vI (U.length+1:Nat)),(3,vI (U.length+1+Y.length:Nat)),(4,fo),(10,vI (U.length+1+lo:Nat)),(11,vI (U.length+1+hi:Nat))] a') Y.length
    (fun a' ha=>⟨0,Y.length,g,rfl,hs,aj,by omega,by omega,by intros;omega,by intros;omega,rfl,ha.kp rfl⟩) ?_
   clear hs aj;rintro m a' _ ⟨lo,hi,g',rfl,hs,aj,h1,h2,h3,h4,rfl,dT⟩;revert a';refine bT<|ak<|aD rfl ?_;by_cases aV:lo<hi
   ·refine aG (b:=decide (((U.length+1+lo:Nat):Int)<((U.length+1+hi:Nat):Int))) (by simp;omega) rfl<|ar<|ai<|aw<|aD rfl<|ak ?_;obtain⟨md,Ys⟩: ∃md,md=(lo+hi)/2:=⟨_,rfl⟩;have RE:lo≤md:=by omega
    have Yt:md<hi:=by omega
    have Dt:md<Y.length:=by omega
    refine tD (l':=[(0,.slice ad n c),(1,vI (U.length:Nat)),(2,vI (U.length+1:Nat)),(3,vI (U.length+1+Y.length:Nat)),(4,fo),(10,vI (U.length+1+lo:Nat)),(11,vI (U.length+1+hi:Nat)),(12,vI (U.length+1+md:Nat))]) ⟨rfl,rfl,rfl,rfl,rfl,rfl,rfl,kI rfl ((Ns (by omega)).trans (by omega)),trivial⟩ ?_;obtain⟨b0,p0,rfl⟩: ∃b p,ad=some ⟨b,p,none⟩:=by
     rcases(hs.own 0 _ rfl).1.2 with⟨h0,_⟩|⟨b,off,cap,cur,hv,_⟩
     ·omega
     simp only[aaK]at hv;exact⟨b,off,hv.1⟩
    have gx:(U++[x]++Y++V)[U.length]? =some x:=by simp
    have gy:(U++[x]++Y++V)[U.length+1+md]? =some Y[md]:=by rw[aaG,aby (by simp only[aal,aaF];omega),abV (by simp only[aal,aaF];omega),aal,aaF,abO,aas Dt]
    obtain⟨y,Kj⟩: ∃y,y=Y[md]:=⟨_,rfl⟩;rw[←Kj]at gy;apply aO hs (cV (eA (fe []))) 11 [(10,50)] (by kernel_rfl) rfl
    ·refine cY [[],[],[]] [] hs rfl<|aW [(1,41),(2,42)] (fun gd hf=>bN rfl (ay rfl (dB (α:=bc) 0 rfl (hs.dr.call hf) rfl (by omega) (by omega) rfl rfl rfl rfl rfl rfl fun b p hb=>⟨gd,rfl,bW.refl _,?_⟩))) ?_
     ·obtain⟨rfl,rfl⟩:b0=b∧p0=p:=by simpa using hb
      rfl
     refine aW [(3,43)] (fun gd hf=>cj rfl (ay rfl (eJ (α:=bc) 0 rfl (hs.dr.call hf) rfl rfl (j:=U.length+1+md) gy rfl rfl rfl (cC rfl))))<|cY [[],[]] [] hs rfl<|aW [(5,45),(6,46)] (fun gd hf=>bN rfl (ay rfl (dB (α:=bc) 0 rfl (hs.dr.call hf) rfl (by omega) (by omega) rfl rfl rfl rfl rfl rfl fun b p hb=>⟨gd,rfl,bW.refl _,?_⟩))) ?_
     ·obtain⟨rfl,rfl⟩:b0=b∧p0=p:=by simpa using hb
      rfl
     exact aW [(7,47)] (fun gd hf=>cj rfl (ay rfl (eJ (α:=bc) 0 rfl (hs.dr.call hf) rfl rfl (j:=U.length) gx rfl rfl rfl (cC rfl))))<|aW [(0,40),(4,44),(8,48)] (fun gd hf=>dD rfl (ay rfl (fF rfl rfl rfl rfl rfl rfl (hk gd (aj.trans ((G.a_ _).trans hf.le)) y x) fun g' v h1 h2=>⟨g',rfl,h1,h2⟩)))<|mX [[9]] [] hs rfl
    clear hs;intro g5 hs ag;replace aj:=G.le.trans aj ag;apply bE;cases oO:kl kf y x with
    |true=>
     refine aG (b:=decide (vN (kf y) (kf x)<0)) (by rw[n9];exact oO) rfl<|ah<|Wp 3 rfl<|an<|aX<|fun a ha=>⟨hi-(md+1),by omega,md+1,hi,g5,rfl,hs,aj,by omega,h2,?_,h4,rfl,ha.keep ⟨rfl,rfl,rfl,rfl,rfl,kW rfl,rfl,trivial⟩⟩
     rw[Kj]at oO;intro t ht VY;by_cases H0:t=md
     ·subst H0;exact oO
     have:=abu.1 RD t md ht Dt (by omega);rw[vq]at oO⊢;rw[jL]at this;omega
    |false=>
     refine bg (b:=decide (vN (kf y) (kf x)<0)) (by rw[n9];exact oO) rfl<|ah<|Wp 2 rfl<|an<|aX<|fun a ha=>⟨md-lo,by omega,lo,md,g5,rfl,hs,aj,by omega,by omega,h3,?_,rfl,ha.kp rfl⟩
     rw[Kj]at oO;intro t ht VY;by_cases H0:t=md
     ·subst H0;exact oO
     have:=abu.1 RD md t Dt ht (by omega);rw[jL]at oO this⊢;omega
   refine bg (b:=decide (((U.length+1+lo:Nat):Int)<((U.length+1+hi:Nat):Int))) (by simp;omega) rfl<|aJ<|aM<|aM<|b_<|ai<|ak<|aD rfl<|aw ?_;obtain rfl:lo=hi:=by omega
   have eY:=aaY lo Y;have SB:(Y.take lo).length=lo:=by rw[aat];omega
   have hM:oH kf [x] Y=Y.take lo++x::Y.drop lo:=by
    have e:=Nr (k:=kf) (A:=Y.take lo) (B:=Y.drop lo) (x:=x) (fun a ha=>by
     obtain⟨t,ht,rfl⟩:=aa4.1 ha;rw[acn];exact h3 _ _ (by omega)) (fun b hb=>by
     obtain⟨t,ht,rfl⟩:=aa4.1 hb;rw[acR];exact h4 _ _ (by omega))
    rw[eY]at e;exact e
   have er:U++[x]++Y++V=U++[]++x::(Y.take lo++(Y.drop lo++V)):=by
    conv=>lhs;rw[←eY]
    simp only[aaG,aa0,aa1]
   rw[er]at hs;rw[hM];have UI:(Y.drop lo).length=Y.length-lo:=aaM;generalize Y.take lo=Y1 at hs SB;generalize Y.drop lo=Y2 at hs UI;have hWl:(Y2++V).length=Y2.length+V.length:=aal;refine aZ (fun m a' w=> ∃(A B:List bc) (g2:G),w=g2.w∧St g0 g2 (gG (ow tw) ad n c (U++A++x::(B++(Y2++V)))::L)∧G.le g g2∧Y1=A++B∧m=B.length∧
     Fr 220 [] [(0,.slice ad n c),(1,vI (U.length:Nat)),(2,vI (U.length+1:Nat)),(3,vI (U.length+1+Y.length:Nat)),(4,fo),(10,vI (U.length+1+lo:Nat)),(13,vI (U.length+A.length:Nat))] a') Y1.length
    (fun a' ha=>⟨[],Y1,g',rfl,hs,aj,by simp,rfl,ha.kp rfl⟩) ?_
   clear hs aj;rintro m a' _ ⟨A,B,g2,rfl,hs,aj,EZ,rfl,dT⟩;have rD:A.length+B.length=lo:=by rw[←aal,←EZ,SB]
   revert a';refine bT<|ak<|aD rfl ?_;cases B with
   |nil=>
    refine bg (b:=decide (((U.length+A.length:Nat):Int)<IntKind.i64.wrap (((U.length+1+lo:Nat):Int)-1))) (by rw[wq];simp only[aay]at rD;simp;omega) rfl<|aJ<|aM<|aM<|b_<|ai<|au (tA rfl (df.intro aj ⟨rfl,?_⟩));rw[EZ]
    simpa using hs
   |cons z B=>
    refine aG (b:=decide (((U.length+A.length:Nat):Int)<IntKind.i64.wrap (((U.length+1+lo:Nat):Int)-1))) (by rw[wq];simp only[aaw]at rD;simp;omega) rfl ?_;simp only[aaw]at rD;obtain⟨b0,p0,rfl⟩: ∃b p,ad=some ⟨b,p,none⟩:=by
     rcases(hs.own 0 _ rfl).1.2 with⟨h0,_⟩|⟨b,off,cap,cur,hv,_⟩
     ·omega
     simp only[aaK]at hv;exact⟨b,off,hv.1⟩
    have ej:U.length+A.length=(U++A).length:=by rw[aal]
    have eN:A++[z]=A++[z]:=rfl;have Nt:(U++A)++z::([]++x::(B++(Y2++V)))=U++(A++[z])++x::(B++(Y2++V)):=by simp
    have VZ:U++A++x::(z::B++(Y2++V))=(U++A)++x::([]++z::(B++(Y2++V))):=rfl;rw[VZ]at hs;rw[ej];have Nq:(U++A).length=U.length+A.length:=aal;generalize U++A=X at hs Nq Nt;have Yr:(X++x::([]++z::(B++(Y2++V)))).length=n:=by rw[aal,Nq];simp only[aaw,aal,aay];omega
    have gx:(X++x::([]++z::(B++(Y2++V))))[X.length]? =some x:=by simp
    have gz:(X++x::([]++z::(B++(Y2++V))))[X.length+1]? =some z:=B6 X [] _ x z;refine ar<|ai<|ak<|aw ?_
    apply rH (gR (.e (vI (X.length+1:Nat))::eA (.e (vI (X.length+1:Nat))::gR (eA (fe [.f Fact.any]))))) 16 [(2,63),(4,65),(13,74)] [15] [[0,1,5,6,7,8,9,10,11,12,13,14]]
     (fun s=>match s with|0=>gG (ow tw) (some ⟨b0,p0,none⟩) n c (X++x::([]++z::(B++(Y2++V))))::L|_+1=>gG (ow tw) (some ⟨b0,p0,none⟩) n c ((X++x::([]++z::(B++(Y2++V)))).set X.length z)::L) hs (by kernel_rfl) ⟨dw,trivial⟩
    ·refine Lm [[],[],[],[]] [] (by kernel_rfl) rfl<|dA (qe (js:=[(3,64)]) (by kernel_rfl) rfl fun s g' _ _ _ hf _=>cj rfl (ay rfl (bR _ T.ok rfl ⟨g',rfl,bW.refl _,?_⟩))) ?_
     ·exact congrArg (Value.int .i64) (by rw[wq];omega)
     refine Lm [[],[]] [] (by kernel_rfl) rfl<|dA (qe (js:=[(6,67)]) (by kernel_rfl) rfl fun s g' _ _ _ hf _=>cj rfl (ay rfl (bR _ T.ok rfl ⟨g',rfl,bW.refl _,?_⟩))) ?_
     ·exact congrArg (Value.int .i64) (by rw[wq];omega)
     refine dA (mZ 0 0 (js:=[(5,66),(7,68)]) (by kernel_rfl) (by kernel_rfl) ?_) ?_
     ·intro s g' _ h1 hf hJ;obtain rfl:s=0:=by omega
      refine bN rfl (ay rfl (dB (α:=bc) 0 rfl hJ rfl (by omega) (by omega) rfl rfl rfl rfl rfl rfl fun b p hb=>⟨g',rfl,bW.refl _,?_⟩));obtain⟨rfl,rfl⟩:b0=b∧p0=p:=by simpa using hb
      rfl
     refine dA (mZ 0 0 (js:=[(8,69)]) (by kernel_rfl) (by kernel_rfl) ?_) ?_
     ·intro s g' _ h1 hf hJ;obtain rfl:s=0:=by omega
      exact cj rfl (ay rfl (eJ (α:=bc) 0 rfl hJ rfl rfl (j:=X.length+1) gz rfl rfl rfl ⟨g',rfl,bW.refl _,rfl⟩))
     refine Lm [[],[]] [] (by kernel_rfl) rfl<|dA (mZ 0 0 (js:=[(10,71),(11,72)]) (by kernel_rfl) (by kernel_rfl) ?_) ?_
     ·intro s g' _ h1 hf hJ;obtain rfl:s=0:=by omega
      refine bN rfl (ay rfl (dB (α:=bc) 0 rfl hJ rfl (by omega) (by omega) rfl rfl rfl rfl rfl rfl fun b p hb=>⟨g',rfl,bW.refl _,?_⟩));obtain⟨rfl,rfl⟩:b0=b∧p0=p:=by simpa using hb
      rfl
     refine dA (mZ 0 0 (js:=[(12,73)]) (by kernel_rfl) (by kernel_rfl) ?_) ?_
     ·intro s g' _ h1 hf hJ;obtain rfl:s=0:=by omega
      exact cj rfl (ay rfl (eJ (α:=bc) 0 rfl hJ rfl rfl (j:=X.length) gx rfl rfl rfl ⟨g',rfl,bW.refl _,rfl⟩))
     refine dA (mZ 0 0 (js:=[(0,61),(1,62),(0,61),(1,62)]) (by kernel_rfl) (by kernel_rfl) ?_) ?_
     ·intro s g' _ h1 hf hJ;obtain rfl:s=0:=by omega
      refine su rfl (ay rfl (dB (α:=bc) 0 rfl hJ rfl (by omega) (by omega) rfl rfl rfl rfl rfl rfl fun b p hb=>⟨g',rfl,bW.refl _,?_⟩));obtain⟨rfl,rfl⟩:b0=b∧p0=p:=by simpa using hb
      rfl
     exact dA (yn 0 (js:=[(14,75),(9,70),(9,70)]) (by kernel_rfl) rfl fun g' hf hJ=>dD rfl (tg rfl (iE (α:=bc) 0 rfl hJ rfl rfl rfl (v:=z) (j:=X.length) (by omega) rfl rfl fun g3 hs hle=>⟨g3,rfl,⟨hle,hs⟩,trivial⟩)))<|AM
    clear hs;intro g6 hs ag;replace aj:=G.le.trans aj ag;refine dD rfl<|aN rfl rfl (dB (α:=bc) 0 rfl hs rfl (by omega) (by omega) rfl rfl rfl rfl rfl rfl fun b p hb=>?_);obtain⟨rfl,rfl⟩:b0=b∧p0=p:=by simpa using hb
    refine gw rfl<|iE (α:=bc) 0 rfl hs rfl rfl rfl (v:=x) (j:=X.length+1) (by rw[abI];omega) rfl rfl fun g7 hs ag=>?_;replace aj:=G.le.trans aj ag;replace hs:St g0 g7 (gG (ow tw) (some ⟨b0,p0,none⟩) n c (((X++x::([]++z::(B++(Y2++V)))).set X.length z).set (X.length+1+([]:List bc).length) x)::L):=hs;rw[Ds,Nt]at hs;exact an<|aX<|ai<|ah<|Wp 3 rfl<|an<|fun a ha=>⟨B.length,by simp,A++[z],B,g7,rfl,hs,aj,by rw[EZ];simp,rfl,ha.keep ⟨rfl,rfl,rfl,rfl,rfl,rfl,kI rfl (by rw[wq,aal,aaF];omega),trivial⟩⟩
  refine bg (b:=IntKind.i64.wrap (((U.length+X.length:Nat):Int)-(U.length:Nat))==1) (by rw[wq];simp;omega) rfl<|ar<|ai<|ak<|aD rfl ?_;by_cases hy1:Y.length=1
  ·refine aG (b:=IntKind.i64.wrap (((U.length+X.length+Y.length:Nat):Int)-(U.length+X.length:Nat))==1) (by rw[wq];simp;omega) rfl ?_;obtain⟨y,rfl⟩:=List.length_eq_one_iff.1 hy1;simp only[aaF]at*;refine aD rfl<|aD rfl<|ak<|aw ?_
   refine aZ (fun m a' w=> ∃(lo hi:Nat) (g':G),w=g'.w∧St g0 g' (gG (ow tw) ad n c (U++X++[y]++V)::L)∧G.le g g'∧lo≤hi∧hi≤X.length∧(∀t (h:t<X.length),t<lo→kl kf y X[t]=false)∧(∀t (h:t<X.length),hi≤t→kl kf y X[t]=true)∧m=hi-lo∧
     Fr 220 [] [(0,.slice ad n c),(1,vI (U.length:Nat)),(2,vI (U.length+X.length:Nat)),(3,vI (U.length+X.length+1:Nat)),(4,fo),(14,vI (U.length+lo:Nat)),(15,vI (U.length+hi:Nat))] a') X.length
    (fun a' ha=>⟨0,X.length,g,rfl,hs,aj,by omega,by omega,by intros;omega,by intros;omega,rfl,ha.kp rfl⟩) ?_
   clear hs aj;rintro m a' _ ⟨lo,hi,g',rfl,hs,aj,h1,h2,h3,h4,rfl,dT⟩;revert a';refine bT<|ak<|aD rfl ?_;by_cases aV:lo<hi
   ·refine aG (b:=decide (((U.length+lo:Nat):Int)<((U.length+hi:Nat):Int))) (by simp;omega) rfl<|ar<|ai<|aw<|aD rfl<|ak ?_;obtain⟨md,Ys⟩: ∃md,md=(lo+hi)/2:=⟨_,rfl⟩;have RE:lo≤md:=by omega
    have Yt:md<hi:=by omega
    have Dt:md<X.length:=by omega
    refine tD (l':=[(0,.slice ad n c),(1,vI (U.length:Nat)),(2,vI (U.length+X.length:Nat)),(3,vI (U.length+X.length+1:Nat)),(4,fo),(14,vI (U.length+lo:Nat)),(15,vI (U.length+hi:Nat)),(16,vI (U.length+md:Nat))]) ⟨rfl,rfl,rfl,rfl,rfl,rfl,rfl,kI rfl ((Ns (by omega)).trans (by omega)),trivial⟩ ?_;obtain⟨b0,p0,rfl⟩: ∃b p,ad=some ⟨b,p,none⟩:=by
     rcases(hs.own 0 _ rfl).1.2 with⟨h0,_⟩|⟨b,off,cap,cur,hv,_⟩
     ·omega
     simp only[aaK]at hv;exact⟨b,off,hv.1⟩
    have gy:(U++X++[y]++V)[U.length+X.length]? =some y:=by rw[aaG,aby (by rw[aal];omega),aal,Nat.sub_self];rfl
    have gx:(U++X++[y]++V)[U.length+md]? =some X[md]:=by rw[aaG,aaG,aby (by omega),abO,abV Dt,aas Dt]
    obtain⟨x,Kj⟩: ∃x,x=X[md]:=⟨_,rfl⟩;rw[←Kj]at gx;apply aO hs (cV (gR [])) 12 [(11,103)] (by kernel_rfl) rfl
    ·refine cY [[],[],[]] [] hs rfl<|aW [(1,93),(2,94)] (fun gd hf=>bN rfl (ay rfl (dB (α:=bc) 0 rfl (hs.dr.call hf) rfl (by omega) (by omega) rfl rfl rfl rfl rfl rfl fun b p hb=>⟨gd,rfl,bW.refl _,?_⟩))) ?_
     ·obtain⟨rfl,rfl⟩:b0=b∧p0=p:=by simpa using hb
      rfl
     refine aW [(3,95)] (fun gd hf=>cj rfl (ay rfl (eJ (α:=bc) 0 rfl (hs.dr.call hf) rfl rfl (j:=U.length+X.length) gy rfl rfl rfl (cC rfl))))<|cY [[],[]] [] hs rfl<|aW [(5,97),(6,98)] (fun gd hf=>bN rfl (ay rfl (dB (α:=bc) 0 rfl (hs.dr.call hf) rfl (by omega) (by omega) rfl rfl rfl rfl rfl rfl fun b p hb=>⟨gd,rfl,bW.refl _,?_⟩))) ?_
     ·obtain⟨rfl,rfl⟩:b0=b∧p0=p:=by simpa using hb
      rfl
     exact aW [(7,99)] (fun gd hf=>cj rfl (ay rfl (eJ (α:=bc) 0 rfl (hs.dr.call hf) rfl rfl (j:=U.length+md) gx rfl rfl rfl (cC rfl))))<|aW [(0,92),(4,96),(8,100)] (fun gd hf=>dD rfl (ay rfl (fF rfl rfl rfl rfl rfl rfl (hk gd (aj.trans ((G.a_ _).trans hf.le)) y x) fun g' v h1 h2=>⟨g',rfl,h1,h2⟩)))<|mX [[9],[10]] [] hs rfl
    clear hs;intro g5 hs ag;replace aj:=G.le.trans aj ag;apply bE;cases oO:kl kf y x with
    |false=>
     refine aG (b:=!decide (vN (kf y) (kf x)<0)) (by rw[n9,oO];rfl) rfl<|ah<|Wp 3 rfl<|an<|aX<|fun a ha=>⟨hi-(md+1),by omega,md+1,hi,g5,rfl,hs,aj,by omega,h2,?_,h4,rfl,ha.keep ⟨rfl,rfl,rfl,rfl,rfl,kW rfl,rfl,trivial⟩⟩
     rw[Kj]at oO;intro t ht VY;by_cases H0:t=md
     ·subst H0;exact oO
     have:=abu.1 RC t md ht Dt (by omega);rw[jL]at oO this⊢;omega
    |true=>
     refine bg (b:=!decide (vN (kf y) (kf x)<0)) (by rw[n9,oO];rfl) rfl<|ah<|Wp 2 rfl<|an<|aX<|fun a ha=>⟨md-lo,by omega,lo,md,g5,rfl,hs,aj,by omega,by omega,h3,?_,rfl,ha.kp rfl⟩
     rw[Kj]at oO;intro t ht VY;by_cases H0:t=md
     ·subst H0;exact oO
     have:=abu.1 RC md t Dt ht (by omega);rw[vq]at oO⊢;rw[jL]at this;omega
   refine bg (b:=decide (((U.length+lo:Nat):Int)<((U.length+hi:Nat):Int))) (by simp;omega) rfl<|aJ<|aM<|aM<|b_<|ai<|ak<|aD rfl<|aw ?_;obtain rfl:lo=hi:=by omega
   have eX:=aaY lo X;have SC:(X.take lo).length=lo:=by rw[aat];omega
   have hM:oH kf X [y]=X.take lo++y::X.drop lo:=by
    have e:=xE (k:=kf) (A:=X.take lo) (B:=X.drop lo) (x:=y) (fun a ha=>by
     obtain⟨t,ht,rfl⟩:=aa4.1 ha;rw[acn];exact h3 _ _ (by omega)) (fun b hb=>by
     obtain⟨t,ht,rfl⟩:=aa4.1 hb;rw[acR];exact h4 _ _ (by omega))
    rw[eX]at e;exact e
   have er:U++X++[y]++V=U++X.take lo++X.drop lo++y::([]++V):=by
    conv=>lhs;rw[←eX]
    simp only[aaG,aa0,aa1]
   rw[er]at hs;rw[hM];have RF:(X.drop lo).length=X.length-lo:=aaM;generalize X.take lo=X1 at hs SC;generalize X.drop lo=X2 at hs RF;refine aZ (fun m a' w=> ∃(A B:List bc) (g2:G),w=g2.w∧St g0 g2 (gG (ow tw) ad n c (U++X1++A++y::(B++V))::L)∧G.le g g2∧X2=A++B∧m=A.length∧
     Fr 220 [] [(0,.slice ad n c),(1,vI (U.length:Nat)),(2,vI (U.length+X.length:Nat)),(3,vI (U.length+X.length+1:Nat)),(4,fo),(14,vI (U.length+lo:Nat)),(17,vI (U.length+lo+A.length:Nat))] a') X2.length
    (fun a' ha=>⟨X2,[],g',rfl,hs,aj,by simp,rfl,ha.keep ⟨rfl,rfl,rfl,rfl,rfl,rfl,kI rfl (by rw[RF];omega),trivial⟩⟩) ?_
   clear hs aj;rintro m a' _ ⟨A,B,g2,rfl,hs,aj,EZ,rfl,dT⟩;have rD:A.length+B.length=X.length-lo:=by rw[←aal,←EZ,RF]
   revert a';rcases ach A with rfl|⟨A,z,rfl⟩
   ·refine bT<|ak<|aD rfl<|bg (b:=decide (((U.length+lo:Nat):Int)<((U.length+lo+([]:List bc).length:Nat):Int))) (by simp) rfl<|aJ<|aM<|aM<|b_<|ai<|au (tA rfl (df.intro aj ⟨rfl,?_⟩));rw[EZ]
    simpa using hs
   rw[ab9]at*;simp only[aal,aaF]at rD;obtain⟨b0,p0,rfl⟩: ∃b p,ad=some ⟨b,p,none⟩:=by
    rcases(hs.own 0 _ rfl).1.2 with⟨h0,_⟩|⟨b,off,cap,cur,hv,_⟩
    ·omega
    simp only[aaK]at hv;exact⟨b,off,hv.1⟩
   have VZ:U++X1++(A++[z])++y::(B++V)=(U++X1++A)++z::y::(B++V):=by simp
   rw[VZ]at hs;have Nq:(U++X1++A).length=U.length+lo+A.length:=by rw[aal,aal,SC]
   have ej:U.length+lo+(A++[z]).length=(U++X1++A).length+1:=by rw[Nq,aal];rfl
   rw[ej];generalize hW:U++X1++A=W0 at hs Nq;have Yr:(W0++z::y::(B++V)).length=n:=by rw[aal,Nq];simp only[aaw,aal];omega
   have gz:(W0++z::y::(B++V))[W0.length]? =some z:=by simp
   have gy:(W0++z::y::(B++V))[W0.length+1]? =some y:=B6 W0 [] _ z y;refine bT<|ak<|aD rfl<|aG (b:=decide (((U.length+lo:Nat):Int)<((W0.length+1:Nat):Int))) (by simp;omega) rfl<|ar<|ai<|ak<|aw ?_
   apply rH (gR (.e (vI (W0.length:Nat))::eA (.e (vI (W0.length:Nat))::gR (eA (fe [.f Fact.any]))))) 16 [(2,115),(4,117),(13,126)] [15] [[0,1,5,6,7,8,9,10,11,12,13,14]]
    (fun s=>match s with|0=>gG (ow tw) (some ⟨b0,p0,none⟩) n c (W0++z::y::(B++V))::L|_+1=>gG (ow tw) (some ⟨b0,p0,none⟩) n c ((W0++z::y::(B++V)).set (W0.length+1) z)::L) hs (by kernel_rfl) ⟨dw,trivial⟩
   ·refine Lm [[],[],[],[]] [] (by kernel_rfl) rfl<|dA (qe (js:=[(3,116)]) (by kernel_rfl) rfl fun s g' _ _ _ hf _=>cj rfl (ay rfl (bR _ T.ok rfl ⟨g',rfl,bW.refl _,?_⟩))) ?_
    ·exact congrArg (Value.int .i64) (by rw[wq];omega)
    refine Lm [[],[]] [] (by kernel_rfl) rfl<|dA (qe (js:=[(6,119)]) (by kernel_rfl) rfl fun s g' _ _ _ hf _=>cj rfl (ay rfl (bR _ T.ok rfl ⟨g',rfl,bW.refl _,?_⟩))) ?_
    ·exact congrArg (Value.int .i64) (by rw[wq];omega)
    refine dA (mZ 0 0 (js:=[(5,118),(7,120)]) (by kernel_rfl) (by kernel_rfl) ?_) ?_
    ·intro s g' _ h1 hf hJ;obtain rfl:s=0:=by omega
     refine bN rfl (ay rfl (dB (α:=bc) 0 rfl hJ rfl (by omega) (by omega) rfl rfl rfl rfl rfl rfl fun b p hb=>⟨g',rfl,bW.refl _,?_⟩));obtain⟨rfl,rfl⟩:b0=b∧p0=p:=by simpa using hb
     rfl
    refine dA (mZ 0 0 (js:=[(8,121)]) (by kernel_rfl) (by kernel_rfl) ?_) ?_
    ·intro s g' _ h1 hf hJ;obtain rfl:s=0:=by omega
     exact cj rfl (ay rfl (eJ (α:=bc) 0 rfl hJ rfl rfl (j:=W0.length) gz rfl rfl rfl ⟨g',rfl,bW.refl _,rfl⟩))
    refine Lm [[],[]] [] (by kernel_rfl) rfl<|dA (mZ 0 0 (js:=[(10,123),(11,124)]) (by kernel_rfl) (by kernel_rfl) ?_) ?_
    ·intro s g' _ h1 hf hJ;obtain rfl:s=0:=by omega
     refine bN rfl (ay rfl (dB (α:=bc) 0 rfl hJ rfl (by omega) (by omega) rfl rfl rfl rfl rfl rfl fun b p hb=>⟨g',rfl,bW.refl _,?_⟩));obtain⟨rfl,rfl⟩:b0=b∧p0=p:=by simpa using hb
     rfl
    refine dA (mZ 0 0 (js:=[(12,125)]) (by kernel_rfl) (by kernel_rfl) ?_) ?_
    ·intro s g' _ h1 hf hJ;obtain rfl:s=0:=by omega
     exact cj rfl (ay rfl (eJ (α:=bc) 0 rfl hJ rfl rfl (j:=W0.length+1) gy rfl rfl rfl ⟨g',rfl,bW.refl _,rfl⟩))
    refine dA (mZ 0 0 (js:=[(0,113),(1,114),(0,113),(1,114)]) (by kernel_rfl) (by kernel_rfl) ?_) ?_
    ·intro s g' _ h1 hf hJ;obtain rfl:s=0:=by omega
     refine su rfl (ay rfl (dB (α:=bc) 0 rfl hJ rfl (by omega) (by omega) rfl rfl rfl rfl rfl rfl fun b p hb=>⟨g',rfl,bW.refl _,?_⟩));obtain⟨rfl,rfl⟩:b0=b∧p0=p:=by simpa using hb
     rfl
    exact dA (yn 0 (js:=[(14,127),(9,122),(9,122)]) (by kernel_rfl) rfl fun g' hf hJ=>dD rfl (tg rfl (iE (α:=bc) 0 rfl hJ rfl rfl rfl (v:=z) (j:=W0.length+1) (by omega) rfl rfl fun g3 hs hle=>⟨g3,rfl,⟨hle,hs⟩,trivial⟩)))<|AM
   clear hs;intro g6 hs ag;replace aj:=G.le.trans aj ag;refine dD rfl<|aN rfl rfl (dB (α:=bc) 0 rfl hs rfl (by omega) (by omega) rfl rfl rfl rfl rfl rfl fun b p hb=>?_);obtain⟨rfl,rfl⟩:b0=b∧p0=p:=by simpa using hb
   refine gw rfl<|iE (α:=bc) 0 rfl hs rfl rfl rfl (v:=y) (j:=W0.length) (by rw[abI];omega) rfl rfl fun g7 hs ag=>?_;replace aj:=G.le.trans aj ag;replace hs:St g0 g7 (gG (ow tw) (some ⟨b0,p0,none⟩) n c (((W0++z::y::(B++V)).set (W0.length+1) z).set W0.length y)::L):=hs;rw[Dr,←hW]at hs;exact an<|aX<|ai<|ah<|Wp 3 rfl<|an<|fun a ha=>⟨A.length,by simp,A,z::B,g7,rfl,hs,aj,by rw[EZ];simp,rfl,ha.keep ⟨rfl,rfl,rfl,rfl,rfl,rfl,kW rfl,trivial⟩⟩
  refine bg (b:=IntKind.i64.wrap (((U.length+X.length+Y.length:Nat):Int)-(U.length+X.length:Nat))==1) (by rw[wq];simp;omega) rfl<|ar<|ai ?_;(iterate 3 refine aD rfl ?_);refine ak<|aD rfl ?_;obtain⟨h,hh⟩: ∃h,h=(X.length+Y.length)/2:=⟨_,rfl⟩;have hU:U.length≤1000000000:=by omega
  have UJ:IntKind.i64.wrap (ct .u64 (IntKind.u64.wrap (IntKind.i64.wrap (((U.length:Nat):Int)+((U.length+X.length+Y.length:Nat):Int)))) 1)=((U.length+h:Nat):Int):=(Ns (by omega)).trans (by omega);refine tD (l':=[(0,.slice ad n c),(1,vI (U.length:Nat)),(2,vI (U.length+X.length:Nat)),(3,vI (U.length+X.length+Y.length:Nat)),(4,fo),(18,vI (U.length+h:Nat)),(19,vI (U.length+h+(U.length+X.length):Nat)),(20,vI 0),(21,vI 0),(140,.bool (decide (((U.length+h:Nat):Int)<((U.length+X.length:Nat):Int))))])
   ⟨rfl,rfl,rfl,rfl,rfl,kI rfl UJ,kI rfl ((congrArg (fun z:Int=>IntKind.i64.wrap (z+((U.length+X.length:Nat):Int))) UJ).trans (by show IntKind.i64.wrap _=_;rw[wq];omega)),rfl,rfl,congrArg (fun z:Int=>some (Value.bool (decide (z<((U.length+X.length:Nat):Int))))) UJ,trivial⟩ ?_
  refine lR (fun a' w=>w=g.w∧ ∃p q,p≤q∧q≤h∧q≤X.length∧h≤p+Y.length∧(∀u v,0<p→X[p-1]? =some u→Y[h-p]? =some v→kl kf v u=false)∧(∀u v,q<h→X[q]? =some u→Y[h-1-q]? =some v→kl kf v u=true)∧
    Fr 220 [] [(0,.slice ad n c),(1,vI (U.length:Nat)),(2,vI (U.length+X.length:Nat)),(3,vI (U.length+X.length+Y.length:Nat)),(4,fo),(18,vI (U.length+h:Nat)),(19,vI (U.length+h+(U.length+X.length):Nat)),(20,vI (U.length+p:Nat)),(21,vI (U.length+q:Nat))] a') ?_ ?_
  ·by_cases aae:h<X.length
   ·exact aG (b:=decide (((U.length+h:Nat):Int)<((U.length+X.length:Nat):Int))) (by simp;omega) rfl<|aD rfl<|ah<|Wp 2 rfl<|an<|fun a ha=>⟨rfl,h-Y.length,h,by omega,by omega,by omega,by omega,fun u v _ _ hv=>(by rw[abx (by omega)]at hv;cases hv),fun u v hq=>absurd hq (by omega),ha.keep ⟨rfl,rfl,rfl,rfl,rfl,rfl,rfl,kW rfl,rfl,trivial⟩⟩
   exact bg (b:=decide (((U.length+h:Nat):Int)<((U.length+X.length:Nat):Int))) (by simp;omega) rfl<|aD rfl<|ah<|Wp 2 rfl<|an<|fun a ha=>⟨rfl,0,X.length,by omega,by omega,by omega,by omega,fun u v hp=>absurd hp (by omega),fun u v _ hu=>(by rw[abx (by omega)]at hu;cases hu),ha.kp rfl⟩
  rintro a' _ ⟨rfl,p,q,h1,h2,h3,h4,i1,i2,dT⟩;revert a';refine bT<|aD rfl<|ak<|aw ?_;have Qf:=aj;refine aZ (fun m a' w=> ∃(p q:Nat) (g':G),w=g'.w∧St g0 g' (gG (ow tw) ad n c (U++X++Y++V)::L)∧G.le g g'∧p≤q∧q≤h∧q≤X.length∧h≤p+Y.length∧(∀u v,0<p→X[p-1]? =some u→Y[h-p]? =some v→kl kf v u=false)∧(∀u v,q<h→X[q]? =some u→Y[h-1-q]? =some v→kl kf v u=true)∧m=q-p∧
    Fr 220 [] [(0,.slice ad n c),(1,vI (U.length:Nat)),(2,vI (U.length+X.length:Nat)),(3,vI (U.length+X.length+Y.length:Nat)),(4,fo),(18,vI (U.length+h:Nat)),(19,vI (U.length+h+(U.length+X.length):Nat)),(20,vI (U.length+p:Nat)),(21,vI (U.length+q:Nat)),(22,vI (U.length+h+(U.length+X.length)-1:Nat))] a') (q-p)
   (fun a' ha=>⟨p,q,g,rfl,hs,aj,h1,h2,h3,h4,i1,i2,rfl,ha.keep ⟨rfl,rfl,rfl,rfl,rfl,rfl,rfl,rfl,rfl,kW rfl,trivial⟩⟩) ?_
  clear hs aj i1 i2 h1 h2 h3 h4 p q;rintro m a' _ ⟨p,q,g',rfl,hs,aj,h1,h2,h3,h4,i1,i2,rfl,dT⟩;revert a';refine bT<|ak<|aD rfl ?_;by_cases aV:p<q
  ·refine aG (b:=decide (((U.length+p:Nat):Int)<((U.length+q:Nat):Int))) (by simp;omega) rfl<|ar<|ai<|aw<|aD rfl<|ak ?_;obtain⟨md,Ys⟩: ∃md,md=(p+q)/2:=⟨_,rfl⟩;have RE:p≤md:=by omega
   have Yt:md<q:=by omega
   have Kk:md<X.length:=by omega
   have Dt:h-1-md<Y.length:=by omega
   refine tD (l':=[(0,.slice ad n c),(1,vI (U.length:Nat)),(2,vI (U.length+X.length:Nat)),(3,vI (U.length+X.length+Y.length:Nat)),(4,fo),(18,vI (U.length+h:Nat)),(19,vI (U.length+h+(U.length+X.length):Nat)),(20,vI (U.length+p:Nat)),(21,vI (U.length+q:Nat)),(22,vI (U.length+h+(U.length+X.length)-1:Nat)),(23,vI (U.length+md:Nat))]) ⟨rfl,rfl,rfl,rfl,rfl,rfl,rfl,rfl,rfl,rfl,kI rfl ((Ns (by omega)).trans (by omega)),trivial⟩ ?_;obtain⟨b0,p0,rfl⟩: ∃b p,ad=some ⟨b,p,none⟩:=by
    rcases(hs.own 0 _ rfl).1.2 with⟨h0,_⟩|⟨b,off,cap,cur,hv,_⟩
    ·omega
    simp only[aaK]at hv;exact⟨b,off,hv.1⟩
   have gx:(U++X++Y++V)[U.length+md]? =some X[md]:=by rw[aaG,aaG,aby (by omega),abO,abV Kk,aas Kk]
   have gy:(U++X++Y++V)[U.length+X.length+(h-1-md)]? =some Y[h-1-md]:=by rw[aaG,aby (by rw[aal];omega),aal,abO,abV Dt,aas Dt]
   obtain⟨x,Qg⟩: ∃x,x=X[md]:=⟨_,rfl⟩;obtain⟨y,Kj⟩: ∃y,y=Y[h-1-md]:=⟨_,rfl⟩;rw[←Qg]at gx;rw[←Kj]at gy;apply aO hs (gR (.e (vI (U.length+X.length+(h-1-md):Nat))::cV (fe []))) 14 [(13,171)] (by kernel_rfl) rfl
   ·refine cY [[],[],[],[]] [] hs rfl<|aW [(2,160),(3,161)] (fun gd hf=>bN rfl (ay rfl (bR _ T.ok rfl ⟨gd,rfl,bW.refl _,?_⟩))) ?_
    ·exact congrArg (Value.int .i64) (by rw[wq];omega)
    refine aW [(1,159),(4,162)] (fun gd hf=>bN rfl (ay rfl (dB (α:=bc) 0 rfl (hs.dr.call hf) rfl (by omega) (by omega) rfl rfl rfl rfl rfl rfl fun b p hb=>⟨gd,rfl,bW.refl _,?_⟩))) ?_
    ·obtain⟨rfl,rfl⟩:b0=b∧p0=p:=by simpa using hb
     rfl
    refine aW [(5,163)] (fun gd hf=>cj rfl (ay rfl (eJ (α:=bc) 0 rfl (hs.dr.call hf) rfl rfl (j:=U.length+X.length+(h-1-md)) gy rfl rfl rfl (cC rfl))))<|cY [[],[]] [] hs rfl<|aW [(7,165),(8,166)] (fun gd hf=>bN rfl (ay rfl (dB (α:=bc) 0 rfl (hs.dr.call hf) rfl (by omega) (by omega) rfl rfl rfl rfl rfl rfl fun b p hb=>⟨gd,rfl,bW.refl _,?_⟩))) ?_
    ·obtain⟨rfl,rfl⟩:b0=b∧p0=p:=by simpa using hb
     rfl
    exact aW [(9,167)] (fun gd hf=>cj rfl (ay rfl (eJ (α:=bc) 0 rfl (hs.dr.call hf) rfl rfl (j:=U.length+md) gx rfl rfl rfl (cC rfl))))<|aW [(0,158),(6,164),(10,168)] (fun gd hf=>dD rfl (ay rfl (fF rfl rfl rfl rfl rfl rfl (hk gd (aj.trans ((G.a_ _).trans hf.le)) y x) fun g' v h1 h2=>⟨g',rfl,h1,h2⟩)))<|mX [[11],[12]] [] hs rfl
   clear hs;intro g5 hs ag;replace aj:=G.le.trans aj ag;apply bE;cases oO:kl kf y x with
   |false=>
    refine aG (b:=!decide (vN (kf y) (kf x)<0)) (by rw[n9,oO];rfl) rfl<|ah<|Wp 3 rfl<|an<|aX<|fun a ha=>⟨q-(md+1),by omega,md+1,q,g5,rfl,hs,aj,by omega,h2,h3,by omega,?_,i2,rfl,ha.keep ⟨rfl,rfl,rfl,rfl,rfl,rfl,rfl,kW rfl,rfl,rfl,trivial⟩⟩
    intro u v _ hu hv;rw[Nat.add_sub_cancel,aas Kk]at hu;rw[show h-(md+1)=h-1-md from by omega,aas Dt]at hv;obtain rfl:=aax hu;obtain rfl:=aax hv;rw[Qg,Kj]at oO;exact oO
   |true=>
    refine bg (b:=!decide (vN (kf y) (kf x)<0)) (by rw[n9,oO];rfl) rfl<|ah<|Wp 2 rfl<|an<|aX<|fun a ha=>⟨md-p,by omega,p,md,g5,rfl,hs,aj,by omega,by omega,by omega,h4,i1,?_,rfl,ha.kp rfl⟩
    intro u v _ hu hv;rw[aas Kk]at hu;rw[aas Dt]at hv;obtain rfl:=aax hu;obtain rfl:=aax hv;rw[Qg,Kj]at oO;exact oO
  refine bg (b:=decide (((U.length+p:Nat):Int)<((U.length+q:Nat):Int))) (by simp;omega) rfl ?_;obtain rfl:p=q:=by omega
  have eX:=aaY p X;have eY:=aaY (h-p) Y;have SC:(X.take p).length=p:=by rw[aat];omega
  have RF:(X.drop p).length=X.length-p:=aaM;have SB:(Y.take (h-p)).length=h-p:=by rw[aat];omega
  have UI:(Y.drop (h-p)).length=Y.length-(h-p):=aaM;have c1: ∀x∈X.take p,∀y∈Y.drop (h-p),kl kf y x=false:=by
   intro x hx y hy;obtain⟨t,ht,rfl⟩:=aa4.1 hx;obtain⟨u,hu,rfl⟩:=aa4.1 hy;rw[SC]at ht;rw[UI]at hu;rw[acn,acR];have e:=i1 _ _ (by omega) (aas (by omega:p-1<X.length)) (aas (by omega:h-p<Y.length));have ex:kl kf X[p-1] X[t]=false:=by
    by_cases H0:t=p-1
    ·subst H0;rw[jL];omega
    exact abu.1 RC t (p-1) (by omega) (by omega) (by omega)
   have ey:kl kf Y[h-p+u] Y[h-p]=false:=by
    by_cases V0:u=0
    ·subst V0;rw[jL];simp
    exact abu.1 RD (h-p) (h-p+u) (by omega) (by omega) (by omega)
   rw[jL]at e ex ey⊢;omega
  have c2: ∀y∈Y.take (h-p),∀x∈X.drop p,kl kf y x=true:=by
   intro y hy x hx;obtain⟨t,ht,rfl⟩:=aa4.1 hx;obtain⟨u,hu,rfl⟩:=aa4.1 hy;rw[RF]at ht;rw[SB]at hu;rw[acn,acR];have e:=i2 _ _ (by omega) (aas (by omega:p<X.length)) (aas (by omega:h-1-p<Y.length));have ex:kl kf X[p+t] X[p]=false:=by
    by_cases H0:t=0
    ·subst H0;rw[jL];simp
    exact abu.1 RC p (p+t) (by omega) (by omega) (by omega)
   have ey:kl kf Y[h-1-p] Y[u]=false:=by
    by_cases V0:u=h-1-p
    ·subst V0;rw[jL];omega
    exact abu.1 RD u (h-1-p) (by omega) (by omega) (by omega)
   rw[vq]at e⊢;rw[jL]at ex ey;omega
  have hM:=ju (X.take p) (Y.take (h-p)) c1 c2;rw[eX,eY]at hM;(repeat (first|refine aJ ?_|with_reducible refine aM ?_|with_reducible refine b_ ?_|with_reducible refine ai ?_));have Yu:CX kf (X.take p):=RC.sublist (List.take_sublist ..);have Yv:CX kf (X.drop p):=RC.sublist (List.drop_sublist ..);have Yw:CX kf (Y.take (h-p)):=RD.sublist (List.take_sublist ..);have Yx:CX kf (Y.drop (h-p)):=RD.sublist (List.drop_sublist ..);have er:U++X++Y++V=U++X.take p++X.drop p++Y.take (h-p)++(Y.drop (h-p)++V):=by
   conv=>lhs;rw[←eX,←eY]
   simp only[aaG]
  rw[er]at hs;rw[hM];clear c1 c2 eX eY i1 i2 hM er;generalize X.take p=X1 at hs SC Yu;generalize X.drop p=X2 at hs RF Yv;generalize Y.take (h-p)=Y1 at hs SB Yw;generalize Y.drop (h-p)=Y2 at hs UI Yx;refine aD rfl<|tD (l':=[(0,.slice ad n c),(1,vI (U.length:Nat)),(2,vI (U.length+X.length:Nat)),(3,vI (U.length+X.length+Y.length:Nat)),(4,fo),(18,vI (U.length+h:Nat)),(20,vI (U.length+p:Nat)),(24,vI (U.length+X.length+(h-p):Nat))]) ⟨rfl,rfl,rfl,rfl,rfl,rfl,rfl,kW rfl,trivial⟩<|ak<|lR (fun a' w=> ∃g',w=g'.w∧St g0 g' (gG (ow tw) ad n c (U++X1++Y1++(X2++Y2++V))::L)∧G.le g g'∧Fr 220 [] [(0,.slice ad n c),(1,vI (U.length:Nat)),(2,vI (U.length+X.length:Nat)),(3,vI (U.length+X.length+Y.length:Nat)),(4,fo),(18,vI (U.length+h:Nat)),(20,vI (U.length+p:Nat)),(24,vI (U.length+X.length+(h-p):Nat))] a') ?_ ?_
  ·by_cases hp:p<X.length
   ·refine ak<|ah<|Wp 4 rfl<|cT (.bool true) (t:=181) rfl (congrArg Value.bool (by simp;omega))<|aF rfl ?_;by_cases hq:0<h-p
    ·refine aG (b:=decide (((U.length+X.length:Nat):Int)<((U.length+X.length+(h-p):Nat):Int))) (by simp;omega) rfl<|ah<|Wp 5 rfl<|cT (vI ((U++X1).length:Nat)) (t:=187) rfl (congrArg (Value.int .i64) (by rw[aal];omega))<|cT (vI ((U++X1).length+X2.length:Nat)) (t:=188) rfl (congrArg (Value.int .i64) (by rw[aal];omega))<|cT (vI ((U++X1).length+X2.length+Y1.length:Nat)) (t:=189) rfl (congrArg (Value.int .i64) (by rw[aal];omega))<|aN rfl rfl<|lu (VV tw) bJ rfl rfl rfl rfl rfl (Ki tw (U++X1) X2 Y1 (Y2++V) (by omega) (by omega) (by simp only[aal];omega) hm hs) ?_;clear hs;rintro g6 _ ag ⟨rfl,hs⟩;replace aj:=G.le.trans aj ag;exact an<|fun a ha=>⟨g6,rfl,by simpa using hs,aj,ha.kp rfl⟩
    refine bg (b:=decide (((U.length+X.length:Nat):Int)<((U.length+X.length+(h-p):Nat):Int))) (by simp;omega) rfl<|ar ?_;obtain rfl:Y1=[]:=acx.1 (by omega);exact fun a ha=>⟨g',rfl,by simpa using hs,aj,ha.kp rfl⟩
   refine ak<|ah<|Wp 4 rfl<|cT (.bool false) (t:=181) rfl (congrArg Value.bool (by simp;omega))<|aF rfl<|bI rfl<|ar ?_;obtain rfl:X2=[]:=acx.1 (by omega);exact fun a ha=>⟨g',rfl,by simpa using hs,aj,ha.kp rfl⟩
  clear hs aj;rintro a' _ ⟨g7,rfl,hs,aj,dT⟩;revert a';refine bT<|ak<|lR (fun a' w=> ∃g',w=g'.w∧St g0 g' (gG (ow tw) ad n c (U++oH kf X1 Y1++(X2++Y2++V))::L)∧G.le g g'∧Fr 220 [] [(0,.slice ad n c),(1,vI (U.length:Nat)),(2,vI (U.length+X.length:Nat)),(3,vI (U.length+X.length+Y.length:Nat)),(4,fo),(18,vI (U.length+h:Nat)),(20,vI (U.length+p:Nat)),(24,vI (U.length+X.length+(h-p):Nat))] a') ?_ ?_
  ·by_cases hp:0<p
   ·refine ak<|ah<|Wp 4 rfl<|cT (.bool true) (t:=195) rfl (congrArg Value.bool (by simp;omega))<|aF rfl ?_;by_cases hq:p<h
    ·refine aG (b:=decide (((U.length+p:Nat):Int)<((U.length+h:Nat):Int))) (by simp;omega) rfl<|ah<|Wp 5 rfl<|cT (vI (U.length+X1.length:Nat)) (t:=202) rfl (congrArg (Value.int .i64) (by omega))<|cT (vI (U.length+X1.length+Y1.length:Nat)) (t:=203) rfl (congrArg (Value.int .i64) (by omega))<|aN rfl rfl<|lu (Np tw) bJ rfl rfl rfl rfl rfl (ih (X1.length+Y1.length) (by omega) U X1 Y1 (X2++Y2++V) rfl (by omega) (by omega) Yu Yw (by simp only[aal];omega) (hk.mono aj) hs) ?_;clear hs;rintro g6 _ ag ⟨rfl,hs⟩;replace aj:=G.le.trans aj ag;exact an<|fun a ha=>⟨g6,rfl,hs,aj,ha.kp rfl⟩
    refine bg (b:=decide (((U.length+p:Nat):Int)<((U.length+h:Nat):Int))) (by simp;omega) rfl<|ar ?_;obtain rfl:Y1=[]:=acx.1 (by omega);exact fun a ha=>⟨g7,rfl,by simpa [ja]using hs,aj,ha.kp rfl⟩
   refine ak<|ah<|Wp 4 rfl<|cT (.bool false) (t:=195) rfl (congrArg Value.bool (by simp;omega))<|aF rfl<|bI rfl<|ar ?_;obtain rfl:X1=[]:=acx.1 (by omega);exact fun a ha=>⟨g7,rfl,by simpa [oH]using hs,aj,ha.kp rfl⟩
  clear hs aj;rintro a' _ ⟨g8,rfl,hs,aj,dT⟩;revert a';apply bT;have lM:(oH kf X1 Y1).length=X1.length+Y1.length:=by rw[(qz (k:=kf) X1 Y1).length_eq,aal]
  generalize oH kf X1 Y1=M1 at hs lM;by_cases hp:p<X.length
  ·refine ak<|ah<|Wp 4 rfl<|cT (.bool true) (t:=209) rfl (congrArg Value.bool (by simp;omega))<|aF rfl ?_;by_cases hq:h-p<Y.length
   ·refine aG (b:=decide (((U.length+X.length+(h-p):Nat):Int)<((U.length+X.length+Y.length:Nat):Int))) (by simp;omega) rfl<|ah<|Wp 5 rfl<|cT (vI ((U++M1).length:Nat)) (t:=215) rfl (congrArg (Value.int .i64) (by rw[aal];omega))<|cT (vI ((U++M1).length+X2.length:Nat)) (t:=216) rfl (congrArg (Value.int .i64) (by rw[aal];omega))<|cT (vI ((U++M1).length+X2.length+Y2.length:Nat)) (t:=217) rfl (congrArg (Value.int .i64) (by rw[aal];omega))<|aN rfl rfl<|lu (Np tw) bJ rfl rfl rfl rfl rfl (ih (X2.length+Y2.length) (by omega) (U++M1) X2 Y2 V rfl (by omega) (by omega) Yv Yx (by simp only[aal];omega) (hk.mono aj) (by simpa using hs)) ?_;clear hs;rintro g6 _ ag ⟨rfl,hs⟩;replace aj:=G.le.trans aj ag;exact an<|nd rfl (df.intro aj ⟨rfl,by simpa using hs⟩)
   refine bg (b:=decide (((U.length+X.length+(h-p):Nat):Int)<((U.length+X.length+Y.length:Nat):Int))) (by simp;omega) rfl<|ar ?_;obtain rfl:Y2=[]:=acx.1 (by omega);exact nd rfl (df.intro aj ⟨rfl,by simpa [ja]using hs⟩)
  refine ak<|ah<|Wp 4 rfl<|cT (.bool false) (t:=209) rfl (congrArg Value.bool (by simp;omega))<|aF rfl<|bI rfl<|ar ?_;obtain rfl:X2=[]:=acx.1 (by omega);exact nd rfl (df.intro aj ⟨rfl,by simpa [oH]using hs⟩)
def xy{α:Type}(k:α→Int×Int)(B:Nat):Nat→List α→List α
 |0,l=>dI k l
 |n+1,l=>dI k (l.take B)++xy k B n (l.drop B)
def bk{α:Type}(k:α→Int×Int)(B:Nat)(l:List α):List α:=xy k B (l.length/B) l
theorem uH{α:Type}{k:α→Int×Int}{B:Nat}{l:List α}(h:l.length<B):bk k B l=dI k l:=by unfold bk;rw[Nat.div_eq_of_lt h];rfl
theorem rR{α:Type}{k:α→Int×Int}{B:Nat}{l:List α}(h0:0<B)(h:B≤l.length):bk k B l=dI k (l.take B)++bk k B (l.drop B):=by unfold bk;rw[aaM,Nat.div_eq_sub_div h0 h];rfl
theorem Kl{α:Type}{k:α→Int×Int}{B:Nat}{l:List α}(h0:0<B)(h:l.length≤B):bk k B l=dI k l:=by
 rcases abc l.length B with h1|h1
 ·exact uH h1
 rw[rR h0 h1,aaD h,abr h,uH (by simpa using h0)];simp[dI]
theorem gh{α:Type}{k:α→Int×Int}(l:List α):(dI k l).length=l.length:=(jv l).length_eq
theorem GQ{α:Type}{k:α→Int×Int}{B:Nat}: ∀(n:Nat) (l:List α),(xy k B n l).length=l.length
 |0,l=>gh l
 |n+1,l=>by show(dI k (l.take B)++xy k B n (l.drop B)).length=_;rw[aal,gh,GQ n,aat,aaM];omega
theorem Qh{α:Type}{k:α→Int×Int}{B:Nat}(l:List α):(bk k B l).length=l.length:=GQ _ l
theorem Km(tw:Bool){fo:Value}{kf:bc→Int×Int}{ad:Option Addr}{n c:Nat}{L:List dc}(Z:List bc){g0 g:G}(hn:Z.length=n)(hm:n≤1000000000)(hk:FB fo kf g)(hs:St g0 g (gG (ow tw) ad n c Z::L)):
  CallsIn Wd 0 prog (Sy tw) #[.slice ad n c,vI (n:Nat),fo] g.w (df g fun g' r=>r= .tuple #[]∧St g0 g' (gG (ow tw) ad n c (dI kf Z)::L)):=by
 cases tw
 case' false=>let tw:=false
 case' true=>let tw:=true
 all_goals
  have aj:=G.le.refl g
  first|refine enter func140 rfl ntmps140 rfl ?_|refine enter func203 rfl ntmps203 rfl ?_
  refine aD rfl<|aD rfl<|ak<|aw ?_
  refine aZ (fun m a' w=> ∃(X Y:List bc) (g':G),w=g'.w∧St g0 g' (gG (ow tw) ad n c (X++Y)::L)∧G.le g g'∧X++bk kf 20 Y=bk kf 20 Z∧X.length+Y.length=n∧m=Y.length∧
    Fr 63 [] [(0,.slice ad n c),(1,vI (n:Nat)),(2,fo),(6,vI 20),(7,vI (X.length:Nat)),(8,vI (X.length+20:Nat))] a') n
   (fun a' ha=>⟨[],Z,g,rfl,hs,aj,rfl,by simpa using hn,hn.symm,ha.kp rfl⟩) ?_
  clear hs aj;rintro m a' _ ⟨X,Y,g',rfl,hs,aj,h1,h2,rfl,dT⟩;revert a';refine bT<|ak<|aD rfl ?_;by_cases aV:20≤Y.length
  ·refine aG (b:=decide (((X.length+20:Nat):Int)≤((n:Nat):Int))) (by simp;omega) rfl<|ar<|ai<|aw<|ck 4 rfl ?_;have hS:(Y.take 20).length=20:=by rw[aat];omega
   have hV:(Y.drop 20).length=Y.length-20:=aaM;refine cT (vI (X.length+(Y.take 20).length:Nat)) (t:=16) rfl (congrArg (Value.int .i64) (by rw[hS]))<|aN rfl rfl<|lu (Su tw) bJ rfl rfl rfl rfl rfl (O5 tw X (Y.take 20) (Y.drop 20) (by omega) hm (hk.mono aj) (by rw[aaG,aaY];exact hs)) ?_;clear hs;rintro g5 _ ag ⟨rfl,hs⟩;replace aj:=G.le.trans aj ag;refine bE<|aD rfl<|ah<|Wp 4 rfl<|an<|aX ?_;rw[rR (by decide) aV]at h1;have hl:=gh (k:=kf) (Y.take 20);exact fun a ha=>⟨(Y.drop 20).length,by omega,X++dI kf (Y.take 20),Y.drop 20,g5,rfl,hs,aj,by rw[aaG];exact h1,by rw[aal];omega,rfl,ha.keep ⟨rfl,rfl,rfl,rfl,kI rfl (by rw[aal];omega),kI rfl (by rw[wq,aal];omega),trivial⟩⟩
  refine bg (b:=decide (((X.length+20:Nat):Int)≤((n:Nat):Int))) (by simp;omega) rfl<|aJ<|aM<|aM<|b_<|ai<|ck 4 rfl<|cT (vI (X.length+Y.length:Nat)) (t:=25) rfl (congrArg (Value.int .i64) (by rw[h2]))<|aN rfl rfl<|lu (Su tw) bJ rfl rfl rfl rfl rfl (O5 tw X Y [] (by simpa using h2.symm) hm (hk.mono aj) (by rw[aaI];exact hs)) ?_;clear hs;rintro g5 _ ag ⟨rfl,hs⟩;replace aj:=G.le.trans aj ag;rw[aaI,←uH (k:=kf) (B:=20) (l:=Y) (by omega),h1]at hs;clear h1 h2 aV;refine bE<|aw ?_
  refine aZ (fun m a' w=> ∃(B:Nat) (g':G),w=g'.w∧St g0 g' (gG (ow tw) ad n c (bk kf B Z)::L)∧G.le g g'∧1≤B∧B≤2000000000∧m=n-B∧
    Fr 63 [] [(0,.slice ad n c),(1,vI (n:Nat)),(2,fo),(6,vI (B:Nat))] a') (n-20)
   (fun a' ha=>⟨20,g5,rfl,hs,aj,by omega,by omega,rfl,ha.kp rfl⟩) ?_
  clear hs aj;rintro m a' _ ⟨B,g',rfl,hs,aj,hB,hB2,rfl,dT⟩;revert a';refine bT<|ak<|aD rfl ?_;by_cases aV:B<n
  ·refine aG (b:=decide (((B:Nat):Int)<((n:Nat):Int))) (by simp;omega) rfl<|ar<|ai<|aw<|aD rfl<|ak<|aw ?_
   refine aZ (fun m a' w=> ∃(X Y:List bc) (g':G),w=g'.w∧St g0 g' (gG (ow tw) ad n c (X++bk kf B Y)::L)∧G.le g g'∧X++bk kf (2*B) Y=bk kf (2*B) Z∧X.length+Y.length=n∧m=Y.length∧
     Fr 63 [] [(0,.slice ad n c),(1,vI (n:Nat)),(2,fo),(6,vI (B:Nat)),(7,vI (X.length:Nat)),(8,vI (X.length+2*B:Nat))] a') n
    (fun a' ha=>⟨[],Z,g',rfl,hs,aj,rfl,by simpa using hn,hn.symm,ha.keep ⟨rfl,rfl,rfl,rfl,rfl,kI rfl (by rw[wq];simp),trivial⟩⟩) ?_
   clear hs aj;rintro m a' _ ⟨X,Y,g',rfl,hs,aj,h1,h2,rfl,dT⟩;revert a';refine bT<|ak<|aD rfl ?_;by_cases hle:2*B≤Y.length
   ·refine aG (b:=decide (((X.length+2*B:Nat):Int)≤((n:Nat):Int))) (by simp;omega) rfl<|ar<|ai<|aw<|ck 7 rfl ?_;have l1:(Y.take B).length=B:=by rw[aat];omega
    have l2:((Y.drop B).take B).length=B:=by rw[aat,aaM];omega
    have l3:(Y.drop (2*B)).length=Y.length-2*B:=aaM;rw[rR (by omega) (by omega),rR (l:=Y.drop B) (by omega) (by rw[aaM];omega),aca,show B+B=2*B from by omega,←aaG,←aaG]at hs;rw[rR (by omega) hle]at h1;have e1:dI kf (Y.take (2*B))=oH kf (dI kf (Y.take B)) (dI kf ((Y.drop B).take B)):=by rw[←qy,show 2*B=B+B from by omega,List.take_add]
    have m1:=gh (k:=kf) (Y.take B);have m2:=gh (k:=kf) ((Y.drop B).take B);have s1:=kU (k:=kf) (Y.take B);have s2:=kU (k:=kf) ((Y.drop B).take B);have m4:=Qh (k:=kf) (B:=B) (Y.drop (2*B));generalize dI kf (Y.take B)=XA at hs e1 m1 s1;generalize dI kf ((Y.drop B).take B)=XB at hs e1 m2 s2;refine cT (vI (X.length+XA.length:Nat)) (t:=40) rfl (congrArg (Value.int .i64) (by rw[wq];omega))<|cT (vI (X.length+XA.length+XB.length:Nat)) (t:=41) rfl (congrArg (Value.int .i64) (by omega))<|aN rfl rfl<|lu (Np tw) bJ rfl rfl rfl rfl rfl (yJ tw hm _ X XA XB _ rfl (by omega) (by omega) s1 s2 (by omega) (hk.mono aj) hs) ?_;clear hs;rintro g6 _ ag ⟨rfl,hs⟩;replace aj:=G.le.trans aj ag;refine bE<|aD rfl<|ah<|Wp 5 rfl<|an<|aX ?_;rw[←e1]at hs;have m3:=gh (k:=kf) (Y.take (2*B));have l4:(Y.take (2*B)).length=2*B:=by rw[aat];omega
    exact fun a ha=>⟨(Y.drop (2*B)).length,by omega,X++dI kf (Y.take (2*B)),Y.drop (2*B),g6,rfl,hs,aj,by rw[aaG];exact h1,by rw[aal];omega,rfl,ha.keep ⟨rfl,rfl,rfl,rfl,kI rfl (by rw[aal];omega),kI rfl (by rw[wq (n:=2*_),wq,aal];omega),trivial⟩⟩
   refine bg (b:=decide (((X.length+2*B:Nat):Int)≤((n:Nat):Int))) (by simp;omega) rfl<|aJ<|aM<|aM<|b_<|ai<|ak<|aD rfl<|aD rfl ?_;rw[uH (by omega)]at h1;by_cases HM:B<Y.length
   ·refine aG (b:=decide (IntKind.i64.wrap (((X.length:Nat):Int)+((B:Nat):Int))<((n:Nat):Int))) (by rw[wq];simp;omega) rfl<|ah<|Wp 5 rfl ?_;have l1:(Y.take B).length=B:=by rw[aat];omega
    have l2:(Y.drop B).length=Y.length-B:=aaM;rw[rR (by omega) (by omega),uH (l:=Y.drop B) (by omega),←aaG]at hs;have e1:dI kf Y=oH kf (dI kf (Y.take B)) (dI kf (Y.drop B)):=by rw[←qy,aaY]
    have m1:=gh (k:=kf) (Y.take B);have m2:=gh (k:=kf) (Y.drop B);have s1:=kU (k:=kf) (Y.take B);have s2:=kU (k:=kf) (Y.drop B);generalize dI kf (Y.take B)=XA at hs e1 m1 s1;generalize dI kf (Y.drop B)=XB at hs e1 m2 s2;refine cT (vI (X.length+XA.length:Nat)) (t:=57) rfl (congrArg (Value.int .i64) (by rw[wq];omega))<|cT (vI (X.length+XA.length+XB.length:Nat)) (t:=58) rfl (congrArg (Value.int .i64) (by omega))<|aN rfl rfl<|lu (Np tw) bJ rfl rfl rfl rfl rfl (yJ tw hm _ X XA XB [] rfl (by omega) (by omega) s1 s2 (by simp only[aay];omega) (hk.mono aj) (by rw[aaI];exact hs)) ?_;clear hs;rintro g6 _ ag ⟨rfl,hs⟩;replace aj:=G.le.trans aj ag;refine bE<|ah<|Wp 3 rfl<|an<|aX ?_;rw[←e1,aaI,h1]at hs;exact fun a ha=>⟨n-2*B,by omega,2*B,g6,rfl,hs,aj,by omega,by omega,rfl,ha.keep ⟨rfl,rfl,rfl,kW rfl,trivial⟩⟩
   refine bg (b:=decide (IntKind.i64.wrap (((X.length:Nat):Int)+((B:Nat):Int))<((n:Nat):Int))) (by rw[wq];simp;omega) rfl<|ar<|ai<|ah<|Wp 3 rfl<|an<|aX ?_;rw[Kl (by omega) (by omega),h1]at hs;exact fun a ha=>⟨n-2*B,by omega,2*B,g',rfl,hs,aj,by omega,by omega,rfl,ha.keep ⟨rfl,rfl,rfl,kW rfl,trivial⟩⟩
  refine bg (b:=decide (((B:Nat):Int)<((n:Nat):Int))) (by simp;omega) rfl<|aJ<|aM<|aM<|b_ ?_;rw[Kl (by omega) (by omega)]at hs;exact nd rfl (df.intro aj ⟨rfl,hs⟩)
theorem A1(tw:Bool){fo:Value}{kf:bc→Int×Int}{ad:Option Addr}{n c:Nat}{L:List dc}(Z:List bc){g0 g:G}(hn:Z.length=n)(hm:n≤1000000000)(hk:FB fo kf g)(hs:St g0 g (gG (ow tw) ad n c Z::L)):
  CallsIn Wd 0 prog (Sz tw) #[.slice ad n c,fo] g.w (df g fun g' r=>r= .tuple #[]∧St g0 g' (gG (ow tw) ad n c (dI kf Z)::L)):=by
 cases tw
 case' false=>let tw:=false
 case' true=>let tw:=true
 all_goals
  have aj:=G.le.refl g
  first|refine enter func77 rfl ntmps77 rfl ?_|refine enter func146 rfl ntmps146 rfl ?_
  refine ah<|Wp 4 rfl<|aN rfl rfl<|lu (VW tw) bJ rfl rfl rfl rfl rfl (Km tw Z hn hm hk hs) ?_;clear hs;rintro g6 _ ag ⟨rfl,hs⟩;replace aj:=G.le.trans aj ag;exact an<|nd rfl (df.intro aj ⟨rfl,hs⟩)
theorem Kn{fi:Nat}{kf:bc→Int×Int}{ad:Option Addr}{n c:Nat}{L:List dc}(Z:List bc){g0 g:G}(hn:Z.length=n)(hm:n≤1000000000)(hk:Kf (.func (.func fi) #[] #[]) kf g)(hs:St g0 g (gG 50 ad n c Z::L)):
  CallsIn Wd 0 prog 27 #[.slice ad n c,.func (.func fi) #[] #[]] g.w (df g fun g' r=>r= .tuple #[]∧St g0 g' (gG 50 ad n c (dI kf Z)::L)):=by
 have aj:=G.le.refl g;refine enter func27 rfl ntmps27 rfl<|cO<|gF hs rfl fun b1 g2 hs ag aq=>?_;replace aj:=G.le.trans aj ag;refine bE<|ah<|Wp 2 rfl<|aN rfl rfl<|lu (SA false) bJ rfl rfl rfl rfl rfl (A1 false Z hn hm (fun g' h x y=>dF (first:=#[]) (args:=[fv x,fv y]) (captured:=#[vP b1]) (cB 78) rfl (Kg x y g' (aq.mono h) (hk.mono (aj.trans h)))) hs) ?_;clear hs;rintro g6 _ ag ⟨rfl,hs⟩;replace aj:=G.le.trans aj ag;exact an<|nd rfl (df.intro aj ⟨rfl,hs⟩)
def yK{κ:Type}[DecidableEq κ][gA κ](g:G)(b:Nat)(m:List (κ×Value)):Prop:=g.im b∧g.w.heap[b]? =some (fy m)
theorem yK.mono{κ:Type}[DecidableEq κ][gA κ]{g g':G}{b:Nat}{m:List (κ×Value)}(h:yK g b m)(hle:g.le g'):yK g' b m:=⟨(hle b h.1).1,(hle b h.1).2.trans h.2⟩
theorem Ko{κ:Type}[DecidableEq κ][gA κ]{g0 g:G}{L:List dc}(hs:St g0 g L){i b:Nat}{m:List (κ×Value)}(hi:L[i]? =some (.obj b (fy m))): ∃g',g'.w=g.w∧St g0 g' (L.eraseIdx i)∧g.le g'∧yK g' b m:=
 ⟨g.fz _ fun b hb=>((hs.own i _ hi).lt b hb).2.1,rfl,hs.fz hi,G.uC _ _ _,.inr rfl,(hs.own i _ hi).2.1⟩
def yL(b:Nat)(sl:Nat→Value):dc:=vO b ((List.range 11).map sl) 35
def B8(sl:Nat→Value)(xs:Nat→List bc):List dc:=(List.range 11).map fun i=> .row 50 19 (sl i) (xs i).length (fl (xs i))
def CV{α:Type}(f:Nat→α)(i:Nat)(x:α):Nat→α:=fun j=>if j=i then x else f j
theorem Nu(sl:Nat→Value)(xs:Nat→List bc):(B8 sl xs).length=11:=by simp[B8]
theorem B9{sl:Nat→Value}{xs:Nat→List bc}{i:Nat}(hi:i<11):(B8 sl xs)[i]? =some (.row 50 19 (sl i) (xs i).length (fl (xs i))):=by unfold B8;rw[abd,acT hi];rfl
theorem GR{sl:Nat→Value}{xs:Nat→List bc}{i:Nat}(v:Value)(ys:List bc):(B8 sl xs).set i (.row 50 19 v ys.length (fl ys))=B8 (CV sl i v) (CV xs i ys):=by
 refine abL fun j=>?_;unfold B8 CV;rw[abG,abd,abd,aaS];by_cases h:i=j
 ·subst h;rcases abc i 11 with hj|hj
  ·simp[hj]
  simp[hj]
 rw[if_neg h];rcases abc j 11 with hj|hj
 ·rw[acT hj];simp only[abn];rw[if_neg fun e=>h e.symm];rw[if_neg fun e=>h e.symm]
 rw[abx (by simpa using hj)];rfl
theorem Nv{sl:Nat→Value}{i:Nat}(hi:i<11)(v:Value):nY ((List.range 11).map sl) i [v]=(List.range 11).map (CV sl i v):=by
 have h:((List.range 11).map sl).set i v=(List.range 11).map (CV sl i v):=by
  refine abL fun j=>?_;unfold CV;rw[abG,abd,abd,aaS,acN];by_cases h:i=j
  ·subst h;simp[hi]
  rw[if_neg h];rcases abc j 11 with hj|hj
  ·rw[acT hj];simp only[abn];rw[if_neg fun e=>h e.symm]
  rw[abx (by simpa using hj)];rfl
 rw[←h];unfold nY;rw[ace,if_pos (by simpa using hi)];simp
def gJ(g:G)(v:Value)(b:ft):Prop:=∃sl:Nat→Value,v= .agg ((List.range 11).map sl).toArray∧ ∀i,i<11→Rs g (sl i) (b.ls i)
theorem gJ.mono{g g':G}{v:Value}{b:ft}(h:gJ g v b)(hle:g.le g'):gJ g' v b:=by obtain⟨sl,e,h⟩:=h;exact⟨sl,e,fun i hi=>(h i hi).mono hle⟩
instance{g g':G}{v:Value}{b:ft}:Mn (gJ g v b) g g' (gJ g' v b):=⟨fun h a=>a.mono h⟩
theorem cR.fl(g:G): ∀xs:List bc,cR g (Go.K.fl xs) xs
 |[]=>rfl
 |x::xs=>⟨bK x,Go.K.fl xs,xO x xs,rfl,cR.fl g xs⟩
theorem Kp{sl:Nat→Value}{i:Nat}(hi:i<11):Ad T 24 ((List.range 11).map sl) i=some (sl i):=by show((List.range 11).map sl)[i]? =_;rw[abd,acT hi];rfl
theorem nE: ∀(n:Nat) (js:List Nat),js.Nodup→(∀j∈js,j<n)→js.length≤n
 |0,[],_,_=>aaz _
 |0,j::_,_,h=>absurd (h j (aaT ..)) (by omega)
 |n+1,js,hn,h=>by
  have ih:=nE n (js.erase n) (hn.erase n) (fun j hj=>by
   have h1:=h j (List.mem_of_mem_erase hj);have h2:j≠n:=fun e=>by subst e;exact(List.Nodup.not_mem_erase hn) hj
   omega)
  have:=List.length_erase (a:=n) (l:=js);split at this<;>omega
theorem A2{α:Type}: ∀{l:List α} {i:Nat} (x:α),i<l.length→(x::l.eraseIdx i).Perm (l.set i x)
 |[],_,_,h=>absurd h (aco _)
 |y::l,0,x,_=>List.Perm.refl _
 |y::l,i+1,x,h=>(List.Perm.swap _ _ _).trans ((A2 x (by simpa using h)).cons y)
theorem Kq{g0:G}{sl:Nat→Value}{xs:Nat→List bc}: ∀(is:List Nat) {g:G} {R:List dc},St g0 g ((is.map fun i=> .row 50 19 (sl i) (xs i).length (fl (xs i)))++R)→ ∃g',g'.w=g.w∧St g0 g' R∧g.le g'∧ ∀i∈is,Rs g' (sl i) (xs i)
 |[],g,R,hs=>⟨g,rfl,hs,G.le.refl g,by simp⟩
 |i::is,g,R,hs=>by
  obtain⟨g1,e1,h1,h2,h3⟩:=hs.cD (α:=bc) (i:=0) rfl (cR.fl g (xs i));obtain⟨g2,e2,k1,k2,k3⟩:=Kq is (g:=g1) h1;refine⟨g2,e2.trans e1,k1,h2.trans k2,fun j hj=>?_⟩;rcases aav.1 hj with rfl|hj
  ·exact h3.mono k2
  exact k3 j hj
theorem Kr{M:KF}{js:List Nat}{j:Nat}{p:List UInt8×bc}(hp:M[j]? =some p)(i:Nat):jg (vr M (js++[j])) i=jg (vr M js) i++(if !p.2.gone&&decide (p.2.kind=(i:Int)+1)then [p.2]else []):=by rw[yb hp,Jl];congr 1;unfold jg;rw[abU];split<;>rfl
theorem H2{j:Nat}{q:Int×Value}(h:nD[j]? =some q):j<11∧q=((j:Int)+1,uG j):=by
 have aV:j<11:=by have:=(aaN.1 h).1;exact this
 rcases nC aV with rfl|rfl|rfl|rfl|rfl|rfl|rfl|rfl|rfl|rfl|rfl<;>exact⟨aV,(aax h).symm⟩
def O6(g0:G)(A:List dc)(sl:Nat→Value)(xs:Nat→List bc)(i:Nat)(f:bc)(ρ:Nat→Option Value)(g:G):Prop:=
 match ρ 6 with
 |none=>St g0 g (A++B8 sl xs)
 |some v=>(∃a c,v= .slice a ((xs i).length+1) c)∧St g0 g (A++B8 (CV sl i v) (CV xs i (xs i++[f])))
theorem Ks{g0:G}{A:List dc}{sl:Nat→Value}{xs:Nat→List bc}{i:Nat}{f:bc}(ρ:Nat→Option Value)(g g':G)(hf:bW g g')(h:O6 g0 A sl xs i f ρ g):O6 g0 A sl xs i f ρ g':=by
 unfold O6 at h⊢;split at h
 ·exact h.call hf
 exact⟨h.1,h.2.call hf⟩
theorem Kt{f:bc}(h:gE f≠[]):1≤f.kind∧f.kind≤11:=by
 have v1:gD f=true:=by cases e:gD f with|true=>rfl|false=>exact absurd (by unfold gE;rw[e];rfl) h
 obtain⟨s,hs,_⟩:=nS v1;obtain⟨_,_,_,_,_,_,h1,h2⟩:=qx hs;exact⟨h1,h2⟩
theorem SD{sl:Nat→Value}(h: ∀i,i<11→(sl i).oneCell'=true):((((List.range 11).map sl).drop 0).take 11).all Value.oneCell'=true:=by rw[aa2];intro v hv;obtain⟨i,hi,rfl⟩:=aaU.1 (List.mem_of_mem_drop (abX hv));exact h i (aa9.1 hi)
theorem VD(v:Value)(l:List bc)(day:Int)(g:G)(aA:Rs g v l)(hl:l.length≤1000000):cN prog 7 #[v,vI day] g fun g' r=>gJ g' r (ofM l day):=by
 have hs:=St.start g;have aj:=G.le.refl g;obtain⟨a,c,rfl⟩:=aA.isSlice;have hT:vM (List UInt8) prog 58 _:=Fq T.ok rfl rfl rfl rfl rfl;have hK:vM Int prog 62 _:=Fq T.ok rfl rfl rfl rfl rfl;refine enter func7 rfl ntmps7 rfl<|cO<|fA hs rfl fun b4 g1 hs ag=>?_;obtain⟨aj,aA⟩:=cA ag aj aA;refine bE<|cO<|aN rfl rfl<|mz (κ:=List UInt8) rfl hs fun bm g1 hs ag=>?_;obtain⟨aj,aA⟩:=cA ag aj aA;refine aF rfl<|ak<|aD rfl<|aw ?_
 refine aZ (fun m a' w=> ∃(i:Nat) (g':G),w=g'.w∧St g g' [.obj bm (fy (cP (mu day (l.take i)))),yL b4 fun _=> .slice none 0 0]∧G.le g g'∧Rs g' (.slice a l.length c) l∧i≤l.length∧m=l.length-i∧
   Fr 91 [] [(1,vI day),(4,vP b4),(5,.map (some bm)),(19,.slice a l.length c),(20,vI (l.length:Nat)),(21,vI (i:Nat))] a') l.length
  (fun a' ha=>⟨0,g1,rfl,hs,aj,aA,aar _,rfl,ha.kp rfl⟩) ?_
 clear hs aA aj;rintro m a' _ ⟨i,g',rfl,hs,aj,aA,hi,rfl,dT⟩;revert a';refine bT<|aD rfl<|ak ?_;by_cases aV:i<l.length
 ·refine aG (b:=decide ((i:Int)<(l.length:Int))) (decide_eq_true (by omega)) rfl ?_;have eI:dq l (i:Int)=some l[i]:=bM rfl aV;have ed:l.take (i+1)=l.take i++[l[i]]:=by rw[aaV,aas aV];rfl
  generalize l[i]=x at*;have lH:mu day (l.take (i+1))=kj day (mu day (l.take i)) x:=by rw[ed,Jj]
  generalize mu day (l.take i)=M at hs lH;refine ar<|ai<|ak<|aw<|cO<|fP (y:=x) aA eI rfl fun b p ys aK fw=>?_;obtain rfl:ys=bK x:=fw;have aq:=aK;clear aK;refine dE 1 [.e aq 0] rfl<|fA hs rfl fun b7 g1 hs ag=>?_;obtain⟨aj,aA⟩:=cA ag aj aA;refine om 0 hs rfl fun g2 hs ag aB=>?_;obtain⟨aj,aA⟩:=cA ag aj aA;clear aq;refine bE<|eO 1 [.z aB] rfl<|jN rfl (J9 x _) hs fun g1 hs ag=>?_;obtain⟨aj,aB,aA⟩:=eS ag aj aB aA;refine aF rfl<|ak<|ck 3 rfl ?_;by_cases hk:gE x=[]
  ·refine cT (.bool true) (t:=29) rfl (congrArg Value.bool (by show((bs (gE x)).toList==(bs []).toList)=true;rw[cH,cH,hk];rfl))<|aF rfl<|bZ rfl<|aJ<|aM<|b_<|ai<|ah<|Wp 2 rfl<|an ?_;have e:kj day M x=M:=by unfold kj;rw[if_pos (.inl hk)]
   rw[e]at lH;exact fun a ha=>⟨l.length-(i+1),by omega,i+1,_,rfl,by rw[lH];exact hs,aj,aA,by omega,rfl,ha.keep ⟨rfl,rfl,rfl,rfl,rfl,kW rfl,trivial⟩⟩
  refine cT (.bool false) (t:=29) rfl (congrArg Value.bool (by show((bs (gE x)).toList==(bs []).toList)=false;rw[cH,cH];simp[hk]))<|BS [.z aB] rfl ?_;by_cases hd:day<x.day
  ·refine aG (b:=decide (day<x.day)) (decide_eq_true hd) rfl<|aJ<|aM<|b_<|ai<|ah<|Wp 2 rfl<|an ?_;have e:kj day M x=M:=by unfold kj;rw[if_pos (.inr hd)]
   rw[e]at lH;exact fun a ha=>⟨l.length-(i+1),by omega,i+1,_,rfl,by rw[lH];exact hs,aj,aA,by omega,rfl,ha.keep ⟨rfl,rfl,rfl,rfl,rfl,kW rfl,trivial⟩⟩
  refine bg (b:=decide (day<x.day)) (decide_eq_false hd) rfl<|ar<|ai<|ck 2 rfl<|aN rfl rfl<|pC hT rfl (hs.own 0 _ rfl).2.1 rfl (a:=gE x) rfl ?_;have hg:=Gu (gE x) M
  have hb:kj day M x=if(match E8 (gE x) M with|none=>true|some o=>sL x o)=true then qi (gE x) x M else M:=by unfold kj;exact if_neg (by simp[hk,hd])
  cases AG:E8 (gE x) M with
  |none=>
   rw[AG]at hg hb;refine cT (.tuple #[fv fS,.bool false]) (t:=38) rfl (by rw[hg];rfl)<|Wp 3 rfl<|fA hs rfl fun b9 g1 hs ag=>?_;obtain⟨aj,aB,aA⟩:=eS ag aj aB aA;refine om 0 hs rfl fun g2 hs ag cF=>?_;obtain⟨aj,aB,aA⟩:=eS ag aj aB aA;refine aF rfl<|aD rfl<|bZ rfl<|ah<|dE 3 [.z aB] rfl<|gw rfl<|eg hT 0 (.inl rfl) hs rfl rfl (a:=gE x) rfl rfl fun g6 hs ag=>?_;obtain⟨aj,aB,cF,aA⟩:=dU ag aj aB cF aA;replace hs:St g g6 [.obj bm (fy (kX (gE x) (fv x) (cP M))),yL b4 fun _=> .slice none 0 0]:=hs;rw[BN]at hs;refine an<|aX<|ai<|ah<|Wp 2 rfl<|an ?_;rw[hb,if_pos rfl]at lH;exact fun a ha=>⟨l.length-(i+1),by omega,i+1,_,rfl,by rw[lH];exact hs,aj,aA,by omega,rfl,ha.keep ⟨rfl,rfl,rfl,rfl,rfl,kW rfl,trivial⟩⟩
  |some o=>
   rw[AG]at hg hb;refine cT (.tuple #[fv o,.bool true]) (t:=38) rfl (by rw[hg];rfl)<|Wp 3 rfl<|fA hs rfl fun b9 g1 hs ag=>?_;obtain⟨aj,aB,aA⟩:=eS ag aj aB aA;refine om 0 hs rfl fun g2 hs ag cF=>?_;obtain⟨aj,aB,aA⟩:=eS ag aj aB aA;refine aF rfl<|eO 5 [.z aB,.z cF] rfl<|jN rfl (FA x o _) hs fun g1 hs ag=>?_;obtain⟨aj,aB,aA⟩:=eS ag aj aB aA;refine aF rfl ?_;cases hp:sL x o with
   |true=>
    refine bZ rfl<|ah<|dE 3 [.z aB] rfl<|gw rfl<|eg hT 0 (.inl rfl) hs rfl rfl (a:=gE x) rfl rfl fun g6 hs ag=>?_;obtain⟨aj,aB,aA⟩:=eS ag aj aB aA;replace hs:St g g6 [.obj bm (fy (kX (gE x) (fv x) (cP M))),yL b4 fun _=> .slice none 0 0]:=hs;rw[BN]at hs;refine an<|aX<|ai<|ah<|Wp 2 rfl<|an ?_;rw[hb,if_pos hp]at lH;exact fun a ha=>⟨l.length-(i+1),by omega,i+1,_,rfl,by rw[lH];exact hs,aj,aA,by omega,rfl,ha.keep ⟨rfl,rfl,rfl,rfl,rfl,kW rfl,trivial⟩⟩
   |false=>
    refine bI rfl<|ar<|aX<|ai<|ah<|Wp 2 rfl<|an ?_;rw[hb,if_neg (by simp[hp])]at lH;exact fun a ha=>⟨l.length-(i+1),by omega,i+1,_,rfl,by rw[lH];exact hs,aj,aA,by omega,rfl,ha.keep ⟨rfl,rfl,rfl,rfl,rfl,kW rfl,trivial⟩⟩
 refine bg (b:=decide ((i:Int)<(l.length:Int))) (decide_eq_false (by omega)) rfl ?_;rw[aaD (by omega)]at hs;have hM:=Gv day l;have Yy:=CZ day l;have Yz:ofM l day=⟨fun i=>dI (oh i) (jg (mu day l) i)⟩:=rfl;rw[Yz];generalize mu day l=M at hs hM Yy;clear Yz hi aV aA;refine aJ<|aM<|aM<|b_<|ai<|cO ?_;obtain⟨g2,fm,dm,ag,nO⟩:=Ko hs (i:=0) rfl;rw[←fm];replace hs:=dm;clear dm;replace aj:=G.le.trans aj ag;clear fm ag;refine fA hs rfl fun zX g1 hs ag=>?_;replace aj:=G.le.trans aj ag;replace nO:=nO.mono ag;refine bE<|cO<|d_ rfl (No _) ?_;rintro g5 _ sQ ⟨bk,rfl,JG,JR⟩;have pD:yK g5 bk nD:=⟨JG,JR⟩;clear JG JR;replace hs:=hs.call sQ;have ag:=sQ.le;replace aj:=G.le.trans aj ag;replace nO:=nO.mono ag;clear sQ;refine aF rfl<|ak<|ck 1 rfl<|aN rfl rfl<|vQ hT rfl nO.2 rfl hs fun r1 g6 hs ag=>?_;replace aj:=G.le.trans aj ag;replace nO:=nO.mono ag;replace pD:=pD.mono ag
 iterate 11 replace hs:=hs.eM 50 19 none
 replace hs:St g g6 (B8 (fun _=> .slice none 0 0) (fun _=>[])++[.obj r1 (B_ bm (cP M).length #[]),yL zX fun _=> .slice none 0 0,yL b4 fun _=> .slice none 0 0]):=hs;replace hs:=hs.perm acO;refine bE<|aw ?_
 refine aZ (fun m a' w=> ∃(seen:Array Nat) (sl:Nat→Value) (g':G),w=g'.w∧St g g' ([.obj r1 (B_ bm (cP M).length seen),yL zX sl,yL b4 fun _=> .slice none 0 0]++B8 sl fun i=>jg (vr M seen.toList) i)∧G.le g g'∧yK g' bm (cP M)∧yK g' bk nD∧seen.toList.Nodup∧(∀j∈seen.toList,j<M.length)∧m=M.length-seen.toList.length∧
   Fr 91 [] [(4,vP b4),(11,vP zX),(12,.map (some bk)),(54,vP r1)] a') M.length
  (fun a' ha=>⟨#[],fun _=> .slice none 0 0,g6,rfl,hs,aj,nO,pD,by simp,by simp,rfl,ha.kp rfl⟩) ?_
 clear hs aj nO pD;rintro m a' _ ⟨seen,sl,g',rfl,hs,aj,nO,pD,z8,aV,rfl,dT⟩;have oJ:=nE _ _ z8 aV;revert a';refine bT<|cO<|aN rfl rfl (yM 0 rfl hs rfl nO.2 rfl (fun dW=>?_) (fun j q g6 hq hj O7 ag=>?_))
 rotate_left
 ·obtain⟨p,hp,rfl⟩:=PI hq;have UK:j<M.length:=(aaN.1 hp).1;have Ca:(seen.toList++[j]).Nodup:=acp.2 ⟨z8,by simp,by intro a ha b hb;rw[aaL.1 hb];rintro rfl;exact hj (by simpa using ha)⟩;have uI: ∀k∈seen.toList++[j],k<M.length:=by intro k hk;rcases aaJ.1 hk with hk|hk;exact aV k hk;rw[aaL.1 hk];exact UK
  have H3:=nE _ _ Ca uI;rw[aal,aaF]at H3;have lG: ∀i,jg (vr M (seen.push j).toList) i=jg (vr M seen.toList) i++(if !p.2.gone&&decide (p.2.kind=(i:Int)+1)then [p.2]else []):=fun i=>by rw[abC];exact Kr hp i
  have xt:=BP M seen.toList;clear hs;replace hs:=O7;clear O7;replace aj:=G.le.trans aj ag;replace nO:=nO.mono ag;replace pD:=pD.mono ag;replace hs:St g g6 ([.obj r1 (B_ bm (cP M).length (seen.push j)),yL zX sl,yL b4 fun _=> .slice none 0 0]++B8 sl fun i=>jg (vr M seen.toList) i):=hs;refine aF rfl<|ak<|bZ rfl<|ar<|ai<|aw<|cO<|aN rfl rfl<|vR 0 rfl hs rfl nO.2 rfl hq<|Wp 1 rfl<|fA hs rfl fun PH g1 hs ag=>?_;replace aj:=G.le.trans aj ag;replace nO:=nO.mono ag;replace pD:=pD.mono ag;refine om 0 hs rfl fun g2 hs ag aB=>?_;replace aj:=G.le.trans aj ag;replace nO:=nO.mono ag;replace pD:=pD.mono ag;refine bE<|pW [.z aB] rfl ?_;have RG:=hM.2 p (abm hp);rw[RG.1]at RG;obtain⟨JG,JR⟩:=Kt RG.2;clear RG;generalize p.2=f at*;cases Qi:f.gone with
  |true=>
   refine bI rfl<|ar<|aX ?_;have e:(fun i=>jg (vr M seen.toList) i)=fun i=>jg (vr M (seen.push j).toList) i:=by funext i;rw[lG,Qi];simp
   rw[e]at hs;exact fun a ha=>⟨M.length-(seen.push j).toList.length,by rw[abC,aal,aaF];omega,seen.push j,sl,_,rfl,hs,aj,nO,pD,by rw[abC];exact Ca,by rw[abC];exact uI,rfl,ha.kp rfl⟩
  |false=>
   refine bZ rfl ?_;obtain⟨i,UG⟩: ∃i:Nat,f.kind=(i:Int)+1:=⟨(f.kind-1).toNat,by omega⟩;have hi:i<11:=by omega
   have YA:=HY JG JR;rw[show(f.kind-1).toNat=i from by omega]at YA;obtain⟨xs,Qg⟩: ∃xs,xs=fun i=>jg (vr M seen.toList) i:=⟨_,rfl⟩
   have V1: ∀i,jg (vr M seen.toList) i=xs i:=fun i=>by rw[Qg]
   rw[←Qg]at hs;have e:CV xs i (xs i++[f])=fun i=>jg (vr M (seen.push j).toList) i:=by
    funext k;unfold CV;rw[lG,Qi,UG,V1];by_cases J_:k=i
    ·subst J_;simp
    rw[if_neg J_,if_neg (by simp;omega),aaI]
   have Fi:(xs i).length≤1000000:=by have:=yc (vr M seen.toList) i;rw[V1]at this;omega
   clear lG xt hp V1 Qg;refine eO 3 [.z aB] rfl<|aN rfl rfl<|pC hK rfl pD.2 rfl (a:=f.kind) rfl<|cT (uG i) (t:=65) rfl (by rw[YA];rfl)<|Wp 1 rfl<|aN rfl rfl<|bu (Kc (nC hi)) bJ rfl rfl rfl rfl rfl (O4 (nC hi) zX _) ?_;rintro g7 _ Af rfl;replace hs:=hs.call Af;have ag:=Af.le;obtain⟨aj,aB⟩:=cA ag aj aB;replace nO:=nO.mono ag;replace pD:=pD.mono ag;refine aF rfl ?_;have hL:=hs.own (i+3) _ (B9 hi);obtain⟨sa,sc,ee⟩:=hL.1.form;clear hL;apply oU (eA (fe (.e (.slice sa (xs i).length sc)::fe (.f (Fact.rs [f]):: .f Fact.any::[])))) 7 [(0,68),(6,74)] [6] [[3]] (O6 g [.obj r1 (B_ bm (cP M).length (seen.push j)),yL zX sl,yL b4 fun _=> .slice none 0 0] sl xs i f) Ks (by unfold O6;exact hs.dr) (by kernel_rfl) ⟨cw _,dw,trivial⟩
   ·refine Um [[],[],[1]] [] (by kernel_rfl) rfl<|bA (cW (js:=[(2,70)]) (by kernel_rfl) rfl fun ρ g8 h1 _ hle hJ=>c_ rfl (bh (ay rfl ?_))) ?_
    ·unfold O6 at hJ;rw[h1 0 [3] 6 rfl rfl (by simp)]at hJ;exact cJ T.ok 1 rfl hJ rfl rfl ((Kp hi).trans (by rw[ee])) ⟨g8,rfl,bW.refl _,rfl⟩
    refine Um [[]] [.z aB] (by kernel_rfl) rfl<|bA (cW (js:=[(4,72)]) (by kernel_rfl) rfl fun ρ g8 _ _ hle hJ=>c_ rfl (bh (ay rfl (iD T.ok rfl (St.start g8) (vs:=[(0,fv f)]) (cells:=bK f) rfl rfl rfl rfl rfl rfl (by decide) (by decide) (by kernel_rfl) rfl fun b g' kP _=>?_)))) ?_
    ·obtain⟨g2,e1,e2,e3⟩:=nz (α:=bc) kP (xs:=[f]) ⟨bK f,[],(aaI _).symm,rfl,rfl⟩;exact⟨g2,e1,e2,e3⟩
    refine bA (jW (js:=[(3,71),(5,73)]) (by kernel_rfl) rfl fun ρ g8 h1 _ h3 hle hJ=>c_ rfl (db fun v5 h5=>bh ⟨rfl,?_⟩)) ?_
    ·unfold O6 at hJ;rw[h3]at hJ;replace h5:Rs g8 v5 [f]:=h5;obtain⟨a5,c5,rfl⟩:=h5.isSlice;obtain⟨_,news,hn,iO⟩:=Src.jh h5;obtain⟨c1,c2,rfl,rfl,rfl⟩:=hn;rw[aaI]at iO;refine ba T.ok (i+3) rfl hJ (B9 hi) (by rw[ee];rfl) rfl rfl rfl rfl rfl (by decide) rfl iO (El.one (α:=bc) (g:=g8) (x:=f) rfl) (by show((xs i).length+1)*160≤_;omega) (by show(xs i).length+1≤maxLen;unfold maxLen;omega) fun a' c' g9 MF Ku=>⟨g9,rfl,⟨Ku,?_⟩,trivial⟩
     refine(show(∃a c,Value.slice a' ((xs i).length+1) c'= .slice a ((xs i).length+1) c)∧St g g9 (_++B8 (CV sl i (.slice a' ((xs i).length+1) c')) (CV xs i (xs i++[f])))from⟨⟨a',c',rfl⟩,?_⟩);rw[←GR,aal,aaF,jM];have e5:fl [f]=bK f:=aaI _;rw[e5];exact MF
    exact AT
   intro ρ g9 hle hJ dW;refine c_ rfl (gT rfl fun v6 _ r6=>bh ?_);unfold O6 at hJ;rw[r6]at hJ;obtain⟨⟨a6,c6,rfl⟩,hs⟩:=hJ;have ag:=(G.a_ _).trans hle;obtain⟨aj,aB⟩:=cA ag aj aB;replace nO:=nO.mono ag;replace pD:=pD.mono ag;clear hle dW r6 ρ;refine Wp 1 rfl<|gw rfl<|eT T.ok 1 rfl hs rfl rfl rfl rfl rfl rfl rfl (acv (by show i+1≤11;omega)) (Nv hi _) fun g10 hs ag=>?_;obtain⟨aj,aB⟩:=cA ag aj aB;replace nO:=nO.mono ag;replace pD:=pD.mono ag;replace hs:St g g10 ([.obj r1 (B_ bm (cP M).length (seen.push j)),yL zX (CV sl i (.slice a6 ((xs i).length+1) c6)),yL b4 fun _=> .slice none 0 0]++B8 (CV sl i (.slice a6 ((xs i).length+1) c6)) (CV xs i (xs i++[f]))):=hs;rw[e]at hs;exact an<|aX<|fun a ha=>⟨M.length-(seen.push j).toList.length,by rw[abC,aal,aaF];omega,seen.push j,_,_,rfl,hs,aj,nO,pD,by rw[abC];exact Ca,by rw[abC];exact uI,rfl,ha.kp rfl⟩
 have ud:(vr M seen.toList).Perm M:=Gw z8 aV fun j hj=>by simpa using dW j (by rw[MS];exact hj)
 have nL: ∀i,(jg (vr M seen.toList) i).length≤1000000:=fun i=>by have:=yc (vr M seen.toList) i;have:=BP M seen.toList;omega
 have dj: ∀i,dI (oh i) (jg M i)=dI (oh i) (jg (vr M seen.toList) i):=fun i=>(E9 hM (HF ud i)).symm;simp only[dj];clear ud dj z8 aV oJ dW nO;refine aF rfl<|ak<|bI rfl<|aJ<|aM<|aM<|b_<|ai<|ak<|ck 1 rfl<|aN rfl rfl<|vQ hK rfl pD.2 rfl hs fun r2 g6 hs ag=>?_;replace aj:=G.le.trans aj ag;replace pD:=pD.mono ag;replace hs:St g g6 ([.obj r2 (B_ bk nD.length #[]),yL zX sl,yL b4 fun _=> .slice none 0 0]++B8 sl fun i=>jg (vr M seen.toList) i):=hs.drop 1;generalize jg (vr M seen.toList)=xs at hs nL;clear hM Yy hK;refine bE<|aw ?_
 refine aZ (fun m a' w=> ∃(seen:Array Nat) (ys:Nat→List bc) (g':G),w=g'.w∧St g g' ([.obj r2 (B_ bk nD.length seen),yL zX sl,yL b4 fun _=> .slice none 0 0]++B8 sl ys)∧G.le g g'∧yK g' bk nD∧seen.toList.Nodup∧(∀j∈seen.toList,j<11)∧(∀i,ys i=if i∈seen.toList then dI (oh i) (xs i)else xs i)∧m=11-seen.toList.length∧
   Fr 91 [] [(4,vP b4),(11,vP zX),(77,vP r2)] a') 11
  (fun a' ha=>⟨#[],xs,g6,rfl,hs,aj,pD,by simp,by simp,by simp,rfl,ha.kp rfl⟩) ?_
 clear hs aj pD;rintro m a' _ ⟨seen,ys,g',rfl,hs,aj,pD,z8,aV,O8,rfl,dT⟩;have oJ:=nE _ _ z8 aV;revert a';refine bT<|cO<|aN rfl rfl (yM 0 rfl hs rfl pD.2 rfl (fun dW=>?_) (fun j q g6 hq hj O7 ag=>?_))
 rotate_left
 ·obtain⟨Du,rfl⟩:=H2 hq;have Cb:j∉seen.toList:=by simpa using hj
  have Ca:(seen.toList++[j]).Nodup:=acp.2 ⟨z8,by simp,by intro a ha b hb;rw[aaL.1 hb];rintro rfl;exact Cb ha⟩;have uI: ∀k∈seen.toList++[j],k<11:=by intro k hk;rcases aaJ.1 hk with hk|hk;exact aV k hk;rw[aaL.1 hk];exact Du
  have H3:=nE _ _ Ca uI;rw[aal,aaF]at H3;clear hs;replace hs:=O7;clear O7;replace aj:=G.le.trans aj ag;replace pD:=pD.mono ag;replace hs:St g g6 ([.obj r2 (B_ bk nD.length (seen.push j)),yL zX sl,yL b4 fun _=> .slice none 0 0]++B8 sl ys):=hs;refine aF rfl<|ak<|bZ rfl<|ar<|ai<|aw<|cO<|aN rfl rfl<|vR 0 rfl hs rfl pD.2 rfl hq<|Wp 1 rfl<|fA hs rfl fun Zw g1 hs ag=>?_;replace aj:=G.le.trans aj ag;replace pD:=pD.mono ag;refine om 0 hs rfl fun g2 hs ag aB=>?_;replace aj:=G.le.trans aj ag;replace pD:=pD.mono ag;apply bE;replace hs:St g _ ([.obj r2 (B_ bk nD.length (seen.push j)),yL zX sl,yL b4 fun _=> .slice none 0 0]++B8 sl ys):=hs;have hL:=hs.own (j+3) _ (B9 Du);obtain⟨sa,sc,ee⟩:=hL.1.form;clear hL;apply aO hs (gR (.e (.slice sa (ys j).length sc)::eA [])) 7 [(4,86),(6,88)] (by kernel_rfl) rfl
  ·exact cY [[],[0],[1],[2]] [.z aB,.c (Kc (nC Du)) fun g _=>O4 (nC Du) zX g] hs rfl<|aW [(3,85)] (fun gd hf=>cj rfl (ay rfl (cJ T.ok 1 rfl (hs.dr.call hf) rfl rfl ((Kp Du).trans (by rw[ee])) (cC rfl))))<|mX [[],[5]] [.z aB] hs rfl
  clear hs;intro g8 hs ag;replace aj:=G.le.trans aj ag;replace pD:=pD.mono ag;have dm:=hs.front (i:=j+3) (B9 Du);rw[ee]at dm;refine nb rfl (Kn (fi:=wI j) (kf:=oh j) (ys j) rfl (by have:=nL j;rw[O8];split;rw[gh];all_goals omega) (fun g' _ f=>dF (first:=#[]) (args:=[fv f]) (captured:=#[]) (Qd (nC Du)) rfl (Sq (nC Du) f g')) dm) ?_;clear hs dm;rintro g9 _ ag ⟨rfl,hs⟩;replace aj:=G.le.trans aj ag;replace pD:=pD.mono ag;have e6:gG 50 sa (ys j).length sc (dI (oh j) (ys j))= .row 50 19 (sl j) (dI (oh j) (ys j)).length (fl (dI (oh j) (ys j))):=by rw[gh,ee]
  rw[e6]at hs;replace hs:=hs.perm (A2 _ (by rw[aal,Nu];show j+3<3+11;omega));replace hs:St g g9 ([.obj r2 (B_ bk nD.length (seen.push j)),yL zX sl,yL b4 fun _=> .slice none 0 0]++(B8 sl ys).set j (.row 50 19 (sl j) (dI (oh j) (ys j)).length (fl (dI (oh j) (ys j))))):=hs;rw[GR,show CV sl j (sl j)=sl from by funext i;unfold CV;split<;>simp[*]]at hs;refine an<|aX<|fun a ha=>⟨11-(seen.push j).toList.length,by rw[abC,aal,aaF];omega,seen.push j,_,_,rfl,hs,aj,pD,by rw[abC];exact Ca,by rw[abC];exact uI,fun i=>?_,rfl,ha.kp rfl⟩
  unfold CV;rw[abC];by_cases I8:i=j
  ·subst I8;rw[if_pos rfl,if_pos (by simp),O8,if_neg Cb]
  rw[if_neg I8,O8];simp[I8]
 have hyx: ∀i,i<11→ys i=dI (oh i) (xs i):=fun i hi=>by rw[O8,if_pos (by simpa using dW i hi)]
 replace hs:=hs.perm acO;obtain⟨g7,Fe,EM,ag,uh⟩:=Kq (List.range 11) hs;rw[←Fe];clear hs;replace hs:=EM;clear EM;clear Fe;have h1: ∀i,i<11→(sl i).oneCell'=true:=fun i hi=>by obtain⟨a,c,e⟩:=(uh i (aa9.2 hi)).isSlice;rw[e];rfl
 refine aF rfl<|ak<|bI rfl<|aJ<|aM<|aM<|b_<|ai<|jd 1 [.o 1] hs rfl<|gw rfl<|eT T.ok 2 rfl hs rfl rfl rfl rfl rfl rfl (SD h1) rfl rfl fun g8 hs ag=>bE<|au (my T.ok 2 rfl hs rfl rfl rfl (hs.ret ⟨sl,rfl,fun i hi=>?_⟩));have:=(uh i (aa9.2 hi)).mono ag;rw[hyx i hi]at this;exact this
end Go.Proofs.YtkpojaffabjibaaGreatDoor
namespace Go.K
open Go Go.RowKit
variable {P:Program} {N:Nat} {l:Env} {g0 g:G} {L:List dc} {R:Ending→World→Prop}
theorem nV{fn:Func}{tb:Tb}(dS:tb.ok P)(i:Nat){t T b u:Nat}{cs:List Value}{E:TypeId}{fz:Nat×Nat}{v x:Value}(hr:fn.results=#[.cell t T,.tmp u])(hs:St g0 g L)(hi:L[i]? =some (.obj b (.cells cs.toArray E fz)))
  (hl:lk l t=some (vP b)) (hv:Ad tb T cs 0=some v) (hu:lk l u=some x) (hR:R (.returned (.tuple #[v,x])) g.w) (a:Act) (ha:Fr N [] l a):bodyPost P fn R .ret a g.w:=by
 refine⟨ha.defers,_,?_,hR⟩;have:=jo (P:=P) (w:=g.w) (off:=0) (o:=0) dS hv (lZ (hs.own i _ hi).2.1);simp only[abj]at this;simp[results,hr,ha.get t _ hl,asAddr,this,ha.get u _ hu]
theorem S3{fn:Func}{tb:Tb}(dS:tb.ok P)(i:Nat){t T b u:Nat}{cs:List Value}{E:TypeId}{fz:Nat×Nat}{v x:Value}(hr:fn.results=#[.tmp u,.cell t T])(hs:St g0 g L)(hi:L[i]? =some (.obj b (.cells cs.toArray E fz)))
  (hl:lk l t=some (vP b)) (hv:Ad tb T cs 0=some v) (hu:lk l u=some x) (hR:R (.returned (.tuple #[x,v])) g.w) (a:Act) (ha:Fr N [] l a):bodyPost P fn R .ret a g.w:=by
 refine⟨ha.defers,_,?_,hR⟩;have:=jo (P:=P) (w:=g.w) (off:=0) (o:=0) dS hv (lZ (hs.own i _ hi).2.1);simp only[abj]at this;simp[results,hr,ha.get t _ hl,asAddr,this,ha.get u _ hu]
end Go.K
namespace Go.Proofs.YtkpojaffabjibaaGreatDoor
open Go.K
def visit(f:aU):Nat→List Bool→Int→List Bool
 |0,out,_=>out
 |k+1,out,n=>(eU (aY f n)).foldl (fun o m=>if o.getD m.toNat true then o else visit f k o m) (out.set n.toNat true)
def dH(f:aU)(k:Nat)(o:List Bool)(l:List Int):List Bool:=l.foldl (fun o m=>if o.getD m.toNat true then o else visit f k o m) o
theorem tE(f:aU)(k:Nat)(out:List Bool)(n:Int):visit f (k+1) out n=dH f k (out.set n.toNat true) (eU (aY f n)):=rfl
theorem Ag(f:aU)(k:Nat)(o:List Bool)(pre:List Int)(x:Int):
  dH f k o (pre++[x])=if(dH f k o pre).getD x.toNat true=true then dH f k o pre else visit f k (dH f k o pre) x:=by
 unfold dH;rw[abK,abT,List.foldl_nil]
def cp(f:aU)(n:Int):List Bool:=visit f f.steps.length (List.replicate f.steps.length false) n
def iM:Nat→List Bool→List Int
 |_,[]=>[]
 |k,b::r=>(if b then [(k:Int)]else [])++iM (k+1) r
def reach(f:aU)(n:Int):List Int:=if given f [n]then iM 0 (cp f n)else []
def ends(f:aU):List Int:=(reach f 0).filter fun n=>p_ (aY f n)
theorem qN(f:aU)(k:Nat)(hv: ∀o n,(visit f k o n).length=o.length∧(visit f k o n).count false≤o.count false)(l:List Int)(o:List Bool):
  (dH f k o l).length=o.length∧(dH f k o l).count false≤o.count false:=by
 induction l generalizing o with
 |nil=>exact⟨rfl,aaz _⟩
 |cons m r ih=>
  unfold dH at ih⊢;rw[abT];by_cases h:o.getD m.toNat true=true
  ·rw[if_pos h];exact ih o
  rw[if_neg h];have h1:=ih (visit f k o m);have h2:=hv o m;exact⟨h1.1.trans h2.1,aaC h1.2 h2.2⟩
theorem yO(o:List Bool)(i:Nat):(o.set i true).count false≤o.count false:=by
 by_cases h:i<o.length
 ·rw[List.count_set h];simp
 rw[List.set_eq_of_length_le (by omega)];exact aaz _
theorem n_(f:aU)(k:Nat): ∀o n,(visit f k o n).length=o.length∧(visit f k o n).count false≤o.count false:=by
 induction k with
 |zero=>intro o n;exact⟨rfl,aaz _⟩
 |succ k ih=>
  intro o n;rw[tE];have h:=qN f k ih (eU (aY f n)) (o.set n.toNat true);exact⟨by rw[h.1];simp,aaC h.2 (yO o _)⟩
theorem jw{o:List Bool}{i:Nat}(h:o[i]? =some false):(o.set i true).count false+1=o.count false:=by obtain⟨hi,he⟩:=aaN.1 h;rw[List.count_set hi,he];have:0<o.count false:=adf.2 (aa4.2 ⟨i,hi,he⟩);simp;omega
theorem qG{back:Int}{l:List Int}{m:Int}(h:m∈dL back l):m∈l∨(m=back∧0≤back):=by
 induction l generalizing back with
 |nil=>
  unfold dL at h;split at h
  ·simp at h;exact .inr ⟨h,by assumption⟩
  simp at h
 |cons n r ih=>
  unfold dL at h;rw[aaJ]at h;rcases h with h|h
  ·split at h
   ·simp at h;rename_i hc;exact .inr ⟨h,hc.1⟩
   simp at h
  rcases aav.1 h with rfl|h
  ·exact .inl (aaT)
  rcases ih h with h|⟨h1,h2⟩
  ·exact .inl (aaR _ h)
  split at h1
  ·rename_i hc;rw[if_pos hc]at h2;omega
  rename_i hc;rw[if_neg hc]at h2;exact .inr ⟨h1,h2⟩
theorem H4{lo hi p:Int}{l:List Int}(h:kZ lo hi p l=true): ∀m∈l,lo≤m∧m≤hi∧p<m:=by
 induction l generalizing p with
 |nil=>simp
 |cons n r ih=>
  simp only[kZ,within,aaA,decide_eq_true_eq]at h;intro m hm;rcases aav.1 hm with rfl|hm
  ·omega
  have:=ih h.2 m hm;omega
theorem Ah{lo hi:Int}{l:List Int}(h:ascending l lo hi=true): ∀m∈l,lo≤m∧m≤hi:=by
 cases l with
 |nil=>simp
 |cons n r=>
  simp only[ascending,within,aaA,decide_eq_true_eq]at h;intro m hm;rcases aav.1 hm with rfl|hm
  ·omega
  have:=H4 h.2 m hm;omega
theorem tF{s:Step}{n:Int}(h:bO s n=true): ∀m∈s.next,0≤m∧m<n:=by unfold bO at h;simp only[aaA,decide_eq_true_eq]at h;intro m hm;have:=Ah h.1.1.1.2 m hm;omega
theorem FC{s:Step}{n:Int}(h:bO s n=true):s.back<n∨s.back= -1:=by unfold bO within at h;simp only[aaA,decide_eq_true_eq,abz,beq_iff_eq]at h;rcases h.1.1.1.1.1.1.1 with h|h<;>omega
theorem iz{f:aU}(h:valid f=true){n:Int}(h0:0≤n)(h1:n<f.steps.length): ∀m∈eU (aY f n),0≤m∧m<f.steps.length:=by
 intro m hm;have hr:=lY h h0 h1;rcases qG hm with h2|⟨rfl,h2⟩
 ·exact tF hr m h2
 rcases FC hr with h3|h3<;>omega
open Go Tryz
attribute [local irreducible] W WL cQ aP bG aR aQ aS cK ct
set_option maxRecDepth 10000
set_option maxHeartbeats 1000000
def ql(ob N:Nat)(out:List Bool):dc:=.row 4 1 (.slice (vA ob) N N) N (out.map Value.bool)
structure y6(g:G)(f:aU)(ob N bo bf bv:Nat):Prop where
 We:EP g bo 0 [.slice (vA ob) N N]
 Sp: ∃cs,EP g bf 0 cs∧vT g cs f
 YL:EP g bv 0 [.func (.func 236) #[] #[vP bo,vP bf,vP bv]]
theorem y6.mono{g g':G}{f:aU}{ob N bo bf bv:Nat}(h:y6 g f ob N bo bf bv)(hle:g.le g'):y6 g' f ob N bo bf bv:=
 ⟨h.We.mono hle,by obtain⟨cs,h1,h2⟩:=h.Sp;exact⟨cs,h1.mono hle,h2.mono hle⟩,h.YL.mono hle⟩
theorem NZ(f:aU)(cE:valid f=true)(ob N bo bf bv:Nat)(hN:N=f.steps.length): ∀(k:Nat) (g0 g:G) (L:List dc) (i:Nat) (out:List Bool) (n:Int),
  St g0 g L→L[i]? =some (ql ob N out)→y6 g f ob N bo bf bv→out.length=N→0≤n→out[n.toNat]? =some false→out.count false≤k→
  CallsIn Wd 0 prog 236 #[vI n,vP bo,vP bf,vP bv] g.w
   fun e w'=> ∃g',g'.w=w'∧e= .returned (.tuple #[])∧St g0 g' (L.set i (ql ob N (visit f k out n)))∧g.le g':=by
 intro k
 induction k with
 |zero=>
  intro g0 g L i out n _ _ _ _ _ hn hc;exact absurd (adf.2 (abm hn)) (by omega)
 |succ k ih=>
  intro g0 g L i out n hs hi FP hlen h0 hn hc;have aV:n.toNat<N:=by rw[←hlen];exact(aaN.1 hn).1
  have US:i<L.length:=(aaN.1 hi).1;have aj:=G.le.refl g;have aq:=FP.We;obtain⟨cs,aB,a1,n1,c1,a2,n2,c2,rfl,aA,aE⟩:=FP.Sp;obtain⟨_,_,e⟩:=aA.isSlice;obtain⟨rfl,rfl,rfl⟩:=aaO e;clear e;have aaf:=FP;refine vK func236 rfl ntmps236 rfl<|eO 2 [.z aq] rfl<|aN rfl rfl<|ea T.ok rfl (hs.own i _ hi).1 h0 aV rfl rfl rfl rfl rfl rfl fun b p hh=>?_;obtain⟨rfl,rfl⟩:ob=b∧0=p:=by simpa using hh
  refine gw rfl (iC T.ok i (n.toNat*1) (us:=[.bool true]) rfl hs hi rfl rfl rfl rfl rfl rfl (by decide) (by simp;omega) (xs':=(out.set n.toNat true).map Value.bool) ?_ ?_)
  ·rw[aaW,acu];unfold nY;rw[ace];simp[hlen,aV]
  rintro g1 hs ag;obtain⟨aj,aq,aB,aA⟩:=dU ag aj aq aB aA;replace FP:=FP.mono ag;refine bE<|eO 3 [.z aB] rfl ?_;have I_:n<f.steps.length:=by omega
  refine fP (y:=aY f n) aA (by unfold aY;rw[bM (j:=n.toNat) (by omega) (by omega)];simp[show n.toNat<f.steps.length from by omega]) rfl ?_;rintro b q ys aK fw;have S6:kz _ (.agg ys.toArray) (aY f n):=⟨ys,rfl,fw⟩;obtain⟨b1,b2,b3,b4,b5,b6,rfl,_,_⟩:=fw;refine dE 1 [.e aK 0] rfl<|d_ rfl (NY _ _ _ S6) ?_;rintro g4 v nN ⟨mJ,fO,rfl,je,hsv⟩;replace hs:=hs.call nN;have ag:=nN.le;obtain⟨aj,aq,aB⟩:=eS ag aj aq aB;replace FP:=FP.mono ag;refine bE<|aw ?_;have S7:=n_ f k;have QD:=jw hn
  refine GO (N:=24) hs rfl je hsv rfl (fun _=>rfl)
   (fun pre L' _=>L'=L.set i (ql ob N (dH f k (out.set n.toNat true) pre))) (fun _ _ _ _=>False)
   (fun _ _ _ _ _ h=>h) (fun _ _ _ _ _ _ h=>h) rfl (fun x=>[(5,vI x),(1,vP bo),(2,vP bf),(3,vP bv)]) ?_ ?_ ?_ ?_
  ·intro x ro w;exact ah<|Wp 1 rfl<|an<|fun a ha=>⟨rfl,ha.kp rfl⟩
  ·rintro lp D ro pre x rest gr Lr lG hle hs rfl;have FP:=FP.mono hle;have cM:=G.le.refl gr;have aq:=FP.We;obtain⟨cs',aB,YM⟩:=FP.Sp;have cF:=FP.YL;obtain⟨h3,h4⟩:=iz cE h0 I_ x (by rw[lG];simp);have RG:=qN f k S7 pre (out.set n.toNat true);have zY:(dH f k (out.set n.toNat true) pre).length=N:=by rw[RG.1];simp[hlen]
   have nL:x.toNat<(dH f k (out.set n.toNat true) pre).length:=by omega
   have Wf:(dc.obj lp (ro LoopState.busy)::dc.obj D g_::L.set i (ql ob N (dH f k (out.set n.toNat true) pre)))[i+2]? =some (ql ob N (dH f k (out.set n.toNat true) pre)):=by simp[US]
   have Bb:dH f k (out.set n.toNat true) (pre++[x])=if(dH f k (out.set n.toNat true) pre)[x.toNat]=true then dH f k (out.set n.toNat true) pre else visit f k (dH f k (out.set n.toNat true) pre) x:=by rw[Ag,aaP,aas nL];rfl
   refine aw<|eO 2 [.z aq] rfl<|aN rfl rfl<|ea T.ok rfl (hs.own (i+2) _ Wf).1 h3 (by omega) rfl rfl rfl rfl rfl rfl fun b p hh=>?_;obtain⟨rfl,rfl⟩:ob=b∧0=p:=by simpa using hh
   refine aN rfl rfl (eW T.ok (x.toNat*1) rfl (hs.own (i+2) _ Wf).1 rfl (v:=.bool ((dH f k (out.set n.toNat true) pre)[x.toNat])) (by show(List.map Value.bool _)[x.toNat*1]? =_;rw[aaW,abd,aas nL];rfl) ?_);refine aF rfl ?_;cases hb:(dH f k (out.set n.toNat true) pre)[x.toNat]with
   |true=>
    exact bI rfl<|ar<|aX<|fun a ha=>⟨_,_,rfl,hs,cM,by rw[Bb,if_pos hb]⟩
   |false=>
    refine bZ rfl<|ah<|dE 2 [.z cF] rfl ?_;have qS:=ih g0 gr _ (i+2) _ x hs Wf FP zY h3 (by rw[aas nL,hb]) (by omega);have Wg:=dF (first:=#[]) (args:=[vI x]) (captured:=#[vP bo,vP bf,vP bv]) (cB 236) rfl qS;refine aN rfl rfl (fZ rfl rfl rfl rfl rfl rfl (Wg.mono ?_));rintro _ _ ⟨g5,rfl,rfl,K0,ag⟩;refine⟨_,rfl,?_⟩;replace cM:=G.le.trans cM ag;exact an<|aX<|fun a ha=>⟨_,_,rfl,K0,cM,by rw[Bb,if_neg (by simp[hb]),List.set_set]⟩
  ·rintro lp D o Lr ge hle hs rfl;refine aX<|O3 1 rfl hs rfl (fun g' kP gZ=>?_);refine⟨g',rfl,rfl,?_,(aj.trans hle).trans gZ⟩;have:=kP.drop 0;rw[tE];exact this
  rintro c lp D o pre Lr ge _ _ _ h;exact h.elim
theorem cR.JM(g:G): ∀xs:List Bool,cR g (xs.map Value.bool) xs
 |[]=>rfl
 |x::xs=>⟨[.bool x],xs.map Value.bool,rfl,rfl,cR.JM g xs⟩
theorem rV{f:aU}(h:valid f=true):1≤f.steps.length∧f.steps.length≤40:=by unfold valid within at h;simp only[aaA,decide_eq_true_eq]at h;omega
theorem vU(v:Value)(f:aU)(n:Int)(g:G)(dx:eQ g v f)(cE:valid f=true)(h0:0≤n)(h1:n<f.steps.length):
  cN prog 184 #[v,vI n] g (lj 4 g (cp f n)):=by
 obtain⟨a1,n1,c1,a2,n2,c2,rfl,aA,aE⟩:=id dx;obtain⟨_,_,e⟩:=aA.isSlice;obtain⟨rfl,rfl,rfl⟩:=aaO e;clear e;have hlen:=rV cE;have hs:=St.start g;refine enter func184 rfl ntmps184 rfl<|cO<|nX hs rfl fun bf g1 hs ag=>?_;obtain⟨aA,aE⟩:=cA ag aA aE;refine aF rfl<|jd 3 [.o 0] hs rfl ?_;obtain⟨g2,fm,dm,ag,aK⟩:=hs.fM (i:=0) rfl;replace hs:=dm;clear dm;rw[←fm];obtain⟨aA,aE⟩:=cA ag aA aE;have aq:=aK;clear aK;refine aN rfl rfl<|uy T.ok rfl hs rfl rfl rfl rfl rfl rfl (by decide) rfl (by show 1*f.steps.length≤_;omega) (by unfold maxLen;omega) fun ob g1 hs ag=>?_;obtain⟨aq,aA,aE⟩:=eS ag aq aA aE;refine fA hs rfl fun bo g1 hs ag=>?_;obtain⟨aq,aA,aE⟩:=eS ag aq aA aE;refine om 0 hs rfl fun g2 hs ag aB=>?_;obtain⟨aq,aA,aE⟩:=eS ag aq aA aE;refine bE<|cO<|fA hs rfl fun bv g1 hs ag=>?_;obtain⟨aq,aB,aA,aE⟩:=dU ag aq aB aA aE;refine bE<|ck 1 rfl<|om 0 hs rfl fun g2 hs ag cF=>?_;obtain⟨aq,aB,aA,aE⟩:=dU ag aq aB aA aE;refine bE<|eO 2 [.z cF] rfl ?_;have qn:(List.replicate f.steps.length [Value.bool false]).flatten=(List.replicate f.steps.length false).map Value.bool:=by simp
 have dj:St g g2 [ql ob f.steps.length (List.replicate f.steps.length false)]:=by unfold ql;rw[←qn];exact hs
 have FP:y6 g2 f ob f.steps.length bo bf bv:=⟨aB,⟨_,aq,_,_,_,_,_,_,rfl,aA,aE⟩,cF⟩;have qS:=NZ f cE ob _ bo bf bv rfl f.steps.length g g2 _ 0 _ n dj rfl FP (by simp) h0 (by rw[ac3,if_pos (by omega)]) (by simp);have Wg:=dF (first:=#[]) (args:=[vI n]) (captured:=#[vP bo,vP bf,vP bv]) (cB 236) rfl qS;refine aN rfl rfl (fZ rfl rfl rfl rfl rfl rfl (Wg.mono ?_));rintro _ _ ⟨g5,rfl,rfl,K0,ag⟩;refine⟨_,rfl,?_⟩;replace hs:=K0;replace aB:=aB.mono ag;exact bE<|pW [.z aB] rfl<|au<|cg rfl hs<|hs.nu (i:=0) rfl (cR.JM _ _)
theorem yB(l:List Bool)(k:Nat)(h:k<l.length):iM 0 (l.take (k+1))=iM 0 (l.take k)++(if l[k]then [(k:Int)]else []):=by
 have gen: ∀(l:List Bool) (j k:Nat) (h:k<l.length),iM j (l.take (k+1))=iM j (l.take k)++(if l[k]then [((j+k:Nat):Int)]else []):=by
  intro l
  induction l with
  |nil=>intro j k h;simp at h
  |cons b r ih=>
   intro j k h;cases k with
   |zero=>simp[iM]
   |succ k=>
    simp only[List.take_succ_cons,iM];rw[ih (j+1) k (by simpa using h)];simp[abv,Nat.add_comm 1 k]
 simpa using gen l 0 k h
theorem vC(l:List Bool)(j:Nat):(iM j l).length≤l.length:=by
 induction l generalizing j with
 |nil=>simp[iM]
 |cons b r ih=>have:=ih (j+1);simp only[iM];split<;>simp<;>omega
theorem fb(f:aU)(n:Int):(cp f n).length=f.steps.length:=by unfold cp;rw[(n_ f _ _ _).1];simp
theorem G1(v:Value)(f:aU)(n:Int)(g:G)(dx:eQ g v f):
  cN prog 182 #[v,vI n] g (lj 3 g (reach f n)):=by
 obtain⟨a1,n1,c1,a2,n2,c2,rfl,aA,aE⟩:=id dx;obtain⟨_,_,e⟩:=aA.isSlice;obtain⟨rfl,rfl,rfl⟩:=aaO e;clear e;have hs:=St.start g;refine enter func182 rfl ntmps182 rfl<|cO<|nX hs rfl fun b1 g1 hs ag=>?_;replace dx:=dx.mono ag;refine aF rfl<|ak<|jd 2 [.o 0] hs rfl<|iX [(0,vI n)] [vI n] hs rfl rfl fun b2 g2 hs ag=>?_;replace dx:=dx.mono ag;obtain⟨g3,wH,EW,Ac,ph⟩:=hs.cD (α:=Int) (xs:=[n]) (i:=0) rfl (cR.ints _ [n]);clear ag;have ag:=Ac;rw[←wH];replace hs:=EW;replace dx:=dx.mono ag;refine jN rfl (NU _ _ f [n] _ dx ph) hs fun g1 hs ag=>?_;replace dx:=dx.mono ag;refine aF rfl ?_;cases hg:given f [n]with
 |false=>
  refine bZ rfl<|aD rfl<|au<|cg rfl hs ?_;unfold reach;rw[hg];exact lj.nil _ _ _ _
 |true=>
  refine bI rfl ?_;have Qi:(0≤n∧n<f.steps.length)∧valid f=true:=by unfold given at hg;simp only[aaA,List.any_cons,List.any_nil,acj,ab8,rS,acF,decide_eq_false_iff_not]at hg;exact⟨by omega,hg.1⟩
  have PY:=rV Qi.2;refine ar<|ai<|ak<|jd 2 [.o 0] hs rfl<|d_ rfl (vU _ f n _ dx Qi.2 Qi.1.1 Qi.1.2) fun g4 v nN eF=>?_;obtain⟨g5,UF,K0,aag,uh⟩:=hs.lS nN eF;replace hs:=K0;rw[←UF];obtain⟨ab,cb,rfl⟩:=uh.isSlice;have ET:=fb f n;generalize sO:cp f n=bs at*;replace hs:=(hs.drop 0).eM 3 1 none;refine aF rfl<|aw ?_
  refine aZ (fun m a' w=> ∃(k:Nat) (g':G) (v:Value),w=g'.w∧St g g' [.row 3 1 v (iM 0 (bs.take k)).length ((iM 0 (bs.take k)).map (Value.int .i64))]∧G.le g5 g'∧k≤bs.length∧m=bs.length-k∧
   Fr 28 [] [(4,v),(14,.slice ab bs.length cb),(15,vI bs.length),(16,vI k)] a') bs.length (fun a' ha=>⟨0,_,_,rfl,hs,G.le.refl _,aar _,rfl,ha.kp rfl⟩) ?_
  clear hs;rintro m a' _ ⟨k,g',v,rfl,hs,aj,hk,rfl,dT⟩;have bB:=uh.mono aj;revert a';refine bT<|aD rfl<|ak ?_;by_cases aV:k<bs.length
  ·refine aG (b:=decide ((k:Int)<(bs.length:Int))) (by simp;omega) rfl ?_;have JD:=vC (bs.take k) 0;rw[aat]at JD;have oJ:=yB bs k aV;refine ar<|ai<|ak<|aw<|ck 1 rfl<|fP (y:=bs[k]) bB (by simp[dq,aV]) rfl ?_;rintro b p ys aK rfl;refine dE 1 [.e aK 0] rfl<|aF rfl<|aD rfl ?_;cases hb:bs[k]with
   |false=>
    refine bI rfl ?_;rw[hb,if_neg (by simp),aaI]at oJ;exact ar<|aX<|ai<|ah<|Wp 2 rfl<|an<|fun a ha=>⟨bs.length-(k+1),by omega,k+1,_,v,rfl,by rw[oJ];exact hs,aj,by omega,rfl,ha.keep ⟨rfl,rfl,rfl,kW rfl,trivial⟩⟩
   |true=>
    refine bZ rfl ?_;rw[hb,if_pos rfl]at oJ;refine ah<|Wp 2 rfl<|iX [(0,vI k)] [vI k] hs rfl rfl fun b2 g2 hs ag=>?_;replace aj:=G.le.trans aj ag;refine aN rfl rfl<|ba T.ok 1 rfl hs rfl rfl rfl rfl rfl rfl rfl (by decide) rfl (Src.dZ (hs.own 0 _ rfl).1).2 (by simp[Value.oneCell']) (by show((iM 0 (bs.take k)).length+1)*8≤_;omega) (by unfold maxLen;omega) fun a' c' g3 hs ag=>?_;replace aj:=G.le.trans aj ag;exact Wp 1 rfl<|an<|aX<|ai<|ah<|Wp 2 rfl<|an<|fun a ha=>⟨bs.length-(k+1),by omega,k+1,_,_,rfl,by rw[oJ];simpa using hs.drop 0,aj,by omega,rfl,ha.keep ⟨rfl,rfl,rfl,kW rfl,trivial⟩⟩
  refine bg (b:=decide ((k:Int)<(bs.length:Int))) (by simp;omega) rfl ?_;obtain rfl:k=bs.length:=by omega
  refine aJ<|aM<|aM<|b_<|ai<|aD rfl<|au<|cg rfl hs ?_;unfold reach;rw[hg,if_pos rfl,sO];rw[aa_]at hs;exact hs.nu (i:=0) rfl (cR.ints _ _)
def jZ(xs:List Int):List Value:=xs.map (Value.int .i64)
theorem Ii(xs:List Int)(n:Nat):(jZ xs).take n=jZ (xs.take n):=by simp[jZ]
theorem pE{α:Type}(p:α→Bool)(l:List α):(ox p l= -1∧ ∀x∈l,p x=false)∨ ∃k,∃h:k<l.length,ox p l=k∧p l[k]=true∧ ∀j (h:j<l.length),j<k→p l[j]=false:=by
 unfold ox;cases h:l.any p with
 |false=>exact .inl ⟨rfl,fun x hx=>by simpa using(List.any_eq_false.1 h) x hx⟩
 |true=>
  refine .inr ⟨l.findIdx p,?_,rfl,?_,?_⟩
  ·obtain⟨x,hx,hp⟩:=abW.1 h;exact List.findIdx_lt_length_of_exists ⟨x,hx,hp⟩
  ·exact List.findIdx_getElem
  intro j hj aV;simpa using List.not_of_lt_findIdx aV
theorem DL{α:Type}{L:List α}{i:Nat}{e:α}(h:L[i]? =some e):L.set i e=L:=by
 apply abL;intro j;rw[abG];split
 ·rename_i h';subst h';rw[h];simp[(aaN.1 h).1]
 rfl
theorem sS{α:Type}{cs:List α}{i:Nat}{x:α}(h:i<cs.length):(cs.set i x).take (i+1)=cs.take i++[x]:=by rw[ace,if_pos h,show cs.take i++x::cs.drop (i+1)=(cs.take i++[x])++cs.drop (i+1)from by simp];exact acP (by simp;omega)
theorem Cj{p:Int→Bool}(xs:List Int)(k:Nat)(h:k<xs.length)(hp:p xs[k]=true)(dt: ∀j (h:j<xs.length),j<k→p xs[j]=false):
  xs.take k=(xs.take (k+1)).filter (fun x=> !p x):=by
 rw[aaX h,abe];have:(xs.take k).filter (fun x=> !p x)=xs.take k:=by rw[acU];intro x hx;obtain⟨j,hj,rfl⟩:=aa4.1 hx;simp only[aat]at hj;rw[acn,dt j (by omega) (by omega)];rfl
 rw[this];simp[hp]
theorem Ck(p:Int→Bool)(g0 g:G)(L:List dc)(i:Nat)(v fv:Value)(xs:List Int)(hs:St g0 g L)(hi:L[i]? =some (.row 3 1 v xs.length (jZ xs)))(hlen:xs.length≤1000000)
  (hp: ∀(g':G) (x:Int),x∈xs→g.le g'→jX prog fv [vI x] g'.w (ug g' fun _ r=>r= .bool (p x))):
  CallsIn Wd 0 prog 233 #[v,fv] g.w fun e w'=> ∃g' v',g'.w=w'∧e= .returned v'∧g.le g'∧St g0 g' (L.set i (.row 3 1 v' (xs.filter fun x=> !p x).length (jZ (xs.filter fun x=> !p x)))):=by
 have aj:=G.le.refl g;have US:i<L.length:=(aaN.1 hi).1;obtain⟨ad,cap,rfl⟩:=(hs.own i _ hi).1.form;refine enter func233 rfl ntmps233 rfl<|aD rfl<|ck 2 rfl ?_;obtain⟨gf,SI,Fh,uh,yR⟩:=hs.Qo (α:=Int) hi (cR.ints _ _);rw[←SI];refine d_ rfl (yZ _ _ xs p gf uh (fun g' x hx hle=>hp g' x hx (Fh.trans hle))) ?_;rintro g2 _ FE rfl;obtain⟨g3,wH,fT⟩:=yR g2 FE;rw[←wH];replace hs:=hs.call fT;have ag:=fT.le;replace aj:=G.le.trans aj ag;refine aF rfl<|ak<|aD rfl ?_;rcases pE p xs with⟨Jb,dt⟩|⟨k0,C9,Jb,Cc,dt⟩
 ·refine aG (b:=ox p xs== -1) (by simp[Jb]) rfl<|aD rfl<|au<|ec<|eC rfl ?_;have Qp:(xs.filter fun x=> !p x)=xs:=acU.2 fun x hx=>by simp[dt x hx]
  refine⟨g3,_,rfl,rfl,aj,?_⟩;rw[Qp,DL hi];exact hs
 refine bg (b:=ox p xs== -1) (by simp only[Jb,beq_eq_false_iff_ne];omega) rfl ?_;rw[Jb];obtain⟨⟨b0,p0,rfl⟩,tp⟩:(∃b p,ad=some ⟨b,p,none⟩)∧xs.length≤cap∧cap≤maxLen:=by
  rcases(hs.own i _ hi).1.2 with⟨h,_⟩|⟨b,q,c,cur,e1,_,_,h1,h2,_⟩
  ·omega
  simp only[aaK]at e1;obtain⟨rfl,_,rfl⟩:=e1;exact⟨⟨b,q,rfl⟩,h1,h2⟩
 unfold maxLen at tp;refine ar<|ai<|ak<|aD rfl<|aw ?_
 refine aZ (fun m a' w=> ∃(j i':Nat) (cs:List Int) (g':G),w=g'.w∧St g0 g' (L.set i (.row 3 1 (.slice (some ⟨b0,p0,none⟩) xs.length cap) xs.length (jZ cs)))∧G.le g g'∧j≤xs.length∧m=xs.length-j∧
  cs.length=xs.length∧i'<j∧cs.take i'=(xs.take j).filter (fun x=> !p x)∧cs.drop j=xs.drop j∧
  Fr 42 [] [(0,.slice (some ⟨b0,p0,none⟩) xs.length cap),(1,fv),(5,vI i'),(6,vI j)] a') (xs.length-(k0+1))
  (fun a' ha=>⟨k0+1,k0,xs,g3,rfl,by rw[DL hi];exact hs,aj,C9,rfl,rfl,Nat.lt_succ_self _,Cj xs k0 C9 Cc dt,rfl,ha.keep ⟨rfl,rfl,rfl,kW rfl,trivial⟩⟩) ?_
 clear hs aj;rintro m a' _ ⟨j,i',cs,g',rfl,hs,aj,hj,rfl,je,I8,ed,xp,dT⟩;have S8:(L.set i (.row 3 1 (.slice (some ⟨b0,p0,none⟩) xs.length cap) xs.length (jZ cs)))[i]? =some (.row 3 1 (.slice (some ⟨b0,p0,none⟩) xs.length cap) xs.length (jZ cs)):=by simp[US]
 revert a';refine bT<|ak<|aD rfl ?_;by_cases aV:j<xs.length
 ·refine aG (b:=decide ((j:Int)<(xs.length:Int))) (by simp;omega) rfl ?_;have V3:cs[j]? =some xs[j]:=by have:=congrArg (fun l=>l[0]?) xp;simpa [aas aV]using this
  refine ar<|ai<|ak<|aw<|ck 2 rfl<|aN rfl rfl<|ea T.ok rfl (hs.own i _ S8).1 (by omega) (by omega) rfl rfl rfl rfl rfl rfl fun b q hh=>?_;obtain⟨rfl,rfl⟩:b0=b∧p0=q:=by simpa using hh
  refine aN rfl rfl<|eW T.ok (j*1) rfl (hs.own i _ S8).1 rfl (v:=vI xs[j]) (by show(jZ cs)[j*1]? =_;rw[aaW];simp[jZ,V3])<|aF rfl<|ck 2 rfl<|aN rfl rfl<|fF rfl rfl rfl rfl rfl rfl (hp _ _ (aaQ aV) aj) ?_;rintro g4 _ nN rfl;replace hs:=hs.call nN;have ag:=nN.le;replace aj:=G.le.trans aj ag;refine aF rfl ?_
  have NH:(xs.take (j+1)).filter (fun x=> !p x)=(xs.take j).filter (fun x=> !p x)++(if p xs[j]then []else [xs[j]]):=by rw[aaX aV,abe];cases V4:p xs[j]<;>simp[V4]
  have uK:cs.drop (j+1)=xs.drop (j+1):=by have:=congrArg (List.drop 1) xp;simpa [aca]using this
  cases hb:p xs[j]with
  |true=>
   refine bI rfl ?_;rw[hb,if_pos rfl,aaI]at NH;exact ar<|aX<|ai<|ah<|Wp 3 rfl<|an<|fun a ha=>⟨xs.length-(j+1),by omega,j+1,i',cs,_,rfl,hs,aj,by omega,rfl,je,by omega,by rw[ed,NH],uK,ha.keep ⟨rfl,rfl,rfl,kW rfl,trivial⟩⟩
  |false=>
   refine bZ rfl ?_;rw[hb,if_neg (by simp)]at NH;refine ck 3 rfl<|aN rfl rfl<|ea T.ok rfl (hs.own i _ S8).1 (by omega) (by omega) rfl rfl rfl rfl rfl rfl fun b q hh=>?_;obtain⟨rfl,rfl⟩:b0=b∧p0=q:=by simpa using hh
   refine gw rfl (iC T.ok i (i'*1) (us:=[vI xs[j]]) rfl hs S8 rfl rfl rfl rfl rfl rfl (by simp) (by simp[jZ];omega) (xs':=jZ (cs.set i' xs[j])) ?_ ?_)
   ·rw[aaW];unfold nY jZ;rw[acu,ace];simp[je,show i'<xs.length from by omega]
   rintro g5 hs ag;replace aj:=G.le.trans aj ag;refine bE<|ah<|Wp 3 rfl<|an<|aX<|ai<|ah<|Wp 3 rfl<|an ?_;exact fun a ha=>⟨xs.length-(j+1),by omega,j+1,i'+1,cs.set i' xs[j],_,rfl,by rw[List.set_set]at hs;exact hs,aj,by omega,rfl,by simp[je],by omega,
    by rw[NH,←ed,sS (by omega)],
    by rw[ac5 (by omega)];exact uK,ha.keep ⟨rfl,rfl,kW rfl,kW rfl,trivial⟩⟩
 refine bg (b:=decide ((j:Int)<(xs.length:Int))) (by simp;omega) rfl ?_;obtain rfl:j=xs.length:=by omega
 rw[aa_]at ed;refine aJ<|aM<|aM<|b_<|ai<|ck 2 rfl<|aN rfl rfl<|iA T.ok rfl rfl rfl rfl rfl (a:=i') (b:=xs.length) ⟨_,rfl⟩ rfl (by omega) (by omega)<|gw rfl (A4 T.ok i (a:=i') (xs':=jZ (cs.take i')++(List.replicate (xs.length-i') [Value.int .i64 0]).flatten) rfl hs S8 rfl rfl rfl rfl rfl (by decide) rfl (by decide) ?_ (by omega) (by rw[aaW,Ii];rfl) ?_)
 ·by_cases R8:cap=i'
  ·exact .inl (by omega)
  right;rw[if_neg R8];simp[abM]
 rintro g5 hs ag;replace aj:=G.le.trans aj ag;rw[List.set_set]at hs;refine bE<|ck 2 rfl<|aN rfl rfl<|iA T.ok rfl rfl rfl rfl rfl (a:=0) (b:=i') rfl ⟨_,rfl⟩ (by omega) (by omega)<|aF rfl<|au<|eC rfl ?_;have Wh: ∀e,(L.set i e)[i]? =some e:=fun e=>by simp[US]
 have yS:=hs.DA (i:=i) (a:=i') (Wh _) (by omega);refine⟨_,_,rfl,rfl,aj,?_⟩;have hl:(xs.filter fun x=> !p x).length=i':=by rw[←ed,aat];omega
 rw[List.set_set]at yS;rw[hl,←ed];have he:List.take (i'*1) (jZ (cs.take i')++(List.replicate (xs.length-i') [Value.int .i64 0]).flatten)=jZ (cs.take i'):=by rw[acP (by simp[jZ];omega)]
 rw[he]at yS;exact yS
theorem N0(n:Int)(f:aU)(b:Nat)(cs:List Value)(g:G)(aq:EP g b 0 cs)(hc:vT g cs f)(h0:0≤n)(h1:n<f.steps.length):
  cN prog 234 #[vI n,vP b] g fun _ r=>r= .bool (!p_ (aY f n)):=by
 obtain⟨a1,n1,c1,a2,n2,c2,rfl,aA,aE⟩:=hc;obtain⟨_,_,e⟩:=aA.isSlice;obtain⟨rfl,rfl,rfl⟩:=aaO e;clear e;have hs:=St.start g;refine enter func234 rfl ntmps234 rfl<|aD rfl<|eO 3 [.z aq] rfl<|fP (y:=aY f n) aA (by unfold aY;rw[bM (j:=n.toNat) (by omega) (by omega)];simp[show n.toNat<f.steps.length from by omega]) rfl ?_;rintro b q ys aK fw;have S6:kz _ (.agg ys.toArray) (aY f n):=⟨ys,rfl,fw⟩;obtain⟨b1,b2,b3,b4,b5,b6,rfl,_,_⟩:=fw;exact dE 1 [.e aK 0] rfl<|jN rfl (NT _ _ _ S6) hs fun g1 hs ag=>aF rfl<|au (cg rfl hs rfl)
theorem DN{l:List Bool}{j:Nat}{x:Int}(h:x∈iM j l):(j:Int)≤x∧x<j+l.length:=by
 induction l generalizing j with
 |nil=>simp[iM]at h
 |cons b r ih=>
  simp only[iM,aaJ]at h;rcases h with h|h
  ·split at h
   ·simp at h;subst h;simp;omega
   simp at h
  have:=ih h;simp at this⊢;omega
theorem kK{f:aU}{n x:Int}(h:x∈reach f n):0≤x∧x<f.steps.length:=by
 unfold reach at h;split at h
 ·have:=DN h;rw[fb]at this;omega
 simp at h
theorem rK(f:aU)(n:Int):(reach f n).length≤40:=by
 unfold reach;split
 ·rename_i h;have h1:=vC (cp f n) 0;rw[fb]at h1;have:valid f=true:=by unfold given at h;simp only[aaA]at h;exact h.1
  have:=rV this;omega
 simp
theorem QB(v:Value)(f:aU)(g:G)(dx:eQ g v f):
  cN prog 183 #[v] g (lj 3 g (ends f)):=by
 obtain⟨a1,n1,c1,a2,n2,c2,rfl,aA,aE⟩:=id dx;have hs:=St.start g;refine enter func183 rfl ntmps183 rfl<|cO<|nX hs rfl fun b1 g1 hs ag=>?_;obtain⟨aA,aE,dx⟩:=eS ag aA aE dx;refine aF rfl<|jd 1 [.o 0] hs rfl ?_;obtain⟨g2,fm,dm,ag,aK⟩:=hs.fM (i:=0) rfl;replace hs:=dm;clear dm;rw[←fm];obtain⟨aA,aE,dx⟩:=eS ag aA aE dx;have aq:=aK;clear aK;refine d_ rfl (G1 _ f 0 _ dx) ?_;rintro g4 v nN ⟨cells,h1,h2⟩;replace hs:=hs.jl nN h1;have ag:=nN.le;obtain⟨aq,aA,aE⟩:=eS ag aq aA aE;have Pb:cells=jZ (reach f 0):=by
  have key: ∀(xs:List Int) (cells:List Value),cR g4 cells xs→cells=jZ xs:=by
   intro xs
   induction xs with
   |nil=>intro cells h;exact h
   |cons x xs ih=>rintro cells ⟨c1,c2,rfl,h1,h2⟩;rw[ih _ h2,show c1=[Value.int .i64 x]from h1];rfl
  exact key _ _ h2
 subst Pb;refine Wp 1 rfl ?_;have hl:=rK f 0;have Wi:=Ck (fun x=> !p_ (aY f x)) g g4 _ 0 v (.func (.func 234) #[] #[vP b1]) (reach f 0) hs rfl (by omega)
  (fun g' x hx hle=>dF (cB 234) rfl (N0 x f _ _ g' (aq.mono hle) ⟨_,_,_,_,_,_,rfl,aA.mono hle,aE.mono hle⟩ (kK hx).1 (kK hx).2))
 refine aN rfl rfl (qT (cB 233) bJ rfl rfl rfl rfl rfl (Wi.mono ?_));rintro _ _ ⟨g5,v',rfl,rfl,ag,K0⟩;refine⟨_,rfl,?_⟩;refine aF rfl<|au (eC rfl (K0.ret ?_));have he:(reach f 0).filter (fun x=> !(!p_ (aY f x)))=ends f:=by unfold ends;simp
 rw[he]at K0;exact K0.nu (i:=0) rfl (cR.ints _ _)
end Go.Proofs.YtkpojaffabjibaaGreatDoor
