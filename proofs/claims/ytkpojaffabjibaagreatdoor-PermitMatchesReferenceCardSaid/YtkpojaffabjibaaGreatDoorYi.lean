/- Parts of the proof, from: The walks through base.first, Flow and Qualified. -/
import Derived.Test.YtkpojaffabjibaaGreatDoorYh
import Derived.ChangeKeysEq
namespace Go.Proofs.YtkpojaffabjibaaGreatDoor
open Go Go.K Tryz
attribute [local irreducible] W WL cQ aP bG aR aQ aS cK ct
set_option maxRecDepth 10000
set_option maxHeartbeats 4000000
theorem uJ{xs ys:Array Value}{f h:Nat→Int}(w:World): ∀is:List Nat,(∀i∈is,xs[i*1]? =some (vI (f i))∧ys[i*1]? =some (vI (h i)))→(Op.eqItems 9999 3 1 xs ys is).run prog w= .ok (is.all fun i=>f i==h i) w
 |[],_=>rfl
 |i::is,hi=>by
  have hp: ∀(xs:Array Value) (j:Nat) (z:Int),xs[j]? =some (vI z)→(part 3 xs j).run prog w= .ok (vI z) w:=fun xs j z h=>by simp[part,kF T.ok (show tl T 3=some _ from rfl),xh,h]
  obtain⟨h1,h2⟩:=hi i (aaT ..);simp only[Op.eqItems,aaE];rw[hp _ _ _ h1];simp only[aaH];rw[hp _ _ _ h2];simp only[aaH];rw[run_equalIn_int w 9998 3 .i64 .i64 (f i) (h i) (by kernel_rfl)];simp only[aaH];have ih:=uJ (xs:=xs) (ys:=ys) (f:=f) (h:=h) w is fun j hj=>hi j (aaR _ hj);cases he:f i==h i with
  |false=>simp[he]
  |true=>simp[he,ih]
theorem V2(a b c d a' b' c' d':Int)(w:World):(Op.equal 225 (.agg #[vI a,vI b,vI c,vI d]) (.agg #[vI a',vI b',vI c',vI d'])).run prog w= .ok (a==a'&&(b==b'&&(c==c'&&d==d'))) w:=by
 obtain⟨⟨dd,hu,he⟩,_⟩:=T.ok.at (show tl T 225=some _ from rfl);obtain rfl:=KD.FD he;obtain⟨_,inf,h1,h2,_⟩:=T.ok.at (show tl T 3=some _ from rfl);have hc:prog.cellsOf 3=1:=by unfold Program.cellsOf;rw[h1];exact h2
 show(Op.equalIn (9999+1) _ _ _).run _ w=_;rw[run_equalIn_array w 9999 _ _ hu h1,hc,show List.range 4=[0,1,2,3]from rfl];rw[uJ (f:=fun i=>[a,b,c,d].getD i 0) (h:=fun i=>[a',b',c',d'].getD i 0) w]
 ·simp
 intro i hi;have:i=0∨i=1∨i=2∨i=3:=by simpa using hi
 rcases this with rfl|rfl|rfl|rfl<;>exact⟨rfl,rfl⟩
def Dv(fo:Value)(p:bc→Bool)(l:List bc)(g:G):Prop:=∀(g':G) (x:bc),x∈l→g.le g'→jX prog fo [fv x] g'.w (ug g' fun _ r=>r= .bool (p x))
theorem Dv.mono{fo:Value}{p:bc→Bool}{l:List bc}{g g':G}(h:Dv fo p l g)(hle:g.le g'):Dv fo p l g':=fun g2 x hx h2=>h g2 x hx (hle.trans h2)
theorem yP(v fo:Value)(l:List bc)(p:bc→Bool)(g:G)(hl:Rs g v l)(hp:Dv fo p l g):
  cN prog 32 #[v,fo] g fun _ r=>r=vI (ox p l):=by
 obtain⟨a,c,rfl⟩:=hl.isSlice;have hlen:=hl.ef;unfold maxLen at hlen;have hs:=St.start g;refine enter func32 rfl ntmps32 rfl<|aD rfl<|ak<|aD rfl<|aw ?_;refine aZ (fun m a' w=> ∃(k:Nat) (g':G),w=g'.w∧St g g' []∧G.le g g'∧k≤l.length∧m=l.length-k∧(∀j (h:j<l.length),j<k→p l[j]=false)∧
  Fr 19 [] [(0,.slice a l.length c),(1,fo),(7,vI l.length),(8,vI k)] a') l.length (fun a' ha=>⟨0,g,rfl,hs,G.le.refl g,aar _,rfl,by simp,ha.kp rfl⟩) ?_
 clear hs;rintro m a' _ ⟨k,g',rfl,hs,aj,hk,rfl,dt,dT⟩;revert a';refine bT<|aD rfl<|ak ?_;by_cases aV:k<l.length
 ·refine aG (b:=decide ((k:Int)<(l.length:Int))) (by simp;omega) rfl<|ar<|ai<|ak<|aw<|aD rfl<|ck 3 rfl<|fP (y:=l[k]) (hl.mono aj) (by simp[dq,aV]) rfl ?_;rintro b q ys aK rfl;refine dE 1 [.e aK 0] rfl<|aN rfl rfl<|fF rfl rfl rfl rfl rfl rfl (hp _ _ (aaQ aV) aj) ?_;rintro g1 _ aH rfl;replace hs:=hs.call aH;have ag:=aH.le;replace aj:=G.le.trans aj ag;apply bE;cases Cc:p l[k]with
  |true=>
   exact bZ rfl<|aD rfl<|au (cg rfl hs (by rw[xP aV Cc dt]))
  |false=>
   refine bI rfl<|ar<|aX<|ai<|ah<|Wp 2 rfl<|an<|fun a ha=>⟨l.length-(k+1),by omega,k+1,_,rfl,hs,aj,by omega,rfl,?_,ha.keep ⟨rfl,rfl,rfl,kW rfl,trivial⟩⟩
   intro j hj ER;by_cases e:j=k
   ·subst e;exact Cc
   exact dt j hj (by omega)
 refine bg (b:=decide ((k:Int)<(l.length:Int))) (by simp;omega) rfl<|aJ<|aM<|aM<|b_<|ai<|aD rfl ?_;obtain rfl:k=l.length:=by omega
 exact au (cg rfl hs (by rw[xQ fun j h=>dt j h h]))
theorem Nw{α:Type}{p:α→Bool}{l:List α}(h: ∀x∈l,p x=false):l.find? p=none:=List.find?_eq_none.2 fun x hx=>by simp[h x hx]
theorem Nx{α:Type}{p:α→Bool}{l:List α}{k:Nat}(h:k<l.length)(hp:p l[k]=true)(dt: ∀j (h:j<l.length),j<k→p l[j]=false):l.find? p=some l[k]:=
 List.find?_eq_some_iff_getElem.2 ⟨hp,k,h,rfl,fun j hj=>by simp[dt j (by omega) hj]⟩
theorem GV(v fo:Value)(l:List bc)(p:bc→Bool)(g:G)(hl:Rs g v l)(hp:Dv fo p l g):
  cN prog 176 #[v,fo] g fun _ r=>r= .tuple #[fv ((l.find? p).getD fS),.bool (l.find? p).isSome]:=by
 obtain⟨a,c,rfl⟩:=hl.isSlice;have aA:=hl;have hlen:=hl.ef;unfold maxLen at hlen;have hs:=St.start g;have aj:=G.le.refl g;refine enter func176 rfl ntmps176 rfl<|cO<|fA hs rfl fun b4 g1 hs ag=>?_;obtain⟨aj,aA⟩:=cA ag aj aA;refine aF rfl<|ak<|ck 2 rfl<|jN rfl (yP _ _ l p _ aA (hp.mono aj)) hs fun g1 hs ag=>?_;replace aA:=aA.mono ag;refine aF rfl<|aD rfl ?_;rcases pE p l with⟨hf,dt⟩|⟨k,hk,hf,Cc,dt⟩
 ·refine bg (b:=decide (0≤ox p l)) (by rw[hf];rfl) rfl ?_;rw[Nw dt];refine ar<|ai<|cO<|fA hs rfl fun b7 g1 hs ag=>?_;replace aA:=aA.mono ag;refine bE<|jd 1 [.o 0] hs rfl<|dC 1 hs rfl fun g1 hs ag=>?_;replace aA:=aA.mono ag;exact aF rfl<|au (nV T.ok 1 rfl hs rfl rfl rfl rfl (hs.ret rfl))
 refine aG (b:=decide (0≤ox p l)) (by rw[hf];simp) rfl ?_;rw[Nx hk Cc dt];refine ck 2 rfl<|fP (y:=l[k]) aA (by rw[hf];exact bM rfl hk) rfl ?_;rintro b q ys aK rfl;exact dE 1 [.e aK 0] rfl<|dC 0 hs rfl fun g1 hs ag=>aF rfl<|au (nV T.ok 0 rfl hs rfl rfl rfl rfl (hs.ret rfl))
theorem Ny(x:bc)(n:Int)(b1:Nat)(g:G)(aq:EP g b1 0 [vI n]):cN prog 177 #[fv x,vP b1] g fun _ r=>r= .bool (x.prod==n):=by have hs:=St.start g;refine enter func177 rfl ntmps177 rfl<|cO<|gF hs rfl fun b2 g2 hs ag aB=>?_;replace aq:=aq.mono ag;exact aF rfl<|pW [.z aB,.z aq] rfl<|au (cg rfl hs rfl)
theorem Nz(v:Value)(b:ft)(n:Int)(g:G)(aL:gJ g v b):cN prog 99 #[v,vI n] g fun _ r=>r= .tuple #[fv ((b.qt.find? fun f=>f.prod==n).getD fS),.bool (b.qt.find? fun f=>f.prod==n).isSome]:=by have hs:=St.start g;have aj:=G.le.refl g;obtain⟨sl,rfl,ee⟩:=aL;have aA:=ee 4 (by decide);refine enter func99 rfl ntmps99 rfl<|cO<|gF hs rfl fun b2 g2 hs ag aq=>?_;replace aA:=aA.mono ag;refine gF hs rfl fun b3 g2 hs ag aB=>?_;obtain⟨aq,aA⟩:=cA ag aq aA;refine fA hs rfl fun b4 g1 hs ag=>?_;obtain⟨aq,aB,aA⟩:=eS ag aq aB aA;exact aF rfl<|eO 3 [.z aq] rfl<|jN rfl (GV _ _ b.qt (fun f=>f.prod==n) _ aA (fun g' x _ h=>dF (first:=#[]) (args:=[fv x]) (captured:=#[vP b3]) (cB 177) rfl (Ny x n b3 g' (aB.mono h)))) hs fun g1 hs ag=>Wp 2 rfl<|dC 0 hs rfl fun g1 hs ag=>aF rfl<|au (nV T.ok 0 rfl hs rfl rfl rfl rfl (hs.ret rfl))
def iL(tool cham rcp rvn time:Int)(x:bc):Bool:=((x.tool==tool&&(x.cham==cham&&(x.rcp==rcp&&x.rvn==rvn)))&&decide (x.time≤time))&&decide (time≤x.til)
theorem NA(x:bc)(tool cham rcp rvn time:Int)(b1 b2:Nat)(g:G)(aq:EP g b1 0 [vI tool,vI cham,vI rcp,vI rvn])(aB:EP g b2 0 [vI time]):cN prog 205 #[fv x,vP b1,vP b2] g fun _ r=>r= .bool (iL tool cham rcp rvn time x):=by
 have hs:=St.start g;refine enter func205 rfl ntmps205 rfl<|cO<|gF hs rfl fun b3 g2 hs ag cF=>?_;obtain⟨aq,aB⟩:=cA ag aq aB;refine aF rfl<|eO 8 [.z cF,.z cF,.z cF,.z cF] rfl<|aN rfl rfl<|ky T.ok rfl (vs:=[(0,vI x.tool),(1,vI x.cham),(2,vI x.rcp),(3,vI x.rvn)]) (cells:=[vI x.tool,vI x.cham,vI x.rcp,vI x.rvn]) rfl rfl rfl rfl rfl (by kernel_rfl)<|dE 1 [.z aq] rfl<|aN rfl rfl<|vp (neg:=false) rfl rfl rfl (by kernel_rfl) (V2 x.tool x.cham x.rcp x.rvn tool cham rcp rvn _) ?_;unfold iL;cases(x.tool==tool&&(x.cham==cham&&(x.rcp==rcp&&x.rvn==rvn)))with
 |false=>
  exact aF rfl<|au (cg rfl hs rfl)
 |true=>
  refine dE 7 [.z cF,.z aB] rfl ?_;cases decide (x.time≤time)with
  |false=>
   exact aF rfl<|au (cg rfl hs rfl)
  |true=>
   exact BS [.z aB,.z cF] rfl<|au (cg rfl hs rfl)
theorem Ql(v:Value)(b:ft)(tool cham rcp rvn time:Int)(g:G)(aL:gJ g v b):cN prog 157 #[v,vI tool,vI cham,vI rcp,vI rvn,vI time] g fun _ r=>r= .bool (b.qu.any (iL tool cham rcp rvn time)):=by have hs:=St.start g;have aj:=G.le.refl g;obtain⟨sl,rfl,ee⟩:=aL;have aA:=ee 5 (by decide);refine enter func157 rfl ntmps157 rfl<|cO<|gF hs rfl fun b2 g2 hs ag aq=>?_;replace aA:=aA.mono ag;refine gF hs rfl fun b3 g2 hs ag aB=>?_;obtain⟨aq,aA⟩:=cA ag aq aA;refine aF rfl<|ck 4 rfl<|aN rfl rfl<|ky T.ok rfl (vs:=[(0,vI tool),(1,vI cham),(2,vI rcp),(3,vI rvn)]) (cells:=[vI tool,vI cham,vI rcp,vI rvn]) rfl rfl rfl rfl rfl (by kernel_rfl)<|fA hs rfl fun b4 g1 hs ag=>?_;obtain⟨aq,aB,aA⟩:=eS ag aq aB aA;refine om 0 hs rfl fun g2 hs ag cF=>?_;obtain⟨aq,aB,aA⟩:=eS ag aq aB aA;exact bE<|eO 3 [.z aq] rfl<|jN rfl (GV _ _ b.qu (iL tool cham rcp rvn time) _ aA (fun g' x _ h=>dF (first:=#[]) (args:=[fv x]) (captured:=#[vP b4,vP b3]) (cB 205) rfl (NA x tool cham rcp rvn time b4 b3 g' (cF.mono h) (aB.mono h)))) hs fun g1 hs ag=>Wp 3 rfl<|fA hs rfl fun b5 g1 hs ag=>dC 0 hs rfl fun g1 hs ag=>aF rfl<|aD rfl<|au (cg rfl hs (congrArg Value.bool (by rw[acD,List.find?_isSome,abW])))
theorem lf{g:G}: ∀{xs:List bc} {cs:List Value},cR g cs xs→cs=fl xs
 |[],_,h=>h
 |x::xs,_,⟨c1,c2,e,h1,h2⟩=>by obtain rfl:c1=bK x:=h1;rw[e,lf h2,xO];rfl
def AsV(fo:Value)(g:G):Prop:=∀(g':G) (x:bc),g.le g'→jX prog fo [fv x] g'.w (ug g' fun _ r=>r=fv x)
def SW:Bool→Nat
 |false=>144
 |true=>148
theorem SX(tw:Bool):cS prog (SW tw):=by
 cases tw
 ·exact(cB 144)
 exact(cB 148)
theorem yT(tw:Bool)(v fa fo:Value)(l:List bc)(p:bc→Bool)(g:G)(aA:Rs g v l)(hl:l.length≤1000000)(ha:AsV fa g)(hp:Dv fo p l g):
  cN prog (SW tw) #[v,fa,fo] g fun g' r=>lj (ow (!tw)) g (l.filter p) g' r:=by
 cases tw
 case' false=>let tw:=false
 case' true=>let tw:=true
 all_goals
  have hs:=(St.start g).eM (ow (!tw)) 19 none;have aj:=G.le.refl g;obtain⟨a,c,rfl⟩:=aA.isSlice
  first|refine enter func144 rfl ntmps144 rfl ?_|refine enter func148 rfl ntmps148 rfl ?_
  refine aD rfl<|aD rfl<|ak<|aD rfl<|aw ?_
  refine aZ (fun m a' w=> ∃(i:Nat) (ad:Option Addr) (cc:Nat) (g':G),w=g'.w∧St g g' [.row (ow (!tw)) 19 (.slice ad ((l.take i).filter p).length cc) ((l.take i).filter p).length (fl ((l.take i).filter p))]∧G.le g g'∧Rs g' (.slice a l.length c) l∧i≤l.length∧m=l.length-i∧
    Fr 27 [] [(1,fa),(2,fo),(7,.slice ad ((l.take i).filter p).length cc),(10,.slice a l.length c),(11,vI (l.length:Nat)),(12,vI (i:Nat))] a') l.length
   (fun a' ha=>⟨0,none,0,g,rfl,hs,aj,aA,aar _,rfl,ha.kp rfl⟩) ?_
  clear hs aA aj;rintro m a' _ ⟨i,ad,cc,g',rfl,hs,aj,aA,hi,rfl,dT⟩;revert a';refine bT<|aD rfl<|ak ?_;by_cases aV:i<l.length
  ·refine aG (b:=decide ((i:Int)<(l.length:Int))) (decide_eq_true (by omega)) rfl ?_;have eI:dq l (i:Int)=some l[i]:=bM rfl aV;have ed:(l.take (i+1)).filter p=(l.take i).filter p++(if p l[i]then [l[i]]else []):=by rw[aaV,aas aV,abe];congr 1;simp only[acd,abU,List.filter_nil]
   have kO:l[i]∈l:=aaQ aV;have JB:((l.take i).filter p).length≤i:=aaC (abq ..) (by rw[aat];omega);generalize(l.take i).filter p=out at*;generalize l[i]=x at*;refine ar<|ai<|ak<|aw<|cO<|fP (y:=x) aA eI rfl ?_;rintro b q ys aK rfl;have aq:=aK;clear aK;refine dE 1 [.e aq 0] rfl<|fA hs rfl fun b9 g1 hs ag=>?_;obtain⟨aj,aA⟩:=cA ag aj aA;refine om 0 hs rfl fun g2 hs ag aB=>?_;obtain⟨aj,aA⟩:=cA ag aj aA;clear aq;refine bE<|eO 2 [.z aB] rfl<|aN rfl rfl<|fF rfl rfl rfl rfl rfl rfl (hp _ x kO aj) ?_;rintro g1 _ aH rfl;replace hs:=hs.call aH;have ag:=aH.le;obtain⟨aj,aB,aA⟩:=eS ag aj aB aA;cases YF:p x with
   |true=>
    refine bE<|bZ rfl<|ah<|dE 3 [.z aB] rfl<|aN rfl rfl<|fF rfl rfl rfl rfl rfl rfl (ha _ x aj) ?_;clear aH;rintro g1 _ aH rfl;replace hs:=hs.call aH;have ag:=aH.le;obtain⟨aj,aA⟩:=cA ag aj aA;refine iX [(0,fv x)] (bK x) hs rfl rfl fun bl gl hs ag=>?_;obtain⟨aj,aA⟩:=cA ag aj aA;obtain⟨gz,gX,dk,iw,H_⟩:=hs.cD (α:=bc) (xs:=[x]) (i:=0) rfl ⟨bK x,[],(aaI _).symm,rfl,rfl⟩;clear ag;have ag:=iw;rw[←gX];replace hs:=dk;clear dk;obtain⟨aj,aA⟩:=cA ag aj aA;obtain⟨_,news,hn,iO⟩:=Src.jh H_;obtain⟨c1,c2,rfl,rfl,rfl⟩:=hn;rw[aaI]at iO;refine aN rfl rfl<|ba T.ok 0 rfl hs rfl rfl rfl rfl rfl rfl rfl (by decide) rfl iO (El.one (α:=bc) (g:=gz) (x:=x) rfl) (by show(out.length+1)*160≤_;omega) (by show out.length+1≤maxLen;unfold maxLen;omega) fun a6 c6 g6 hs ag=>?_;obtain⟨aj,aA⟩:=cA ag aj aA;replace hs:St g g6 [.row (ow (!tw)) 19 (.slice a6 (out.length+1) c6) (out.length+1) (fl out++bK x)]:=hs;have e:(l.take (i+1)).filter p=out++[x]:=by rw[ed,YF];rfl
    have e2:fl out++bK x=fl (out++[x]):=by rw[jM];exact congrArg (fl out++ ·) (aaI _).symm
    rw[e2]at hs;refine Wp 1 rfl<|an<|aX<|ai<|ah<|Wp 2 rfl<|an<|fun a ha=>⟨l.length-(i+1),by omega,i+1,a6,c6,g6,rfl,?_,aj,aA,by omega,rfl,?_⟩
    ·rw[e,aal];exact hs
    rw[e,aal];exact ha.keep ⟨rfl,rfl,rfl,rfl,rfl,kW rfl,trivial⟩
   |false=>
    refine bE<|bI rfl<|ar<|aX<|ai<|ah<|Wp 2 rfl<|an ?_;have e:(l.take (i+1)).filter p=out:=by rw[ed,YF];exact aaI _
    refine fun a ha=>⟨l.length-(i+1),by omega,i+1,ad,cc,_,rfl,?_,aj,aA,by omega,rfl,?_⟩
    ·rw[e];exact hs
    rw[e];exact ha.keep ⟨rfl,rfl,rfl,rfl,rfl,kW rfl,trivial⟩
  refine bg (b:=decide ((i:Int)<(l.length:Int))) (decide_eq_false (by omega)) rfl ?_;rw[aaD (by omega)]at hs⊢;exact aJ<|aM<|aM<|b_<|ai<|aD rfl<|au (cg rfl hs ⟨_,hs.own 0 _ rfl,cR.fl _ _⟩)
def lI(f:bc):Int×Int:=(f.time,f.idn)
theorem SY(x:bc)(g:G):cN prog 145 #[fv x] g fun _ r=>r=fv x:=by have hs:=St.start g;refine enter func145 rfl ntmps145 rfl<|cO<|gF hs rfl fun b1 g2 hs ag aq=>fA hs rfl fun b2 g1 hs ag=>?_;replace aq:=aq.mono ag;exact bE<|eO 1 [.z aq] rfl<|dC 0 hs rfl fun g1 hs ag=>bE<|au (my T.ok 0 rfl hs rfl rfl rfl (hs.ret rfl))
theorem SZ(x:bc)(g:G):cN prog 149 #[fv x] g fun _ r=>r=fv x:=by have hs:=St.start g;refine enter func149 rfl ntmps149 rfl<|cO<|gF hs rfl fun b1 g2 hs ag aq=>fA hs rfl fun b2 g1 hs ag=>?_;replace aq:=aq.mono ag;exact bE<|eO 1 [.z aq] rfl<|dC 0 hs rfl fun g1 hs ag=>bE<|au (my T.ok 0 rfl hs rfl rfl rfl (hs.ret rfl))
theorem S0(x:bc)(g:G):cN prog 150 #[fv x] g fun _ r=>r= .bool true:=by have hs:=St.start g;exact enter func150 rfl ntmps150 rfl<|cO<|nX hs rfl fun b1 g1 hs ag=>aF rfl<|aD rfl<|au (cg rfl hs rfl)
theorem Qu(x y:bc)(g:G):cN prog 147 #[fv x,fv y] g fun _ r=>r=vI (vN (lI x) (lI y)):=by
 have hs:=St.start g;refine enter func147 rfl ntmps147 rfl<|cO<|gF hs rfl fun b1 g2 hs ag aB=>gF hs rfl fun b2 g2 hs ag cF=>?_;replace aB:=aB.mono ag;refine aF rfl<|ak ?_;apply aO hs (cV (eA (.f (Fact.rs [fG x.time y.time,fG x.idn y.idn])::fe []))) 12 [(11,16)] (by kernel_rfl) rfl
 ·refine cY [[],[0],[],[2],[1,3],[],[5],[],[7],[6,8]] [.z aB,.z cF,.c (cB 80) fun g _=>B5 x.time y.time g,.z aB,.z cF,.c (cB 80) fun g _=>B5 x.idn y.idn g] hs rfl<|aW [(4,9),(9,14)] (fun gd hf=>bN rfl (ay rfl (iD T.ok rfl (St.start gd) (vs:=[(0,vI (fG x.time y.time)),(1,vI (fG x.idn y.idn))]) (cells:=[fG x.time y.time,fG x.idn y.idn].map (Value.int .i64)) rfl rfl rfl rfl rfl rfl (by decide) (by decide) (by kernel_rfl) rfl fun b g' kP _=>?_))) ?_
  ·obtain⟨g2,e1,e2,e3⟩:=nz (α:=Int) kP (cR.ints g' [fG x.time y.time,fG x.idn y.idn]);exact⟨g2,e1,e2,e3⟩
  exact aW [(10,15)] (fun gd hf=>aI fun v h=>az (ji rfl (Sr v [fG x.time y.time,fG x.idn y.idn] _ h)))<|fk
 clear hs;intro g6 hs ag;exact aF rfl<|au (cg rfl hs rfl)
theorem A6(v fo:Value)(l:List bc)(p:bc→Bool)(g:G)(aA:Rs g v l)(hl:l.length≤1000000)(hp:Dv fo p l g):
  cN prog 84 #[v,fo] g fun g' r=>Rs g' r (dI lI (l.filter p)):=by
 have hs:=St.start g;have aj:=G.le.refl g;obtain⟨a,c,rfl⟩:=aA.isSlice;refine enter func84 rfl ntmps84 rfl<|aD rfl<|ck 2 rfl<|aN rfl rfl<|bu (SX false) bJ rfl rfl rfl rfl rfl (yT false _ (.func (.func 145) #[] #[]) fo l p _ aA hl (fun g' x _=>dF (first:=#[]) (args:=[fv x]) (captured:=#[]) (cB 145) rfl (SY x g')) hp) ?_;rintro g1 v1 aH ⟨cells,hh,hr⟩;obtain rfl:=lf hr;obtain⟨a1,c1,rfl⟩:=hh.1.form;have qn:(l.filter p).length≤1000000:=aaC (abq ..) hl;replace hs:=hs.jl aH hh;have ag:=aH.le;clear hr hh aH;replace hs:St g g1 [gG (ow true) a1 (l.filter p).length c1 (l.filter p)]:=hs;refine aF rfl<|ck 1 rfl<|aN rfl rfl<|lu (SA true) bJ rfl rfl rfl rfl rfl (A1 true (kf:=lI) (l.filter p) rfl (by omega) (fun g' _ x y=>dF (first:=#[]) (args:=[fv x,fv y]) (captured:=#[]) (cB 147) rfl (Qu x y g')) hs) ?_;clear hs;rintro g6 _ ag ⟨rfl,hs⟩;have hn:(l.filter p).length=(dI lI (l.filter p)).length:=(gh _).symm;rw[hn]at qn hs⊢;generalize dI lI (l.filter p)=xs at*;obtain⟨g7,Fe,EM,ag,uh⟩:=hs.cD (α:=bc) (xs:=xs) (i:=0) rfl (cR.fl _ _);rw[←Fe];clear hs;replace hs:=EM;clear EM;clear Fe;replace hs:St g g7 []:=hs;refine bE<|ck 1 rfl<|aN rfl rfl<|bu (SX true) bJ rfl rfl rfl rfl rfl (yT true _ (.func (.func 149) #[] #[]) (.func (.func 150) #[] #[]) xs (fun _=>true) _ uh qn (fun g' x _=>dF (first:=#[]) (args:=[fv x]) (captured:=#[]) (cB 149) rfl (SZ x g')) (fun g' x _ _=>dF (first:=#[]) (args:=[fv x]) (captured:=#[]) (cB 150) rfl (S0 x g'))) fun g8 v8 KA h8=>?_;rw[show xs.filter (fun _=>true)=xs from acU.2 fun _ _=>rfl]at h8;obtain⟨g9,UO,MF,ag,V_⟩:=hs.lS KA h8;have ag:=KA.le.trans ag;rw[←UO];clear hs;replace hs:=MF;clear MF;clear UO;exact aF rfl<|au (cg rfl hs V_)
def jH(n:Int):Bool:=decide (1≤n)&&decide (n≤1000000)
theorem yU(n:Int)(g:G):cN prog 81 #[vI n] g fun _ r=>r= .bool (jH n):=by
 have hs:=St.start g;refine enter func81 rfl ntmps81 rfl<|aD rfl<|ck 3 rfl ?_;unfold jH;cases decide (1≤n)with
 |true=>
  exact aF rfl<|au (cg rfl hs rfl)
 |false=>
  exact aF rfl<|au (cg rfl hs rfl)
abbrev MP:=List (Int×Int)
def iv(m:MP):List (Int×Value):=m.map fun p=>(p.1,vI p.2)
def ig(a:Int):MP→Option Int
 |[]=>none
 |(k,v)::r=>if a=k then some v else ig a r
def ip(a x:Int):MP→MP
 |[]=>[(a,x)]
 |(k,v)::r=>if a=k then(k,x)::r else(k,v)::ip a x r
theorem KJ(a:Int): ∀m:MP,jU a (iv m)=(ig a m).map (Value.int .i64)
 |[]=>rfl
 |(k,v)::r=>by
  show(if a=k then some (Value.int .i64 v)else jU a (iv r))=(if a=k then some v else ig a r).map _;split
  ·rfl
  exact KJ a r
theorem FL(a x:Int): ∀m:MP,kX a (vI x) (iv m)=iv (ip a x m)
 |[]=>rfl
 |(k,v)::r=>by
  show(if a=k then(k,vI x)::iv r else(k,vI v)::kX a (vI x) (iv r))=iv (if a=k then(k,x)::r else(k,v)::ip a x r);split
  ·rfl
  rw[FL a x r];rfl
theorem OJ(a x b:Int): ∀m:MP,ig b (ip a x m)=if b=a then some x else ig b m
 |[]=>by simp[ig,ip]
 |(k,v)::r=>by
  by_cases h:a=k
  ·subst h;by_cases hb:b=a<;>simp[ip,ig,hb]
  by_cases hb:b=k
  ·subst hb;simp[ip,ig,h];intro e;exact absurd e.symm h
  simp[ip,ig,h,hb,OJ a x b r]
def C0(m:MP)(k:Int):Int:=(ig k m).getD k
theorem KK:vM Int prog 127 (vI 0):=by have h:=Fq (P:=prog) (κ:=Int) T.ok (T:=127) rfl rfl rfl rfl rfl;exact h
theorem vS(b:Nat)(m:MP)(k:Int)(g:G)(hm:g.w.heap[b]? =some (fy (iv m))):cN prog 83 #[.map (some b),vI k] g fun _ r=>r=vI (C0 m k):=by
 have hs:=St.start g;refine enter func83 rfl ntmps83 rfl<|aD rfl<|ak<|ck 2 rfl<|aN rfl rfl<|pC KK rfl hm rfl (a:=k) rfl ?_;have hg:=KJ k m;unfold C0;cases AG:ig k m with
 |none=>
  rw[AG]at hg;exact cT (.tuple #[vI 0,.bool false]) (t:=10) rfl (by rw[hg];rfl)<|aF rfl<|aD rfl<|bI rfl<|ar<|ai<|aD rfl<|au (cg rfl hs rfl)
 |some z=>
  rw[AG]at hg;exact cT (.tuple #[vI z,.bool true]) (t:=10) rfl (by rw[hg];rfl)<|aF rfl<|aD rfl<|bZ rfl<|aD rfl<|au (cg rfl hs rfl)
def sM(f:bc)(m:MP):MP:=ip f.oth (C0 m f.waf) (ip f.waf (C0 m f.oth) m)
theorem Qv(x:bc)(b1 bm:Nat)(m:MP){g0 g:G}{L:List dc}(aq:EP g b1 0 [.map (some bm)])(hs:St g0 g (.obj bm (fy (iv m))::L)):
  CallsIn Wd 0 prog 142 #[fv x,vP b1] g.w (df g fun g' r=>r= .tuple #[]∧St g0 g' (.obj bm (fy (iv (sM x m)))::L)):=by
 have aj:=G.le.refl g;refine enter func142 rfl ntmps142 rfl<|cO<|gF hs rfl fun b2 g2 hs ag aB=>?_;obtain⟨aj,aq⟩:=cA ag aj aq;replace hs:St g0 _ (.obj bm (fy (iv m))::L):=hs;apply bE;obtain⟨u,hu⟩:=NK x.waf (vI 0) (iv m)
 apply rH (cV (.e (vI x.oth):: .e (vI (C0 m x.oth))::eA (.e (vI x.waf):: .e (vI (C0 m x.waf)):: .e (.tuple #[((jU x.waf (iv m)).getD (vI 0)),vI (Ce x.waf (iv m):Nat)])::fe (.f Fact.any::[])))) 17 [(3,6),(5,8),(13,16)] [14,16] [[0,1,2,6,7,8,9,10,11,12,13],[0,1,2,6,7,8,9,10,11,12,13,14,15]]
  (fun s=>match s with|0=> .obj bm (fy (iv m))::L|1=> .obj bm (fy (yV x.waf (vI 0) (iv m)))::L|_+2=> .obj bm (fy (kX x.waf (vI (C0 m x.oth)) (iv m)))::L) hs (by kernel_rfl) ⟨dw,trivial⟩
 ·refine Lm [[],[],[1],[],[],[4],[],[],[7]] [.z aq,.z aB,.z aq,.z aB,.z aq,.z aB] (by kernel_rfl) rfl<|dA (mZ 0 0 (js:=[(6,9),(8,11)]) (by kernel_rfl) (by kernel_rfl) ?_) ?_
  ·intro s g' _ h1 hf hJ;obtain rfl:s=0:=by omega
   exact bN rfl (ay rfl (bu (cB 83) bJ rfl rfl rfl rfl rfl (vS bm m (x.oth) g' (hJ.own 0 _ rfl).2.1) fun g3 v h1 h2=>⟨g3,rfl,h1,h2⟩))
  refine Lm [[],[],[11]] [.z aq,.z aB] (by kernel_rfl) rfl<|dA (mZ 0 0 (js:=[(10,13),(12,15)]) (by kernel_rfl) (by kernel_rfl) ?_) ?_
  ·intro s g' _ h1 hf hJ;obtain rfl:s=0:=by omega
   exact bN rfl (ay rfl (bu (cB 83) bJ rfl rfl rfl rfl rfl (vS bm m (x.waf) g' (hJ.own 0 _ rfl).2.1) fun g3 v h1 h2=>⟨g3,rfl,h1,h2⟩))
  refine dA (yn 0 (js:=[(0,3),(2,5)]) (by kernel_rfl) rfl fun g' hf hJ=>bN rfl (tg rfl (Cf KK 0 rfl hJ rfl rfl (a:=x.waf) rfl fun g3 hs hle=>⟨g3,rfl,⟨hle,hs⟩,rfl⟩)))<|Lm [[14]] [] (by kernel_rfl) rfl<|dA (yn 1 (js:=[(0,3),(15,18),(9,12),(0,3),(9,12)]) (by kernel_rfl) rfl fun g' hf hJ=>bU rfl (su rfl (tg rfl (yW 0 rfl hJ rfl hu rfl rfl rfl fun g3 hs hle=>⟨g3,rfl,⟨hle,?_⟩,trivial⟩)))) ?_
  ·rw[KL]at hs;exact hs
  exact AM
 clear hs;intro g6 hs ag;replace aj:=G.le.trans aj ag;refine dD rfl<|gw rfl<|eg KK 0 (.inl rfl) hs rfl rfl (a:=x.oth) rfl rfl fun g7 hs ag=>?_;replace aj:=G.le.trans aj ag;replace hs:St g0 g7 (.obj bm (fy (kX x.oth (vI (C0 m x.waf)) (kX x.waf (vI (C0 m x.oth)) (iv m))))::L):=hs;rw[FL,FL]at hs;exact an<|nd rfl (df.intro aj ⟨rfl,hs⟩)
def Gx(time:Int)(f:bc):Bool:=(jH f.waf&&jH f.oth)&&decide (f.time≤time)
theorem S1(x:bc)(time:Int)(b1:Nat)(g:G)(aq:EP g b1 0 [vI time]):cN prog 143 #[fv x,vP b1] g fun _ r=>r= .bool (Gx time x):=by
 have hs:=St.start g;have aj:=G.le.refl g;refine enter func143 rfl ntmps143 rfl<|cO<|gF hs rfl fun b2 g2 hs ag aB=>?_;replace aq:=aq.mono ag;refine aF rfl<|eO 2 [.z aB] rfl<|d_ rfl (yU x.waf _) ?_;rintro g1 _ aH rfl;replace hs:=hs.call aH;have ag:=aH.le;obtain⟨aq,aB⟩:=cA ag aq aB;unfold Gx;cases jH x.waf with
 |false=>
  exact aF rfl<|au (cg rfl hs rfl)
 |true=>
  refine dE 3 [.z aB] rfl ?_;clear aH;refine jN rfl (yU x.oth _) hs fun g1 hs ag=>?_;obtain⟨aq,aB⟩:=cA ag aq aB;cases jH x.oth with
  |false=>
   exact aF rfl<|au (cg rfl hs rfl)
  |true=>
   exact BS [.z aB,.z aq] rfl<|au (cg rfl hs rfl)
def xF(b:ft):Prop:=∀i,(b.ls i).length≤1000000
def yd(b:ft)(time:Int):MP:=(dI lI (b.x7.filter (Gx time))).foldl (fun m f=>sM f m) []
theorem V'(v:Value)(b:ft)(time:Int)(g:G)(aL:gJ g v b)(hb:xF b):cN prog 82 #[v,vI time] g fun g' r=> ∃bm,r= .map (some bm)∧yK g' bm (iv (yd b time)):=by
 have hs:=St.start g;have aj:=G.le.refl g;obtain⟨sl,rfl,ee⟩:=aL;have aA:=ee 2 (by decide);refine enter func82 rfl ntmps82 rfl<|cO<|gF hs rfl fun b2 g2 hs ag aq=>?_;obtain⟨aj,aA⟩:=cA ag aj aA;refine gF hs rfl fun b3 g2 hs ag aB=>?_;obtain⟨aj,aq,aA⟩:=eS ag aj aq aA;refine aF rfl<|cO<|aN rfl rfl<|mz (κ:=Int) rfl hs fun bm g1 hs ag=>?_;obtain⟨aj,aq,aB,aA⟩:=dU ag aj aq aB aA;refine fA hs rfl fun b5 g1 hs ag=>?_;obtain⟨aj,aq,aB,aA⟩:=dU ag aj aq aB aA;refine om 0 hs rfl fun g2 hs ag cF=>?_;obtain⟨aj,aq,aB,aA⟩:=dU ag aj aq aB aA;replace hs:St g _ [.obj bm (fy (iv []))]:=hs;refine bE<|aD rfl<|ak<|eO 3 [.z aq] rfl<|d_ rfl (A6 _ _ b.x7 (Gx time) _ aA (hb 2) (fun g' x _ h=>dF (first:=#[]) (args:=[fv x]) (captured:=#[vP b3]) (cB 143) rfl (S1 x time b3 g' (aB.mono h)))) fun g1 _ aH aE=>?_;replace hs:=hs.call aH;have ag:=aH.le;obtain⟨aj,aq,aB,cF⟩:=dU ag aj aq aB cF;unfold yd;generalize dI lI (b.x7.filter (Gx time))=l at*;obtain⟨a,c,rfl⟩:=aE.isSlice;have hlen:=aE.ef;unfold maxLen at hlen;clear aA aq aB aH;refine aF rfl<|aw ?_
 refine aZ (fun m a' w=> ∃(i:Nat) (g':G),w=g'.w∧St g g' [.obj bm (fy (iv ((l.take i).foldl (fun m f=>sM f m) [])))]∧G.le g g'∧Rs g' (.slice a l.length c) l∧EP g' b5 0 [.map (some bm)]∧i≤l.length∧m=l.length-i∧
   Fr 25 [] [(5,vP b5),(6,.func (.func 142) #[] #[vP b5]),(14,.slice a l.length c),(15,vI (l.length:Nat)),(16,vI (i:Nat))] a') l.length
  (fun a' ha=>⟨0,_,rfl,hs,aj,aE,cF,aar _,rfl,ha.kp rfl⟩) ?_
 clear hs aE aj cF;rintro m a' _ ⟨i,g',rfl,hs,aj,aE,cF,hi,rfl,dT⟩;revert a';refine bT<|aD rfl<|ak ?_;by_cases aV:i<l.length
 ·refine aG (b:=decide ((i:Int)<(l.length:Int))) (decide_eq_true (by omega)) rfl ?_;have eI:dq l (i:Int)=some l[i]:=bM rfl aV;have ed:(l.take (i+1)).foldl (fun m f=>sM f m) []=sM l[i] ((l.take i).foldl (fun m f=>sM f m) []):=by rw[aaV,aas aV,abK];rfl
  generalize(l.take i).foldl (fun m f=>sM f m) []=M at*;generalize l[i]=x at*;refine ar<|ai<|ak<|aw<|cO<|fP (y:=x) aE eI rfl ?_;rintro b q ys aK rfl;have aq:=aK;clear aK;refine dE 1 [.e aq 0] rfl<|fA hs rfl fun b8 g1 hs ag=>?_;obtain⟨aj,cF,aE⟩:=eS ag aj cF aE;refine om 0 hs rfl fun g2 hs ag aB=>?_;obtain⟨aj,cF,aE⟩:=eS ag aj cF aE;replace hs:St g _ [.obj bm (fy (iv M))]:=hs;refine bE<|ah<|dE 2 [.z aB] rfl<|nb rfl (Qv x b5 bm M cF hs) ?_;clear hs;rintro g6 _ ag ⟨rfl,hs⟩;obtain⟨aj,cF,aE⟩:=eS ag aj cF aE;exact an<|aX<|ai<|ah<|Wp 2 rfl<|an<|fun a ha=>⟨l.length-(i+1),by omega,i+1,g6,rfl,by rw[ed];exact hs,aj,aE,cF,by omega,rfl,ha.keep ⟨rfl,rfl,rfl,rfl,kW rfl,trivial⟩⟩
 refine bg (b:=decide ((i:Int)<(l.length:Int))) (decide_eq_false (by omega)) rfl ?_;rw[aaD (by omega)]at hs;refine aJ<|aM<|aM<|b_<|ai<|pW [.z cF] rfl ?_;obtain⟨g7,Fe,EM,ag,hm⟩:=Ko hs (i:=0) rfl;rw[←Fe];exact au (eC rfl (EM.ret ⟨bm,rfl,hm⟩))
def qj(b:ft)(mark time:Int):Int:=if jH mark then C0 (yd b time) mark else 0
theorem O'(v:Value)(b:ft)(mark time:Int)(g:G)(aL:gJ g v b)(hb:xF b):cN prog 30 #[v,vI mark,vI time] g fun _ r=>r=vI (qj b mark time):=by
 have hs:=St.start g;have aj:=G.le.refl g;obtain⟨sl,rfl,ee⟩:=aL;have aL:gJ g (.agg ((List.range 11).map sl).toArray) b:=⟨sl,rfl,ee⟩;refine enter func30 rfl ntmps30 rfl<|cO<|gF hs rfl fun b2 g2 hs ag aq=>?_;replace aL:=aL.mono ag;refine aF rfl<|ak<|ck 1 rfl<|d_ rfl (yU mark _) ?_;rintro g1 _ aH rfl;replace hs:=hs.call aH;have ag:=aH.le;obtain⟨aq,aL⟩:=cA ag aq aL;unfold qj;cases jH mark with
 |false=>
  exact aF rfl<|bZ rfl<|aD rfl<|au (cg rfl hs rfl)
 |true=>
  refine aF rfl<|bI rfl<|ar<|ai<|eO 2 [.z aq] rfl ?_;clear aH;refine d_ rfl (V' _ b time _ aL hb) ?_;rintro g1 _ aH ⟨bm,rfl,hm⟩;replace hs:=hs.call aH;have ag:=aH.le;refine Wp 1 rfl ?_;clear aH;refine d_ rfl (vS bm (yd b time) mark _ hm.2) ?_;rintro g2 _ aH rfl;replace hs:=hs.call aH;exact aF rfl<|au (cg rfl hs rfl)
def mO(b:ft)(w:Int):List bc:=if jH w then dI lI (b.procs.filter fun f=>qj b f.waf f.time==w)else []
theorem NL(x:bc)(_v:Value)(b:ft)(w:Int)(b1 b2:Nat)(sl:Nat→Value)(g:G)(aq:EP g b1 0 ((List.range 11).map sl))(aB:EP g b2 0 [vI w])(aL:gJ g (.agg ((List.range 11).map sl).toArray) b)(hb:xF b):
  cN prog 85 #[fv x,vP b1,vP b2] g fun _ r=>r= .bool (qj b x.waf x.time==w):=by
 have hs:=St.start g;have aj:=G.le.refl g;refine enter func85 rfl ntmps85 rfl<|cO<|gF hs rfl fun b3 g2 hs ag cF=>?_;obtain⟨aq,aB,aL⟩:=eS ag aq aB aL;refine aF rfl<|ak ?_;apply aO hs (cV []) 8 [(7,12)] (by kernel_rfl) rfl
 ·exact mX [[],[],[1],[],[3],[0,2,4],[],[5,6]] [.z aq,.z cF,.z cF,.c (cB 30) fun g' h=>O' (.agg ((List.range 11).map sl).toArray) b x.waf x.time g' (aL.mono h) hb,.z aB] hs rfl
 clear hs;intro g6 hs ag;exact aF rfl<|au (cg rfl hs rfl)
theorem Kz(v:Value)(b:ft)(w:Int)(g:G)(aL:gJ g v b)(hb:xF b):cN prog 31 #[v,vI w] g fun g' r=>Rs g' r (mO b w):=by
 have hs:=St.start g;have aj:=G.le.refl g;obtain⟨sl,rfl,ee⟩:=aL;have aL:gJ g (.agg ((List.range 11).map sl).toArray) b:=⟨sl,rfl,ee⟩;have aA:=ee 0 (by decide);refine enter func31 rfl ntmps31 rfl<|cO<|gF hs rfl fun b2 g2 hs ag aq=>?_;obtain⟨aA,aL⟩:=cA ag aA aL;refine gF hs rfl fun b3 g2 hs ag aB=>?_;obtain⟨aq,aA,aL⟩:=eS ag aq aA aL;refine aF rfl<|ak<|eO 1 [.z aB] rfl<|d_ rfl (yU w _) ?_;rintro g1 _ aH rfl;replace hs:=hs.call aH;have ag:=aH.le;obtain⟨aq,aB,aA,aL⟩:=dU ag aq aB aA aL;unfold mO;cases jH w with
 |false=>
  exact aF rfl<|bZ rfl<|aD rfl<|au (cg rfl hs (Rs.nil _))
 |true=>
  refine aF rfl<|bI rfl<|ar<|ai<|eO 3 [.z aq] rfl ?_;clear aH;refine d_ rfl (A6 _ _ b.procs (fun f=>qj b f.waf f.time==w) _ aA (hb 0) (fun g' x _ h=>dF (first:=#[]) (args:=[fv x]) (captured:=#[vP b2,vP b3]) (cB 85) rfl (NL x (.agg ((List.range 11).map sl).toArray) b w b2 b3 sl g' (aq.mono h) (aB.mono h) (aL.mono h) hb))) fun g1 _ aH aE=>?_;replace hs:=hs.call aH;have ag:=aH.le;exact aF rfl<|au (cg rfl hs aE)
def vy(w time:Int)(f:bc):Bool:=((jH w&&f.waf==w)&&decide (f.time≤time))
def mv(w time:Int)(o:Option bc)(f:bc):Option bc:=if vy w time f&&(match o with|none=>true|some h=>decide (h.time<f.time))then some f else o
def oM(b:ft)(w time:Int):Option bc:=b.lU.foldl (mv w time) none
def DC(g:G)(v:Value):Option bc→Prop
 |none=>v= .pointer none
 |some f=> ∃b p,v= .pointer (some ⟨b,p,none⟩)∧EP g b p (bK f)
theorem DC.mono{g g':G}{v:Value}: ∀{o:Option bc},DC g v o→g.le g'→DC g' v o
 |none,h,_=>h
 |some _,⟨b,p,e,h⟩,hle=>⟨b,p,e,h.mono hle⟩
theorem O9(v:Value)(b:ft)(w time:Int)(g:G)(aL:gJ g v b):cN prog 98 #[v,vI w,vI time] g fun _ r=>r= .tuple #[vI ((oM b w time).getD fS).lot,vI ((oM b w time).getD fS).prod]:=by
 have hs:=St.start g;have aj:=G.le.refl g;obtain⟨sl,rfl,ee⟩:=aL;have aA:Rs g (sl 3) b.lU:=ee 3 (by decide);obtain⟨a,c,Ak⟩:=aA.isSlice;have hlen:=aA.ef;unfold maxLen at hlen;refine enter func98 rfl ntmps98 rfl<|cO<|gF hs rfl fun b2 g2 hs ag aq=>?_;obtain⟨aj,aA⟩:=cA ag aj aA;refine aF rfl<|aD rfl<|ak<|eO 2 [.z aq] rfl<|cT (.slice a b.lU.length c) (t:=12) rfl Ak ?_;rw[Ak]at aA;refine aF rfl<|aw ?_;replace hs:St g _ []:=hs
 refine aZ (fun m a' w'=> ∃(i:Nat) (v8:Value) (o:Option bc) (g':G),w'=g'.w∧St g g' []∧G.le g g'∧Rs g' (.slice a b.lU.length c) b.lU∧EP g' b2 0 ((List.range 11).map sl)∧DC g' v8 o∧i≤b.lU.length∧(b.lU.take i).foldl (mv w time) none=o∧m=b.lU.length-i∧
   Fr 61 [] [(1,vI w),(2,vI time),(3,vP b2),(8,v8),(12,.slice a b.lU.length c),(13,vI (b.lU.length:Nat)),(14,vI (i:Nat))] a') b.lU.length
  (fun a' ha=>⟨0,.pointer none,none,_,rfl,hs,aj,aA,aq,rfl,aar _,rfl,rfl,ha.kp rfl⟩) ?_
 clear hs aA aj aq;rintro m a' _ ⟨i,v8,o,g',rfl,hs,aj,aA,aq,xz,hi,mH,rfl,dT⟩;revert a';refine bT<|aD rfl<|ak ?_;by_cases aV:i<b.lU.length
 ·refine aG (b:=decide ((i:Int)<(b.lU.length:Int))) (decide_eq_true (by omega)) rfl ?_;have eI:dq b.lU (i:Int)=some b.lU[i]:=bM rfl aV;have ed:(b.lU.take (i+1)).foldl (mv w time) none=mv w time o b.lU[i]:=by rw[aaV,aas aV,abK,mH];rfl
  generalize b.lU[i]=x at*;clear mH;refine ar<|ai<|ak<|aw<|ck 1 rfl<|fP (y:=x) aA eI rfl ?_;rintro b9 q9 ys aK rfl;have aB:=aK;clear aK;refine dE 1 [.e aB 0] rfl<|fA hs rfl fun PG g1 hs ag=>?_;obtain⟨aj,aq,aB,aA⟩:=dU ag aj aq aB aA;replace xz:=xz.mono ag;refine Wp 1 rfl<|dC 0 hs rfl fun g1 hs ag=>?_;obtain⟨aj,aq,aB,aA⟩:=dU ag aj aq aB aA;replace xz:=xz.mono ag;obtain⟨g2,fm,dm,ag,aK⟩:=hs.fM (i:=0) rfl;replace hs:=dm;clear dm;rw[←fm];obtain⟨aj,aq,aB,aA⟩:=dU ag aj aq aB aA;replace xz:=xz.mono ag;clear aB;have aB:=aK;clear aK;replace hs:St g _ []:=hs;refine bE<|ak ?_;have hid:=fun g'=>yU w g'
  cases h1:jH w with
  |false=>
   simp only[h1]at hid;apply aO hs (cV (cV (cV (eA (fe []))))) 27 [(26,45)] (by kernel_rfl) rfl
   ·exact mX [[],[0],[1,1],[2],[3,2],[2],[4,5,2],[2,6],[7],[8],[9,8],[8],[10,11,8],[8,12],[13],[14],[15,14],[16,14,14],[17],[18,17],[17],[20,17],[21,17],[22,17],[19,23,17],[17,24,14],[14,25]] [.c (cB 81) fun g' _=>hid g'] hs rfl
   clear hs;intro g6 hs ag;obtain⟨aj,aq,aB,aA⟩:=dU ag aj aq aB aA;replace xz:=xz.mono ag;refine bE<|bI rfl<|ar<|aX<|ai<|ah<|Wp 2 rfl<|an ?_;have e:mv w time o x=o:=by unfold mv vy;simp[h1]
   rw[e]at ed;exact fun a ha=>⟨b.lU.length-(i+1),by omega,i+1,v8,o,_,rfl,hs,aj,aA,aq,xz,by omega,ed,rfl,ha.keep ⟨rfl,rfl,rfl,rfl,rfl,rfl,kW rfl,trivial⟩⟩
  |true=>
   simp only[h1]at hid;cases h2:x.waf==w with
   |false=>
    apply aO hs (gR (eA (.e (.bool false)::cV (cV (gR []))))) 27 [(26,45)] (by kernel_rfl) rfl
    ·exact cY [[],[0],[1,1],[2],[3,2],[2]] [.c (cB 81) fun g' _=>hid g',.z aB] hs rfl<|aW [(4,23),(5,24),(2,21)] (fun gd hf=>dD rfl (bj rfl (congrArg Value.bool h2)))<|mX [[2,6],[7],[8],[9,8],[8],[10,11,8],[8,12],[13],[14],[15,14],[16,14,14],[17],[18,17],[17],[20,17],[21,17],[22,17],[19,23,17],[17,24,14],[14,25]] [] hs rfl
    clear hs;intro g6 hs ag;obtain⟨aj,aq,aB,aA⟩:=dU ag aj aq aB aA;replace xz:=xz.mono ag;refine bE<|bI rfl<|ar<|aX<|ai<|ah<|Wp 2 rfl<|an ?_;have e:mv w time o x=o:=by unfold mv vy;simp[h1,h2]
    rw[e]at ed;exact fun a ha=>⟨b.lU.length-(i+1),by omega,i+1,v8,o,_,rfl,hs,aj,aA,aq,xz,by omega,ed,rfl,ha.keep ⟨rfl,rfl,rfl,rfl,rfl,rfl,kW rfl,trivial⟩⟩
   |true=>
    cases h3:decide (x.time≤time)with
    |false=>
     apply aO hs (gR (eA (.e (.bool true)::gR (fe (.e (.bool false)::cV (gR (eA []))))))) 27 [(26,45)] (by kernel_rfl) rfl
     ·exact cY [[],[0],[1,1],[2],[3,2],[2]] [.c (cB 81) fun g' _=>hid g',.z aB] hs rfl<|aW [(4,23),(5,24),(2,21)] (fun gd hf=>dD rfl (bj rfl (congrArg Value.bool h2)))<|cY [[2,6],[7],[8],[9,8],[8]] [.z aB] hs rfl<|aW [(10,29),(11,30),(8,27)] (fun gd hf=>dD rfl (bj rfl (congrArg Value.bool h3)))<|mX [[8,12],[13],[14],[15,14],[16,14,14],[17],[18,17],[17],[20,17],[21,17],[22,17],[19,23,17],[17,24,14],[14,25]] [] hs rfl
     clear hs;intro g6 hs ag;obtain⟨aj,aq,aB,aA⟩:=dU ag aj aq aB aA;replace xz:=xz.mono ag;refine bE<|bI rfl<|ar<|aX<|ai<|ah<|Wp 2 rfl<|an ?_;have e:mv w time o x=o:=by unfold mv vy;simp[h1,h2,of_decide_eq_false h3]
     rw[e]at ed;exact fun a ha=>⟨b.lU.length-(i+1),by omega,i+1,v8,o,_,rfl,hs,aj,aA,aq,xz,by omega,ed,rfl,ha.keep ⟨rfl,rfl,rfl,rfl,rfl,rfl,kW rfl,trivial⟩⟩
    |true=>
     cases o with
     |none=>
      obtain rfl:v8= .pointer none:=xz;have he:mv w time none x=some x:=by unfold mv vy;rw[h1,h2,h3];rfl
      apply aO hs (gR (eA (.e (.bool true)::gR (fe (.e (.bool true)::cV (gR (eA []))))))) 27 [(26,45)] (by kernel_rfl) rfl
      ·exact cY [[],[0],[1,1],[2],[3,2],[2]] [.c (cB 81) fun g' _=>hid g',.z aB] hs rfl<|aW [(4,23),(5,24),(2,21)] (fun gd hf=>dD rfl (bj rfl (congrArg Value.bool h2)))<|cY [[2,6],[7],[8],[9,8],[8]] [.z aB] hs rfl<|aW [(10,29),(11,30),(8,27)] (fun gd hf=>dD rfl (bj rfl (congrArg Value.bool h3)))<|cY [[8,12],[13],[14]] [] hs rfl<|aW [(15,34),(14,33)] (fun gd hf=>bN rfl (ay rfl (jx T.ok (neg:=false) rfl rfl rfl rfl rfl (cC rfl))))<|mX [[16,14,14],[17],[18,17],[17],[20,17],[21,17],[22,17],[19,23,17],[17,24,14],[14,25]] [] hs rfl
      clear hs;intro g6 hs ag;obtain⟨aj,aq,aB,aA⟩:=dU ag aj aq aB aA;refine bE<|bZ rfl<|ah<|dE 3 [.z aq] rfl<|cT (.slice a b.lU.length c) (t:=47) rfl Ak<|fP (y:=x) aA eI rfl ?_;rintro b6 q6 ys aK rfl;refine Wp 1 rfl<|an<|aX<|ai<|ah<|Wp 2 rfl<|an ?_;rw[he]at ed;exact fun a ha=>⟨b.lU.length-(i+1),by omega,i+1,.pointer (some ⟨b6,q6,none⟩),some x,_,rfl,hs,aj,aA,aq,⟨b6,q6,rfl,aK⟩,by omega,ed,rfl,ha.keep ⟨rfl,rfl,rfl,rfl,rfl,rfl,kW rfl,trivial⟩⟩
     |some h=>
      obtain⟨b8,p8,rfl,KM⟩:=xz;apply aO hs (gR (eA (.e (.bool true)::gR (fe (.e (.bool true)::cV (gR (eA []))))))) 27 [(26,45)] (by kernel_rfl) rfl
      ·exact cY [[],[0],[1,1],[2],[3,2],[2]] [.c (cB 81) fun g' _=>hid g',.z aB] hs rfl<|aW [(4,23),(5,24),(2,21)] (fun gd hf=>dD rfl (bj rfl (congrArg Value.bool h2)))<|cY [[2,6],[7],[8],[9,8],[8]] [.z aB] hs rfl<|aW [(10,29),(11,30),(8,27)] (fun gd hf=>dD rfl (bj rfl (congrArg Value.bool h3)))<|cY [[8,12],[13],[14]] [] hs rfl<|aW [(15,34),(14,33)] (fun gd hf=>bN rfl (ay rfl (jx T.ok (neg:=false) rfl rfl rfl rfl rfl (cC rfl))))<|mX [[16,14,14],[17],[18,17],[17],[20,17],[21,17],[22,17],[19,23,17],[17,24,14],[14,25]] [.z aB,.e KM 5] hs rfl
      cases h4:decide (h.time<x.time)with
      |false=>
       have xz:DC _ (.pointer (some ⟨b8,p8,none⟩)) (some h):=⟨b8,p8,rfl,KM⟩;obtain⟨v8,hv8⟩: ∃v,v=Value.pointer (some ⟨b8,p8,none⟩):=⟨_,rfl⟩;rw[←hv8]at xz⊢;obtain⟨o,ho⟩: ∃o,o=some h:=⟨_,rfl⟩;rw[←ho]at xz ed;clear hs;intro g6 hs ag;obtain⟨aj,aq,aA⟩:=eS ag aj aq aA;replace xz:=xz.mono ag;refine bE<|bI rfl<|ar<|aX<|ai<|ah<|Wp 2 rfl<|an ?_;have e:mv w time o x=o:=by unfold mv vy;simp[h1,h2,h3,h4,ho]
       rw[e]at ed;exact fun a ha=>⟨b.lU.length-(i+1),by omega,i+1,v8,o,_,rfl,hs,aj,aA,aq,xz,by omega,ed,rfl,ha.keep ⟨rfl,rfl,rfl,rfl,rfl,rfl,kW rfl,trivial⟩⟩
      |true=>
       have he:mv w time (some h) x=some x:=by unfold mv vy;rw[h1,h2,h3];exact if_pos h4
       clear hs;intro g6 hs ag;obtain⟨aj,aq,aA⟩:=eS ag aj aq aA;refine bE<|bZ rfl<|ah<|dE 3 [.z aq] rfl<|cT (.slice a b.lU.length c) (t:=47) rfl Ak<|fP (y:=x) aA eI rfl ?_;rintro b6 q6 ys aK rfl;refine Wp 1 rfl<|an<|aX<|ai<|ah<|Wp 2 rfl<|an ?_;rw[he]at ed;exact fun a ha=>⟨b.lU.length-(i+1),by omega,i+1,.pointer (some ⟨b6,q6,none⟩),some x,_,rfl,hs,aj,aA,aq,⟨b6,q6,rfl,aK⟩,by omega,ed,rfl,ha.keep ⟨rfl,rfl,rfl,rfl,rfl,rfl,kW rfl,trivial⟩⟩
 refine bg (b:=decide ((i:Int)<(b.lU.length:Int))) (decide_eq_false (by omega)) rfl ?_;rw[aaD (by omega)]at mH;unfold oM;rw[mH];clear mH;refine aJ<|aM<|aM<|b_<|ai<|ak<|ck 1 rfl ?_;cases o with
 |none=>
  obtain rfl:v8= .pointer none:=xz;exact aN rfl rfl<|jx T.ok (neg:=false) rfl rfl rfl rfl rfl<|bE<|bZ rfl<|aD rfl<|au (uv rfl rfl rfl (hs.ret rfl))
 |some h=>
  obtain⟨b8,p8,rfl,KM⟩:=xz;refine aN rfl rfl<|jx T.ok (neg:=false) rfl rfl rfl rfl rfl<|bE<|bI rfl<|ar<|ai<|ak<|tD (l':=[(8,.pointer (some ⟨b8,p8,none⟩))]) (by(repeat (first|exact trivial|refine⟨rfl,?_⟩))) ?_;apply aO hs (cV (fe [])) 9 [(8,6),(7,60)] (by kernel_rfl) rfl
  ·exact mX [[],[0],[1],[2],[],[4],[5],[6],[3,3]] [.e KM 9,.e KM 10] hs rfl
  clear hs;intro g6 hs ag;exact aF rfl<|au (uv rfl rfl rfl (hs.ret rfl))
structure sU where
 want:Int
 shift:Int
 is:Int
def sU.cells(c:sU):List Value:=[vI c.want,vI c.shift,vI c.is]
instance:El sU where
 k:=3
 pos:=by omega
 rc _ cs c:=cs=c.cells
 len h:=by rw[h];rfl
 mono _ h:=h
 one h:=by rw[h];simp[sU.cells,Value.oneCell']
abbrev sU.v(c:sU):Value:=.agg c.cells.toArray
def sq(c:sU):Bool:=c.want==0||(decide (c.is≤c.want)&&(IntKind.i64.wrap (c.want-c.shift)==c.is))
theorem NM(c:sU)(g:G):cN prog 278 #[c.v] g fun _ r=>r= .bool (sq c):=by
 have hs:=St.start g;refine enter func278 rfl ntmps278 rfl<|cO<|gF hs rfl fun b1 g2 hs ag aq=>aF rfl<|eO 4 [.z aq] rfl ?_;unfold sq;cases c.want==0 with
 |true=>
  exact aF rfl<|au (cg rfl hs rfl)
 |false=>
  refine dE 6 [.z aq,.z aq] rfl ?_;cases decide (c.is≤c.want)with
  |true=>
   exact BS [.z aq,.z aq,.z aq] rfl<|au (cg rfl hs rfl)
  |false=>
   exact aF rfl<|au (cg rfl hs rfl)
theorem KN(c:sU)(g:G):cN prog 277 #[c.v] g fun _ r=>r= .bool (!sq c):=by have hs:=St.start g;exact enter func277 rfl ntmps277 rfl<|cO<|gF hs rfl fun b1 g2 hs ag aq=>aF rfl<|eO 1 [.z aq] rfl<|jN rfl (NM c _) hs fun g1 hs ag=>aF rfl<|au (cg rfl hs rfl)
theorem KO(v:Value)(l:List sU)(g:G)(hl:Rs g v l):
  cN prog 288 #[v,.func (.func 277) #[] #[]] g fun _ r=>r=vI (ox (fun c=> !sq c) l):=by
 obtain⟨a,c,rfl⟩:=hl.isSlice;have hlen:=hl.ef;unfold maxLen at hlen;have hs:=St.start g;refine enter func288 rfl ntmps288 rfl<|aD rfl<|ak<|aD rfl<|aw ?_;refine aZ (fun m a' w=> ∃(k:Nat) (g':G),w=g'.w∧St g g' []∧G.le g g'∧k≤l.length∧m=l.length-k∧(∀j (h:j<l.length),j<k→(!sq l[j])=false)∧
  Fr 19 [] [(0,.slice a l.length c),(1,.func (.func 277) #[] #[]),(7,vI l.length),(8,vI k)] a') l.length (fun a' ha=>⟨0,g,rfl,hs,G.le.refl g,aar _,rfl,by simp,ha.kp rfl⟩) ?_
 clear hs;rintro m a' _ ⟨k,g',rfl,hs,aj,hk,rfl,dt,dT⟩;revert a';refine bT<|aD rfl<|ak ?_;by_cases aV:k<l.length
 ·refine aG (b:=decide ((k:Int)<(l.length:Int))) (by simp;omega) rfl<|ar<|ai<|ak<|aw<|aD rfl<|ck 3 rfl<|fP (y:=l[k]) (hl.mono aj) (by simp[dq,aV]) rfl ?_;rintro b q ys aK rfl;refine dE 1 [.e aK 0] rfl<|jN rfl (KN l[k] _) hs fun g1 hs ag=>?_;replace aj:=G.le.trans aj ag;apply bE;cases Cc:sq l[k]with
  |false=>
   exact bZ rfl<|aD rfl<|au (cg rfl hs (by rw[xP (p:=fun c=> !sq c) aV (by simp only[Cc];rfl) dt]))
  |true=>
   refine bI rfl<|ar<|aX<|ai<|ah<|Wp 2 rfl<|an<|fun a ha=>⟨l.length-(k+1),by omega,k+1,_,rfl,hs,aj,by omega,rfl,?_,ha.keep ⟨rfl,rfl,rfl,kW rfl,trivial⟩⟩
   intro j hj ER;by_cases e:j=k
   ·subst e;rw[Cc];rfl
   exact dt j hj (by omega)
 refine bg (b:=decide ((k:Int)<(l.length:Int))) (by simp;omega) rfl<|aJ<|aM<|aM<|b_<|ai<|aD rfl ?_;obtain rfl:k=l.length:=by omega
 exact au (cg rfl hs (by rw[xQ (p:=fun c=> !sq c) fun j h=>dt j h h]))
theorem DD(v:Value)(l:List sU)(g:G)(hl:Rs g v l):cN prog 252 #[v] g fun _ r=>r= .bool (l.all sq):=by
 have h1:cN prog 276 #[v,.func (.func 277) #[] #[]] g fun _ r=>r= .bool (l.any fun c=> !sq c):=by have hs:=St.start g;exact enter func276 rfl ntmps276 rfl<|aD rfl<|ck 2 rfl<|jN rfl (KO _ l g hl) hs fun g1 hs ag=>aF rfl<|au (cg rfl hs (by rw[←qQ]))
 have hs:=St.start g;exact enter func252 rfl ntmps252 rfl<|aD rfl<|ck 1 rfl<|jN rfl (h1) hs fun g1 hs ag=>aF rfl<|au (cg rfl hs (congrArg Value.bool (by rw[List.all_eq_not_any_not])))
abbrev je(f:bc)(bb:Nat):List Value:=bK f++[vP bb]
abbrev M5(f:bc)(bb:Nat):Value:=.agg (je f bb).toArray
def vv(f:bc)(time:Int):Bool:=(f.kind==7&&decide (f.time≤time))&&decide (time≤f.til)
theorem NN(f:bc)(bb:Nat)(time:Int)(g:G):cN prog 275 #[M5 f bb,vI time] g fun _ r=>r= .bool (vv f time):=by
 have hs:=St.start g;refine enter func275 rfl ntmps275 rfl<|cO<|gF hs rfl fun b1 g2 hs ag aq=>aF rfl<|eO 5 [.z aq] rfl ?_;unfold vv;cases f.kind==7 with
 |false=>
  exact aF rfl<|au (cg rfl hs rfl)
 |true=>
  refine dE 7 [.z aq] rfl ?_;cases decide (f.time≤time)with
  |false=>
   exact aF rfl<|au (cg rfl hs rfl)
  |true=>
   exact BS [.z aq] rfl<|au (cg rfl hs rfl)
def BV(b:ft)(f:bc)(w time:Int):List sU:=[⟨f.waf,0,w⟩,⟨f.lot,0,((oM b w time).getD fS).lot⟩]
def vu(b:ft)(f:bc)(w time:Int):Bool:=vv f time&&(BV b f w time).all sq
theorem NO(f:bc)(bb:Nat)(b:ft)(sl:Nat→Value)(w time:Int)(g:G)(aq:EP g bb 0 ((List.range 11).map sl))(aL:gJ g (.agg ((List.range 11).map sl).toArray) b):
  cN prog 251 #[M5 f bb,vI w,vI time] g fun _ r=>r= .bool (vu b f w time):=by
 have hs:=St.start g;have aj:=G.le.refl g;refine enter func251 rfl ntmps251 rfl<|cO<|gF hs rfl fun b1 g2 hs ag aB=>?_;obtain⟨aq,aL⟩:=cA ag aq aL;refine aF rfl<|eO 6 [.z aB,.z aq] rfl<|d_ rfl (O9 _ b w time _ aL) ?_;rintro g1 _ aH rfl;replace hs:=hs.call aH;have ag:=aH.le;replace aB:=aB.mono ag;refine aF rfl<|eO 2 [.z aB] rfl ?_;clear aH;refine d_ rfl (NN f bb time _) ?_;rintro g1 _ aH rfl;replace hs:=hs.call aH;have ag:=aH.le;replace aB:=aB.mono ag;unfold vu;cases vv f time with
 |false=>
  exact aF rfl<|au (cg rfl hs rfl)
 |true=>
  refine dE 5 [.z aB] rfl<|hZ [(0,vI (f.waf)),(1,vI 0),(2,vI (w))] ((sU.mk (f.waf) 0 (w)).cells) [(0,1),(1,1),(2,1)] rfl<|dE 4 [.z aB] rfl<|hZ [(0,vI (f.lot)),(1,vI 0),(2,vI (((oM b w time).getD fS).lot))] ((sU.mk (f.lot) 0 (((oM b w time).getD fS).lot)).cells) [(0,1),(1,1),(2,1)] rfl<|iX [(0,(sU.mk f.waf 0 w).v),(1,(sU.mk f.lot 0 ((oM b w time).getD fS).lot).v)] ((sU.mk f.waf 0 w).cells++(sU.mk f.lot 0 ((oM b w time).getD fS).lot).cells) hs rfl rfl fun bl gl hs ag=>?_;obtain⟨gz,gX,dk,iw,H_⟩:=hs.cD (α:=sU) (xs:=BV b f w time) (i:=0) rfl ⟨_,_,rfl,rfl,_,_,(aaI _).symm,rfl,rfl⟩;clear ag;have ag:=iw;rw[←gX];replace hs:=dk;clear dk;clear aH;exact jN rfl (DD _ (BV b f w time) _ H_) hs fun g1 hs ag=>aF rfl<|au (cg rfl hs rfl)
def oo(a:gW):List Value:=[vI a.waf,vI a.step,vI a.tool,vI a.cham,vI a.rcp,vI a.rvn,vI a.time]
abbrev EL(a:gW):Value:=.agg (oo a).toArray
def yr(f:bc)(a:gW):List sU:=[⟨f.tool,1,a.tool⟩,⟨f.cham,1,a.cham⟩,⟨f.step,1,a.step⟩,⟨f.rcp,0,a.rcp⟩,⟨f.rvn,0,a.rvn⟩]
def oi(b:ft)(f:bc)(a:gW):Bool:=vu b f a.waf a.time&&(yr f a).all sq
theorem ND(f:bc)(bb:Nat)(b:ft)(sl:Nat→Value)(a:gW)(g:G)(aq:EP g bb 0 ((List.range 11).map sl))(aL:gJ g (.agg ((List.range 11).map sl).toArray) b):
  cN prog 207 #[M5 f bb,EL a] g fun _ r=>r= .bool (oi b f a):=by
 have hs:=St.start g;have aj:=G.le.refl g;refine enter func207 rfl ntmps207 rfl<|cO<|gF hs rfl fun b1 g2 hs ag aB=>?_;obtain⟨aq,aL⟩:=cA ag aq aL;refine gF hs rfl fun b2 g2 hs ag cF=>?_;obtain⟨aq,aB,aL⟩:=eS ag aq aB aL;refine aF rfl<|eO 5 [.z aB,.z cF,.z cF] rfl<|d_ rfl (NO f bb b sl a.waf a.time _ aq aL) ?_;rintro g1 _ aH rfl;replace hs:=hs.call aH;have ag:=aH.le;obtain⟨aB,cF⟩:=cA ag aB cF;unfold oi;cases vu b f a.waf a.time with
 |false=>
  exact aF rfl<|au (cg rfl hs rfl)
 |true=>
  refine dE 6 [.z aB,.z cF] rfl<|hZ [(0,vI (f.tool)),(1,vI 1),(2,vI (a.tool))] ((sU.mk (f.tool) 1 (a.tool)).cells) [(0,1),(1,1),(2,1)] rfl<|dE 5 [.z aB,.z cF] rfl<|hZ [(0,vI (f.cham)),(1,vI 1),(2,vI (a.cham))] ((sU.mk (f.cham) 1 (a.cham)).cells) [(0,1),(1,1),(2,1)] rfl<|dE 5 [.z aB,.z cF] rfl<|hZ [(0,vI (f.step)),(1,vI 1),(2,vI (a.step))] ((sU.mk (f.step) 1 (a.step)).cells) [(0,1),(1,1),(2,1)] rfl<|dE 5 [.z aB,.z cF] rfl<|hZ [(0,vI (f.rcp)),(1,vI 0),(2,vI (a.rcp))] ((sU.mk (f.rcp) 0 (a.rcp)).cells) [(0,1),(1,1),(2,1)] rfl<|dE 5 [.z aB,.z cF] rfl<|hZ [(0,vI (f.rvn)),(1,vI 0),(2,vI (a.rvn))] ((sU.mk (f.rvn) 0 (a.rvn)).cells) [(0,1),(1,1),(2,1)] rfl<|iX [(0,(sU.mk f.tool 1 a.tool).v),(1,(sU.mk f.cham 1 a.cham).v),(2,(sU.mk f.step 1 a.step).v),(3,(sU.mk f.rcp 0 a.rcp).v),(4,(sU.mk f.rvn 0 a.rvn).v)] ((yr f a).flatMap sU.cells) hs rfl rfl fun bl gl hs ag=>?_;obtain⟨gz,gX,dk,iw,H_⟩:=hs.cD (α:=sU) (xs:=yr f a) (i:=0) rfl ⟨_,_,rfl,rfl,_,_,rfl,rfl,_,_,rfl,rfl,_,_,rfl,rfl,_,_,(aaI _).symm,rfl,rfl⟩;clear ag;have ag:=iw;rw[←gX];replace hs:=dk;clear dk;clear aH;exact jN rfl (DD _ (yr f a) _ H_) hs fun g1 hs ag=>aF rfl<|au (cg rfl hs rfl)
def pX(id time:Int)(n:Int)(r:bc):Int:=if r.oth==id&&decide (r.time≤time)then bG .i64 n r.par else n
def mw(b:ft)(id time:Int):Int:=b.mK.foldl (pX id time) 0
theorem Ib(bb:Nat)(b:ft)(sl:Nat→Value)(id time:Int)(g:G)(aq:EP g bb 0 ((List.range 11).map sl))(aA:Rs g (sl 7) b.mK):
  cN prog 253 #[vP bb,vI id,vI time] g fun _ r=>r=vI (mw b id time):=by
 have hs:=St.start g;have aj:=G.le.refl g;obtain⟨a,c,Ak⟩:=aA.isSlice;have hlen:=aA.ef;unfold maxLen at hlen;refine enter func253 rfl ntmps253 rfl<|aD rfl<|ak<|eO 4 [.z aq] rfl<|cT (.slice a b.mK.length c) (t:=12) rfl Ak ?_;rw[Ak]at aA;refine aF rfl<|aw ?_
 refine aZ (fun m a' w'=> ∃(i:Nat) (n:Int) (g':G),w'=g'.w∧St g g' []∧G.le g g'∧Rs g' (.slice a b.mK.length c) b.mK∧i≤b.mK.length∧(b.mK.take i).foldl (pX id time) 0=n∧m=b.mK.length-i∧
   Fr 34 [] [(1,vI id),(2,vI time),(6,vI n),(12,.slice a b.mK.length c),(13,vI (b.mK.length:Nat)),(14,vI (i:Nat))] a') b.mK.length
  (fun a' ha=>⟨0,0,_,rfl,hs,aj,aA,aar _,rfl,rfl,ha.kp rfl⟩) ?_
 clear hs aA aj aq;rintro m a' _ ⟨i,n,g',rfl,hs,aj,aA,hi,mH,rfl,dT⟩;revert a';refine bT<|aD rfl<|ak ?_;by_cases aV:i<b.mK.length
 ·refine aG (b:=decide ((i:Int)<(b.mK.length:Int))) (decide_eq_true (by omega)) rfl ?_;have eI:dq b.mK (i:Int)=some b.mK[i]:=bM rfl aV;have ed:(b.mK.take (i+1)).foldl (pX id time) 0=pX id time n b.mK[i]:=by rw[aaV,aas aV,abK,mH];rfl
  generalize b.mK[i]=x at*;clear mH;refine ar<|ai<|ak<|aw<|cO<|fP (y:=x) aA eI rfl ?_;rintro b9 q9 ys aK rfl;have aq:=aK;clear aK;refine dE 1 [.e aq 0] rfl<|fA hs rfl fun b8 g1 hs ag=>?_;obtain⟨aj,aA⟩:=cA ag aj aA;refine om 0 hs rfl fun g2 hs ag aB=>?_;obtain⟨aj,aA⟩:=cA ag aj aA;clear aq;replace hs:St g _ []:=hs;refine bE<|eO 5 [.z aB] rfl ?_;unfold pX at ed;cases h1:x.oth==id with
  |false=>
   rw[h1]at ed;exact aF rfl<|bI rfl<|ar<|aX<|ai<|ah<|Wp 2 rfl<|an<|fun a ha=>⟨b.mK.length-(i+1),by omega,i+1,n,_,rfl,hs,aj,aA,by omega,ed,rfl,ha.keep ⟨rfl,rfl,rfl,rfl,rfl,kW rfl,trivial⟩⟩
  |true=>
   rw[h1]at ed;refine BS [.z aB] rfl ?_;cases h2:decide (x.time≤time)with
   |false=>
    rw[h2]at ed;exact bI rfl<|ar<|aX<|ai<|ah<|Wp 2 rfl<|an<|fun a ha=>⟨b.mK.length-(i+1),by omega,i+1,n,_,rfl,hs,aj,aA,by omega,ed,rfl,ha.keep ⟨rfl,rfl,rfl,rfl,rfl,kW rfl,trivial⟩⟩
   |true=>
    rw[h2]at ed;exact bZ rfl<|ah<|dE 5 [.z aB] rfl<|an<|aX<|ai<|ah<|Wp 2 rfl<|an<|fun a ha=>⟨b.mK.length-(i+1),by omega,i+1,_,_,rfl,hs,aj,aA,by omega,ed,rfl,ha.keep ⟨rfl,rfl,rfl,rfl,rfl,kW rfl,trivial⟩⟩
 refine bg (b:=decide ((i:Int)<(b.mK.length:Int))) (decide_eq_false (by omega)) rfl ?_;rw[aaD (by omega)]at mH;unfold mw;rw[mH];exact aJ<|aM<|aM<|b_<|ai<|aD rfl<|au (cg rfl hs rfl)
def AJ(b:ft)(f:bc)(time:Int):Bool:=aQ .i64 f.par (mw b f.idn time)==0
theorem Qm(f:bc)(bb:Nat)(b:ft)(sl:Nat→Value)(time:Int)(g:G)(aq:EP g bb 0 ((List.range 11).map sl))(aA:Rs g (sl 7) b.mK):
  cN prog 208 #[M5 f bb,vI time] g fun _ r=>r= .bool (AJ b f time):=by
 have hs:=St.start g;have aj:=G.le.refl g;refine enter func208 rfl ntmps208 rfl<|cO<|gF hs rfl fun b1 g2 hs ag aB=>?_;obtain⟨aq,aA⟩:=cA ag aq aA;refine aF rfl<|ak ?_;apply aO hs (cV (gR [])) 12 [(11,16)] (by kernel_rfl) rfl
 ·exact mX [[],[0],[1],[],[3],[],[5],[6],[],[4,7,8],[2,9],[10]] [.z aB,.z aB,.z aB,.c (cB 253) fun g' h=>Ib bb b sl f.idn time g' (aq.mono h) (aA.mono h)] hs rfl
 clear hs;intro g6 hs ag;exact aF rfl<|au (cg rfl hs rfl)
def vw(b:ft):List bc:=b.holds.filter fun f=>f.kind==7
theorem Kv(bp bb:Nat)(b:ft)(sl:Nat→Value)(g:G)(SS:EP g bp 0 [vP bb])(epb:EP g bb 0 ((List.range 11).map sl))(Qr:Rs g (sl 6) b.holds):
  yH prog 250 #[vP bp] (fun f=>[M5 f bb]) (vw b) g:=by
 obtain⟨a,c,Ak⟩:=Qr.isSlice;intro g1 hle yv J Jx hJ VP hy Fx;have hlen:=Qr.ef;unfold maxLen at hlen;have aj:=G.le.refl g1;have aq:=SS.mono hle;have O1:=Qr.mono hle;have aB:=epb.mono hle;have nt:=aq;refine enter func250 rfl ntmps250 rfl<|eO 4 [.z aq,.z aB] rfl<|cT (.slice a b.holds.length c) (t:=8) rfl Ak ?_;rw[Ak]at O1;refine aF rfl<|aw ?_;refine aZ (fun m a' w=> ∃(k:Nat) (g':G),w=g'.w∧G.le g1 g'∧k≤b.holds.length∧m=b.holds.length-k∧J ((b.holds.take k).filter fun f=>f.kind==7) g'∧
   Fr 26 [] [(0,yv),(1,vP bp),(8,.slice a b.holds.length c),(9,vI (b.holds.length:Nat)),(10,vI (k:Nat))] a') b.holds.length
  (fun a' ha=>⟨0,g1,rfl,aj,aar _,rfl,Fx,ha.kp rfl⟩) ?_
 clear aq aj aB;rintro m a' _ ⟨k,g',rfl,aj,hk,rfl,uE,dT⟩;have aq:=nt.mono aj;have fg:=O1.mono aj;have hs:=St.start g';revert a';refine bT<|aD rfl<|ak ?_;by_cases aV:k<b.holds.length
 ·refine aG (b:=decide ((k:Int)<(b.holds.length:Int))) (by simp;omega) rfl ?_;have eI:=bM (n:=((k:Nat):Int)) rfl aV;have th:b.holds.filter (fun f=>f.kind==7)=(b.holds.take k).filter (fun f=>f.kind==7)++([b.holds[k]].filter (fun f=>f.kind==7)++(b.holds.drop (k+1)).filter (fun f=>f.kind==7)):=by
   conv=>lhs;rw[←aaY k b.holds,aa7 aV]
   rw[abe,←acr,abe]
  have ed:(b.holds.take (k+1)).filter (fun f=>f.kind==7)=(b.holds.take k).filter (fun f=>f.kind==7)++[b.holds[k]].filter (fun f=>f.kind==7):=by rw[aaX aV,abe]
  generalize b.holds[k]=x at*;refine ar<|ai<|ak<|aw<|cO<|fP (y:=x) fg eI rfl ?_;rintro bq pq ys aK rfl;have aB:=aK;clear aK;refine dE 1 [.e aB 0] rfl<|fA hs rfl fun bx g1 hs ag=>?_;obtain⟨aj,aq,aB⟩:=eS ag aj aq aB;refine om 0 hs rfl fun g2 hs ag aK=>?_;obtain⟨aj,aq,aB⟩:=eS ag aj aq aB;clear aB;have aB:=aK;clear aK;replace hs:St g' _ []:=hs;refine bE<|eO 4 [.z aB] rfl ?_;cases h7:x.kind==7 with
  |false=>
   rw[abU,h7]at ed;refine aF rfl<|bI rfl<|ar<|aX<|ai<|ah<|Wp 2 rfl<|an<|fun a ha=>⟨b.holds.length-(k+1),by omega,k+1,_,rfl,aj,by omega,rfl,?_,ha.keep ⟨rfl,rfl,rfl,rfl,kW rfl,trivial⟩⟩
   rw[ed];simpa using hJ _ _ _ hs.p9 uE
  |true=>
   rw[abU,h7]at ed th;refine dE 3 [.z aB,.z aq] rfl<|hZ [(0,fv x),(1,vP bb)] (je x bb) [(0,19),(19,1)] rfl ?_;have ME:=hJ _ _ _ hs.p9 uE;refine aN rfl rfl (fZ rfl rfl rfl rfl rfl rfl ((hy _ x _ _ th aj ME).mono ?_));rintro _ _ ⟨g5,bv,rfl,rfl,ag,ht,hf⟩;refine⟨_,rfl,?_⟩;clear hs ME;replace aj:=G.le.trans aj ag;cases bv with
   |false=>
    exact aF rfl<|bZ rfl<|au<|iy<|ec<|ec<|iy<|tA rfl<|⟨g5,_,rfl,rfl,aj,.inr ⟨_,⟨(b.holds.drop (k+1)).filter (fun f=>f.kind==7),by rw[aaG];exact th.symm⟩,hf rfl⟩⟩
   |true=>
    exact aF rfl<|bI rfl<|ar<|aX<|ai<|ah<|Wp 2 rfl<|an<|fun a ha=>⟨b.holds.length-(k+1),by omega,k+1,_,rfl,aj,by omega,rfl,by rw[ed];exact ht rfl,ha.keep ⟨rfl,rfl,rfl,rfl,kW rfl,trivial⟩⟩
 refine bg (b:=decide ((k:Int)<(b.holds.length:Int))) (by simp;omega) rfl<|aJ<|aM<|aM<|b_<|nd rfl ⟨g',_,rfl,rfl,aj,.inl ?_⟩;rw[aaD (by omega)]at uE;exact uE
def qm(m:List Int):List (Int×Value):=m.map fun k=>(k,.agg #[])
theorem KP(m:List Int):(qm m).length=m.length:=aaS ..
theorem NP{m:List Int}{j:Nat}{q:Int×Value}(h:(qm m)[j]? =some q): ∃k,m[j]? =some k∧q=(k,.agg #[]):=by
 unfold qm at h;rw[abd]at h;cases hm:m[j]? with
 |none=>rw[hm]at h;cases h
 |some p=>rw[hm]at h;exact⟨p,rfl,(aax h).symm⟩
def qk(a:Int)(m:List Int):List Int:=if a∈m then m else m++[a]
theorem Dw(a:Int): ∀m:List Int,kX a (.agg #[]) (qm m)=qm (qk a m)
 |[]=>rfl
 |k::r=>by
  show(if a=k then(k,.agg #[])::qm r else(k,.agg #[])::kX a (.agg #[]) (qm r))=qm (qk a (k::r));unfold qk;by_cases h:a=k
  ·subst h;rw[if_pos rfl,if_pos (aaT ..)];rfl
  rw[if_neg h,Dw a r];unfold qk;by_cases h2:a∈r
  ·rw[if_pos h2,if_pos (aaR _ h2)];rfl
  rw[if_neg h2,if_neg (by simp[h,h2])];rfl
theorem SE:vM Int prog 226 (.agg #[]):=by have h:=Fq (P:=prog) (κ:=Int) T.ok (T:=226) rfl rfl rfl rfl rfl;exact h
theorem NF(bp bm:Nat)(m:List Int)(g:G)(SS:EP g bp 0 [.map (some bm)])(mk:yK g bm (qm m)):
  Cg prog 255 #[vP bp] (fun k:Int=>[vI k]) (fun pre=>pre.length≤m.length) (fun xs=>xs.Perm m) g:=by
 intro g1 hle yv g0 I Ix hI E1 hy L hs UP;have aj:=G.le.refl g1;have aq:=SS.mono hle;have nO:=mk.mono hle;refine enter func255 rfl ntmps255 rfl<|eO 1 [.z aq] rfl<|aN rfl rfl<|vQ SE rfl nO.2 rfl hs fun r1 g2 hs ag=>?_;replace UP:=hI _ _ _ _ ag UP;replace aj:=G.le.trans aj ag;replace nO:=nO.mono ag;refine bE<|aw ?_
 refine aZ (fun n a' w=> ∃(seen:Array Nat) (L':List dc) (g':G),w=g'.w∧St g0 g' ([.obj r1 (B_ bm (qm m).length seen)]++L')∧G.le g1 g'∧yK g' bm (qm m)∧seen.toList.Nodup∧(∀j∈seen.toList,j<m.length)∧n=m.length-seen.toList.length∧I (vr m seen.toList) L' g'∧
   Fr 14 [] [(0,yv),(5,vP r1)] a') m.length
  (fun a' ha=>⟨#[],L,g2,rfl,hs,aj,nO,by simp,by simp,rfl,UP,ha.kp rfl⟩) ?_
 clear hs aj nO aq UP;rintro n a' _ ⟨seen,L',g',rfl,hs,aj,nO,z8,aV,rfl,uE,dT⟩;have oJ:=nE _ _ z8 aV;revert a';refine bT<|cO<|aN rfl rfl (yM 0 rfl hs rfl nO.2 rfl (fun dW=>?_) (fun j q g6 hq hj O7 ag=>?_))
 ·have ud:(vr m seen.toList).Perm m:=Gw z8 aV fun j hj=>by simpa using dW j (by rw[KP];exact hj)
  exact aF rfl<|ak<|bI rfl<|aJ<|aM<|aM<|b_<|nd rfl ⟨g',_,L',rfl,rfl,aj,hs.drop 0,.inl ⟨_,ud,uE⟩⟩
 obtain⟨k,hk,rfl⟩:=NP hq;have UK:j<m.length:=(aaN.1 hk).1;have Ca:(seen.toList++[j]).Nodup:=acp.2 ⟨z8,by simp,by intro a ha b hb;rw[aaL.1 hb];rintro rfl;exact hj (by simpa using ha)⟩;have uI: ∀k∈seen.toList++[j],k<m.length:=by intro k hk;rcases aaJ.1 hk with hk|hk;exact aV k hk;rw[aaL.1 hk];exact UK
 have H3:=nE _ _ Ca uI;have Ic:=aaC (BP m (seen.toList++[j])) H3;rw[yb hk]at Ic;rw[aal,aaF]at H3;clear hs;replace hs:St g0 g6 ([.obj r1 (B_ bm (qm m).length (seen.push j))]++L'):=O7;replace uE:=hI _ _ _ _ ag uE;clear O7;replace aj:=G.le.trans aj ag;replace nO:=nO.mono ag;refine aF rfl<|ak<|bZ rfl<|ar<|ai<|aw<|cO<|aN rfl rfl<|vR 0 rfl hs rfl nO.2 rfl hq<|aF rfl<|ck 2 rfl<|aN rfl rfl (fZ rfl rfl rfl rfl rfl rfl ((hy _ _ k _ _ Ic aj hs uE).mono ?_));rintro _ _ ⟨g7,bv,L7,rfl,rfl,ag,EM,ht,hf⟩;refine⟨_,rfl,?_⟩;clear hs;replace hs:=EM;clear EM;replace aj:=G.le.trans aj ag;replace nO:=nO.mono ag;cases bv with
 |false=>
  exact aF rfl<|bZ rfl<|au<|iy<|ec<|iy<|tA rfl<|⟨g7,_,L7,rfl,rfl,aj,hs.drop 0,.inr ⟨_,Ic,hf rfl⟩⟩
 |true=>
  exact aF rfl<|bI rfl<|ar<|aX<|fun a ha=>⟨m.length-(seen.push j).toList.length,by rw[abC,aal,aaF];omega,seen.push j,L7,_,rfl,hs,aj,nO,by rw[abC];exact Ca,by rw[abC];exact uI,rfl,by rw[abC,yb hk];exact ht rfl,ha.kp rfl⟩
theorem Qn(bm:Nat)(_m:List Int)(g:G):cN prog 210 #[.map (some bm)] g fun g' r=> ∃bp,r= .func (.func 255) #[] #[vP bp]∧EP g' bp 0 [.map (some bm)]:=by have hs:=St.start g;exact enter func210 rfl ntmps210 rfl<|cO<|gF hs rfl fun b1 g2 hs ag aq=>aF rfl<|aD rfl<|au (cg rfl hs ⟨b1,rfl,aq⟩)
theorem Ch{mJ:FuncId}{fO:Array Value}(je:cS prog mJ){A Z:List Int→Prop}(hA: ∀pre,A pre→pre.length≤1000000)(g:G)(vJ:Cg prog mJ fO (fun x:Int=>[vI x]) A Z g):
  cN prog 279 #[.slice none 0 0,.func (.func mJ) #[] fO] g fun g' r=> ∃xs,Z xs∧lj 3 g xs g' r:=by
 have hs:=St.start g;have aj:=G.le.refl g;refine vK func279 rfl ntmps279 rfl<|cO<|nX hs rfl fun bo g1 hs ag=>?_;replace aj:=G.le.trans aj ag;replace hs:=hs.eM 3 1 none;refine aF rfl<|ak<|aD rfl<|aw ?_
 refine yQ (N:=13) hs rfl je (vJ.mono aj) rfl (fun _=>rfl)
  (fun pre L _=> ∃v,L=[.row 3 1 v pre.length (eB pre),.obj bo (.cells #[v] 23 (0,0))]) (fun _ _ _ _=>False)
  (fun _ _ _ _ _ h=>h) (fun _ _ _ _ _ _ h=>h) ⟨_,rfl⟩ (fun pre x L la _=>la=[(5,vI x),(2,vP bo)]∧ ∃v,L=[.row 3 1 v pre.length (eB pre),.obj bo (.cells #[v] 23 (0,0))]) (fun _ _ _ _ _ _ _ h=>h) ?_ ?_ ?_ ?_
 ·rintro lp D ro pre x gr Lr M lG hle hs hI;exact ah<|Wp 1 rfl<|an<|fun a ha=>⟨gr,Lr,_,rfl,G.le.refl _,hs,⟨rfl,hI⟩,ha.kp rfl⟩
 ·rintro lp D ro pre x gr Lr la M lG hle hs ⟨rfl,v,rfl⟩;have cM:=G.le.refl gr;have Fv:=hA _ lG;rw[aal,aaF]at Fv;obtain⟨av,cv,rfl⟩:=(hs.own 2 _ rfl).1.form;refine aw<|ah<|Wm 2 [.o 3] hs rfl<|iX [(0,vI x)] [vI x] hs rfl rfl fun b2 g2 hs ag=>?_;replace cM:=G.le.trans cM ag;refine aN rfl rfl<|ba T.ok 3 rfl hs rfl rfl rfl rfl rfl rfl rfl (by decide) rfl (Src.dZ (hs.own 0 _ rfl).1).2 (by simp[Value.oneCell']) (by show(pre.length+1)*8≤_;omega) (by unfold maxLen;omega) fun a9 c9 g3 hs ag=>?_;replace cM:=G.le.trans cM ag;refine dC 4 hs rfl fun g1 hs ag=>?_;replace cM:=G.le.trans cM ag;exact an<|aX<|fun a ha=>⟨_,_,rfl,hs.drop 0,cM,[.row 3 1 (.slice a9 (pre.length+1) c9) (pre.length+1) (eB pre++[vI x]),.obj bo (.cells #[.slice a9 (pre.length+1) c9] 23 (0,0))],rfl,.slice a9 (pre.length+1) c9,by simp[eB]⟩
 ·rintro lp D o xs Lr ge hz hle hs ⟨v,rfl⟩;obtain⟨av,cv,rfl⟩:=(hs.own 2 _ rfl).1.form;refine aX<|ai<|Ja [.o 3] hs rfl<|au<|Kw 1 rfl hs rfl rfl (fun g' kP gZ=>?_);exact kP.ret ⟨xs,hz,eB xs,kP.own 1 _ rfl,cR.ints _ _⟩
 rintro c lp D o pre Lr ge _ _ _ h;exact h.elim
theorem FM{mJ:FuncId}{fO:Array Value}(je:cS prog mJ){A Z:List Int→Prop}(hA: ∀pre,A pre→pre.length≤1000000)(g:G)(vJ:Cg prog mJ fO (fun x:Int=>[vI x]) A Z g):
  cN prog 254 #[.func (.func mJ) #[] fO] g fun g' r=> ∃xs,Z xs∧lj 3 g xs g' r:=by
 refine enter func254 rfl ntmps254 rfl<|aD rfl<|ck 1 rfl<|d_ rfl (Ch je hA g vJ) ?_;rintro g1 r aH ⟨xs,hz,eF⟩;exact aF rfl<|au (eC rfl ⟨g1,r,rfl,aH,rfl,xs,hz,eF⟩)
theorem cR.oP{g:G}: ∀{xs:List Int} {cells:List Value},cR g cells xs→cells=jZ xs
 |[],_,h=>h
 |x::xs,_,⟨c1,c2,e,h1,h2⟩=>by rw[e,cR.oP h2,show c1=[Value.int .i64 x]from h1];rfl
theorem GX(v:Value)(xs:List Int)(g:G)(aA:Rs g v xs)(hlen:xs.length≤1000000):
  cN prog 103 #[v] g (lj 3 g xs):=by
 obtain⟨ad,n,c,rfl,hn,hc,hr⟩:=id aA;have hs:=St.start g;have aj:=G.le.refl g;refine enter func103 rfl ntmps103 rfl<|aD rfl<|ak<|ck 1 rfl<|aN rfl rfl<|il T.ok (neg:=false) rfl rfl rfl rfl rfl<|bE ?_;cases ad with
 |none=>
  refine bZ rfl<|aD rfl<|au<|cg rfl hs ?_
  have:xs=[]:=by
   rcases hr with h|⟨b,o,cells,h,_⟩
   ·exact aa' (by omega)
   cases h
  subst this;exact lj.nil _ _ _ _
 |some ad=>
  refine bI rfl<|ar<|ai<|cO<|iX [] [] hs rfl rfl fun b2 g2 hs ag=>?_;replace aA:=aA.mono ag;refine Wp 1 rfl ?_;obtain⟨hm,news,fw,iO⟩:=Src.jh aA;subst hm;obtain rfl:=cR.oP fw;exact aN rfl rfl<|ba T.ok 0 rfl hs rfl rfl rfl rfl rfl rfl rfl (by decide) rfl iO (by simp[jZ,Value.oneCell']) (by show(0+xs.length)*8≤_;omega) (by unfold maxLen;omega) fun a' c' g3 hs ag=>aF rfl<|au (cg rfl hs (hs.nu (i:=0) rfl (cR.ints _ _)))
def jI(xs:List Int):List Int:=xs.mergeSort fun x y=>decide (x≤y)
theorem A7(xs:List Int):(jI xs).length=xs.length:=by unfold jI;exact List.length_mergeSort _
theorem vt(xs:List Int):CX (fun x=>(x,0)) (jI xs):=by have h:=List.pairwise_mergeSort (le:=fun x y:Int=>decide (x≤y)) (by intro a b c h1 h2;simp at*;omega) (by intro a b;simp;omega) xs;refine List.Pairwise.imp (fun {a b} h=>?_) h;simp only[decide_eq_true_eq]at h;rw[jL];simp only;omega
theorem FN{xs ys:List Int}(h:xs.Perm ys):jI xs=jI ys:=
 tf (((acM xs _).trans h).trans (acM ys _).symm) (vt xs) (vt ys) fun _ _ _ _ e=>congrArg Prod.fst e
theorem FG{ad:Option Addr}{n c:Nat}{zs:List Int}{g0 g:G}{L:List dc}(hl:zs.length≤1000000)(hs:St g0 g (.row 3 1 (.slice ad n c) n (eB zs)::L)):
  CallsIn Wd 0 prog 35 #[.slice ad n c] g.w (df g fun g' r=>r= .tuple #[]∧St g0 g' (.row 3 1 (.slice ad n c) n (eB (jI zs))::L)):=by
 have hr:=hs.own 0 _ rfl;by_cases h0:n=0
 ·subst h0;have hz:zs=[]:=by have:=hr.1.1;rw[oW,abP]at this;exact aa' this
  subst hz;refine callsIn_wide.2<|(Tryz.slices_Sort_int_none ad c g.w).mono ?_;rintro e w' ⟨rfl,rfl⟩;refine⟨g,_,rfl,rfl,G.le.refl g,rfl,?_⟩;have e0:jI []=[]:=by unfold jI;simp
  rw[e0];exact hs
 obtain⟨bk,off,rfl⟩:=hr.1.pos h0;obtain⟨hH,FF,rfl,qP,tG⟩:=hr.1.KE h0;refine callsIn_wide.2<|(Tryz.slices_Sort_int bk off c zs g.w hH FF (by omega)).mono ?_;rintro e w' ⟨rfl,q,os,rfl⟩;obtain⟨g2,fm,dm,ag⟩:=hs.putRow (i:=0) (q:=q) (os:=os) (d:=jI zs) rfl h0 (A7 zs);exact⟨g2,_,fm,rfl,ag,rfl,dm⟩
theorem H5{mJ:FuncId}{fO:Array Value}(je:cS prog mJ){A:List Int→Prop}{m:List Int}(hA: ∀pre,A pre→pre.length≤1000000)(hm:m.length≤1000000)(g:G)(vJ:Cg prog mJ fO (fun x:Int=>[vI x]) A (fun xs=>xs.Perm m) g):
  cN prog 209 #[.func (.func mJ) #[] fO] g fun g' r=>lj 3 g (jI m) g' r:=by
 have hs:=St.start g;refine enter func209 rfl ntmps209 rfl<|aD rfl<|ck 1 rfl<|d_ rfl (FM je hA g vJ) ?_;rintro g1 r aH ⟨xs,hp,cells,eF,fw⟩;obtain rfl:cells=eB xs:=cR.oP fw;obtain⟨ad,c,rfl⟩:=eF.1.form;replace hs:=hs.jl aH eF;clear fw eF;have nL:=hp.length_eq;refine aF rfl<|ck 1 rfl<|nb rfl (FG (zs:=xs) (by omega) hs) ?_;clear hs;rintro g6 _ ag ⟨rfl,hs⟩;rw[FN hp]at hs;refine bE<|aD rfl<|au (cg rfl hs ⟨eB (jI m),?_,cR.ints _ _⟩);rw[A7,←nL];exact hs.own 0 _ rfl
theorem NB(bb:Nat)(g:G):cN prog 206 #[vP bb] g fun g' r=> ∃bp,r= .func (.func 250) #[] #[vP bp]∧EP g' bp 0 [vP bb]:=by have hs:=St.start g;exact enter func206 rfl ntmps206 rfl<|cO<|gF hs rfl fun b1 g2 hs ag aq=>aF rfl<|aD rfl<|au (cg rfl hs ⟨b1,rfl,aq⟩)
def nT(b:ft)(a:gW)(m:List Int)(f:bc):List Int:=if oi b f a&& !AJ b f a.time then qk f.idn m else m
def Jr(b:ft)(a:gW):List Int:=(vw b).foldl (nT b a) []
def qB(b:ft)(a:gW):List Int:=jI (Jr b a)
theorem A3(b:ft)(a:gW): ∀(l:List bc) (m:List Int),(l.foldl (nT b a) m).length≤m.length+l.length
 |[],m=>aaz _
 |f::l,m=>by
  rw[abT];have ih:=A3 b a l (nT b a m f);have h1:(nT b a m f).length≤m.length+1:=by
   unfold nT qk;split
   ·split
    ·omega
    simp
   omega
  rw[aaw];omega
def wJ(b:ft)(a:gW)(sl:Nat→Value)(bm b2 b3 b5:Nat)(g:G)(pre:List bc)(L:List dc)(g':G):Prop:=
 L=[.obj bm (fy (qm (pre.foldl (nT b a) [])))]∧EP g' b5 0 [.map (some bm)]∧EP g' b2 0 ((List.range 11).map sl)∧EP g' b3 0 (oo a)∧gJ g' (.agg ((List.range 11).map sl).toArray) b∧Rs g' (sl 7) b.mK∧G.le g g'
theorem wJ.mono{b:ft}{a:gW}{sl:Nat→Value}{bm b2 b3 b5:Nat}{g:G}(pre:List bc)(L:List dc)(g1 g2:G)(hle:g1.le g2)(h:wJ b a sl bm b2 b3 b5 g pre L g1):wJ b a sl bm b2 b3 b5 g pre L g2:=by obtain⟨e,h1,h2,h3,h4,h5,h6⟩:=h;exact⟨e,h1.mono hle,h2.mono hle,h3.mono hle,h4.mono hle,h5.mono hle,h6.trans hle⟩
theorem NC(v:Value)(b:ft)(a:gW)(g:G)(aL:gJ g v b)(hb:xF b):cN prog 159 #[v,EL a] g fun g' r=>Rs g' r (qB b a):=by
 have hs:=St.start g;have aj:=G.le.refl g;obtain⟨sl,rfl,ee⟩:=aL;have aL:gJ g (.agg ((List.range 11).map sl).toArray) b:=⟨sl,rfl,ee⟩;have aA:Rs g (sl 6) b.holds:=ee 6 (by decide);have aE:Rs g (sl 7) b.mK:=ee 7 (by decide);refine vK func159 rfl ntmps159 rfl<|cO<|gF hs rfl fun b2 g2 hs ag aq=>?_;obtain⟨aj,aA,aE,aL⟩:=dU ag aj aA aE aL;refine gF hs rfl fun b3 g2 hs ag aB=>?_;obtain⟨aj,aq,aA,aE,aL⟩:=mY ag aj aq aA aE aL;refine aF rfl<|cO<|aN rfl rfl<|mz (κ:=Int) rfl hs fun bm g1 hs ag=>?_;obtain⟨aj,aq,aB,aA,aE,aL⟩:=iB ag aj aq aB aA aE aL;refine fA hs rfl fun b5 g1 hs ag=>?_;obtain⟨aj,aq,aB,aA,aE,aL⟩:=iB ag aj aq aB aA aE aL;refine om 0 hs rfl fun g2 hs ag cF=>?_;obtain⟨aj,aq,aB,aA,aE,aL⟩:=iB ag aj aq aB aA aE aL;replace hs:St g _ [.obj bm (fy (qm []))]:=hs;refine bE<|ak<|cO<|aN rfl rfl<|bu (cB 206) (fun _=>trivial) rfl rfl rfl rfl rfl (NB b2 _) ?_;rintro g6 _ pw ⟨bp,rfl,Ux⟩;replace hs:=hs.call pw;have ag:=pw.le;obtain⟨aj,aq,aB,cF,aA,aE⟩:=iB ag aj aq aB cF aA aE;replace aL:=aL.mono ag;refine bE<|aw ?_
 refine yQ (N:=28) hs rfl (cB 250) (Kv bp b2 b sl g6 Ux aq aA).YB rfl (fun _=>rfl)
  (wJ b a sl bm b2 b3 b5 g) (fun _ _ _ _=>False) wJ.mono (fun _ _ _ _ _ _ h=>h) ⟨rfl,cF,aq,aB,aL,aE,aj⟩
  (fun pre x L la g'=>(∃b6,la=[(5,vP b5),(3,vP b3),(6,vP b6)]∧EP g' b6 0 (je x b2))∧wJ b a sl bm b2 b3 b5 g pre L g')
  (fun _ _ _ _ _ _ hle ⟨⟨b6,e,h1⟩,h2⟩=>⟨⟨b6,e,h1.mono hle⟩,wJ.mono _ _ _ _ hle h2⟩) ?_ ?_ ?_ ?_
 ·rintro lp D ro pre x gr Lr M lG hle hs hI;have cM:=G.le.refl gr;refine ah<|fA hs rfl fun b6 g1 hs ag=>?_;replace cM:=G.le.trans cM ag;refine om 0 hs rfl fun g2 hs ag aK=>?_;replace cM:=G.le.trans cM ag;exact an<|fun a ha=>⟨_,Lr,_,rfl,cM,hs,⟨⟨b6,rfl,aK⟩,wJ.mono _ _ _ _ cM hI⟩,ha.kp rfl⟩
 ·rintro lp D ro pre x gr Lr la M lG hle hs ⟨⟨b6,rfl,aq⟩,rfl,aB,dn,cF,aL,aE,aj⟩;have cM:=G.le.refl gr;have BT:(pre++[x]).foldl (nT b a) []=if oi b x a&& !AJ b x a.time then qk x.idn (pre.foldl (nT b a) [])else pre.foldl (nT b a) []:=by rw[abK];rfl
  generalize pre.foldl (nT b a) []=M0 at*;refine aw<|eO 2 [.z aq,.z cF] rfl<|aN rfl rfl<|bu (cB 207) (fun _=>trivial) rfl rfl rfl rfl rfl (CallsIn.nB rfl rfl rfl (ND x b2 b sl a _ dn aL)) ?_;rintro g7 _ Af rfl;replace hs:=hs.call Af;have ag:=Af.le;obtain⟨aj,cM,aq,aB,cF,aE⟩:=iB ag aj cM aq aB cF aE;obtain⟨dn,aL⟩:=cA ag dn aL;cases h1:oi b x a with
  |false=>
   rw[h1]at BT;exact aF rfl<|bI rfl<|ar<|aX<|fun a' ha=>⟨_,_,rfl,hs,cM,[.obj bm (fy (qm (M0)))],rfl,by rw[BT];rfl,aB,dn,cF,aL,aE,aj⟩
  |true=>
   rw[h1]at BT;refine dE 4 [.z aq,.z cF] rfl ?_;clear Af;refine aN rfl rfl<|bu (cB 208) (fun _=>trivial) rfl rfl rfl rfl rfl (CallsIn.nB rfl rfl rfl (Qm x b2 b sl a.time _ dn aE)) ?_;rintro g8 _ Af rfl;replace hs:=hs.call Af;have ag:=Af.le;obtain⟨aj,cM,aq,aB,cF,aE⟩:=iB ag aj cM aq aB cF aE;obtain⟨dn,aL⟩:=cA ag dn aL;cases h2:AJ b x a.time with
   |true=>
    rw[h2]at BT;exact aF rfl<|bI rfl<|ar<|aX<|fun a' ha=>⟨_,_,rfl,hs,cM,[.obj bm (fy (qm (M0)))],rfl,by rw[BT];rfl,aB,dn,cF,aL,aE,aj⟩
   |false=>
    rw[h2]at BT;refine aF rfl<|bZ rfl<|ah<|dE 4 [.z aB,.z aq] rfl<|hZ [] [] [] rfl<|gw rfl<|eg SE 2 (.inl rfl) hs rfl rfl (a:=x.idn) rfl rfl fun g9 hs ag=>?_;obtain⟨aj,cM,aq,aB,cF,aE⟩:=iB ag aj cM aq aB cF aE;obtain⟨dn,aL⟩:=cA ag dn aL;replace hs:St g g9 (.obj lp (ro .busy):: .obj D g_::([.obj bm (fy (kX x.idn (.agg #[]) (qm M0)))]++M)):=hs;rw[Dw]at hs;exact an<|aX<|fun a' ha=>⟨_,_,rfl,hs,cM,[.obj bm (fy (qm (qk x.idn M0)))],rfl,by rw[BT];rfl,aB,dn,cF,aL,aE,aj⟩
 ·rintro lp D o xs Lr ge rfl hle hs ⟨rfl,aq,_,_,_,_,aj⟩;have hM:=A3 b a (vw b) [];have hh:(vw b).length≤1000000:=aaC (abq ..) (hb 6);unfold qB Jr;generalize(vw b).foldl (nT b a) []=m at*;have MB:m.length≤1000000:=by simp only[aay]at hM;omega
  obtain⟨g8,AK,oI,ag,nO⟩:=Ko hs (i:=2) rfl;rw[←AK];clear hs;replace hs:=oI;clear oI;replace aq:=aq.mono ag;clear AK;refine aX<|ai<|eO 1 [.z aq] rfl<|aN rfl rfl<|bu (cB 210) (fun _=>trivial) rfl rfl rfl rfl rfl (Qn bm m _) ?_;rintro g9 _ EO ⟨bq,rfl,X9⟩;replace hs:=hs.call EO;have ag:=EO.le;replace nO:=nO.mono ag;refine aN rfl rfl<|bu (cB 209) (fun _=>trivial) rfl rfl rfl rfl rfl (H5 (cB 255) (fun pre h=>aaC h MB) MB _ (NF bq bm m _ X9 nO)) fun g10 v10 SF ue=>?_;obtain⟨g11,SG,SH,ag,uh⟩:=hs.lS SF ue;have ag:=SF.le.trans ag;rw[←SG];clear hs;replace hs:=SH;clear SH;clear SG;exact aF rfl<|au<|Kw 1 rfl hs rfl rfl (fun g' kP gZ=>kP.ret (uh.mono gZ))
 rintro c lp D o pre Lr ge _ _ _ h;exact h.elim
theorem oj(g:G)(xs:List bc): ∀u∈fl xs,u.oneCell'=true:=cR.one (cR.fl g xs)
theorem Kx(v:Value)(xs:List bc)(g:G)(aA:Rs g v xs)(hlen:xs.length≤1000000):
  cN prog 96 #[v] g (lj 50 g xs):=by
 obtain⟨ad,n,c,rfl,hn,hc,hr⟩:=id aA;have hs:=St.start g;have aj:=G.le.refl g;refine enter func96 rfl ntmps96 rfl<|aD rfl<|ak<|ck 1 rfl<|aN rfl rfl<|il T.ok (neg:=false) rfl rfl rfl rfl rfl<|bE ?_;cases ad with
 |none=>
  refine bZ rfl<|aD rfl<|au<|cg rfl hs ?_
  have:xs=[]:=by
   rcases hr with h|⟨b,o,cells,h,_⟩
   ·exact aa' (by omega)
   cases h
  subst this;exact lj.nil _ _ _ _
 |some ad=>
  refine bI rfl<|ar<|ai<|cO<|iX [] [] hs rfl rfl fun b2 g2 hs ag=>?_;replace aA:=aA.mono ag;refine Wp 1 rfl ?_;obtain⟨hm,news,fw,iO⟩:=Src.jh aA;subst hm;obtain rfl:=lf fw;exact aN rfl rfl<|ba T.ok 0 rfl hs rfl rfl rfl rfl rfl rfl rfl (by decide) rfl iO (oj g xs) (by show(0+xs.length)*160≤_;omega) (by unfold maxLen;omega) fun a' c' g3 hs ag=>aF rfl<|au (cg rfl hs (hs.nu (i:=0) rfl (cR.fl _ _)))
theorem Ai{p:bc→Bool}(xs:List bc)(k:Nat)(h:k<xs.length)(hp:p xs[k]=true)(dt: ∀j (h:j<xs.length),j<k→p xs[j]=false):
  xs.take k=(xs.take (k+1)).filter (fun x=> !p x):=by
 rw[aaX h,abe];have:(xs.take k).filter (fun x=> !p x)=xs.take k:=by rw[acU];intro x hx;obtain⟨j,hj,rfl⟩:=aa4.1 hx;simp only[aat]at hj;rw[acn,dt j (by omega) (by omega)];rfl
 rw[this];simp[hp]
theorem NG(xs:List bc)(i:Nat):(fl xs).take (i*19)=fl (xs.take i):=by
 rcases abc xs.length i with h|h
 ·rw[aaD (l:=xs) (by omega),aaD];rw[pF];show xs.length*19≤_;omega
 have e:=pF (xs.take i);rw[aat,abD h]at e;conv=>lhs;rw[←aaY i xs,jM]
 exact acP e
theorem H6(p:bc→Bool)(g0 g:G)(L:List dc)(v fo:Value)(xs:List bc)(hs:St g0 g (.row 50 19 v xs.length (fl xs)::L))(hlen:xs.length≤1000000)(hp:Dv fo p xs g):
  CallsIn Wd 0 prog 95 #[v,fo] g.w (df g fun g' v'=>St g0 g' (.row 50 19 v' (xs.filter fun x=> !p x).length (fl (xs.filter fun x=> !p x))::L)):=by
 have aj:=G.le.refl g;obtain⟨ad,cap,rfl⟩:=(hs.own 0 _ rfl).1.form;refine enter func95 rfl ntmps95 rfl<|aD rfl<|ck 2 rfl ?_;obtain⟨gf,SI,Fh,uh,yR⟩:=hs.Qo (α:=bc) (i:=0) rfl (cR.fl _ _);rw[←SI];refine d_ rfl (yP _ _ xs p gf uh (hp.mono Fh)) ?_;rintro g2 _ FE rfl;obtain⟨g3,wH,fT⟩:=yR g2 FE;rw[←wH];replace hs:=hs.call fT;have ag:=fT.le;replace aj:=G.le.trans aj ag;refine aF rfl<|ak<|aD rfl ?_;rcases pE p xs with⟨Jb,dt⟩|⟨k0,C9,Jb,Cc,dt⟩
 ·refine aG (b:=ox p xs== -1) (by simp[Jb]) rfl<|aD rfl ?_;have Qp:(xs.filter fun x=> !p x)=xs:=acU.2 fun x hx=>by simp[dt x hx]
  rw[Qp];exact au (eC rfl (df.intro aj hs))
 refine bg (b:=ox p xs== -1) (by simp only[Jb,beq_eq_false_iff_ne];omega) rfl ?_;rw[Jb];obtain⟨⟨b0,p0,rfl⟩,tp⟩:(∃b p,ad=some ⟨b,p,none⟩)∧xs.length≤cap∧cap≤maxLen:=by
  rcases(hs.own 0 _ rfl).1.2 with⟨h,_⟩|⟨b,q,c,cur,e1,_,_,h1,h2,_⟩
  ·omega
  simp only[aaK]at e1;obtain⟨rfl,_,rfl⟩:=e1;exact⟨⟨b,q,rfl⟩,h1,h2⟩
 unfold maxLen at tp;refine ar<|ai<|ak<|aD rfl<|aw ?_
 refine aZ (fun m a' w=> ∃(j i':Nat) (cs:List bc) (g':G),w=g'.w∧St g0 g' (gG 50 (some ⟨b0,p0,none⟩) xs.length cap cs::L)∧G.le g g'∧j≤xs.length∧m=xs.length-j∧
  cs.length=xs.length∧i'<j∧cs.take i'=(xs.take j).filter (fun x=> !p x)∧cs.drop j=xs.drop j∧
  Fr 42 [] [(0,.slice (some ⟨b0,p0,none⟩) xs.length cap),(1,fo),(5,vI i'),(6,vI j)] a') (xs.length-(k0+1))
  (fun a' ha=>⟨k0+1,k0,xs,g3,rfl,hs,aj,C9,rfl,rfl,Nat.lt_succ_self _,Ai xs k0 C9 Cc dt,rfl,ha.keep ⟨rfl,rfl,rfl,kW rfl,trivial⟩⟩) ?_
 clear hs aj;rintro m a' _ ⟨j,i',cs,g',rfl,hs,aj,hj,rfl,je,I8,ed,xp,dT⟩;revert a';refine bT<|ak<|aD rfl ?_;by_cases aV:j<xs.length
 ·refine aG (b:=decide ((j:Int)<(xs.length:Int))) (by simp;omega) rfl ?_;have V3:cs[j]? =some xs[j]:=by have:=congrArg (fun l=>l[0]?) xp;simpa [aas aV]using this
  refine ar<|ai<|ak<|aw<|ck 2 rfl<|aN rfl rfl<|dB (α:=bc) 0 rfl hs rfl (by omega) (by omega) rfl rfl rfl rfl rfl rfl fun b q hh=>?_;obtain⟨rfl,rfl⟩:b0=b∧p0=q:=by simpa using hh
  rw[abl];refine aN rfl rfl<|eJ (α:=bc) 0 rfl hs rfl rfl (j:=j) V3 rfl rfl rfl ?_;have kO:=aaQ aV
  have NH:(xs.take (j+1)).filter (fun x=> !p x)=(xs.take j).filter (fun x=> !p x)++(if p xs[j]then []else [xs[j]]):=by rw[aaX aV,abe];cases V4:p xs[j]<;>simp[V4]
  have uK:cs.drop (j+1)=xs.drop (j+1):=by have:=congrArg (List.drop 1) xp;simpa [aca]using this
  generalize xs[j]=x at*;refine fA hs rfl fun b7 g1 hs ag=>?_;replace aj:=G.le.trans aj ag;refine om 0 hs rfl fun g2 hs ag aq=>?_;replace aj:=G.le.trans aj ag;replace hs:St g0 _ (gG 50 (some ⟨b0,p0,none⟩) xs.length cap cs::L):=hs;refine bE<|eO 2 [.z aq] rfl<|aN rfl rfl<|fF rfl rfl rfl rfl rfl rfl (hp _ x kO aj) ?_;rintro g4 _ nN rfl;replace hs:=hs.call nN;have ag:=nN.le;obtain⟨aj,aq⟩:=cA ag aj aq;cases hb:p x with
  |true=>
   refine aF rfl<|bI rfl ?_;rw[hb,if_pos rfl,aaI]at NH;exact ar<|aX<|ai<|ah<|Wp 3 rfl<|an<|fun a ha=>⟨xs.length-(j+1),by omega,j+1,i',cs,_,rfl,hs,aj,by omega,rfl,je,by omega,by rw[ed,NH],uK,ha.keep ⟨rfl,rfl,rfl,kW rfl,trivial⟩⟩
  |false=>
   refine aF rfl<|bZ rfl ?_;rw[hb,if_neg (by simp)]at NH;refine eO 3 [.z aq] rfl<|aN rfl rfl<|dB (α:=bc) 0 rfl hs rfl (by omega) (by omega) rfl rfl rfl rfl rfl rfl fun b q hh=>?_;obtain⟨rfl,rfl⟩:b0=b∧p0=q:=by simpa using hh
   rw[abl];refine gw rfl<|iE (α:=bc) 0 rfl hs rfl rfl rfl (v:=x) (j:=i') (by omega) rfl rfl fun g5 hs ag=>?_;replace aj:=G.le.trans aj ag;replace hs:St g0 g5 (gG 50 (some ⟨b0,p0,none⟩) xs.length cap (cs.set i' x)::L):=hs;refine bE<|ah<|Wp 3 rfl<|an<|aX<|ai<|ah<|Wp 3 rfl<|an ?_
   exact fun a ha=>⟨xs.length-(j+1),by omega,j+1,i'+1,cs.set i' x,_,rfl,hs,aj,by omega,rfl,by simp[je],by omega,
    by rw[NH,←ed,sS (by omega)],
    by rw[ac5 (by omega)];exact uK,ha.keep ⟨rfl,rfl,kW rfl,kW rfl,trivial⟩⟩
 refine bg (b:=decide ((j:Int)<(xs.length:Int))) (by simp;omega) rfl ?_;obtain rfl:j=xs.length:=by omega
 rw[aa_]at ed;refine aJ<|aM<|aM<|b_<|ai<|ck 2 rfl<|aN rfl rfl<|iA T.ok rfl rfl rfl rfl rfl (a:=i') (b:=xs.length) ⟨_,rfl⟩ rfl (by omega) (by omega)<|gw rfl (A4 T.ok 0 (a:=i') (xs':=fl (cs.take i')++(List.replicate (xs.length-i') (bK fS)).flatten) rfl hs rfl rfl rfl rfl rfl rfl (by decide) rfl (by decide) ?_ (by omega) (by rw[NG];rfl) ?_)
 ·by_cases R8:cap=i'
  ·exact .inl (by omega)
  right;rw[if_neg R8];simp[abM]
 clear hs;rintro g5 hs ag;replace aj:=G.le.trans aj ag;refine bE<|ck 2 rfl<|aN rfl rfl<|iA T.ok rfl rfl rfl rfl rfl (a:=0) (b:=i') rfl ⟨_,rfl⟩ (by omega) (by omega)<|aF rfl<|au (eC rfl (df.intro aj ?_));have yS:=hs.DA (i:=0) (a:=i') rfl (by omega);have hl:(xs.filter fun x=> !p x).length=i':=by rw[←ed,aat];omega
 rw[hl,←ed];have he:List.take (i'*19) (fl (cs.take i')++(List.replicate (xs.length-i') (bK fS)).flatten)=fl (cs.take i'):=by rw[acP (by rw[pF,aat];show _*19=_;omega)]
 rw[he]at yS;exact yS
def gi(b:ft)(w time:Int):List bc:=(mO b w).filter fun f=> !decide (time<f.time)
theorem oQ{b:ft}(hb:xF b)(w:Int):(mO b w).length≤1000000:=by
 unfold mO;split
 ·rw[gh];exact aaC (abq ..) (hb 0)
 simp
theorem Ky(x:bc)(time:Int)(b1:Nat)(g:G)(aq:EP g b1 0 [vI time]):cN prog 97 #[fv x,vP b1] g fun _ r=>r= .bool (decide (time<x.time)):=by have hs:=St.start g;refine enter func97 rfl ntmps97 rfl<|cO<|gF hs rfl fun b2 g2 hs ag aB=>?_;replace aq:=aq.mono ag;exact aF rfl<|pW [.z aB,.z aq] rfl<|au (cg rfl hs rfl)
theorem Cd(v:Value)(b:ft)(w time:Int)(g:G)(aL:gJ g v b)(hb:xF b):cN prog 41 #[v,vI w,vI time] g fun g' r=>Rs g' r (gi b w time):=by have hs:=St.start g;have aj:=G.le.refl g;obtain⟨sl,rfl,ee⟩:=aL;have aL:gJ g (.agg ((List.range 11).map sl).toArray) b:=⟨sl,rfl,ee⟩;refine enter func41 rfl ntmps41 rfl<|cO<|gF hs rfl fun b2 g2 hs ag aq=>?_;replace aL:=aL.mono ag;refine gF hs rfl fun b3 g2 hs ag aB=>?_;obtain⟨aq,aL⟩:=cA ag aq aL;refine aF rfl<|eO 2 [.z aq] rfl<|d_ rfl (Kz _ b w _ aL hb) fun g1 _ aH aA=>?_;replace hs:=hs.call aH;have ag:=aH.le;replace aB:=aB.mono ag;have PV:=oQ hb w;unfold gi;generalize mO b w=h at*;clear aH;refine d_ rfl (Kx _ h _ aA PV) ?_;rintro g6 v6 pw ⟨cells,hh,hr⟩;obtain rfl:=lf hr;replace hs:=hs.jl pw hh;have ag:=pw.le;replace aB:=aB.mono ag;clear hr hh pw;refine Wp 1 rfl<|nb rfl (H6 (fun f=>decide (time<f.time)) g _ _ v6 _ h hs PV (fun g' x _ hle=>dF (first:=#[]) (args:=[fv x]) (captured:=#[vP b3]) (cB 97) rfl (Ky x time b3 g' (aB.mono hle)))) fun g7 v7 ag hs=>?_;obtain⟨g8,AK,oI,ag,uh⟩:=hs.cD (α:=bc) (i:=0) rfl (cR.fl _ _);rw[←AK];clear hs;replace hs:=oI;clear oI;clear AK;exact aF rfl<|au (cg rfl hs uh)
def cf(l:List Int):Int:=l.getLastD 0
def gn(live:List Bool)(first:Int)(l:List Int):List Int→List (List Int)→List Bool→Option (List (List Int)×List Bool)
 |[],q,seen=>some (q,seen)
 |n::r,q,seen=>
  if n=first then none
  else if first<n∧live.getD n.toNat false=true∧seen.getD n.toNat true=false then gn live first l r (q++[l++[n]]) (seen.set n.toNat true)
  else gn live first l r q seen
def jY(f:aU)(live:List Bool)(first:Int):Nat→List (List Int)→List Bool→List Int
 |_,[],_=>[]
 |0,_::_,_=>[]
 |k+1,l::rest,seen=>
  match gn live first l (aY f (cf l)).next rest seen with
  |none=>l
  |some (q,dy)=>jY f live first k q dy
def eh(f:aU)(live:List Bool)(first:Int):List Int:=jY f live first (1+f.steps.length) [[first]] (List.replicate f.steps.length false)
def N1(v:Value)(n:Nat)(cells:List Value):dc:=.row 23 1 v n cells
def xI(off:Nat)(s:Step):Fact:=
 ⟨fun v g=> ∃b p ys,v= .pointer (some ⟨b,p+off,none⟩)∧EP g b p ys∧sR g ys s,fun _ _ _ hf ⟨b,p,ys,e,h1,h2⟩=>⟨b,p,ys,e,h1.mono hf.le,El.mono (α:=Step) hf.le h2⟩⟩
def BZ(n:Int):Fact:=
 ⟨fun v g=> ∃b p,v= .pointer (some ⟨b,p,none⟩)∧EP g b p [vI n],fun _ _ _ hf ⟨b,p,e,h1⟩=>⟨b,p,e,h1.mono hf.le⟩⟩
theorem NX(v lv:Value)(f:aU)(live:List Bool)(first:Int)(g:G)(dx:eQ g v f)(bB:Rs g lv live)(cE:valid f=true)(xm:live.length=f.steps.length)(h0:0≤first)(h1:first<f.steps.length):
  cN prog 185 #[v,lv,vI first] g fun g' r=>Rs g' r (eh f live first):=by
 obtain⟨a1,n1,c1,a2,n2,c2,rfl,aA,aE⟩:=id dx;obtain⟨_,_,e⟩:=aA.isSlice;obtain⟨rfl,rfl,rfl⟩:=aaO e;clear e;obtain⟨a3,c3,rfl⟩:=bB.isSlice;have PY:=rV cE;have hs:=St.start g;have aj:=G.le.refl g;refine enter func185 rfl ntmps185 rfl<|cO<|gF hs rfl fun bf g2 hs ag aq=>?_;obtain⟨aA,aE,bB⟩:=eS ag aA aE bB;refine aF rfl<|ck 1 rfl<|iX [(0,vI first)] [vI first] hs rfl rfl fun b2 g2 hs ag=>?_;obtain⟨aq,aA,aE,bB⟩:=dU ag aq aA aE bB;obtain⟨g3,wH,EW,Ac,ph⟩:=hs.cD (α:=Int) (xs:=[first]) (i:=0) rfl (cR.ints _ [first]);clear ag;have ag:=Ac;rw[←wH];replace hs:=EW;obtain⟨aq,aA,aE,bB⟩:=dU ag aq aA aE bB;refine iX [(0,.slice (vA b2) 1 1)] [.slice (vA b2) 1 1] hs rfl rfl fun b3 g4 hs ag=>?_;obtain⟨aq,aA,aE,bB⟩:=dU ag aq aA aE bB;replace ph:=ph.mono ag;refine aF rfl<|eO 3 [.z aq] rfl<|aN rfl rfl<|uy T.ok rfl hs rfl rfl rfl rfl rfl rfl (by decide) rfl (by show 1*f.steps.length≤_;omega) (by unfold maxLen;omega) fun ob g1 hs ag=>?_;obtain⟨aq,aA,aE,bB⟩:=dU ag aq aA aE bB;replace ph:=ph.mono ag;refine aF rfl<|ak<|aw ?_;have qn:(List.replicate f.steps.length [Value.bool false]).flatten=(List.replicate f.steps.length false).map Value.bool:=by simp
 have dj:St g g1 [ql ob f.steps.length (List.replicate f.steps.length false),N1 (.slice (vA b3) 1 1) 1 [.slice (vA b2) 1 1]]:=by unfold ql N1;rw[←qn];exact hs
 clear hs;have nt:=aq;have ot:=aA;have yA:=bB;have cM:=G.le.refl g1;refine aZ (fun m a' w=> ∃(q:List (List Int)) (cells:List Value) (seen:List Bool) (qv:Value) (g':G),w=g'.w∧St g g' [ql ob f.steps.length seen,N1 qv q.length cells]∧G.le g1 g'∧cR g' cells q∧
   m=q.length+seen.count false∧seen.length=f.steps.length∧(∀l∈q,l≠[]∧0≤cf l∧cf l<f.steps.length∧l.length+m≤f.steps.length+2)∧
   jY f live first m q seen=eh f live first∧
   Fr 75 [] [(1,.slice a3 live.length c3),(2,vI first),(3,vP bf),(7,qv),(8,.slice (vA ob) f.steps.length f.steps.length)] a') (1+f.steps.length)
  (fun a' ha=>⟨[[first]],_,_,_,g1,rfl,dj,cM,⟨[_],[],rfl,⟨_,rfl,ph⟩,rfl⟩,by simp,by simp,by intro l hl;simp at hl;subst hl;refine⟨by simp,h0,h1,by simp;omega⟩,rfl,ha.kp rfl⟩) ?_
 clear dj aj cM;rintro m a' _ ⟨q,cells,seen,qv,g',rfl,hs,cM,fw,rfl,ee,hq,dt,dT⟩;have aq:=nt.mono cM;have aA:=ot.mono cM;have bB:=yA.mono cM;obtain⟨qa,qc,rfl⟩:=(hs.own 1 _ rfl).1.form;revert a';refine bT<|ak<|aD rfl ?_;cases q with
 |nil=>
  refine bg (b:=decide ((0:Int)<([]:List (List Int)).length)) (by simp) rfl<|aJ<|aM<|aM<|b_<|ai<|aD rfl<|au<|cg rfl hs ?_;rw[←dt,jY];exact Rs.nil _
 |cons l rest=>
  refine aG (b:=decide ((0:Int)<(l::rest).length)) (by simp) rfl ?_;obtain⟨_,QE,rfl,⟨vl,rfl,ph⟩,G2⟩:=fw;obtain⟨E3,Sd,rD,RN⟩:=hq l aaT;have YN:0<l.length:=abb.2 E3;have RE:(l::rest).length+seen.count false=(rest.length+seen.count false)+1:=by simp;omega
  rw[RE]at dt RN;rw[jY]at dt;have hqc:=(hs.own 1 _ rfl).1;have tp:(l::rest).length≤qc:=by
   rcases hqc.2 with⟨h,_⟩|⟨b,p,cap,cur,e1,_,_,h2,_⟩
   ·simp at h
   simp only[aaK]at e1;omega
  refine ar<|ai<|aw<|ck 1 rfl<|aN rfl rfl<|ea T.ok rfl (hs.own 1 _ rfl).1 (by decide) (by simp) rfl rfl rfl rfl rfl rfl ?_;rintro bq pq rfl;refine aN rfl rfl<|eW T.ok (Int.toNat 0*1) rfl (hs.own 1 _ rfl).1 rfl (v:=vl) rfl<|aF rfl<|ck 1 rfl<|aN rfl rfl<|iA T.ok rfl rfl rfl rfl rfl (a:=1) (b:=(l::rest).length) ⟨_,rfl⟩ rfl (by simp) tp ?_;replace hs:=hs.cutFrom (i:=1) (a:=1) rfl (by simp);refine aF rfl<|ak ?_;obtain⟨al,cl,rfl⟩:=ph.isSlice;have Wj:=ph.ef;unfold maxLen at Wj
  have G3:dq l (IntKind.i64.wrap ((l.length:Int)-1))=some (cf l):=by rw[bM (j:=l.length-1) (by rw[wq];omega) (by omega)];unfold cf;rw[List.getLastD_eq_getLast?,ac6,aas (by omega)];rfl
  apply dP (gR (eA (.f (BZ (cf l))::(fe (.f (xI 0 (aY f (cf l)))::(.f (xI 4 (aY f (cf l)))::(.f (Fact.rs (aY f (cf l)).next)::(eA [])))))))) 13 [(10,37),(11,38),(12,39),(2,29)] (by kernel_rfl)
  ·refine cY [[],[0],[],[],[3],[4]] [.e aq 2] (St.start _) rfl<|aW [(2,29),(5,32)] (fun gd hf=>?_) ?_
   ·have eR:=(G.a_ _).trans hf.le;exact fD rfl<|az<|ay rfl<|dJ T.ok rfl (ph.mono eR) (y:=cf l) G3 rfl rfl rfl rfl rfl rfl fun b p ys aK fw=>⟨_,rfl,bW.refl _,b,p,rfl,by rw[←show ys=[Value.int .i64 (cf l)]from fw];exact aK⟩
   refine aW [(6,33)] (fun gd hf=>?_) ?_
   ·skip;refine aI fun v6 h6=>?_;apply az;obtain⟨b,p,rfl,aK⟩:=h6;refine ay rfl<|cu T.ok 0 rfl aK rfl rfl<|⟨_,rfl,bW.refl _,?_⟩;exact rfl
   refine aW [(1,28),(7,34)] (fun gd hf=>?_) ?_
   ·have eR:=(G.a_ _).trans hf.le;refine fD rfl<|az<|ay rfl<|dJ T.ok rfl (aA.mono eR) (y:=aY f (cf l)) (by unfold aY;rw[bM (j:=(cf l).toNat) (by omega) (by omega)];simp[show(cf l).toNat<f.steps.length from by omega]) rfl rfl rfl rfl rfl rfl ?_;intro b p ys aK fw;exact⟨_,rfl,bW.refl _,b,p,ys,rfl,aK,fw⟩
   refine aW [(8,35)] (fun gd hf=>?_) ?_
   ·skip;refine aI fun v8 h8=>?_;apply az;obtain⟨b,p,ys,rfl,aK,fw⟩:=h8;exact ay rfl<|bR _ T.ok rfl<|⟨_,rfl,bW.refl _,b,p,ys,rfl,aK,fw⟩
   refine aW [(9,36)] (fun gd hf=>?_) ?_
   ·skip;refine aI fun v9 h9=>?_;apply az;obtain⟨b,p,ys,rfl,aK,fw⟩:=h9;obtain⟨b1,b2,b3,b4,b5,b6,rfl,Fg,R1⟩:=fw;exact ay rfl<|cu T.ok 4 rfl aK rfl rfl<|⟨_,rfl,bW.refl _,R1⟩
   refine aW [(10,37)] (fun gd hf=>?_) ?_
   ·skip;refine aI fun v10 ue=>?_;apply az;obtain⟨a5,c5,rfl⟩:=Rs.isSlice ue;refine ay rfl<|bR _ T.ok rfl<|⟨_,rfl,bW.refl _,?_⟩;exact rfl
   exact qo [[]] rfl
  intro g1 aH;refine aI fun v10 ue=>?_;refine lJ rfl ?_;apply az;replace hs:=hs.dr.call aH;have ag:=(G.a_ _).trans aH.le;obtain⟨cM,aq,aA,bB⟩:=dU ag cM aq aA bB;replace ph:=ph.mono ag;replace G2:=G2.mono ag;have aT:Rs g1 v10 (aY f (cf l)).next:=ue;obtain⟨a5,c5,rfl⟩:=aT.isSlice;have lH:=tF (lY cE Sd rD);have aah:=yN (lY cE Sd rD);generalize aai:(aY f (cf l)).next=nx at*;have Wl:=ph;have JP:=aA;have vE:=bB;have JT:=aT;have py:=aq;have iN:=G.le.refl g1;refine bE<|aw ?_
  refine aZ (fun m a' w=> ∃(k:Nat) (q':List (List Int)) (tI:List Value) (dy:List Bool) (Wn:Value) (g':G),w=g'.w∧St g g' [ql ob f.steps.length dy,N1 Wn q'.length tI]∧G.le g1 g'∧cR g' tI q'∧
    k≤nx.length∧m=nx.length-k∧dy.length=f.steps.length∧q'.length+dy.count false=rest.length+seen.count false∧
    (∀l'∈q',l'≠[]∧0≤cf l'∧cf l'<f.steps.length∧l'.length+(rest.length+seen.count false)≤f.steps.length+2)∧
    gn live first l (nx.drop k) q' dy=gn live first l nx rest seen∧
    Fr 75 [] [(1,.slice a3 live.length c3),(2,vI first),(3,vP bf),(7,Wn),(8,.slice (vA ob) f.steps.length f.steps.length),(9,.slice al l.length cl),(37,.slice a5 nx.length c5),(38,vI nx.length),(39,vI k)] a') nx.length
   (fun a' ha=>⟨0,rest,QE,seen,_,g1,rfl,hs,iN,G2,aar _,rfl,ee,rfl,fun l' BM=>?_,by rw[ab'],ha.kp rfl⟩) ?_
  ·obtain⟨x1,x2,x3,x4⟩:=hq l' (aaR _ BM);exact⟨x1,x2,x3,by rw[RE]at x4;omega⟩
  clear hs iN G2 ph aA bB aT aq;rintro m a' _ ⟨k,q',tI,dy,Wn,g',rfl,hs,iN,oy,hk,rfl,QF,M_,Wo,G4,dT⟩;have aq:=py.mono iN;have aA:=JP.mono iN;have bB:=vE.mono iN;have aT:=JT.mono iN;have aE:=Wl.mono iN;obtain⟨qa',qc',rfl⟩:=(hs.own 1 _ rfl).1.form;revert a';refine bT<|aD rfl<|ak ?_;by_cases aV:k<nx.length
  ·refine aG (b:=decide ((k:Int)<(nx.length:Int))) (by simp;omega) rfl ?_;rw[aa7 aV,gn]at G4;obtain⟨RO,I_⟩:=lH nx[k] (aaQ aV);refine ar<|ai<|ak<|aw<|cO<|fP (y:=nx[k]) aT (by simp[dq,aV]) rfl ?_;rintro b p ys aK rfl;refine dE 1 [.e aK 0] rfl<|aF rfl<|ak<|aD rfl ?_;by_cases E2:nx[k]=first
   ·refine aG (b:=nx[k]==first) (by simp[E2]) rfl ?_;rw[if_pos E2]at G4;refine aD rfl<|au<|cg rfl hs ?_;rw[←G4]at dt;rw[←dt];exact aE
   refine bg (b:=nx[k]==first) (by simp[E2]) rfl ?_;rw[if_neg E2]at G4;have Fi:nx[k].toNat<live.length:=by omega
   have K1:nx[k].toNat<dy.length:=by omega
   have hlg:live.getD nx[k].toNat false=live[nx[k].toNat]:=by rw[aaP,aas Fi];rfl
   have Wq:dy.getD nx[k].toNat true=dy[nx[k].toNat]:=by rw[aaP,aas K1];rfl
   rw[hlg,Wq]at G4;refine ar<|ai<|ck 4 rfl<|cI (want:=true) (x:=live[nx[k].toNat]) 4 bJ rfl rfl rfl rfl (.inl ⟨rfl,rfl,rfl⟩) rfl rfl rfl rfl (fun hb Q' fp=>?_) (fun g' hf=>?_)
   ·refine Wp 2 rfl<|fP (y:=live[nx[k].toNat]) bB (bM (by omega) Fi) rfl ?_;rintro b p ys aK rfl;exact dE 1 [.e aK 0] rfl<|an<|fun a ha=>fp _ a (bW.refl _) (ha.kp rfl)
   replace hs:=hs.call hf;have ag:=hf.le;replace aE:=aE.mono ag;replace oy:=oy.mono ag;replace iN:=iN.trans ag;refine Wp 1 rfl<|cI (want:=true) (x:=!dy[nx[k].toNat]) 5 bJ rfl rfl rfl rfl (.inl ⟨rfl,rfl,rfl⟩) rfl rfl rfl rfl (fun hb Q' fp=>?_) (fun g' hf=>?_)
   ·refine Wp 2 rfl<|aN rfl rfl<|ea T.ok rfl (hs.own 0 _ rfl).1 RO (by omega) rfl rfl rfl rfl rfl rfl fun b p hh=>?_;obtain⟨rfl,rfl⟩:ob=b∧0=p:=by simpa using hh
    refine aN rfl rfl (eW T.ok (nx[k].toNat*1) rfl (hs.own 0 _ rfl).1 rfl (v:=.bool (dy[nx[k].toNat])) (by show(List.map Value.bool _)[nx[k].toNat*1]? =_;rw[aaW,abd,aas K1];rfl) ?_);exact Wp 1 rfl<|an<|fun a ha=>fp _ a (bW.refl _) (ha.kp rfl)
   replace hs:=hs.call hf;have ag:=hf.le;replace aE:=aE.mono ag;replace oy:=oy.mono ag;replace iN:=iN.trans ag;apply bE;by_cases mI:first<nx[k]∧live[nx[k].toNat]=true∧dy[nx[k].toNat]=false
   ·refine aG (b:=(decide (first<nx[k])&&live[nx[k].toNat])&& !dy[nx[k].toNat]) (by simp[mI]) rfl ?_;rw[if_pos mI]at G4;have aaj:=RN;refine ck 2 rfl<|aN rfl rfl<|ea T.ok rfl (hs.own 0 _ rfl).1 RO (by omega) rfl rfl rfl rfl rfl rfl fun b p hh=>?_;obtain⟨rfl,rfl⟩:ob=b∧0=p:=by simpa using hh
    refine gw rfl (iC T.ok 0 (nx[k].toNat*1) (us:=[.bool true]) rfl hs rfl rfl rfl rfl rfl rfl rfl (by decide) (by simp;omega) (xs':=(dy.set nx[k].toNat true).map Value.bool) ?_ ?_)
    ·rw[aaW,acu];unfold nY;rw[ace];simp[K1]
    rintro g5 hs ag;replace aE:=aE.mono ag;replace oy:=oy.mono ag;replace iN:=iN.trans ag;refine bE<|ah<|Wp 2 rfl<|d_ rfl (GX _ l _ aE (by omega)) ?_;rintro g6 v pw ⟨Wr,ho1,S9⟩;replace hs:=hs.jl pw ho1;have ag:=pw.le;replace oy:=oy.mono ag;replace iN:=iN.trans ag;obtain⟨ca,cc,rfl⟩:=(hs.own 0 _ rfl).1.form;refine Wp 1 rfl<|iX [(0,vI nx[k])] [vI nx[k]] hs rfl rfl fun b2 g7 hs ag=>?_;replace oy:=oy.mono ag;replace iN:=iN.trans ag;replace S9:=S9.mono ag;refine aN rfl rfl<|ba T.ok 1 rfl hs rfl rfl rfl rfl rfl rfl rfl (by decide) rfl (Src.dZ (hs.own 0 _ rfl).1).2 (by simp[Value.oneCell']) (by show(l.length+1)*8≤_;omega) (by unfold maxLen;omega) fun a' c' g8 hs ag=>?_;replace oy:=oy.mono ag;replace iN:=iN.trans ag;replace S9:=S9.mono ag;obtain⟨g9,UO,MF,Ws,EX⟩:=hs.cD (α:=Int) (xs:=l++[nx[k]]) (i:=1) rfl (cR.app (cR.ints _ [nx[k]]) S9);clear ag;have ag:=Ws;rw[←UO];replace hs:=MF;replace oy:=oy.mono ag;replace iN:=iN.trans ag;refine iX [(0,.slice a' (l.length+1) c')] [.slice a' (l.length+1) c'] hs rfl rfl fun b3 g10 hs ag=>?_;replace oy:=oy.mono ag;replace iN:=iN.trans ag;replace EX:=EX.mono ag;have oR:dy.count false≤dy.length:=List.count_le_length;refine aN rfl rfl<|ba T.ok 3 rfl hs rfl rfl rfl rfl rfl rfl rfl (by decide) rfl (Src.dZ (hs.own 0 _ rfl).1).2 (by simp[Value.oneCell']) (by show(q'.length+1)*24≤_;omega) (by unfold maxLen;omega) fun a9 c9 g11 hs ag=>?_;replace oy:=oy.mono ag;replace iN:=iN.trans ag;replace EX:=EX.mono ag;refine Wp 1 rfl<|an<|aX<|ai<|ah<|Wp 2 rfl<|an ?_;have RP:cR g11 (tI++[Value.slice a' (l.length+1) c']) (q'++[l++[nx[k]]]):=cR.app (α:=List Int) (ys:=[l++[nx[k]]]) (ds:=[Value.slice a' (l.length+1) c']) ⟨[Value.slice a' (l.length+1) c'],[],rfl,(show ∃v,[Value.slice a' (l.length+1) c']=[v]∧Rs g11 v (l++[nx[k]])from⟨_,rfl,EX⟩),rfl⟩ oy;refine fun a ha=>⟨nx.length-(k+1),by omega,k+1,q'++[l++[nx[k]]],tI++[.slice a' (l.length+1) c'],dy.set nx[k].toNat true,.slice a9 (q'.length+1) c9,_,rfl,?_,iN,
     RP,by omega,rfl,by simp[QF],?_,?_,G4,ha.keep ⟨rfl,rfl,rfl,rfl,rfl,rfl,rfl,rfl,kW rfl,trivial⟩⟩
    ·have hd:=(hs.drop 0).drop 0;have:(q'++[l++[nx[k]]]).length=q'.length+1:=by simp
     rw[this];exact hd
    ·have:=jw (o:=dy) (i:=nx[k].toNat) (by rw[aas K1,mI.2.2]);simp;omega
    intro l' BM;rcases aaJ.1 BM with h|h
    ·exact Wo l' h
    simp at h;subst h;refine⟨by simp,?_,?_,by simp;omega⟩
    ·simpa [cf]using RO
    simpa [cf]using I_
   refine bg (b:=(decide (first<nx[k])&&live[nx[k].toNat])&& !dy[nx[k].toNat]) ?_ rfl ?_
   ·rw[abS];intro h;simp only[aaA,decide_eq_true_eq,ab8]at h;exact mI ⟨h.1.1,h.1.2,h.2⟩
   rw[if_neg mI]at G4;exact ar<|aX<|ai<|ah<|Wp 2 rfl<|an<|fun a ha=>⟨nx.length-(k+1),by omega,k+1,q',tI,dy,_,_,rfl,hs,iN,oy,by omega,rfl,QF,M_,Wo,G4,ha.keep ⟨rfl,rfl,rfl,rfl,rfl,rfl,rfl,rfl,kW rfl,trivial⟩⟩
  refine bg (b:=decide ((k:Int)<(nx.length:Int))) (by simp;omega) rfl ?_;obtain rfl:k=nx.length:=by omega
  rw[acW,gn]at G4;refine aJ<|aM<|aM<|b_<|aX ?_;rw[←G4]at dt;exact fun a ha=>⟨_,by rw[RE];exact Nat.lt_succ_self _,q',tI,dy,_,_,rfl,hs,cM.trans iN,oy,M_.symm,QF,Wo,dt,ha.kp rfl⟩
def alive(f:aU)(n:Int):Bool:=(ends f).any fun e=>(cp f n).getD e.toNat false
def sP(f:aU)(l:List Int):Option Int:=l.find? fun n=> !alive f n
def uA(f:aU)(Qk:List Int)(n:Int):List Int:=
 if 0<(eh f (cp f 0) n).length∧(Qk=[]∨(eh f (cp f 0) n).length<Qk.length)then eh f (cp f 0) n else Qk
def lT(f:aU)(l:List Int):List Int:=l.foldl (uA f) []
def check(f:aU):Int×List Int:=
 match sP f (reach f 0)with
 |some n=>(1,[n])
 |none=>if lT f (reach f 0)=[]then(0,[])else(2,lT f (reach f 0))
theorem yC(f:aU)(l:List Int)(n:Int):lT f (l++[n])=uA f (lT f l) n:=by unfold lT;rw[abK];rfl
end Go.Proofs.YtkpojaffabjibaaGreatDoor
