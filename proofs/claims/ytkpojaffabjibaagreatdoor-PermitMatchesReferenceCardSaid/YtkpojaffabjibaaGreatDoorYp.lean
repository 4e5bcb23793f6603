/- Parts of the proof, from: The walks through package ref19: reasons, May. -/
import Derived.Test.YtkpojaffabjibaaGreatDoorYo
import Derived.Test.YtkpojaffabjibaaGreatDoorRows
import Derived.Lib.LaidTab
import Derived.Stop.LaidErr
import Derived.Lay
import Derived.LaidMore
import Derived.HandedShaped
import Derived.Clock
namespace Go.Proofs.YtkpojaffabjibaaGreatDoor
open Go Go.K Go.Proofs.Tryz
attribute [local irreducible] W WL cQ aP bG aR aQ aS cK ct
set_option maxRecDepth 10000
set_option maxHeartbeats 2000000
theorem PT(c:Bool){k:Int}(h:0≤k):0≤bn c k∧bn c k≤k:=by cases c<;>simp[bn,h]
theorem yp{c:Bool}{n k:Int}(h0:0≤n)(h1:n≤1000)(hk:0≤k)(h2:k≤1000)(hc:c=true):IntKind.i64.wrap (n+k)=n+bn c k:=by rw[hc,wq];rfl
theorem yq{c:Bool}{n k:Int}(hc:c=false):n=n+bn c k:=by rw[hc];exact(Int.add_zero n).symm
def Uw(g:G)(A:Nat→Option Addr)(N' C:Nat→Nat)(b:ft)(a:gW)(b3 b4:Nat)(l:Env)(X:G→Prop)(n:Int)(a':Go.Act)(w:World):Prop:=
 ∃g',w=g'.w∧St g g' []∧G.le g g'∧EP g' b3 0 ((List.range 11).map fun i=> .slice (A i) (N' i) (C i))∧EP g' b4 0 (oo a)∧gJ g' (.agg ((List.range 11).map fun i=> .slice (A i) (N' i) (C i)).toArray) b∧X g'∧
  Fr 93 [] ((3,vP b3)::(4,vP b4)::(7,vI n)::l) a'
theorem M4(v u:Value)(b:ft)(a:gW)(h:List bc)(g:G)(aL:gJ g v b)(aT:Rs g u h)(hb:EN b)(hh:h.length≤1000000):
  cN prog 39 #[v,EL a,u] g fun _ r=>r=vI (bn (!(gB b a.waf a.time).isSome) 1+bn ((gB b a.waf a.time).isSome&& !(oL (gB b a.waf a.time) h).contains a.step) 2+bn ((iu (gB b a.waf a.time) a.step).isSome&& !((iu (gB b a.waf a.time) a.step).getD lh).cZ.contains a.tool) 4+bn ((iu (gB b a.waf a.time) a.step).isSome&&((iu (gB b a.waf a.time) a.step).getD lh).du !=a.rcp) 8+bn (!b.qu.any (iL a.tool a.cham a.rcp a.rvn a.time)) 16+bn (decide ((0:Int)<((lQ b a b.holds).length:Nat))) 32):=by
 have hs:=St.start g;have aj:=G.le.refl g;have fC:=aL;obtain⟨A,N',C,rfl,ee⟩:=iY aL;have aL:gJ g (.agg ((List.range 11).map fun i=> .slice (A i) (N' i) (C i)).toArray) b:=fC;clear fC;clear ee;refine enter func39 rfl ntmps39 rfl<|cO<|gF hs rfl fun b3 g2 hs ag aq=>?_;obtain⟨aj,aT,aL⟩:=eS ag aj aT aL;refine gF hs rfl fun b4 g2 hs ag aB=>?_;obtain⟨aj,aq,aT,aL⟩:=dU ag aj aq aT aL;replace hs:St g g2 []:=hs;refine aF rfl<|aD rfl<|eO 5 [.z aq,.z aB,.z aB] rfl<|d_ rfl (ON _ b a.waf a.time _ aL hb) fun g1 _ aH hp=>?_;replace hs:=hs.call aH;have ag:=aH.le;obtain⟨aj,aq,aB,aT,aL⟩:=mY ag aj aq aB aT aL;clear aH;obtain⟨_,rfl,a1,n1,c1,a2,n2,c2,m1,m2,rfl,qn⟩:=hp;obtain⟨o,ho⟩: ∃o,gB b a.waf a.time=o:=⟨_,rfl⟩;have M5: ∀f,o=some f→valid f=true:=fun f h=>qF (ho.trans h)
 rw[ho]at qn⊢;have qn:=fun f h=>qn f h;clear ho;refine Wp 3 rfl<|fA hs rfl fun b8 g1 hs ag=>?_;obtain⟨aj,aq,aB,aT,aL⟩:=mY ag aj aq aB aT aL;have qn:=fun f h=>(qn f h).mono ag
 refine dC 0 hs rfl fun g1 hs ag=>?_;obtain⟨aj,aq,aB,aT,aL⟩:=mY ag aj aq aB aT aL;have qn:=fun f h=>(qn f h).mono ag;obtain⟨g2,fm,dm,ag,aK⟩:=hs.fM (i:=0) rfl;replace hs:=dm;clear dm;rw[←fm];obtain⟨aj,aq,aB,aT,aL⟩:=mY ag aj aq aB aT aL;have qn:=fun f h=>(qn f h).mono ag;have cF:EP g2 b8 0 [vI m1,vI m2,.slice a1 n1 c1,.slice a2 n2 c2]:=aK;clear aK;replace hs:St g _ []:=hs;refine aF rfl<|ak<|aD rfl<|lR (Uw g A N' C b a b3 b4 [] (fun _=>True) (bn (!o.isSome) 1+bn (o.isSome&& !(oL o h).contains a.step) 2+bn ((iu o a.step).isSome&& !((iu o a.step).getD lh).cZ.contains a.tool) 4+bn ((iu o a.step).isSome&&((iu o a.step).getD lh).du !=a.rcp) 8)) ?_ ?_
 ·cases o with
  |none=>
   exact bZ rfl<|ah<|Wp 3 rfl<|an<|fun a' ha=>k_ ⟨_,rfl,hs,aj,aq,aB,aL,trivial,ha.keep ⟨rfl,rfl,kI rfl ((rfl)),trivial⟩⟩
  |some f=>
   have eo:=qn f rfl;have hv:=M5 f rfl;clear qn M5;obtain⟨_,_,_,_,_,_,e,aE,_⟩:=id eo;simp only[Value.agg.injEq,Array.mk.injEq,ab1,Value.int.injEq,aaK,true_and,and_true]at e;obtain⟨rfl,rfl,⟨rfl,rfl,rfl⟩,rfl,rfl,rfl⟩:=e;obtain⟨I_,_⟩:=aE.mL;subst I_;refine bI rfl<|ak<|ak ?_;apply dP (eA (.f (Fact.rs (kY f h))::eA (.e (.bool ((kY f h).contains a.step))::fe []))) 7 [(6,30)] (by kernel_rfl)
   ·exact cY [[],[]] [.z cF] hs rfl<|aW [(0,24),(1,25)] (fun gd hf=>bN rfl (ji rfl (vz _ _ f h gd (eo.mono ((G.a_ _).trans hf.le)) (aT.mono ((G.a_ _).trans hf.le)) hh (AN hv))))<|cY [[],[3]] [.z aB] hs rfl<|aW [(2,26),(4,28),(2,26)] (fun gd hf=>aI fun _ _=>bU rfl (aI fun v2 h2=>az (ji rfl (Ff v2 (kY f h) a.step gd h2))))<|mX [[5]] [] hs rfl
   intro g9 EO;refine cj rfl ?_;have hs:=hs.dr.call EO;have ag:=(G.a_ _).trans EO.le;obtain⟨aj,aq,aB,cF,aE,aT⟩:=iB ag aj aq aB cF aE aT;obtain⟨eo,aL⟩:=cA ag eo aL;clear aT;rw[Gz (AI hv)];refine bE<|lR (Uw g A N' C b a b3 b4 [(8,vP b8)] (fun g'=>EP g' b8 0 [vI f.bS,vI f.cd,.slice a1 f.steps.length c1,.slice a2 n2 c2]∧eQ g' (.agg #[vI f.bS,vI f.cd,.slice a1 f.steps.length c1,.slice a2 n2 c2]) f∧Rs g' (.slice a1 f.steps.length c1) f.steps) (0+bn (!(oL (some f) h).contains a.step) 2)) ?_ ?_
   ·cases hc:(oL (some f) h).contains a.step with
    |true=>
     exact bI rfl<|ar<|fun a' ha=>k_ ⟨_,rfl,hs,aj,aq,aB,aL,⟨cF,eo,aE⟩,ha.keep ⟨rfl,rfl,kI rfl ((yq rfl)),rfl,trivial⟩⟩
    |false=>
     exact bZ rfl<|ah<|Wp 3 rfl<|an<|fun a' ha=>k_ ⟨_,rfl,hs,aj,aq,aB,aL,⟨cF,eo,aE⟩,ha.keep ⟨rfl,rfl,kI rfl ((yp (by omega) (by omega) (by omega) (by omega) rfl)),rfl,trivial⟩⟩
   have C9:=PT (!(oL (some f) h).contains a.step) (k:=2) (by decide);rw[show bn (!(some f).isSome) 1+bn ((some f).isSome&& !(oL (some f) h).contains a.step) 2=0+bn (!(oL (some f) h).contains a.step) 2 from rfl];generalize bn (!(oL (some f) h).contains a.step) 2=k0 at*;(repeat clear hs);(repeat clear aj);(repeat clear aq);(repeat clear aB);(repeat clear cF);(repeat clear aL);(repeat clear eo);(repeat clear aE);rintro a' _ ⟨g9,rfl,hs,aj,aq,aB,aL,⟨cF,eo,aE⟩,dT⟩;revert a';refine bT<|eO 4 [.z aB] rfl ?_;by_cases h0:0≤a.step
   ·rw[decide_eq_true h0];refine BS [.z aB,.z cF] rfl ?_;by_cases h1:a.step<f.steps.length
    ·refine aG (b:=decide (a.step<(f.steps.length:Int))) (decide_eq_true h1) rfl ?_;obtain⟨s,dj⟩: ∃s,dq f.steps a.step=some s:=⟨_,bM (j:=a.step.toNat) (by omega) (by omega)⟩;have th:iu (some f) a.step=some s:=dj;rw[th];obtain⟨b5,p5,ys,rfl,Rx,_,_,_,_,_,_,rfl,Vq,_⟩:=aE.at (i:=a.step.toNat) (np dj).2.2;obtain⟨_,_,e⟩:=Vq.isSlice;obtain⟨rfl,rfl,rfl⟩:=aaO e;clear e;refine ak<|ak ?_;apply aO hs (cV (fe (.e (.bool (s.cZ.contains a.tool))::fe []))) 11 [(10,54)] (by kernel_rfl) rfl
     ·exact cY [[],[0],[],[2]] [.z cF,.z aB] hs rfl<|aW [(1,45),(3,47)] (fun gd hf=>bN rfl (ay rfl (ff T.ok rfl rfl rfl h0 (by omega) rfl rfl rfl (cC rfl))))<|mX [[4],[5],[],[7],[6,8],[9]] [.e Rx 1,.z aB,.c (cB 92) fun g' hle=>Ff _ s.cZ a.tool g' (Vq.mono hle)] hs rfl
     (repeat clear hs);intro g6 hs ag;obtain⟨aj,aq,aB,cF,aE,eo⟩:=iB ag aj aq aB cF aE eo;replace aL:=aL.mono ag;replace Rx:=Rx.mono ag;refine bE<|lR (Uw g A N' C b a b3 b4 [(8,vP b8)] (fun g'=>EP g' b8 0 [vI f.bS,vI f.cd,.slice (some ⟨b5,p5,none⟩) f.steps.length c1,.slice a2 n2 c2]∧eQ g' (.agg #[vI f.bS,vI f.cd,.slice (some ⟨b5,p5,none⟩) f.steps.length c1,.slice a2 n2 c2]) f∧Rs g' (.slice (some ⟨b5,p5,none⟩) f.steps.length c1) f.steps) (0+k0+bn (!s.cZ.contains a.tool) 4)) ?_ ?_
     ·cases hc:s.cZ.contains a.tool with
      |true=>
       exact bI rfl<|ar<|fun a' ha=>k_ ⟨_,rfl,hs,aj,aq,aB,aL,⟨cF,eo,aE⟩,ha.keep ⟨rfl,rfl,kI rfl ((yq rfl)),rfl,trivial⟩⟩
      |false=>
       exact bZ rfl<|ah<|Wp 3 rfl<|an<|fun a' ha=>k_ ⟨_,rfl,hs,aj,aq,aB,aL,⟨cF,eo,aE⟩,ha.keep ⟨rfl,rfl,kI rfl ((yp (by omega) (by omega) (by omega) (by omega) rfl)),rfl,trivial⟩⟩
     have JG:=PT (!s.cZ.contains a.tool) (k:=4) (by decide);rw[show bn ((some s).isSome&& !((some s).getD lh).cZ.contains a.tool) 4=bn (!s.cZ.contains a.tool) 4 from rfl];generalize bn (!s.cZ.contains a.tool) 4=k1 at*;clear Rx Vq;(repeat clear hs);(repeat clear aj);(repeat clear aq);(repeat clear aB);(repeat clear cF);(repeat clear aL);(repeat clear eo);(repeat clear aE);rintro a' _ ⟨g9,rfl,hs,aj,aq,aB,aL,⟨cF,eo,aE⟩,dT⟩;revert a';refine bT<|ak ?_;obtain⟨ZA,ZB,ys,e5,Rx,_,_,_,_,_,_,rfl,_,_⟩:=aE.at (i:=a.step.toNat) (np dj).2.2;obtain⟨rfl,rfl⟩:b5=ZA∧p5=ZB:=by simpa using e5
     apply aO hs (cV (eA [])) 10 [(9,66)] (by kernel_rfl) rfl
     ·exact cY [[],[0],[],[2]] [.z cF,.z aB] hs rfl<|aW [(1,58),(3,60)] (fun gd hf=>bN rfl (ay rfl (ff T.ok rfl rfl rfl h0 (by omega) rfl rfl rfl (cC rfl))))<|mX [[4],[5],[],[7],[6,8]] [.e Rx 0,.z aB] hs rfl
     (repeat clear hs);intro g6 hs ag;obtain⟨aj,aq,aB,cF,aE,aL⟩:=iB ag aj aq aB cF aE aL;apply bE;show W _ _ _ _ _ _ _ _;cases hc:s.du !=a.rcp with
     |true=>
      exact bZ rfl<|ah<|Wp 3 rfl<|an<|fun a' ha=>k_ ⟨_,rfl,hs,aj,aq,aB,aL,trivial,ha.keep ⟨rfl,rfl,kI rfl ((yp (by omega) (by omega) (by omega) (by omega) hc)),trivial⟩⟩
     |false=>
      exact bI rfl<|ar<|fun a' ha=>k_ ⟨_,rfl,hs,aj,aq,aB,aL,trivial,ha.keep ⟨rfl,rfl,kI rfl ((yq hc)),trivial⟩⟩
    refine bg (b:=decide (a.step<(f.steps.length:Int))) (decide_eq_false h1) rfl ?_;have th:iu (some f) a.step=none:=by show dq f.steps a.step=none;unfold dq;rw[if_neg (by omega)];exact abx (by omega)
    rw[th];exact ar<|fun a' ha=>k_ ⟨_,rfl,hs,aj,aq,aB,aL,trivial,ha.keep ⟨rfl,rfl,kI rfl ((by simp[bn])),trivial⟩⟩
   rw[decide_eq_false h0];have th:iu (some f) a.step=none:=by show dq f.steps a.step=none;unfold dq;rw[if_pos (by omega)]
   rw[th];exact aF rfl<|bI rfl<|ar<|fun a' ha=>k_ ⟨_,rfl,hs,aj,aq,aB,aL,trivial,ha.keep ⟨rfl,rfl,kI rfl ((by simp[bn])),trivial⟩⟩
 have r1:=PT (!o.isSome) (k:=1) (by decide);have r2:=PT (o.isSome&& !(oL o h).contains a.step) (k:=2) (by decide);have r3:=PT ((iu o a.step).isSome&& !((iu o a.step).getD lh).cZ.contains a.tool) (k:=4) (by decide);have r4:=PT ((iu o a.step).isSome&&((iu o a.step).getD lh).du !=a.rcp) (k:=8) (by decide);obtain⟨q,hq⟩: ∃q,q=bn (!o.isSome) 1+bn (o.isSome&& !(oL o h).contains a.step) 2+bn ((iu o a.step).isSome&& !((iu o a.step).getD lh).cZ.contains a.tool) 4+bn ((iu o a.step).isSome&&((iu o a.step).getD lh).du !=a.rcp) 8:=⟨_,rfl⟩;rw[←hq];have X9:0≤q∧q≤15:=by omega
 clear hq r1 r2 r3 r4 qn M5;(repeat clear hs);(repeat clear aj);(repeat clear aq);(repeat clear aB);(repeat clear aL);(repeat clear cF);(repeat clear aT);rintro a' _ ⟨g9,rfl,hs,aj,aq,aB,aL,_,dT⟩;revert a';refine bT<|eO 11 [.z aq,.z aB,.z aB,.z aB,.z aB,.z aB] rfl<|d_ rfl (MU _ b a.tool a.cham a.rcp a.rvn a.time _ aL hb.size) ?_;rintro g1 _ aH rfl;replace hs:=hs.call aH;have ag:=aH.le;obtain⟨aj,aq,aB,aL⟩:=dU ag aj aq aB aL;clear aH;refine aF rfl<|ak<|aD rfl<|lR (Uw g A N' C b a b3 b4 [] (fun _=>True) (q+bn (!b.qu.any (iL a.tool a.cham a.rcp a.rvn a.time)) 16)) ?_ ?_
 ·cases hc:b.qu.any (iL a.tool a.cham a.rcp a.rvn a.time)with
  |true=>
   exact bI rfl<|ar<|fun a' ha=>k_ ⟨_,rfl,hs,aj,aq,aB,aL,trivial,ha.keep ⟨rfl,rfl,kI rfl ((yq rfl)),trivial⟩⟩
  |false=>
   exact bZ rfl<|ah<|Wp 3 rfl<|an<|fun a' ha=>k_ ⟨_,rfl,hs,aj,aq,aB,aL,trivial,ha.keep ⟨rfl,rfl,kI rfl ((yp (by omega) (by omega) (by omega) (by omega) rfl)),trivial⟩⟩
 have r5:=PT (!b.qu.any (iL a.tool a.cham a.rcp a.rvn a.time)) (k:=16) (by decide);generalize bn (!b.qu.any (iL a.tool a.cham a.rcp a.rvn a.time)) 16=k5 at*;(repeat clear hs);(repeat clear aj);(repeat clear aq);(repeat clear aB);(repeat clear aL);rintro a' _ ⟨g9,rfl,hs,aj,aq,aB,aL,_,dT⟩;revert a';refine bT<|ak<|eO 2 [.z aq,.z aB] rfl<|d_ rfl (JA _ b a _ aL hb.size) fun g1 _ aH aE=>?_;replace hs:=hs.call aH;have ag:=aH.le;clear aH;generalize lQ b a b.holds=l at*;obtain⟨a1,c1,rfl⟩:=aE.isSlice;refine aF rfl ?_;cases hc:decide ((0:Int)<(l.length:Nat))with
 |true=>
  exact bZ rfl<|ah<|aF rfl<|aD rfl<|au (cg rfl hs (congrArg (Value.int .i64) (yp (by omega) (by omega) (by omega) (by omega) rfl)))
 |false=>
  exact bI rfl<|ar<|ai<|aD rfl<|au (cg rfl hs (congrArg (Value.int .i64) (yq rfl)))
theorem JH{b:ft}{a:gW}{x:bc}(h1:yk b x a=oi b x a)(h2:(aP .i64 x.par (mw b x.idn a.time)==x.par)=AJ b x a.time):wF b a x=wE b a x:=by unfold wF wE;rw[h1,h2]
def JI(b:ft):Prop:=∀x∈b.holds,jJ x.waf∧jJ x.lot∧jJ x.rcp∧jJ x.rvn∧jJ x.tool∧jJ x.cham∧jJ x.step∧jJ x.par
theorem bv_and(x y:BitVec 64):(x&&&y=x)↔(x&&& ~~~y=0#64):=by
 constructor
 ·intro h;ext i hi;have:=congrArg (fun v:BitVec 64=>v[i]) h;simp only[BitVec.getElem_and,BitVec.getElem_not]at this⊢;cases hx:x[i]<;>cases hy:y[i]<;>simp_all
 intro h;ext i hi;have:=congrArg (fun v:BitVec 64=>v[i]) h;simp only[BitVec.getElem_and,BitVec.getElem_not]at this⊢;cases hx:x[i]<;>cases hy:y[i]<;>simp_all
theorem GC(v:BitVec 64):IntKind.i64.wrap (v.toNat:Int)=v.toInt:=by have h:=v.isLt;unfold IntKind.wrap;rw[BitVec.toInt_eq_toNat_cond];simp[IntKind.signed,IntKind.bits];split<;>split<;>omega
theorem C_{a:Int}(h:jJ a):(BitVec.ofInt 64 a).toInt=a:=by unfold jJ at h;rw[BitVec.toInt_ofInt];exact Int.bmod_eq_of_le (by omega) (by omega)
theorem M6{p:Int}(h:jJ p)(q:Int):(aP .i64 p q==p)=(aQ .i64 p q==0):=by
 have e1:aP .i64 p q=(BitVec.ofInt 64 p&&&BitVec.ofInt 64 q).toInt:=by unfold aP;exact GC _
 have e2:aQ .i64 p q=(BitVec.ofInt 64 p&&& ~~~BitVec.ofInt 64 q).toInt:=by unfold aQ;exact GC _
 rw[acD,beq_iff_eq,beq_iff_eq,e1,e2];have e3:=bv_and (BitVec.ofInt 64 p) (BitVec.ofInt 64 q);constructor
 ·intro h2;rw[e3.1 (BitVec.eq_of_toInt_eq (by rw[h2,C_ h]))];rfl
 intro h2;rw[e3.2 (BitVec.eq_of_toInt_eq (by rw[h2];rfl)),C_ h]
theorem M7{b:ft}{a:gW}{x:bc}(h1:jJ x.waf)(h2:jJ x.lot)(h3:jJ x.rcp)(h4:jJ x.rvn)(h5:jJ x.tool)(h6:jJ x.cham)(h7:jJ x.step):yk b x a=oi b x a:=by unfold yk Jy oi vu vv BV yr MA OL;simp only[ab_,List.all_nil,Bool.and_true,rE h1,rE h2,rE h3,rE h4,vx h5,vx h6,vx h7];ac_rfl
theorem M8{b:ft}(h:JI b)(a:gW):lQ b a b.holds=qB b a:=by rw[E_];show((b.holds.filter (wF b a)).map (·.idn)).foldl km []=_;rw[List.filter_congr fun x hx=>?_];obtain⟨h1,h2,h3,h4,h5,h6,h7,h8⟩:=h x hx;exact JH (M7 h1 h2 h3 h4 h5 h6 h7) (M6 h8 _)
theorem Da(v u:Value)(b:ft)(a:gW)(h:List bc)(g:G)(aL:gJ g v b)(aT:Rs g u h)(hb:EN b)(hi:JI b)(hh:h.length≤1000000):
  cN prog 39 #[v,EL a,u] g fun _ r=>r=vI (pZ b a h):=by
 unfold pZ HK;rw[R5,←M8 hi];exact M4 v u b a h g aL aT hb hh
theorem PU(v:Value)(b:ft)(a:gW)(g:G)(aL:gJ g v b)(hb:EN b)(hi:JI b):cN prog 18 #[v,EL a] g fun _ r=>r=vI (yu b a):=by
 have hs:=St.start g;have aj:=G.le.refl g;have fC:=aL;obtain⟨A,N',C,rfl,ee⟩:=iY aL;have aL:gJ g (.agg ((List.range 11).map fun i=> .slice (A i) (N' i) (C i)).toArray) b:=fC;clear fC;clear ee;refine enter func18 rfl ntmps18 rfl<|cO<|gF hs rfl fun b3 g2 hs ag aq=>?_;replace aL:=aL.mono ag;refine gF hs rfl fun b4 g2 hs ag aB=>?_;obtain⟨aq,aL⟩:=cA ag aq aL;replace hs:St g g2 []:=hs;refine aF rfl<|ak ?_;apply aO hs (gR (eA (fe (.f (Fact.rs (gi b a.waf a.time)):: .e (vI (yu b a))::[])))) 9 [(8,13)] (by kernel_rfl) rfl
 ·exact cY [[],[],[],[],[3],[],[5]] [.z aq,.z aB,.z aq,.z aB,.z aB] hs rfl<|aW [(2,7),(4,9),(6,11)] (fun gd hf=>dD rfl (ji rfl (ym _ b a.waf a.time gd (aL.mono ((G.a_ _).trans hf.le)) hb.size)))<|aW [(0,5),(1,6),(7,12),(7,12)] (fun gd hf=>fD rfl (aI fun _ _=>aI fun v8 h8=>az (ji rfl (Da _ v8 b a _ gd (aL.mono ((G.a_ _).trans hf.le)) h8 hb hi (lV hb.size _ _)))))<|fk
 (repeat clear hs);intro g6 hs ag;exact aF rfl<|au (cg rfl hs rfl)
theorem px{p:bc→Bool}: ∀{l:List bc} {k:Nat},k≤l.length→(∀j (h:j<l.length),j<k→p l[j]=true)→(∀h:k<l.length,p l[k]=false)→l.takeWhile p=l.take k
 |[],k,_,_,_=>by simp
 |x::l,0,_,_,h=>by rw[List.takeWhile_cons_of_neg (by have:=h (by simp);simpa using this)];rfl
 |x::l,k+1,hk,h1,h2=>by rw[List.takeWhile_cons_of_pos (show p x=true from h1 0 (by simp) (by omega)),px (k:=k) (by simpa using hk) (fun j hj ER=>h1 (j+1) (by simpa using hj) (by omega)) (fun hh=>h2 (by simpa using hh))];rfl
theorem JJ(v:Value)(b:ft)(g:G)(aL:gJ g v b)(hb:EN b)(ZC:JI b):cN prog 11 #[v] g fun g' r=>Rs g' r (qC b):=by
 have hs:=St.start g;have aj:=G.le.refl g;have fC:=aL;obtain⟨A,N',C,rfl,ee⟩:=iY aL;have aL:gJ g (.agg ((List.range 11).map fun i=> .slice (A i) (N' i) (C i)).toArray) b:=fC;clear fC;obtain⟨aA,hN⟩:=ee 0 (by decide);have hl:(b.ls 0).length≤1000000:=hb.size 0;have X_:qC b=Fc (qD b) (b.ls 0):=Fa b;rw[X_];clear ee X_;generalize xm:b.ls 0=l at*;refine enter func11 rfl ntmps11 rfl<|cO<|gF hs rfl fun b1 g2 hs ag aq=>?_;obtain⟨aj,aA,aL⟩:=eS ag aj aA aL;replace hs:St g g2 []:=hs;refine aF rfl<|aD rfl<|ak<|aD rfl<|aw ?_
 refine aZ (fun m a' u=> ∃(i:Nat) (v3:Value) (g':G),u=g'.w∧St g g' []∧G.le g g'∧Rs g' (.slice (A 0) (N' 0) (C 0)) l∧Rs g' v3 (Fc (qD b) (l.take i))∧EP g' b1 0 ((List.range 11).map fun i=> .slice (A i) (N' i) (C i))∧gJ g' (.agg ((List.range 11).map fun i=> .slice (A i) (N' i) (C i)).toArray) b∧i≤l.length∧m+i=l.length∧
   Fr 56 [] [(1,vP b1),(3,v3),(4,vI (i:Nat))] a') l.length
  (fun a' ha=>⟨0,_,_,rfl,hs,aj,aA,Rs.nil _,aq,aL,aar _,rfl,ha.kp rfl⟩) ?_
 (repeat clear hs);(repeat clear aj);(repeat clear aA);(repeat clear aq);(repeat clear aL);rintro m a' _ ⟨i,v3,g',rfl,hs,aj,aA,aE,aq,aL,hi,hm,dT⟩;have JB:(Fc (qD b) (l.take i)).length≤(l.take i).length:=BU _ _;rw[aat]at JB;revert a';refine bT<|ak<|pW [.z aq] rfl ?_;by_cases aV:i<l.length
 ·refine aG (b:=decide ((i:Int)<(N' 0:Int))) (decide_eq_true (by omega)) rfl ?_;have eI:dq l (i:Int)=some l[i]:=bM rfl aV;have ed:Fc (qD b) (l.take (i+1))=if qD b l[i]then km (Fc (qD b) (l.take i)) l[i].idn else Fc (qD b) (l.take i):=by rw[←yl,aaV,aas aV];rfl
  generalize l[i]=x at*;obtain⟨out,C8⟩: ∃out,Fc (qD b) (l.take i)=out:=⟨_,rfl⟩;rw[C8]at aE JB ed;obtain⟨a3,c3,rfl⟩:=aE.isSlice;refine ar<|ai<|ak<|aw<|eO 3 [.z aq] rfl<|fP (y:=x) aA eI rfl ?_;rintro b9 q9 ys aK rfl;have aB:=aK;clear aK;refine dE 1 [.e aB 0] rfl<|fA hs rfl fun b5 g1 hs ag=>?_;obtain⟨aj,aq,aB,aA,aE,aL⟩:=iB ag aj aq aB aA aE aL;refine om 0 hs rfl fun g2 hs ag aK=>?_;obtain⟨aj,aq,aB,aA,aE,aL⟩:=iB ag aj aq aB aA aE aL;clear aB;have aB:=aK;clear aK;replace hs:St g _ []:=hs;refine bE<|eO 2 [.z aq,.z aB] rfl<|d_ rfl (PS _ b x _ aL hb.size) ?_;rintro g1 _ aH rfl;replace hs:=hs.call aH;have ag:=aH.le;obtain⟨aj,aq,aB,aA,aE,aL⟩:=iB ag aj aq aB aA aE aL;clear aH;have oq:qD b x=(pZ b (lg b x) ((mO b (lg b x).waf).takeWhile fun q=> !(q.idn==x.idn)) !=0):=rfl;generalize lg b x=A0 at*;refine fA hs rfl fun b6 g1 hs ag=>?_;obtain⟨aj,aq,aB,aA,aE,aL⟩:=iB ag aj aq aB aA aE aL;refine om 0 hs rfl fun g2 hs ag aK=>?_;obtain⟨aj,aq,aB,aA,aE,aL⟩:=iB ag aj aq aB aA aE aL;have cF:EP g2 b6 0 (oo A0):=aK;clear aK;replace hs:St g _ []:=hs;refine bE<|eO 3 [.z aq,.z cF] rfl<|d_ rfl (GA _ b A0.waf _ aL hb.size) fun g1 _ aH aT=>?_;replace hs:=hs.call aH;have ag:=aH.le;obtain⟨aj,aq,aB,cF,aA,aE⟩:=iB ag aj aq aB cF aA aE;replace aL:=aL.mono ag;clear aH;have PV:=oQ hb.size A0.waf;generalize mO b A0.waf=H at*;obtain⟨a7,c7,rfl⟩:=aT.isSlice;refine aF rfl<|aD rfl<|ak<|aw ?_
  refine Fb (fun a' u=> ∃(k:Nat) (g2:G),u=g2.w∧St g g2 []∧G.le g g2∧Rs g2 (.slice (A 0) (N' 0) (C 0)) l∧Rs g2 (.slice a3 out.length c3) out∧Rs g2 (.slice a7 H.length c7) H∧EP g2 b1 0 ((List.range 11).map fun i=> .slice (A i) (N' i) (C i))∧EP g2 b5 0 (bK x)∧EP g2 b6 0 (oo A0)∧gJ g2 (.agg ((List.range 11).map fun i=> .slice (A i) (N' i) (C i)).toArray) b∧k≤H.length∧(H.takeWhile fun q=> !(q.idn==x.idn))=H.take k∧
    Fr 56 [] [(1,vP b1),(3,.slice a3 out.length c3),(4,vI (i:Nat)),(5,vP b5),(6,vP b6),(7,.slice a7 H.length c7),(8,vI (k:Nat))] a') ?_ ?_
  ·refine aZ (fun q a' u=> ∃(k:Nat) (g2:G),u=g2.w∧St g g2 []∧G.le g g2∧Rs g2 (.slice (A 0) (N' 0) (C 0)) l∧Rs g2 (.slice a3 out.length c3) out∧Rs g2 (.slice a7 H.length c7) H∧EP g2 b1 0 ((List.range 11).map fun i=> .slice (A i) (N' i) (C i))∧EP g2 b5 0 (bK x)∧EP g2 b6 0 (oo A0)∧gJ g2 (.agg ((List.range 11).map fun i=> .slice (A i) (N' i) (C i)).toArray) b∧(∀j (h:j<H.length),j<k→(!(H[j].idn==x.idn))=true)∧q+k=H.length∧
     Fr 56 [] [(1,vP b1),(3,.slice a3 out.length c3),(4,vI (i:Nat)),(5,vP b5),(6,vP b6),(7,.slice a7 H.length c7),(8,vI (k:Nat))] a') H.length
    (fun a' ha=>⟨0,_,rfl,hs,aj,aA,aE,aT,aq,aB,cF,aL,fun j h hj=>absurd hj (aco _),rfl,ha.kp rfl⟩) ?_
   (repeat clear hs);(repeat clear aj);(repeat clear aA);(repeat clear aE);(repeat clear aT);(repeat clear aq);(repeat clear aB);(repeat clear cF);(repeat clear aL);rintro q a' _ ⟨k,g2,rfl,hs,aj,aA,aE,aT,aq,aB,cF,aL,dt,hq,dT⟩;revert a';refine bT<|ak<|ak ?_;by_cases hk:k<H.length
   ·obtain⟨b8,p8,ys,rfl,xG,hx⟩:=aT.at (i:=k) (aas hk);obtain⟨y,hy⟩: ∃y,H[k]=y:=⟨_,rfl⟩;rw[hy]at hx;obtain rfl:ys=bK y:=hx;apply aO hs (eA (fe (.e (.bool true)::cV (eA [])))) 14 [(13,41)] (by kernel_rfl) rfl
    ·exact cY [[],[],[1]] [] hs rfl<|aW [(0,28),(2,30)] (fun gd hf=>bN rfl (bj rfl (congrArg Value.bool (decide_eq_true (Int.ofNat_lt.2 hk)))))<|cY [[3],[4],[4]] [] hs rfl<|aW [(5,33),(6,34),(4,32)] (fun gd hf=>dD rfl (ay rfl (ff T.ok rfl rfl rfl (by omega) hk rfl rfl rfl (cC rfl))))<|mX [[7,4],[8,4],[4],[10,4],[9,11,4],[4,12]] [.e xG 1,.z aB] hs rfl
    (repeat clear hs);intro g6 hs ag;obtain⟨aj,aq,aB,cF,aA,aE⟩:=iB ag aj aq aB cF aA aE;obtain⟨aT,aL⟩:=cA ag aT aL;apply bE;by_cases he:y.idn=x.idn
    ·exact bg (b:=y.idn !=x.idn) (by simp[he]) rfl<|aJ<|aM<|aM<|b_<|fun a' ha=>k_ ⟨k,_,rfl,hs,aj,aA,aE,aT,aq,aB,cF,aL,by omega,px (Nat.le_of_lt hk) dt fun _=>by rw[hy];simp[he],ha.kp rfl⟩
    refine aG (b:=y.idn !=x.idn) (by simp[he]) rfl<|ar<|ai<|aw<|ah<|Wp 3 rfl<|an<|aX<|fun a' ha=>⟨q-1,by omega,k+1,_,rfl,hs,aj,aA,aE,aT,aq,aB,cF,aL,fun j h hj=>?_,by omega,ha.keep ⟨rfl,rfl,rfl,rfl,rfl,rfl,kW rfl,trivial⟩⟩
    by_cases e:j=k
    ·subst e;rw[hy];simp[he]
    exact dt j h (by omega)
   apply aO hs (eA (fe (.e (.bool false)::cV (eA [])))) 14 [(13,41)] (by kernel_rfl) rfl
   ·exact cY [[],[],[1]] [] hs rfl<|aW [(0,28),(2,30)] (fun gd hf=>bN rfl (bj rfl (congrArg Value.bool (decide_eq_false (by omega)))))<|mX [[3],[4],[4],[5,6,4],[7,4],[8,4],[4],[10,4],[9,11,4],[4,12]] [] hs rfl
   (repeat clear hs);intro g6 hs ag;obtain⟨aj,aq,aB,cF,aA,aE⟩:=iB ag aj aq aB cF aA aE;obtain⟨aT,aL⟩:=cA ag aT aL;exact bE<|bI rfl<|aJ<|aM<|aM<|b_<|fun a' ha=>k_ ⟨k,_,rfl,hs,aj,aA,aE,aT,aq,aB,cF,aL,by omega,px (by omega) dt fun h=>absurd h hk,ha.kp rfl⟩
  (repeat clear hs);(repeat clear aj);(repeat clear aA);(repeat clear aE);(repeat clear aT);(repeat clear aq);(repeat clear aB);(repeat clear cF);(repeat clear aL);rintro a' _ ⟨k,g2,rfl,hs,aj,aA,aE,aT,aq,aB,cF,aL,hk,ZD,dT⟩;rw[ZD]at oq;revert a';refine bT<|ak ?_;apply dP (gR (.f (Fact.rs (H.take k)):: .e (vI (pZ b A0 (H.take k)))::fe [])) 7 [(6,50)] (by kernel_rfl)
  ·exact cY [[],[],[],[]] [.z aq,.z cF] hs rfl<|aW [(2,46),(3,47)] (fun gd hf=>bN rfl (ay rfl (iA T.ok rfl rfl rfl rfl rfl (a:=0) (b:=k) rfl ⟨_,rfl⟩ (by omega) (by have:=aT.mL;omega) (cC<|(aT.mono ((G.a_ _).trans hf.le)).cut (a:=0) (b:=k) (by omega) hk))))<|aW [(0,44),(1,45),(4,48)] (fun gd hf=>fD rfl (aI fun v4 h4=>az (ji rfl (Da _ v4 b A0 (H.take k) gd (aL.mono ((G.a_ _).trans hf.le)) h4 hb ZC (by rw[aat];omega)))))<|mX [[5]] [] hs rfl
  intro g9 EO;refine cj rfl ?_;have hs:=hs.dr.call EO;have ag:=(G.a_ _).trans EO.le;obtain⟨aj,aq,aB,aA,aE,aL⟩:=iB ag aj aq aB aA aE aL;clear aT cF;apply bE;cases hc:pZ b A0 (H.take k) !=0 with
  |true=>
   refine bZ rfl ?_;have e:Fc (qD b) (l.take (i+1))=km out x.idn:=by rw[ed,oq,hc];rfl
   refine ah<|dE 3 [.z aB] rfl<|d_ rfl (OO _ out x.idn _ aE (by omega)) fun g1 _ aH bV=>?_;replace hs:=hs.call aH;have ag:=aH.le;obtain⟨aj,aq,aA,aE,aL⟩:=mY ag aj aq aA aE aL;clear aH;exact Wp 1 rfl<|an<|aX<|ai<|ah<|Wp 3 rfl<|an<|fun a' ha=>⟨m-1,by omega,i+1,_,_,rfl,hs,aj,aA,(by rw[e];exact bV),aq,aL,by omega,by omega,ha.keep ⟨rfl,rfl,kW rfl,trivial⟩⟩
  |false=>
   refine bI rfl ?_;have e:Fc (qD b) (l.take (i+1))=out:=by rw[ed,oq,hc];rfl
   exact ar<|aX<|ai<|ah<|Wp 3 rfl<|an<|fun a' ha=>⟨m-1,by omega,i+1,_,_,rfl,hs,aj,aA,(by rw[e];exact aE),aq,aL,by omega,by omega,ha.keep ⟨rfl,rfl,kW rfl,trivial⟩⟩
 refine bg (b:=decide ((i:Int)<(N' 0:Int))) (decide_eq_false (by omega)) rfl ?_;rw[aaD (by omega)]at aE;exact aJ<|aM<|aM<|b_<|ai<|aD rfl<|au (cg rfl hs aE)
theorem Jm{day:Int}{l:List bc}: ∀{p},p∈mu day l→p.2∈l:=by
 refine ya (P:=fun m l=> ∀{p},p∈m→p.2∈l) (fun h=>absurd h abi) (fun m l f ih p hp=>?_) l;rcases BO day m f with e|⟨_,e⟩<;>rw[e]at hp
 ·exact List.mem_append_left _ (ih hp)
 rcases x_ hp with rfl|hp
 ·exact List.mem_append_right _ (List.mem_singleton_self _)
 exact List.mem_append_left _ (ih hp)
def Nc(x:bc):Prop:=jJ x.waf∧jJ x.lot∧jJ x.rcp∧jJ x.rvn∧jJ x.tool∧jJ x.cham∧jJ x.step∧jJ x.par
theorem Sa{l:List bc}{n:Nat}(h: ∀x∈l,Nc x): ∀x∈xu l n,Nc x:=by intro x hx;obtain⟨y,hy,rfl⟩:=aaU.1 hx;exact h y (abX hy)
theorem Sb{x:bc}(h:Nc x):UD x:=⟨h.1,h.2.2.2.2.1,h.2.2.2.2.2.2.1,h.2.2.1⟩
theorem Dh{l:List bc}{day:Int}{x:bc}(h:x∈(ofM l day).ls 6):x∈l∧x.kind=7:=by obtain⟨k,hk,e⟩:=uu ((jv _).mem_iff.1 h);exact⟨Jm hk,e⟩
theorem P6{l:List bc}{n:Nat}(h: ∀x∈l,Nc x): ∀y∈AS l n,y.kind=7→Nc y:=by
 intro y hy hk;obtain⟨x,hx,rfl⟩:=aaU.1 hy;have hj:=Sa (n:=n) h x hx;cases h1:x.kind==1 with
 |true=>rw[GG h1]at hk;rw[beq_iff_eq]at h1;exact absurd (hk.symm.trans h1) (by decide)
 |false=>
  cases h4:x.kind==4 with
  |true=>rw[GH h1 h4]at hk;rw[beq_iff_eq]at h4;exact absurd (hk.symm.trans h4) (by decide)
  |false=>
   cases h7:x.kind==7 with
   |true=>
    rw[GI h1 h4 h7];obtain⟨_,j2,_,_,j5,j6,j7,j8⟩:=hj;obtain⟨p1,p2⟩:=dM (c:=x.waf) (n:=5) (by decide);have z0:jJ 0:=⟨by decide,by decide⟩;exact⟨⟨by show _≤aC x.waf 5;omega,by show aC x.waf 5≤_;omega⟩,j2,z0,z0,j5,j6,j7,j8⟩
   |false=>rw[GJ h1 h4 h7];exact hj
theorem yD{f:aU}{waf idn time:Int}: ∀(cs:List Int) (n:Nat) (out:List bc),(∀y∈out,y.kind≠7)→ ∀y∈tr f waf idn time cs n out,y.kind≠7
 |[],_,out,h=>by unfold tr;exact h
 |_::_,0,out,h=>by unfold tr;exact h
 |c::cs,n+1,out,h=>by
  unfold tr;split
  ·exact h
  exact yD cs n _ fun y hy=>by
    rcases aaJ.1 hy with hy|hy
    ·exact h y hy
    rw[aaL.1 hy];show(1:Int)≠7;decide
theorem JV{t:List UInt8}: ∀y∈Fm t,y.kind≠7:=by
 intro y hy;unfold Fm Fo at hy;simp only[aaJ,aav,aaU]at hy;rcases hy with(rfl|⟨i,_,rfl⟩)|⟨i,_,rfl⟩
 ·show(5:Int)≠7;decide
 ·show(4:Int)≠7;decide
 show(6:Int)≠7;decide
set_option maxHeartbeats 4000000
instance:El Y7 where
 k:=7
 pos:=by omega
 rc _ cs z:=cs=UE z
 len h:=by rw[h];rfl
 mono _ h:=h
 one h:=by rw[h];simp[UE,Value.oneCell']
theorem xK(v u:Value)(l:List Int)(g:G)(aA:Rs g v l)(aE:Rs g u l):cN prog 9 #[v,u] g fun _ x=>x= .bool true:=by have h:=rO v u l l g aA aE;rwa [decide_eq_true rfl]at h
theorem HV(v0:Value)(x:List Y6)(v1:Value)(cs:List Int)(v2:Value)(raw:List bc)(v3:Value)(zs:List Y7)(g:G)(cr:kr g)(aA:Rs g v0 x)(hx: ∀y∈x,y.fit)(aE:Rs g v1 cs)(oR: ∀c∈cs,jJ c)(bB:Rs g v2 raw)(hr: ∀f∈raw,Nc f)(aT:Rs g v3 zs)(hz: ∀z∈zs,z.fit):
  cN prog 3 #[v0,v1,v2,v3] g fun _ r=>r= .bool true:=by
 have hs:=St.start g;have aj:=G.le.refl g;refine enter func3 rfl ntmps3 rfl<|aD rfl<|cO<|d_ rfl (P7 _ cr) ?_;rintro g1 _ aH rfl;replace hs:=hs.call aH;have ag:=aH.le;obtain⟨aj,aA,aE,bB,aT,cr⟩:=iB ag aj aA aE bB aT cr;clear aH;refine aF rfl<|ck 1 rfl<|d_ rfl (Sc _ x _ aA hx) ?_;rintro g1 _ aH ⟨u1,u2,rfl,⟨cells,hh,fw⟩,eo⟩;obtain rfl:=lf fw;replace hs:=hs.jl aH hh;have ag:=aH.le;obtain⟨aj,aE,bB,aT,cr⟩:=mY ag aj aE bB aT cr;clear hh fw aH;have Sd:=JW (Fp (mk x []));have Se:=JV (t:=Fp (mk x []));generalize Fm (Fp (mk x []))=l1 at*;obtain⟨ad,c8,rfl⟩:=(hs.own 0 _ rfl).1.form;replace hs:St g g1 [rF ad c8 l1]:=hs;have JX:=P8 x;generalize mk x []=f at*;obtain⟨a1,n1,c1,a2,n2,c2,rfl,_,_⟩:=id eo;refine Wp 3 rfl<|fA hs rfl fun zX g1 hs ag=>?_;obtain⟨aj,aE,bB,aT,eo,cr⟩:=iB ag aj aE bB aT eo cr;refine Wp 1 rfl<|dC 0 hs rfl fun g1 hs ag=>?_;obtain⟨aj,aE,bB,aT,eo,cr⟩:=iB ag aj aE bB aT eo cr;obtain⟨g2,fm,dm,ag,aK⟩:=hs.fM (i:=0) rfl;replace hs:=dm;clear dm;rw[←fm];obtain⟨aj,aE,bB,aT,eo,cr⟩:=iB ag aj aE bB aT eo cr;have aB:EP g2 zX 0 [vI f.bS,vI f.cd,.slice a1 n1 c1,.slice a2 n2 c2]:=aK;clear aK;replace hs:St g g2 [rF ad c8 l1]:=hs;refine bE<|eO 3 [.z aB] rfl<|d_ rfl (Di _ _ f cs 8 1 500 10 _ eo aE JX oR (by omega) ⟨by omega,by omega⟩ ⟨by omega,by omega⟩) fun g1 _ aH bV=>?_;replace hs:=hs.call aH;have ag:=aH.le;obtain⟨aj,aB,aE,bB,aT,eo⟩:=iB ag aj aB aE bB aT eo;replace cr:=cr.mono ag;clear aH;have rD:=yE f 1 500 10 cs 8 [];have fm:=yD (f:=f) (waf:=1) (idn:=500) (time:=10) cs 8 [] (fun y hy=>(by cases hy));generalize tr f 1 500 10 cs 8 []=l2 at*;obtain⟨a4,c4,rfl⟩:=bV.isSlice;obtain⟨_,news,HJ,nU⟩:=Src.jh bV;obtain rfl:=lf HJ;have rD:l2.length≤8:=by simpa using rD
 refine aN rfl rfl<|ba T.ok 0 rfl hs rfl rfl rfl rfl rfl rfl rfl (by decide) rfl nU (oj g1 l2) (by show(l1.length+l2.length)*160≤_;omega) (by unfold maxLen;omega) fun a6 c6 g10 hs ag=>?_;obtain⟨aj,aB,aE,bB,aT,bV⟩:=iB ag aj aB aE bB aT bV;obtain⟨eo,cr⟩:=cA ag eo cr;have Sf:(l1++l2).length=l1.length+l2.length:=aal;replace hs:St g g10 [rF a6 c6 (l1++l2)]:=by unfold rF;rw[jM,Sf];exact hs
 have Sg: ∀y∈l1++l2,y.kind≠7:=fun y hy=>(aaJ.1 hy).elim (Se y) (fm y);rw[←Sf];clear Se fm bV HJ nU;generalize l1++l2=l3 at*;have ZR:=rD;refine aF rfl<|eO 3 [.z aB] rfl<|d_ rfl (Di _ _ f cs 4 2 600 12 _ eo aE JX oR (by omega) ⟨by omega,by omega⟩ ⟨by omega,by omega⟩) fun g1 _ aH bV=>?_;replace hs:=hs.call aH;have ag:=aH.le;obtain⟨aj,aB,bB,aT,cr⟩:=mY ag aj aB bB aT cr;clear aH;have rD:=yE f 2 600 12 cs 4 [];have fm:=yD (f:=f) (waf:=2) (idn:=600) (time:=12) cs 4 [] (fun y hy=>(by cases hy));generalize tr f 2 600 12 cs 4 []=l2 at*;obtain⟨a4,c4,rfl⟩:=bV.isSlice;obtain⟨_,news,HJ,nU⟩:=Src.jh bV;obtain rfl:=lf HJ;have rD:l2.length≤4:=by simpa using rD
 refine aN rfl rfl<|ba T.ok 0 rfl hs rfl rfl rfl rfl rfl rfl rfl (by decide) rfl nU (oj g1 l2) (by show(l3.length+l2.length)*160≤_;omega) (by unfold maxLen;omega) fun a6 c6 g10 hs ag=>?_;obtain⟨aj,aB,bB,aT,bV,cr⟩:=iB ag aj aB bB aT bV cr;have Sh:(l3++l2).length=l3.length+l2.length:=aal;replace hs:St g g10 [rF a6 c6 (l3++l2)]:=by unfold rF;rw[jM,Sh];exact hs
 have Si: ∀y∈l3++l2,y.kind≠7:=fun y hy=>(aaJ.1 hy).elim (Sg y) (fm y);rw[←Sh];clear Sg fm bV HJ nU;generalize l3++l2=l6 at*;clear eo aB aA aE;refine aF rfl<|ck 2 rfl<|d_ rfl (P9 _ raw 15 _ bB (by omega) fun f hf=>Sb (hr f hf)) fun g1 _ aH cU=>?_;replace hs:=hs.call aH;have ag:=aH.le;obtain⟨aj,aT,cr⟩:=eS ag aj aT cr;clear aH;have hl4:(AS raw 15).length≤15:=by unfold AS xu;rw[aaS,aaS,aat];omega
 have Nd:=P6 (n:=15) hr;generalize AS raw 15=l4 at*;obtain⟨a5,c5,rfl⟩:=cU.isSlice;obtain⟨_,news,Yi,OU⟩:=Src.jh cU;obtain rfl:=lf Yi;refine aN rfl rfl<|ba T.ok 0 rfl hs rfl rfl rfl rfl rfl rfl rfl (by decide) rfl OU (oj g1 l4) (by show(l6.length+l4.length)*160≤_;omega) (by unfold maxLen;omega) fun a7 c7 g11 hs ag=>?_;obtain⟨aj,aT,cU,cr⟩:=dU ag aj aT cU cr;have Sj:(l6++l4).length=l6.length+l4.length:=aal;replace hs:St g g11 [rF a7 c7 (l6++l4)]:=by unfold rF;rw[jM,Sj];exact hs
 have UF: ∀y∈l6++l4,y.kind=7→Nc y:=fun y hy h7=>(aaJ.1 hy).elim (fun h=>absurd h7 (Si y h)) fun h=>Nd y h h7;rw[←Sj];clear Si Nd;generalize l6++l4=l5 at*;clear cU Yi OU bB;obtain⟨g8,AK,oI,ag,sx⟩:=hs.cD (α:=bc) (i:=0) rfl (cR.fl _ _);rw[←AK];(repeat clear hs);have hs:St g g8 []:=oI;clear oI;obtain⟨aj,aT,cr⟩:=eS ag aj aT cr;clear AK;refine d_ rfl (VD _ l5 100000 _ sx (by omega)) fun g1 _ aH aL=>?_;replace hs:=hs.call aH;have ag:=aH.le;obtain⟨aj,aT,sx,cr⟩:=dU ag aj aT sx cr;clear aH sx;have hK:=Sk (l:=l5) 100000 (by omega);have hI:JI (ofM l5 100000):=fun y hy=>UF y (Dh hy).1 (Dh hy).2;clear UF;generalize ofM l5 100000=b at*;obtain⟨sl,rfl,ee⟩:=id aL;have tu:((List.range 11).map sl).all Value.oneCell'=true:=by rw[aa2];intro u hu;obtain⟨i,hi,rfl⟩:=aaU.1 hu;obtain⟨_,_,e⟩:=(ee i (aa9.1 hi)).isSlice;rw[e];rfl
 clear ee;refine fA hs rfl fun Mx g1 hs ag=>?_;obtain⟨aj,aT,aL,cr⟩:=dU ag aj aT aL cr;refine gw rfl<|eT T.ok 0 rfl hs rfl rfl rfl rfl rfl rfl tu rfl rfl fun g1 hs ag=>?_;obtain⟨aj,aT,aL,cr⟩:=dU ag aj aT aL cr;obtain⟨g2,fm,dm,ag,aK⟩:=hs.fM (i:=0) rfl;replace hs:=dm;clear dm;rw[←fm];obtain⟨aj,aT,aL,cr⟩:=dU ag aj aT aL cr;have aq:EP g2 Mx 0 ((List.range 11).map sl):=aK;clear aK;replace hs:St g g2 []:=hs;clear tu;refine bE<|ak<|ak ?_;apply aO hs (fe (.f (Fact.rs (qC b))::fe (.f (Fact.rs (qC b)):: .e (.bool true)::fe []))) 6 [(5,45)] (by kernel_rfl) rfl
 ·exact cY [[]] [.z aq] hs rfl<|aW [(0,40)] (fun gd hf=>cj rfl (ji rfl (GK _ b gd (aL.mono ((G.a_ _).trans hf.le)) hK (cr.mono ((G.a_ _).trans hf.le)))))<|cY [[]] [.z aq] hs rfl<|aW [(2,42)] (fun gd hf=>cj rfl (ji rfl (JJ _ b gd (aL.mono ((G.a_ _).trans hf.le)) hK hI)))<|aW [(1,41),(3,43),(3,43)] (fun gd hf=>aI fun u1 k1=>aI fun _ _=>aI fun u2 k2=>(az (ji rfl (xK u1 u2 _ gd k1 k2))))<|mX [[4]] [] hs rfl
 (repeat clear hs);intro g6 hs ag;obtain⟨aj,aq,aT,aL,cr⟩:=mY ag aj aq aT aL cr;refine bE<|bI rfl ?_;obtain⟨a3,c3,rfl⟩:=aT.isSlice;refine ar<|ai<|ak<|aD rfl<|aw ?_
 refine aZ (fun m a' u=> ∃(k:Nat) (g':G),u=g'.w∧St g g' []∧G.le g g'∧kr g'∧Rs g' (.slice a3 zs.length c3) zs∧gJ g' (.agg ((List.range 11).map sl).toArray) b∧EP g' Mx 0 ((List.range 11).map sl)∧m+k=zs.length∧
   Fr 115 [] [(3,.slice a3 zs.length c3),(9,.bool true),(12,vP Mx),(13,vI (k:Nat))] a') zs.length
  (fun a' ha=>⟨0,_,rfl,hs,aj,cr,aT,aL,aq,rfl,ha.kp rfl⟩) ?_
 (repeat clear hs);(repeat clear aj);(repeat clear cr);(repeat clear aT);(repeat clear aL);(repeat clear aq);rintro m a' _ ⟨k,g',rfl,hs,aj,cr,aT,aL,aq,hm,dT⟩;revert a';refine bT<|ak<|ck 5 rfl ?_;cases h1:decide ((k:Int)<(zs.length:Int))with
 |false=>
  exact aF rfl<|bI rfl<|aJ<|aM<|aM<|b_<|ai<|aD rfl<|au (cg rfl hs rfl)
 |true=>
  have h1:=of_decide_eq_true h1;refine aF rfl ?_;cases h2:decide ((k:Int)<(5:Int))with
  |false=>
   exact bI rfl<|aJ<|aM<|aM<|b_<|ai<|aD rfl<|au (cg rfl hs rfl)
  |true=>
   have h2:=of_decide_eq_true h2;refine bZ rfl ?_;have eI:dq zs (k:Int)=some (zs[k]'(by omega)):=bM rfl (by omega);have ZS:=hz (zs[k]'(by omega)) (aaQ _);generalize zs[k]'(by omega)=z at*;refine ar<|ai<|ak<|aw<|ck 2 rfl<|fP (y:=z) aT eI rfl ?_;rintro b9 q9 ys aK rfl;refine dE 1 [.e aK 0] rfl ?_;clear aK;refine d_ rfl (Sl z _ ZS) ?_;rintro g1 _ aH rfl;replace hs:=hs.call aH;have ag:=aH.le;obtain⟨aj,aq,aT,aL,cr⟩:=mY ag aj aq aT aL cr;clear aH eI;generalize yF z=A at*;refine fA hs rfl fun PH g1 hs ag=>?_;obtain⟨aj,aq,aT,aL,cr⟩:=mY ag aj aq aT aL cr;refine om 0 hs rfl fun g2 hs ag aK=>?_;obtain⟨aj,aq,aT,aL,cr⟩:=mY ag aj aq aT aL cr;have aB:EP g2 PH 0 (oo A):=aK;clear aK;replace hs:St g g2 []:=hs;refine bE<|eO 5 [.z aq,.z aB,.z aB] rfl<|d_ rfl (JY _ b A.waf A.time _ aL hK) ?_;rintro g1 _ aH ⟨v4,v5,rfl,bV,cU⟩;replace hs:=hs.call aH;have ag:=aH.le;obtain⟨aj,aq,aB,aT,aL,cr⟩:=iB ag aj aq aB aT aL cr;clear aH;refine aF rfl<|eO 5 [.z aq,.z aB,.z aB] rfl<|d_ rfl (MZ _ b A.waf A.time _ aL hK.size) ?_;rintro g1 _ aH ⟨v6,v7,rfl,sx,fg⟩;replace hs:=hs.call aH;have ag:=aH.le;obtain⟨aj,aq,aB,aT,bV,cU⟩:=iB ag aj aq aB aT bV cU;obtain⟨aL,cr⟩:=cA ag aL cr;clear aH;refine aF rfl<|ak ?_;apply aO hs (cV (cV (.f (Fact.rs (wG b A.waf A.time))::gR (fe (.f (Fact.rs (wG b A.waf A.time)):: .e (.bool true)::cV (fe (.e (.bool false)::fe []))))))) 35 [(34,113)] (by kernel_rfl) rfl
   ·exact cY [[],[],[0,1],[2],[3],[4],[4],[5,6,4,4],[7,4],[4,8],[9],[10],[10],[12,10],[10],[14,10]] [.c (cB 9) fun g' h=>xK _ _ _ g' (bV.mono h) (sx.mono h),.c (cB 9) fun g' h=>xK _ _ _ g' (cU.mono h) (fg.mono h),.z aq,.z aB,.z aB] hs rfl<|aW [(11,90),(13,92),(15,94),(10,89),(10,89)] (fun gd hf=>bU rfl (su rfl (ji rfl (B1 _ b A.waf A.time gd (aL.mono ((G.a_ _).trans hf.le)) hK (cr.mono ((G.a_ _).trans hf.le))))))<|cY [[10],[10],[18,10],[10],[20,10]] [.z aq,.z aB,.z aB] hs rfl<|aW [(17,96),(19,98),(21,100),(10,89)] (fun gd hf=>su rfl (ji rfl (M3 _ b A.waf A.time gd (aL.mono ((G.a_ _).trans hf.le)) hK)))<|aW [(16,95),(22,101),(22,101),(10,89)] (fun gd hf=>aI fun u1 k1=>aI fun _ _=>aI fun u2 k2=>cj rfl (ji rfl (xK u1 u2 _ gd k1 k2)))<|cY [[23,10],[10,24],[25],[26],[26],[27,28,26,26],[26],[26],[30,31,26]] [.z aq,.z aB,.c (cB 17) fun g' h=>OV _ b A g' (aL.mono h) hK (cr.mono h),.z aq,.z aB,.c (cB 18) fun g' h=>PU _ b A g' (aL.mono h) hK hI] hs rfl<|aW [(29,108),(32,111),(26,105)] (fun gd hf=>dD rfl (bj rfl (congrArg Value.bool (by simp))))<|mX [[26,33]] [] hs rfl
   (repeat clear hs);intro g6 hs ag;obtain⟨aj,aq,aT,aL,cr⟩:=mY ag aj aq aT aL cr;exact bE<|bI rfl<|ar<|aX<|ai<|ah<|Wp 3 rfl<|an<|fun a ha=>⟨m-1,by omega,k+1,_,rfl,hs,aj,cr,aT,aL,aq,by omega,ha.keep ⟨rfl,rfl,rfl,kW rfl,trivial⟩⟩
end Go.Proofs.YtkpojaffabjibaaGreatDoor
namespace Go.Proofs.YtkpojaffabjibaaGreatDoor
open Go Go.K Go.RowKit Go.ChangeShapes Go.WideShapes Go.Proofs.Tryz
set_option maxRecDepth 100000
theorem Cm:ownKnob prog.godebug=none:=by kernel_rfl
theorem laidOut:laidOutB prog=true:=by kernel_rfl
theorem uQ:prog.cellsOf 3=1:=by kernel_rfl
theorem K2:prog.cellsOf 89=6:=by kernel_rfl
theorem qU:prog.cellsOf 9=1:=by kernel_rfl
theorem K3:prog.cellsOf 43=7:=by kernel_rfl
theorem DO:prog.cellsOf 50=19:=by kernel_rfl
theorem Ij:prog.cellsOf 4=1:=by kernel_rfl
def y7:List (String×DataW Unit):=[("math/bits.deBruijn32tab",Rows.laid_math_bits_deBruijn32tab),("math/bits.deBruijn64tab",Rows.laid_math_bits_deBruijn64tab),("internal/strconv.uint64pow10",Rows.laid_internal_strconv_uint64pow10),("unicode/utf8.acceptRanges",Rows.laid_unicode_utf8_acceptRanges),("strconv.ErrRange",Rows.laid_strconv_ErrRange),("strconv.ErrSyntax",Rows.laid_strconv_ErrSyntax),("unicode/utf8.first",Rows.laid_unicode_utf8_first)]
theorem S_:prog.globalNamed "strconv.ErrRange" =some 5:=by kernel_rfl
theorem S':prog.globalNamed "strconv.ErrSyntax" =some 4:=by kernel_rfl
theorem Wt:(prog.globals[3]?).map (·.type)=some 310:=by kernel_rfl
theorem Wu:(prog.globals[5]?).map (·.type)=some 161:=by kernel_rfl
theorem Wv:(prog.globals[4]?).map (·.type)=some 161:=by kernel_rfl
theorem Ta:(Rows.laid_internal_strconv_uint64pow10:DataW Unit)=Lib.tabData .u64 Lib.pow10Tab:=by kernel_rfl
theorem K4(u:TypeId)(h:prog.typeName? 3 u=some "*errors.errorString"):u=319:=
 typeName_ptr_named (nm:= "errors.errorString") (by kernel_rfl) (by kernel_rfl) (by decide) u h
theorem Cn{W:World}{b:Nat}{v:Value}(hc:W.cell? ⟨b,0,none⟩=some v):EP (vV W) b 0 [v]:=by
 refine⟨(vW hc).2,fun j y hy=>?_⟩
 match j,hy with
 |0,hy=>simp at hy;subst hy;exact hc
 |j+1,hy=>simp at hy
theorem Ik{W:World}(qL:W.ShapedOpen prog): ∃m,W.cell? ⟨0,0,none⟩=some (vI m):=Tryz.laysM220.s1_3 W qL
theorem Tc{W:World}(h:laidMet prog y7 W)(qL:W.ShapedOpen prog):kr (vV W):=by
 have h2:=h.tail.tail;rw[show(("internal/strconv.uint64pow10",Rows.laid_internal_strconv_uint64pow10):String×DataW Unit)=("internal/strconv.uint64pow10",Lib.tabData .u64 Lib.pow10Tab)from by rw[Ta]]at h2;have hT:=Lib.tabIs_of_head QG Wt Tryz.underlying310 Tryz.underlying197 (by kernel_rfl) (by kernel_rfl) h2;have h4:=h.tail.tail.tail.tail;have h5:=h4.tail;obtain⟨a,s,hv,_⟩:=laid_sentinel h4 S_ Wu Tryz.underlying161 K4 Tryz.underlying319 Tryz.underlying321 rfl rfl Tryz.underlying9 (by kernel_rfl) qU;obtain⟨a2,s2,Yn,_⟩:=laid_sentinel h5 S' Wv Tryz.underlying161 K4 Tryz.underlying319 Tryz.underlying321 rfl rfl Tryz.underlying9 (by kernel_rfl) qU;have hc:=World.var?_cell S_ hv 0;have O0:=World.var?_cell S' Yn 0;have hc:W.cell? ⟨5,0,none⟩=some (.iface 319 (.pointer (some a))):=by simpa using hc
 have O0:W.cell? ⟨4,0,none⟩=some (.iface 319 (.pointer (some a2))):=by simpa using O0
 obtain⟨m,hm⟩: ∃m,W.cell? ⟨0,0,none⟩=some (vI m):=Ik qL;have hp:=hT.cell QG 0 (by decide);exact⟨⟨m,Cn hm⟩,⟨(vW hp).2,hT⟩,⟨_,Cn O0,.inr ⟨_,_,rfl⟩⟩,⟨_,Cn hc,.inr ⟨_,_,rfl⟩⟩⟩
theorem DP{P:Program}{t:TypeId}{fs:Array Field}(ht:P.underlying t=some (.struct fs)){H:Type}{enc:TypeId×Value→H}{W:World}{fuel:Nat}{cs:List Value}{x:DataW H×List MemPlace}(h:DataW.trod enc P W 0 (fun _=>true) true fuel t cs=some x):
  cs.length=P.cellsOf t∧ ∀(i:Nat) (u:TypeId) (off:Nat),(fs[i]?).map (fun f=>(f.type,f.offset))=some (u,off)→ ∃n y,DataW.trod enc P W 0 (fun _=>true) true n u ((cs.drop off).take (P.cellsOf u))=some y:=by
 obtain⟨xs,n,_,_,hl,nL,hf⟩:=DataW.trod_struct ht h;refine⟨hl,fun i u off hiu=>⟨n,?_⟩⟩;obtain⟨f,hi,e⟩:=abk.1 hiu;simp only[aaB]at e;obtain⟨rfl,rfl⟩:=e;have h1:=hf i f hi;have aV:i<xs.length:=by rw[nL];exact(ab6.1 hi).1
 rw[aas aV]at h1;exact⟨_,h1⟩
theorem rU{H:Type}{enc:TypeId×Value→H}{W:World}{n:Nat}{c:Value}{y:DataW H×List MemPlace}(h:DataW.trod enc prog W 0 (fun _=>true) true n 3 [c]=some y): ∃m:Int,c=vI m:=by obtain⟨m,e,_⟩:=ac7 Tryz.underlying3 h;exact⟨m,(abY e).1⟩
theorem K5:DQ prog 89 (α:=Y6) Y6.fit:=by
 intro H enc W fuel cs x h;obtain⟨hl,hi⟩:=y8 Tryz.underlying89 Tryz.underlying3 uQ K2 h
 match cs,hl with
 |[c0,c1,c2,c3,c4,c5],_=>
  obtain⟨m0,e0,f0⟩:=hi 0 (by decide);obtain⟨m1,e1,f1⟩:=hi 1 (by decide);obtain⟨m2,e2,f2⟩:=hi 2 (by decide);obtain⟨m3,e3,f3⟩:=hi 3 (by decide);obtain⟨m4,e4,f4⟩:=hi 4 (by decide);obtain⟨m5,e5,f5⟩:=hi 5 (by decide);obtain rfl:=aax e0;obtain rfl:=aax e1;obtain rfl:=aax e2;obtain rfl:=aax e3;obtain rfl:=aax e4;obtain rfl:=aax e5;exact⟨⟨m0,m1,m2,m3,m4,m5⟩,rfl,⟨f0,f1,f2,f3,f4,f5⟩⟩
theorem K6{H:Type}{enc:TypeId×Value→H}{W:World}{v:Value}{d:DataW H}{p:List MemPlace}(kQ:Value.okWide prog W .any 0 22 v)(h:DataW.Trod enc prog W 0 (fun _=>true) true 22 v d p):
  ∃x:List Y6,Rs (vV W) v x∧ ∀y∈x,y.fit:=by
 obtain⟨a,n,c,rfl⟩:=okWide_slice Tryz.underlying22 kQ;obtain⟨fuel,hf⟩:=h;exact uR (α:=Y6) Tryz.underlying22 K2 K5 hf
theorem open_ints{H:Type}{enc:TypeId×Value→H}{W:World}{v:Value}{d:DataW H}{p:List MemPlace}(kQ:Value.okWide prog W .any 0 23 v)(h:DataW.Trod enc prog W 0 (fun _=>true) true 23 v d p):
  ∃x:List Int,Rs (vV W) v x∧ ∀y∈x,jJ y:=by
 obtain⟨a,n,c,rfl⟩:=okWide_slice Tryz.underlying23 kQ;obtain⟨fuel,hf⟩:=h;exact uR (α:=Int) Tryz.underlying23 uQ (Il Tryz.underlying3) hf
theorem gL{H:Type}{enc:TypeId×Value→H}{W:World}{n:Nat}{c:Value}{y:DataW H×List MemPlace}(h:DataW.trod enc prog W 0 (fun _=>true) true n 3 [c]=some y): ∃m:Int,c=vI m∧jJ m:=by obtain⟨m,e,_,hw⟩:=ac7 Tryz.underlying3 h;exact⟨m,(abY e).1,wf_i64 hw⟩
theorem Im:DQ prog 50 (α:=bc) Nc:=by
 intro H enc W fuel cs x h;obtain⟨hl,hf⟩:=DP Tryz.underlying50 h;rw[DO]at hl
 match cs,hl with
 |[c0,c1,c2,c3,c4,c5,c6,c7,c8,c9,c10,c11,c12,c13,c14,c15,c16,c17,c18],_=>
  obtain⟨_,_,h0⟩:=hf 0 3 0 rfl;obtain⟨_,_,h1⟩:=hf 1 3 1 rfl;obtain⟨_,_,h2⟩:=hf 2 3 2 rfl;obtain⟨_,_,h3⟩:=hf 3 3 3 rfl;obtain⟨_,_,h4⟩:=hf 4 4 4 rfl;obtain⟨_,_,h5⟩:=hf 5 3 5 rfl;obtain⟨_,_,h6⟩:=hf 6 3 6 rfl;obtain⟨_,_,h7⟩:=hf 7 3 7 rfl;obtain⟨_,_,h8⟩:=hf 8 3 8 rfl;obtain⟨_,_,h9⟩:=hf 9 3 9 rfl;obtain⟨_,_,ue⟩:=hf 10 3 10 rfl;obtain⟨_,_,Ni⟩:=hf 11 3 11 rfl;obtain⟨_,_,RA⟩:=hf 12 3 12 rfl;obtain⟨_,_,UT⟩:=hf 13 3 13 rfl;obtain⟨_,_,RB⟩:=hf 14 3 14 rfl;obtain⟨_,_,YO⟩:=hf 15 3 15 rfl;obtain⟨_,_,Pc⟩:=hf 16 3 16 rfl;obtain⟨_,_,UU⟩:=hf 17 3 17 rfl;obtain⟨_,_,YP⟩:=hf 18 9 18 rfl;rw[uQ]at h0 h1 h2 h3 h5 h6 h7 h8 h9 ue Ni RA UT RB YO Pc UU;rw[Ij]at h4;rw[qU]at YP;obtain⟨m0,rfl,k0⟩:=gL h0;obtain⟨m1,rfl,k1⟩:=gL h1;obtain⟨m2,rfl,k2⟩:=gL h2;obtain⟨m3,rfl,k3⟩:=gL h3;obtain⟨m5,rfl,k5⟩:=gL h5;obtain⟨m6,rfl,k6⟩:=gL h6;obtain⟨m7,rfl,k7⟩:=gL h7;obtain⟨m8,rfl,k8⟩:=gL h8;obtain⟨m9,rfl,k9⟩:=gL h9;obtain⟨m10,rfl,k10⟩:=gL ue;obtain⟨m11,rfl,k11⟩:=gL Ni;obtain⟨m12,rfl,k12⟩:=gL RA;obtain⟨m13,rfl,k13⟩:=gL UT;obtain⟨m14,rfl,k14⟩:=gL RB;obtain⟨m15,rfl,k15⟩:=gL YO;obtain⟨m16,rfl,k16⟩:=gL Pc;obtain⟨m17,rfl,k17⟩:=gL UU;obtain⟨m4,e4,_⟩:=DataW.trod_bool Tryz.underlying4 h4;obtain rfl:=(abY e4).1;obtain⟨s18,e18,_⟩:=DataW.trod_string Tryz.underlying9 YP;obtain rfl:=(abY e18).1;exact⟨⟨m0,m1,m2,m3,m4,m5,m6,m7,m8,m9,m10,m11,m12,m13,m14,m15,m16,m17,s18.data.toList⟩,by show _=bK _;unfold bK;rw[←Pd],k7,k9,k14,k15,k11,k12,k13,k17⟩
theorem Io{H:Type}{enc:TypeId×Value→H}{W:World}{v:Value}{d:DataW H}{p:List MemPlace}(kQ:Value.okWide prog W .any 0 24 v)(h:DataW.Trod enc prog W 0 (fun _=>true) true 24 v d p):
  ∃x:List bc,Rs (vV W) v x∧ ∀y∈x,Nc y:=by
 obtain⟨a,n,c,rfl⟩:=okWide_slice Tryz.underlying24 kQ;obtain⟨fuel,hf⟩:=h;exact uR (α:=bc) Tryz.underlying24 DO Im hf
theorem K7:DQ prog 43 (α:=Y7) Y7.fit:=by
 intro H enc W fuel cs x h;obtain⟨hl,hi⟩:=y8 Tryz.underlying43 Tryz.underlying3 uQ K3 h
 match cs,hl with
 |[c0,c1,c2,c3,c4,c5,c6],_=>
  obtain⟨m0,e0,f0⟩:=hi 0 (by decide);obtain⟨m1,e1,f1⟩:=hi 1 (by decide);obtain⟨m2,e2,f2⟩:=hi 2 (by decide);obtain⟨m3,e3,f3⟩:=hi 3 (by decide);obtain⟨m4,e4,f4⟩:=hi 4 (by decide);obtain⟨m5,e5,f5⟩:=hi 5 (by decide);obtain⟨m6,e6,f6⟩:=hi 6 (by decide);obtain rfl:=aax e0;obtain rfl:=aax e1;obtain rfl:=aax e2;obtain rfl:=aax e3;obtain rfl:=aax e4;obtain rfl:=aax e5;obtain rfl:=aax e6;exact⟨⟨m0,m1,m2,m3,m4,m5,m6⟩,rfl,⟨f0,f1,f2,f3,f4,f5,f6⟩⟩
theorem K8{H:Type}{enc:TypeId×Value→H}{W:World}{v:Value}{d:DataW H}{p:List MemPlace}(kQ:Value.okWide prog W .any 0 25 v)(h:DataW.Trod enc prog W 0 (fun _=>true) true 25 v d p):
  ∃x:List Y7,Rs (vV W) v x∧ ∀y∈x,y.fit:=by
 obtain⟨a,n,c,rfl⟩:=okWide_slice Tryz.underlying25 kQ;obtain⟨fuel,hf⟩:=h;exact uR (α:=Y7) Tryz.underlying25 K3 K7 hf
theorem tJ{H:Type}{enc:TypeId×Value→H}{a:Assume}{C:Checked}{os:Os}{f:FuncId}{fn:Func}{s:ChangeSpec}{conds:List PathCond}{apart fresh handsOn again:Bool}{X:World→Array Value→Prop}
  (hX: ∀(w w':World) (args:Array Value),w.heap=w'.heap→X w args→X w' args)
  (own:ownKnob C.prog.godebug=none) (started:os.Started) (QH:C.prog.inits.idxOf? f=none) (H7:C.prog.funcs[f]? =some fn)
  (witness: ∃(w:World) (tape:Tape) (i:Input),w.os=os∧(w.forCall tape i).Shaped C.prog∧i.vars=[]∧Input.okWide C.prog (w.forCall tape i) .any w.heap.size f i∧
   ((s.pre enc C.prog fn conds apart (w.forCall tape i).memory i.args∧X (w.forCall tape i).memory i.args)∧sizedMet enc C.prog fn (OpenSpec.ofChange s) apart (w.forCall tape i).memory i.args)∧a.holds C.prog (lone (Frame.enter C.prog f i.args .normal) [] (w.forCall tape i)))
  (uS: ∀(W:World) (args:Array Value) (ds gs:List (DataW H)) (before:List MemPlace),
   (∀(j:Nat) t v,fn.params[j]? =some t→args[j]? =some v→ ∃base,Value.okWide C.prog W .any base t v)→
   DataW.Whole enc C.prog fn.params.toList s.vars apart W args.toList ds gs before→X W args→W.ShapedOpen C.prog→
   Calls C.prog f args W fun e W'=> ∃v,e= .returned v∧s.post enc C.prog fn apart fresh handsOn again W args v W'):
  ReturnsInHanded a C os f .any (fun w args=>(s.pre enc C.prog fn conds apart w args∧X w args)∧sizedMet enc C.prog fn (OpenSpec.ofChange s) apart w args) (s.post enc C.prog fn apart fresh handsOn again):=by
 refine returnsInHanded_of_calls own started QH witness fun w tape i _ qL _ kQ oz _=>?_;obtain⟨_,_,_,fn',Ww,_,_,_,_,cE⟩:=kQ;obtain rfl:fn'=fn:=aax (Ww.symm.trans H7);obtain⟨⟨⟨ds,gs,before,hw,_⟩,hx⟩,_⟩:=oz;have UW:=DataW.Whole.of_heap (w':=w.forCall tape i) (by rfl) hw;refine(uS (w.forCall tape i) i.args ds gs before (fun j t v h1 h2=>⟨_,cE j t v h1 h2⟩) UW (hX _ _ _ (by rfl) hx) qL).mono fun e W' ⟨v,he,hp⟩=>?_;subst he;exact ChangeSpec.post_blind hp
theorem FQ{f:FuncId}{args:Array Value}{W:World}{s:ChangeSpec}{fn:Func}{H:Type}{enc:TypeId×Value→H}{ds:List (DataW H)}{before:List MemPlace}
  (hr:(fn.params.toList.all fun t=>prog.readableRec t&&decide (t<prog.types.size))=true) (hv:s.vars=[]) (hs:s.fn H ds={results:=[.lit (.bool true)],args:=ds}) (Wx:fn.resultTypes=#[4])
  (hW:DataW.Whole enc prog fn.params.toList s.vars false W args.toList ds [] before)
  (h:CallsIn Wd 0 prog f args (vV W).w (ug (vV W) fun _ r=>r= .bool true)):
  Calls prog f args W fun e W'=> ∃v,e= .returned v∧s.post enc prog fn false true false false W args v W':=by
 refine(callsIn_wide.1 h).mono ?_;rintro _ _ ⟨g',v,rfl,hf,rfl,rfl⟩;exact⟨_,rfl,K9 laidOut hr hv hs Wx Tryz.underlying4 hW hf.below⟩
theorem N2(os:Os)(args:Array Value):laidMetH prog y7 ((World.laidAll prog os y7).forCall (fun _ _=>0) ⟨#[],args,[]⟩).memory:=by rw[MakeChecks.laidMetH_plain _ _ _ (by kernel_rfl)];exact laidMet_laidAll _ (by kernel_rfl) (by kernel_rfl)
end Go.Proofs.YtkpojaffabjibaaGreatDoor
