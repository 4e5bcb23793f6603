/- Parts of the proof, from: The walks through package ref19: reasons, May. -/
import Derived.Test.YtbfjdfecgiegpaaGreatDoorYa
import Derived.Test.YtbfjdfecgiegpaaGreatDoorYc
import Derived.Test.YtbfjdfecgiegpaaGreatDoorYo
import Derived.Test.YtbfjdfecgiegpaaGreatDoorRows
import Derived.Lib.LaidTab
import Derived.Stop.LaidErr
import Derived.Lay
import Derived.LaidMore
import Derived.HandedShaped
import Derived.Clock
import Derived.JoinedOf
namespace Go.Proofs.YtbfjdfecgiegpaaGreatDoor
open Go Go.K Go.Proofs.Tryz
set_option maxRecDepth 10000
attribute [local irreducible] W WL cS bh bY bB bA bC cL cD
set_option maxHeartbeats 2000000
theorem N7(c:Bool){k:Int}(h:0≤k):0≤bn c k∧bn c k≤k:=by cases c<;>simp[bn,h]
theorem wP{c:Bool}{n k:Int}(h0:0≤n)(h1:n≤1000)(hk:0≤k)(h2:k≤1000)(hc:c=true):IntKind.i64.wrap (n+k)=n+bn c k:=by rw[hc,wq];rfl
theorem wQ{c:Bool}{n k:Int}(hc:c=false):n=n+bn c k:=by rw[hc];exact(Int.add_zero n).symm
def UR(g:G)(A:Nat→Option Addr)(N' C:Nat→Nat)(b:eL)(a:gi)(b3 b4:Nat)(l:Env)(X:G→Prop)(n:Int)(a':Go.Act)(w:World):Prop:=
 ∃g',w=g'.w∧St g g' []∧G.le g g'∧EP g' b3 0 ((List.range 11).map fun i=> .slice (A i) (N' i) (C i))∧EP g' b4 0 (nk a)∧fV g' (.agg ((List.range 11).map fun i=> .slice (A i) (N' i) (C i)).toArray) b∧X g'∧
  Fr 93 [] ((3,vP b3)::(4,vP b4)::(7,vI n)::l) a'
theorem KK(v u:Value)(b:eL)(a:gi)(h:List bO)(g:G)(aT:fV g v b)(bR:Rs g u h)(hb:Bl b)(hh:h.length≤1000000):
  cN prog 31 #[v,CV a,u] g fun _ r=>r=vI (bn (!(fQ b a.waf a.time).isSome) 1+bn ((fQ b a.waf a.time).isSome&& !(ng (fQ b a.waf a.time) h).contains a.step) 2+bn ((gP (fQ b a.waf a.time) a.step).isSome&& !((gP (fQ b a.waf a.time) a.step).getD kR).ed.contains a.tool) 4+bn ((gP (fQ b a.waf a.time) a.step).isSome&&((gP (fQ b a.waf a.time) a.step).getD kR).eQ !=a.rcp) 8+bn (!b.px.any (h_ a.tool a.cham a.rcp a.rvn a.time)) 16+bn (decide ((0:Int)<((km b a b.holds).length:Nat))) 32):=by
 have hs:=St.start g;have ar:=G.le.refl g;have e_:=aT;obtain⟨A,N',C,rfl,dS⟩:=il aT;have aT:fV g (.agg ((List.range 11).map fun i=> .slice (A i) (N' i) (C i)).toArray) b:=e_;clear e_;clear dS;refine enter func31 rfl ntmps31 rfl<|cR<|An hs rfl fun b3 g2 hs ai aD=>?_;obtain⟨ar,bR,aT⟩:=dR ai ar bR aT;refine An hs rfl fun b4 g2 hs ai aM=>?_;obtain⟨ar,aD,bR,aT⟩:=dK ai ar aD bR aT;replace hs:St g g2 []:=hs;refine aX rfl<|aZ rfl<|sP 5 [.z aD,.z aM,.z aM] rfl<|sO rfl (My _ b a.waf a.time _ aT hb) fun g1 _ aP hp=>?_;replace hs:=hs.call aP;have ai:=aP.le;obtain⟨ar,aD,aM,bR,aT⟩:=nX ai ar aD aM bR aT;clear aP;obtain⟨_,rfl,a1,n1,c1,a2,n2,c2,m1,m2,rfl,pg⟩:=hp;obtain⟨o,ho⟩: ∃o,fQ b a.waf a.time=o:=⟨_,rfl⟩;have KL: ∀f,o=some f→valid f=true:=fun f h=>pH (ho.trans h)
 rw[ho]at pg⊢;have pg:=fun f h=>pg f h;clear ho;refine Wp 3 rfl<|w4 hs rfl fun b8 g1 hs ai=>?_;obtain⟨ar,aD,aM,bR,aT⟩:=nX ai ar aD aM bR aT;have pg:=fun f h=>(pg f h).mono ai
 refine sN 0 hs rfl fun g1 hs ai=>?_;obtain⟨ar,aD,aM,bR,aT⟩:=nX ai ar aD aM bR aT;have pg:=fun f h=>(pg f h).mono ai;obtain⟨g2,bS,aV,ai,aL⟩:=hs.bd (i:=0) rfl;replace hs:=aV;clear aV;rw[←bS];obtain⟨ar,aD,aM,bR,aT⟩:=nX ai ar aD aM bR aT;have pg:=fun f h=>(pg f h).mono ai;have cE:EP g2 b8 0 [vI m1,vI m2,.slice a1 n1 c1,.slice a2 n2 c2]:=aL;clear aL;replace hs:St g _ []:=hs;refine aX rfl<|az<|aZ rfl<|mu (UR g A N' C b a b3 b4 [] (fun _=>True) (bn (!o.isSome) 1+bn (o.isSome&& !(ng o h).contains a.step) 2+bn ((gP o a.step).isSome&& !((gP o a.step).getD kR).ed.contains a.tool) 4+bn ((gP o a.step).isSome&&((gP o a.step).getD kR).eQ !=a.rcp) 8)) ?_ ?_
 ·cases o with
  |none=>
   exact aas rfl<|an<|Wp 3 rfl<|aA<|fun a' ha=>jM ⟨_,rfl,hs,ar,aD,aM,aT,trivial,ha.keep ⟨rfl,rfl,kI rfl ((rfl)),trivial⟩⟩
  |some f=>
   have j8:=pg f rfl;have hv:=KL f rfl;clear pg KL;obtain⟨_,_,_,_,_,_,e,aW,_⟩:=id j8;simp only[Value.agg.injEq,Array.mk.injEq,List.cons.injEq,Value.int.injEq,Value.slice.injEq,true_and,and_true]at e;obtain⟨rfl,rfl,⟨rfl,rfl,rfl⟩,rfl,rfl,rfl⟩:=e;obtain⟨Ew,_⟩:=aW.mM;subst Ew;refine aar rfl<|az<|az ?_;apply ea (eF (.f (Fact.rs (yr f h))::eF (.e (.bool ((yr f h).contains a.step))::fe []))) 7 [(6,30)] (by kernel_rfl)
   ·exact pO [[],[]] [.z cE] hs rfl<|fR [(0,24),(1,25)] (fun gd hf=>aaw rfl (aaz rfl (y' _ _ f h gd (j8.mono ((G.bI _).trans hf.le)) (bR.mono ((G.bI _).trans hf.le)) hh (y_ hv))))<|pO [[],[3]] [.z aM] hs rfl<|fR [(2,26),(4,28),(2,26)] (fun gd hf=>ba fun _ _=>ah rfl (ba fun v2 h2=>aj (aaz rfl (Dd v2 (yr f h) a.step gd h2))))<|EG [[5]] [] hs rfl
   intro g9 FM;refine aax rfl ?_;have hs:=hs.dr.call FM;have ai:=(G.bI _).trans FM.le;obtain⟨ar,aD,aM,cE,aW,bR⟩:=hZ ai ar aD aM cE aW bR;obtain⟨j8,aT⟩:=cr ai j8 aT;clear bR;rw[Et (y6 hv)];refine b_<|mu (UR g A N' C b a b3 b4 [(8,vP b8)] (fun g'=>EP g' b8 0 [vI f.dm,vI f.dv,.slice a1 f.steps.length c1,.slice a2 n2 c2]∧fP g' (.agg #[vI f.dm,vI f.dv,.slice a1 f.steps.length c1,.slice a2 n2 c2]) f∧Rs g' (.slice a1 f.steps.length c1) f.steps) (0+bn (!(ng (some f) h).contains a.step) 2)) ?_ ?_
   ·cases hc:(ng (some f) h).contains a.step with
    |true=>
     exact aar rfl<|aF<|fun a' ha=>jM ⟨_,rfl,hs,ar,aD,aM,aT,⟨cE,j8,aW⟩,ha.keep ⟨rfl,rfl,kI rfl ((wQ rfl)),rfl,trivial⟩⟩
    |false=>
     exact aas rfl<|an<|Wp 3 rfl<|aA<|fun a' ha=>jM ⟨_,rfl,hs,ar,aD,aM,aT,⟨cE,j8,aW⟩,ha.keep ⟨rfl,rfl,kI rfl ((wP (by omega) (by omega) (by omega) (by omega) rfl)),rfl,trivial⟩⟩
   have De:=N7 (!(ng (some f) h).contains a.step) (k:=2) (by decide);rw[show bn (!(some f).isSome) 1+bn ((some f).isSome&& !(ng (some f) h).contains a.step) 2=0+bn (!(ng (some f) h).contains a.step) 2 from rfl];generalize bn (!(ng (some f) h).contains a.step) 2=k0 at*;(repeat clear hs);(repeat clear ar);(repeat clear aD);(repeat clear aM);(repeat clear cE);(repeat clear aT);(repeat clear j8);(repeat clear aW);rintro a' _ ⟨g9,rfl,hs,ar,aD,aM,aT,⟨cE,j8,aW⟩,dW⟩;revert a';refine ct<|sP 4 [.z aM] rfl ?_;by_cases h0:0≤a.step
   ·rw[decide_eq_true h0];refine KY [.z aM,.z cE] rfl ?_;by_cases h1:a.step<f.steps.length
    ·refine aJ (b:=decide (a.step<(f.steps.length:Int))) (decide_eq_true h1) rfl ?_;obtain⟨s,dI⟩: ∃s,dJ f.steps a.step=some s:=⟨_,bZ (j:=a.step.toNat) (by omega) (by omega)⟩;have rG:gP (some f) a.step=some s:=dI;rw[rG];obtain⟨b5,p5,ys,rfl,P4,_,_,_,_,_,_,rfl,Vy,_⟩:=aW.at (i:=a.step.toNat) (nh dI).2.2;obtain⟨_,_,e⟩:=Vy.isSlice;obtain⟨rfl,rfl,rfl⟩:=Value.slice.inj e;clear e;refine az<|az ?_;apply bD hs (dn (fe (.e (.bool (s.ed.contains a.tool))::fe []))) 11 [(10,54)] (by kernel_rfl) rfl
     ·exact pO [[],[0],[],[2]] [.z cE,.z aM] hs rfl<|fR [(1,45),(3,47)] (fun gd hf=>aaw rfl (ay rfl (fH T.ok rfl rfl rfl h0 (by omega) rfl rfl rfl (aav rfl))))<|EG [[4],[5],[],[7],[6,8],[9]] [.e P4 1,.z aM,.c (Wc 79) fun g' hle=>Dd _ s.ed a.tool g' (Vy.mono hle)] hs rfl
     (repeat clear hs);intro g6 hs ai;obtain⟨ar,aD,aM,cE,aW,j8⟩:=hZ ai ar aD aM cE aW j8;replace aT:=aT.mono ai;replace P4:=P4.mono ai;refine b_<|mu (UR g A N' C b a b3 b4 [(8,vP b8)] (fun g'=>EP g' b8 0 [vI f.dm,vI f.dv,.slice (some ⟨b5,p5,none⟩) f.steps.length c1,.slice a2 n2 c2]∧fP g' (.agg #[vI f.dm,vI f.dv,.slice (some ⟨b5,p5,none⟩) f.steps.length c1,.slice a2 n2 c2]) f∧Rs g' (.slice (some ⟨b5,p5,none⟩) f.steps.length c1) f.steps) (0+k0+bn (!s.ed.contains a.tool) 4)) ?_ ?_
     ·cases hc:s.ed.contains a.tool with
      |true=>
       exact aar rfl<|aF<|fun a' ha=>jM ⟨_,rfl,hs,ar,aD,aM,aT,⟨cE,j8,aW⟩,ha.keep ⟨rfl,rfl,kI rfl ((wQ rfl)),rfl,trivial⟩⟩
      |false=>
       exact aas rfl<|an<|Wp 3 rfl<|aA<|fun a' ha=>jM ⟨_,rfl,hs,ar,aD,aM,aT,⟨cE,j8,aW⟩,ha.keep ⟨rfl,rfl,kI rfl ((wP (by omega) (by omega) (by omega) (by omega) rfl)),rfl,trivial⟩⟩
     have rH:=N7 (!s.ed.contains a.tool) (k:=4) (by decide);rw[show bn ((some s).isSome&& !((some s).getD kR).ed.contains a.tool) 4=bn (!s.ed.contains a.tool) 4 from rfl];generalize bn (!s.ed.contains a.tool) 4=k1 at*;clear P4 Vy;(repeat clear hs);(repeat clear ar);(repeat clear aD);(repeat clear aM);(repeat clear cE);(repeat clear aT);(repeat clear j8);(repeat clear aW);rintro a' _ ⟨g9,rfl,hs,ar,aD,aM,aT,⟨cE,j8,aW⟩,dW⟩;revert a';refine ct<|az ?_;obtain⟨Z5,Z6,ys,e5,P4,_,_,_,_,_,_,rfl,_,_⟩:=aW.at (i:=a.step.toNat) (nh dI).2.2;obtain⟨rfl,rfl⟩:b5=Z5∧p5=Z6:=by simpa using e5
     apply bD hs (dn (eF [])) 10 [(9,66)] (by kernel_rfl) rfl
     ·exact pO [[],[0],[],[2]] [.z cE,.z aM] hs rfl<|fR [(1,58),(3,60)] (fun gd hf=>aaw rfl (ay rfl (fH T.ok rfl rfl rfl h0 (by omega) rfl rfl rfl (aav rfl))))<|EG [[4],[5],[],[7],[6,8]] [.e P4 0,.z aM] hs rfl
     (repeat clear hs);intro g6 hs ai;obtain⟨ar,aD,aM,cE,aW,aT⟩:=hZ ai ar aD aM cE aW aT;apply b_;show W _ _ _ _ _ _ _ _;cases hc:s.eQ !=a.rcp with
     |true=>
      exact aas rfl<|an<|Wp 3 rfl<|aA<|fun a' ha=>jM ⟨_,rfl,hs,ar,aD,aM,aT,trivial,ha.keep ⟨rfl,rfl,kI rfl ((wP (by omega) (by omega) (by omega) (by omega) hc)),trivial⟩⟩
     |false=>
      exact aar rfl<|aF<|fun a' ha=>jM ⟨_,rfl,hs,ar,aD,aM,aT,trivial,ha.keep ⟨rfl,rfl,kI rfl ((wQ hc)),trivial⟩⟩
    refine aQ (b:=decide (a.step<(f.steps.length:Int))) (decide_eq_false h1) rfl ?_;have rG:gP (some f) a.step=none:=by show dJ f.steps a.step=none;unfold dJ;rw[if_neg (by omega)];exact List.getElem?_eq_none (by omega)
    rw[rG];exact aF<|fun a' ha=>jM ⟨_,rfl,hs,ar,aD,aM,aT,trivial,ha.keep ⟨rfl,rfl,kI rfl ((by simp[bn])),trivial⟩⟩
   rw[decide_eq_false h0];have rG:gP (some f) a.step=none:=by show dJ f.steps a.step=none;unfold dJ;rw[if_pos (by omega)]
   rw[rG];exact aX rfl<|aar rfl<|aF<|fun a' ha=>jM ⟨_,rfl,hs,ar,aD,aM,aT,trivial,ha.keep ⟨rfl,rfl,kI rfl ((by simp[bn])),trivial⟩⟩
 have r1:=N7 (!o.isSome) (k:=1) (by decide);have r2:=N7 (o.isSome&& !(ng o h).contains a.step) (k:=2) (by decide);have r3:=N7 ((gP o a.step).isSome&& !((gP o a.step).getD kR).ed.contains a.tool) (k:=4) (by decide);have r4:=N7 ((gP o a.step).isSome&&((gP o a.step).getD kR).eQ !=a.rcp) (k:=8) (by decide);obtain⟨q,hq⟩: ∃q,q=bn (!o.isSome) 1+bn (o.isSome&& !(ng o h).contains a.step) 2+bn ((gP o a.step).isSome&& !((gP o a.step).getD kR).ed.contains a.tool) 4+bn ((gP o a.step).isSome&&((gP o a.step).getD kR).eQ !=a.rcp) 8:=⟨_,rfl⟩;rw[←hq];have YJ:0≤q∧q≤15:=by omega
 clear hq r1 r2 r3 r4 pg KL;(repeat clear hs);(repeat clear ar);(repeat clear aD);(repeat clear aM);(repeat clear aT);(repeat clear cE);(repeat clear bR);rintro a' _ ⟨g9,rfl,hs,ar,aD,aM,aT,_,dW⟩;revert a';refine ct<|sP 11 [.z aD,.z aM,.z aM,.z aM,.z aM,.z aM] rfl<|sO rfl (Ky _ b a.tool a.cham a.rcp a.rvn a.time _ aT hb.size) ?_;rintro g1 _ aP rfl;replace hs:=hs.call aP;have ai:=aP.le;obtain⟨ar,aD,aM,aT⟩:=dK ai ar aD aM aT;clear aP;refine aX rfl<|az<|aZ rfl<|mu (UR g A N' C b a b3 b4 [] (fun _=>True) (q+bn (!b.px.any (h_ a.tool a.cham a.rcp a.rvn a.time)) 16)) ?_ ?_
 ·cases hc:b.px.any (h_ a.tool a.cham a.rcp a.rvn a.time)with
  |true=>
   exact aar rfl<|aF<|fun a' ha=>jM ⟨_,rfl,hs,ar,aD,aM,aT,trivial,ha.keep ⟨rfl,rfl,kI rfl ((wQ rfl)),trivial⟩⟩
  |false=>
   exact aas rfl<|an<|Wp 3 rfl<|aA<|fun a' ha=>jM ⟨_,rfl,hs,ar,aD,aM,aT,trivial,ha.keep ⟨rfl,rfl,kI rfl ((wP (by omega) (by omega) (by omega) (by omega) rfl)),trivial⟩⟩
 have r5:=N7 (!b.px.any (h_ a.tool a.cham a.rcp a.rvn a.time)) (k:=16) (by decide);generalize bn (!b.px.any (h_ a.tool a.cham a.rcp a.rvn a.time)) 16=k5 at*;(repeat clear hs);(repeat clear ar);(repeat clear aD);(repeat clear aM);(repeat clear aT);rintro a' _ ⟨g9,rfl,hs,ar,aD,aM,aT,_,dW⟩;revert a';refine ct<|az<|sP 2 [.z aD,.z aM] rfl<|sO rfl (Hy _ b a _ aT hb.size) fun g1 _ aP aW=>?_;replace hs:=hs.call aP;have ai:=aP.le;clear aP;generalize km b a b.holds=l at*;obtain⟨a1,c1,rfl⟩:=aW.isSlice;refine aX rfl ?_;cases hc:decide ((0:Int)<(l.length:Nat))with
 |true=>
  exact aas rfl<|an<|aX rfl<|aZ rfl<|aG (nw rfl hs (congrArg (Value.int .i64) (wP (by omega) (by omega) (by omega) (by omega) rfl)))
 |false=>
  exact aar rfl<|aF<|aq<|aZ rfl<|aG (nw rfl hs (congrArg (Value.int .i64) (wQ rfl)))
theorem HE{b:eL}{a:gi}{x:bO}(h1:wK b x a=mL b x a)(h2:(bh .i64 x.par (kQ b x.idn a.time)==x.par)=y7 b x a.time):uY b a x=uW b a x:=by unfold uY uW;rw[h1,h2]
def HF(b:eL):Prop:=∀x∈b.holds,mq x.waf∧mq x.lot∧mq x.rcp∧mq x.rvn∧mq x.tool∧mq x.cham∧mq x.step∧mq x.par
theorem bv_and(x y:BitVec 64):(x&&&y=x)↔(x&&& ~~~y=0#64):=by
 constructor
 ·intro h;ext i hi;have:=congrArg (fun v:BitVec 64=>v[i]) h;simp only[BitVec.getElem_and,BitVec.getElem_not]at this⊢;cases hx:x[i]<;>cases hy:y[i]<;>simp_all
 intro h;ext i hi;have:=congrArg (fun v:BitVec 64=>v[i]) h;simp only[BitVec.getElem_and,BitVec.getElem_not]at this⊢;cases hx:x[i]<;>cases hy:y[i]<;>simp_all
end Go.Proofs.YtbfjdfecgiegpaaGreatDoor
namespace Go.Proofs.YtbfjdfecgiegpaaGreatDoor
open Go Go.K Go.Proofs.Tryz
set_option maxRecDepth 10000
attribute [local irreducible] W WL cS bh bY bB bA bC cL cD
set_option maxHeartbeats 2000000
theorem Ex(v:BitVec 64):IntKind.i64.wrap (v.toNat:Int)=v.toInt:=by have h:=v.isLt;unfold IntKind.wrap;rw[BitVec.toInt_eq_toNat_cond];simp[IntKind.signed,IntKind.bits];split<;>split<;>omega
theorem BE{a:Int}(h:mq a):(BitVec.ofInt 64 a).toInt=a:=by unfold mq at h;rw[BitVec.toInt_ofInt];exact Int.bmod_eq_of_le (by omega) (by omega)
theorem KM{p:Int}(h:mq p)(q:Int):(bh .i64 p q==p)=(bA .i64 p q==0):=by
 have e1:bh .i64 p q=(BitVec.ofInt 64 p&&&BitVec.ofInt 64 q).toInt:=by unfold bh;exact Ex _
 have e2:bA .i64 p q=(BitVec.ofInt 64 p&&& ~~~BitVec.ofInt 64 q).toInt:=by unfold bA;exact Ex _
 rw[Bool.eq_iff_iff,beq_iff_eq,beq_iff_eq,e1,e2];have e3:=bv_and (BitVec.ofInt 64 p) (BitVec.ofInt 64 q);constructor
 ·intro h2;rw[e3.1 (BitVec.eq_of_toInt_eq (by rw[h2,BE h]))];rfl
 intro h2;rw[e3.2 (BitVec.eq_of_toInt_eq (by rw[h2];rfl)),BE h]
theorem KN{b:eL}{a:gi}{x:bO}(h1:mq x.waf)(h2:mq x.lot)(h3:mq x.rcp)(h4:mq x.rvn)(h5:mq x.tool)(h6:mq x.cham)(h7:mq x.step):wK b x a=mL b x a:=by unfold wK Hv mL tR tS Ae wR Kg Mw;simp only[List.all_cons,List.all_nil,Bool.and_true,qw h1,qw h2,qw h3,qw h4,tU h5,tU h6,tU h7];ac_rfl
theorem KO{b:eL}(h:HF b)(a:gi):km b a b.holds=pD b a:=by rw[C_];show((b.holds.filter (uY b a)).map (·.idn)).foldl jL []=_;rw[List.filter_congr fun x hx=>?_];obtain⟨h1,h2,h3,h4,h5,h6,h7,h8⟩:=h x hx;exact HE (KN h1 h2 h3 h4 h5 h6 h7) (KM h8 _)
theorem BF(v u:Value)(b:eL)(a:gi)(h:List bO)(g:G)(aT:fV g v b)(bR:Rs g u h)(hb:Bl b)(hi:HF b)(hh:h.length≤1000000):
  cN prog 31 #[v,CV a,u] g fun _ r=>r=vI (oU b a h):=by
 unfold oU FN;rw[QQ,←KO hi];exact KK v u b a h g aT bR hb hh
theorem N9(v:Value)(b:eL)(a:gi)(g:G)(aT:fV g v b)(hb:Bl b)(hi:HF b):cN prog 15 #[v,CV a] g fun _ r=>r=vI (wS b a):=by
 have hs:=St.start g;have ar:=G.le.refl g;have e_:=aT;obtain⟨A,N',C,rfl,dS⟩:=il aT;have aT:fV g (.agg ((List.range 11).map fun i=> .slice (A i) (N' i) (C i)).toArray) b:=e_;clear e_;clear dS;refine enter func15 rfl ntmps15 rfl<|cR<|An hs rfl fun b3 g2 hs ai aD=>?_;replace aT:=aT.mono ai;refine An hs rfl fun b4 g2 hs ai aM=>?_;obtain⟨aD,aT⟩:=cr ai aD aT;replace hs:St g g2 []:=hs;refine aX rfl<|az ?_;apply bD hs (gU (eF (fe (.f (Fact.rs (fI b a.waf a.time)):: .e (vI (wS b a))::[])))) 9 [(8,13)] (by kernel_rfl) rfl
 ·exact pO [[],[],[],[],[3],[],[5]] [.z aD,.z aM,.z aD,.z aM,.z aM] hs rfl<|fR [(2,7),(4,9),(6,11)] (fun gd hf=>aay rfl (aaz rfl (wM _ b a.waf a.time gd (aT.mono ((G.bI _).trans hf.le)) hb.size)))<|fR [(0,5),(1,6),(7,12),(7,12)] (fun gd hf=>aat rfl (ba fun _ _=>ba fun v8 h8=>aj (aaz rfl (BF _ v8 b a _ gd (aT.mono ((G.bI _).trans hf.le)) h8 hb hi (ku hb.size _ _)))))<|gG
 (repeat clear hs);intro g6 hs ai;exact aX rfl<|aG (nw rfl hs rfl)
theorem nZ{p:bO→Bool}: ∀{l:List bO} {k:Nat},k≤l.length→(∀j (h:j<l.length),j<k→p l[j]=true)→(∀h:k<l.length,p l[k]=false)→l.takeWhile p=l.take k
 |[],k,_,_,_=>by simp
 |x::l,0,_,_,h=>by rw[List.takeWhile_cons_of_neg (by have:=h (by simp);simpa using this)];rfl
 |x::l,k+1,hk,h1,h2=>by rw[List.takeWhile_cons_of_pos (show p x=true from h1 0 (by simp) (by omega)),nZ (k:=k) (by simpa using hk) (fun j hj Ey=>h1 (j+1) (by simpa using hj) (by omega)) (fun hh=>h2 (by simpa using hh))];rfl
theorem HG(v:Value)(b:eL)(g:G)(aT:fV g v b)(hb:Bl b)(Z7:HF b):cN prog 11 #[v] g fun g' r=>Rs g' r (pE b):=by
 have hs:=St.start g;have ar:=G.le.refl g;have e_:=aT;obtain⟨A,N',C,rfl,dS⟩:=il aT;have aT:fV g (.agg ((List.range 11).map fun i=> .slice (A i) (N' i) (C i)).toArray) b:=e_;clear e_;obtain⟨aH,hN⟩:=dS 0 (by decide);have hl:(b.ls 0).length≤1000000:=hb.size 0;have YK:pE b=Dc (pF b) (b.ls 0):=Da b;rw[YK];clear dS YK;generalize vz:b.ls 0=l at*;refine enter func11 rfl ntmps11 rfl<|cR<|An hs rfl fun b1 g2 hs ai aD=>?_;obtain⟨ar,aH,aT⟩:=dR ai ar aH aT;replace hs:St g g2 []:=hs;refine aX rfl<|aZ rfl<|az<|aZ rfl<|aI ?_
 refine bK (fun m a' u=> ∃(i:Nat) (v3:Value) (g':G),u=g'.w∧St g g' []∧G.le g g'∧Rs g' (.slice (A 0) (N' 0) (C 0)) l∧Rs g' v3 (Dc (pF b) (l.take i))∧EP g' b1 0 ((List.range 11).map fun i=> .slice (A i) (N' i) (C i))∧fV g' (.agg ((List.range 11).map fun i=> .slice (A i) (N' i) (C i)).toArray) b∧i≤l.length∧m+i=l.length∧
   Fr 56 [] [(1,vP b1),(3,v3),(4,vI (i:Nat))] a') l.length
  (fun a' ha=>⟨0,_,_,rfl,hs,ar,aH,Rs.nil _,aD,aT,Nat.zero_le _,rfl,ha.kp rfl⟩) ?_
 (repeat clear hs);(repeat clear ar);(repeat clear aH);(repeat clear aD);(repeat clear aT);rintro m a' _ ⟨i,v3,g',rfl,hs,ar,aH,aW,aD,aT,hi,hm,dW⟩;have Hz:(Dc (pF b) (l.take i)).length≤(l.take i).length:=Ad _ _;rw[List.length_take]at Hz;revert a';refine ct<|az<|Hw [.z aD] rfl ?_;by_cases bt:i<l.length
 ·refine aJ (b:=decide ((i:Int)<(N' 0:Int))) (decide_eq_true (by omega)) rfl ?_;have eH:dJ l (i:Int)=some l[i]:=bZ rfl bt;have dP:Dc (pF b) (l.take (i+1))=if pF b l[i]then jL (Dc (pF b) (l.take i)) l[i].idn else Dc (pF b) (l.take i):=by rw[←wL,List.take_add_one,List.getElem?_eq_getElem bt];rfl
  generalize l[i]=x at*;obtain⟨out,BD⟩: ∃out,Dc (pF b) (l.take i)=out:=⟨_,rfl⟩;rw[BD]at aW Hz dP;obtain⟨a3,c3,rfl⟩:=aW.isSlice;refine aF<|aq<|az<|aI<|sP 3 [.z aD] rfl<|zc (y:=x) aH eH rfl ?_;rintro b9 q9 ys aL rfl;have aM:=aL;clear aL;refine q5 1 [.e aM 0] rfl<|w4 hs rfl fun b5 g1 hs ai=>?_;obtain⟨ar,aD,aM,aH,aW,aT⟩:=hZ ai ar aD aM aH aW aT;refine Hs 0 hs rfl fun g2 hs ai aL=>?_;obtain⟨ar,aD,aM,aH,aW,aT⟩:=hZ ai ar aD aM aH aW aT;clear aM;have aM:=aL;clear aL;replace hs:St g _ []:=hs;refine b_<|sP 2 [.z aD,.z aM] rfl<|sO rfl (N6 _ b x _ aT hb.size) ?_;rintro g1 _ aP rfl;replace hs:=hs.call aP;have ai:=aP.le;obtain⟨ar,aD,aM,aH,aW,aT⟩:=hZ ai ar aD aM aH aW aT;clear aP;have mO:pF b x=(oU b (jN b x) ((lu b (jN b x).waf).takeWhile fun q=> !(q.idn==x.idn)) !=0):=rfl;generalize jN b x=A0 at*;refine w4 hs rfl fun b6 g1 hs ai=>?_;obtain⟨ar,aD,aM,aH,aW,aT⟩:=hZ ai ar aD aM aH aW aT;refine Hs 0 hs rfl fun g2 hs ai aL=>?_;obtain⟨ar,aD,aM,aH,aW,aT⟩:=hZ ai ar aD aM aH aW aT;have cE:EP g2 b6 0 (nk A0):=aL;clear aL;replace hs:St g _ []:=hs;refine b_<|sP 3 [.z aD,.z cE] rfl<|sO rfl (Eu _ b A0.waf _ aT hb.size) fun g1 _ aP bR=>?_;replace hs:=hs.call aP;have ai:=aP.le;obtain⟨ar,aD,aM,cE,aH,aW⟩:=hZ ai ar aD aM cE aH aW;replace aT:=aT.mono ai;clear aP;have P5:=nq hb.size A0.waf;generalize lu b A0.waf=H at*;obtain⟨a7,c7,rfl⟩:=bR.isSlice;refine aX rfl<|aZ rfl<|az<|aI ?_
  refine Db (fun a' u=> ∃(k:Nat) (g2:G),u=g2.w∧St g g2 []∧G.le g g2∧Rs g2 (.slice (A 0) (N' 0) (C 0)) l∧Rs g2 (.slice a3 out.length c3) out∧Rs g2 (.slice a7 H.length c7) H∧EP g2 b1 0 ((List.range 11).map fun i=> .slice (A i) (N' i) (C i))∧EP g2 b5 0 (cB x)∧EP g2 b6 0 (nk A0)∧fV g2 (.agg ((List.range 11).map fun i=> .slice (A i) (N' i) (C i)).toArray) b∧k≤H.length∧(H.takeWhile fun q=> !(q.idn==x.idn))=H.take k∧
    Fr 56 [] [(1,vP b1),(3,.slice a3 out.length c3),(4,vI (i:Nat)),(5,vP b5),(6,vP b6),(7,.slice a7 H.length c7),(8,vI (k:Nat))] a') ?_ ?_
  ·refine bK (fun q a' u=> ∃(k:Nat) (g2:G),u=g2.w∧St g g2 []∧G.le g g2∧Rs g2 (.slice (A 0) (N' 0) (C 0)) l∧Rs g2 (.slice a3 out.length c3) out∧Rs g2 (.slice a7 H.length c7) H∧EP g2 b1 0 ((List.range 11).map fun i=> .slice (A i) (N' i) (C i))∧EP g2 b5 0 (cB x)∧EP g2 b6 0 (nk A0)∧fV g2 (.agg ((List.range 11).map fun i=> .slice (A i) (N' i) (C i)).toArray) b∧(∀j (h:j<H.length),j<k→(!(H[j].idn==x.idn))=true)∧q+k=H.length∧
     Fr 56 [] [(1,vP b1),(3,.slice a3 out.length c3),(4,vI (i:Nat)),(5,vP b5),(6,vP b6),(7,.slice a7 H.length c7),(8,vI (k:Nat))] a') H.length
    (fun a' ha=>⟨0,_,rfl,hs,ar,aH,aW,bR,aD,aM,cE,aT,fun j h hj=>absurd hj (Nat.not_lt_zero _),rfl,ha.kp rfl⟩) ?_
   (repeat clear hs);(repeat clear ar);(repeat clear aH);(repeat clear aW);(repeat clear bR);(repeat clear aD);(repeat clear aM);(repeat clear cE);(repeat clear aT);rintro q a' _ ⟨k,g2,rfl,hs,ar,aH,aW,bR,aD,aM,cE,aT,de,hq,dW⟩;revert a';refine ct<|az<|az ?_;by_cases hk:k<H.length
   ·obtain⟨b8,p8,ys,rfl,yw,hx⟩:=bR.at (i:=k) (List.getElem?_eq_getElem hk);obtain⟨y,hy⟩: ∃y,H[k]=y:=⟨_,rfl⟩;rw[hy]at hx;obtain rfl:ys=cB y:=hx;apply bD hs (eF (fe (.e (.bool true)::dn (eF [])))) 14 [(13,41)] (by kernel_rfl) rfl
    ·exact pO [[],[],[1]] [] hs rfl<|fR [(0,28),(2,30)] (fun gd hf=>aaw rfl (aaL rfl (congrArg Value.bool (decide_eq_true (Int.ofNat_lt.2 hk)))))<|pO [[3],[4],[4]] [] hs rfl<|fR [(5,33),(6,34),(4,32)] (fun gd hf=>aay rfl (ay rfl (fH T.ok rfl rfl rfl (by omega) hk rfl rfl rfl (aav rfl))))<|EG [[7,4],[8,4],[4],[10,4],[9,11,4],[4,12]] [.e yw 1,.z aM] hs rfl
    (repeat clear hs);intro g6 hs ai;obtain⟨ar,aD,aM,cE,aH,aW⟩:=hZ ai ar aD aM cE aH aW;obtain⟨bR,aT⟩:=cr ai bR aT;apply b_;by_cases he:y.idn=x.idn
    ·exact aQ (b:=y.idn !=x.idn) (by simp[he]) rfl<|bc<|bg<|bg<|cA<|fun a' ha=>jM ⟨k,_,rfl,hs,ar,aH,aW,bR,aD,aM,cE,aT,by omega,nZ (Nat.le_of_lt hk) de fun _=>by rw[hy];simp[he],ha.kp rfl⟩
    refine aJ (b:=y.idn !=x.idn) (by simp[he]) rfl<|aF<|aq<|aI<|an<|Wp 3 rfl<|aA<|bJ<|fun a' ha=>⟨q-1,by omega,k+1,_,rfl,hs,ar,aH,aW,bR,aD,aM,cE,aT,fun j h hj=>?_,by omega,ha.keep ⟨rfl,rfl,rfl,rfl,rfl,rfl,kW rfl,trivial⟩⟩
    by_cases e:j=k
    ·subst e;rw[hy];simp[he]
    exact de j h (by omega)
   apply bD hs (eF (fe (.e (.bool false)::dn (eF [])))) 14 [(13,41)] (by kernel_rfl) rfl
   ·exact pO [[],[],[1]] [] hs rfl<|fR [(0,28),(2,30)] (fun gd hf=>aaw rfl (aaL rfl (congrArg Value.bool (decide_eq_false (by omega)))))<|EG [[3],[4],[4],[5,6,4],[7,4],[8,4],[4],[10,4],[9,11,4],[4,12]] [] hs rfl
   (repeat clear hs);intro g6 hs ai;obtain⟨ar,aD,aM,cE,aH,aW⟩:=hZ ai ar aD aM cE aH aW;obtain⟨bR,aT⟩:=cr ai bR aT;exact b_<|aar rfl<|bc<|bg<|bg<|cA<|fun a' ha=>jM ⟨k,_,rfl,hs,ar,aH,aW,bR,aD,aM,cE,aT,by omega,nZ (by omega) de fun h=>absurd h hk,ha.kp rfl⟩
  (repeat clear hs);(repeat clear ar);(repeat clear aH);(repeat clear aW);(repeat clear bR);(repeat clear aD);(repeat clear aM);(repeat clear cE);(repeat clear aT);rintro a' _ ⟨k,g2,rfl,hs,ar,aH,aW,bR,aD,aM,cE,aT,hk,Z8,dW⟩;rw[Z8]at mO;revert a';refine ct<|az ?_;apply ea (gU (.f (Fact.rs (H.take k)):: .e (vI (oU b A0 (H.take k)))::fe [])) 7 [(6,50)] (by kernel_rfl)
  ·exact pO [[],[],[],[]] [.z aD,.z cE] hs rfl<|fR [(2,46),(3,47)] (fun gd hf=>aaw rfl (ay rfl (gV T.ok rfl rfl rfl rfl rfl (a:=0) (b:=k) rfl ⟨_,rfl⟩ (by omega) (by have:=bR.mM;omega) (aav<|(bR.mono ((G.bI _).trans hf.le)).cut (a:=0) (b:=k) (by omega) hk))))<|fR [(0,44),(1,45),(4,48)] (fun gd hf=>aat rfl (ba fun v4 h4=>aj (aaz rfl (BF _ v4 b A0 (H.take k) gd (aT.mono ((G.bI _).trans hf.le)) h4 hb Z7 (by rw[List.length_take];omega)))))<|EG [[5]] [] hs rfl
  intro g9 FM;refine aax rfl ?_;have hs:=hs.dr.call FM;have ai:=(G.bI _).trans FM.le;obtain⟨ar,aD,aM,aH,aW,aT⟩:=hZ ai ar aD aM aH aW aT;clear bR cE;apply b_;cases hc:oU b A0 (H.take k) !=0 with
  |true=>
   refine aas rfl ?_;have e:Dc (pF b) (l.take (i+1))=jL out x.idn:=by rw[dP,mO,hc];rfl
   refine an<|q5 3 [.z aM] rfl<|sO rfl (Mz _ out x.idn _ aW (by omega)) fun g1 _ aP cj=>?_;replace hs:=hs.call aP;have ai:=aP.le;obtain⟨ar,aD,aH,aW,aT⟩:=nX ai ar aD aH aW aT;clear aP;exact Wp 1 rfl<|aA<|bJ<|aq<|an<|Wp 3 rfl<|aA<|fun a' ha=>⟨m-1,by omega,i+1,_,_,rfl,hs,ar,aH,(by rw[e];exact cj),aD,aT,by omega,by omega,ha.keep ⟨rfl,rfl,kW rfl,trivial⟩⟩
  |false=>
   refine aar rfl ?_;have e:Dc (pF b) (l.take (i+1))=out:=by rw[dP,mO,hc];rfl
   exact aF<|bJ<|aq<|an<|Wp 3 rfl<|aA<|fun a' ha=>⟨m-1,by omega,i+1,_,_,rfl,hs,ar,aH,(by rw[e];exact aW),aD,aT,by omega,by omega,ha.keep ⟨rfl,rfl,kW rfl,trivial⟩⟩
 refine aQ (b:=decide ((i:Int)<(N' 0:Int))) (decide_eq_false (by omega)) rfl ?_;rw[List.take_of_length_le (by omega)]at aW;exact bc<|bg<|bg<|cA<|aq<|aZ rfl<|aG (nw rfl hs aW)
end Go.Proofs.YtbfjdfecgiegpaaGreatDoor
namespace Go.Proofs.YtbfjdfecgiegpaaGreatDoor
open Go Go.K
set_option maxRecDepth 10000
attribute [local irreducible] W WL cS bh bY bB bA bC cL cD
theorem Hj{day:Int}{l:List bO}: ∀{p},p∈kM day l→p.2∈l:=by
 refine wB (P:=fun m l=> ∀{p},p∈m→p.2∈l) (fun h=>absurd h List.not_mem_nil) (fun m l f ih p hp=>?_) l;rcases z_ day m f with e|⟨_,e⟩<;>rw[e]at hp
 ·exact List.mem_append_left _ (ih hp)
 rcases wA hp with rfl|hp
 ·exact List.mem_append_right _ (List.mem_singleton_self _)
 exact List.mem_append_left _ (ih hp)
end Go.Proofs.YtbfjdfecgiegpaaGreatDoor
namespace Go.Proofs.YtbfjdfecgiegpaaGreatDoor
open Go Go.K Go.Proofs.Tryz
set_option maxRecDepth 10000
attribute [local irreducible] W WL cS bh bY bB bA bC cL cD
set_option maxHeartbeats 4000000
instance:El eL where
 k:=11
 pos:=by omega
 rc g cs b:=∃sl:Nat→Value,cs=(List.range 11).map sl∧ ∀i,i<11→Rs g (sl i) (b.ls i)
 len h:=by obtain⟨sl,rfl,_⟩:=h;simp
 mono hle h:=by obtain⟨sl,e,h⟩:=h;exact⟨sl,e,fun i hi=>(h i hi).mono hle⟩
 one h:=by obtain⟨sl,rfl,h⟩:=h;intro u hu;obtain⟨i,hi,rfl⟩:=List.mem_map.1 hu;obtain⟨_,_,e⟩:=(h i (List.mem_range.1 hi)).isSlice;rw[e];rfl
def Q5(x:bO):Prop:=mq x.waf∧mq x.lot∧mq x.rcp∧mq x.rvn∧mq x.tool∧mq x.cham∧mq x.step∧mq x.par
theorem Q6{l:List bO}{n:Nat}(h: ∀x∈l,Q5 x): ∀x∈yB l n,Q5 x:=by intro x hx;obtain⟨y,hy,rfl⟩:=List.mem_map.1 hx;exact h y (List.mem_of_mem_take hy)
theorem Oi{l:List bO}{day:Int}{i:Nat}{x:bO}(h:x∈(ofM l day).ls i):x∈l:=by obtain⟨k,hk,_⟩:=sG ((iJ _).mem_iff.1 h);exact Hj hk
def yC(l:List bO):eL:=⟨fun i=>if i=0∨(2≤i∧i≤7)then l else []⟩
theorem BN{l:List bO}{i:Nat}{x:bO}(h:x∈(yC l).ls i):x∈l:=by
 unfold yC at h;dsimp only at h;split at h
 ·exact h
 exact absurd h List.not_mem_nil
theorem Oj{g:G}{v:Value}{l:List bO}(h:Rs g v l):fV g (.agg #[v,.slice none 0 0,v,v,v,v,v,v,.slice none 0 0,.slice none 0 0,.slice none 0 0]) (yC l):=by
 refine⟨fun i=>if i=0∨(2≤i∧i≤7)then v else .slice none 0 0,rfl,fun i _=>?_⟩;unfold yC;dsimp only;split
 ·exact h
 exact Rs.nil _
theorem Ol{l:List bO}(h1:l.length≤1000000)(h2: ∀x∈l,x.text.length≤999999):Bl (yC l):=by
 refine⟨fun i=>?_,fun f hf=>h2 f (BN (i:=4) hf)⟩;unfold yC;dsimp only;split
 ·exact h1
 exact Nat.zero_le _
theorem vU(v u:Value)(l:List Int)(g:G)(aH:Rs g v l)(aW:Rs g u l):cN prog 9 #[v,u] g fun _ x=>x= .bool true:=by have h:=qE v u l l g aH aW;rwa [decide_eq_true rfl]at h
theorem HS{g:G}{cells:List Value}{b:eL}(h:fV g (.agg cells.toArray) b):El.rc g cells b:=by obtain⟨sl,e,h⟩:=h;exact⟨sl,by simpa using e,h⟩
theorem Q7(v0:Value)(x:List bO)(A:gi)(g:G)(cw:jo g)(aH:Rs g v0 x)(hx: ∀y∈x,Q5 y):
  cN prog 3 #[v0,CV A] g fun _ r=>r= .bool true:=by
 have hs:=St.start g;have ar:=G.le.refl g;refine enter func3 rfl ntmps3 rfl<|cR<|An hs rfl fun b3 g2 hs ai aM=>?_;obtain⟨ar,aH,cw⟩:=dR ai ar aH cw;replace hs:St g g2 []:=hs;refine aX rfl<|cR<|sO rfl (Om _ cw) ?_;rintro g1 _ aP rfl;replace hs:=hs.call aP;have ai:=aP.le;obtain⟨ar,aM,aH,cw⟩:=dK ai ar aM aH cw;clear aP;refine aX rfl<|cG 1 rfl<|sO rfl (Q8 _ x 20 _ aH (by decide)) fun g1 vo aP wW=>?_;obtain⟨gz,gF,cK,gW,aW⟩:=hs.jO aP wW;have ai:=aP.le.trans gW;rw[←gF];replace hs:=cK;clear cK wW;obtain⟨ar,aM,cw⟩:=dR ai ar aM cw;have hl:(yB x 20).length≤20:=by unfold yB;rw[List.length_map,List.length_take];omega
 have hJ:=Q6 (n:=20) hx;have ht: ∀y∈yB x 20,y.text.length≤999999:=fun y hy=>by obtain⟨z,_,rfl⟩:=List.mem_map.1 hy;show(z.text.take 300).length≤_;rw[List.length_take];omega
 generalize yB x 20=l at*;clear aH hx;obtain⟨a,c,rfl⟩:=aW.isSlice;refine aX rfl<|az<|cG 1 rfl<|sO rfl (VN _ l 100000 _ aW (by omega)) fun g1 _ aP aT=>?_;replace hs:=hs.call aP;have ai:=aP.le;obtain⟨ar,aM,aW,cw⟩:=dK ai ar aM aW cw;clear aP
 have nv: ∀b∈[ofM l 100000,yC l],Bl b∧HF b:=fun b hb=>by
  simp only[List.mem_cons,List.not_mem_nil,or_false]at hb;rcases hb with rfl|rfl
  ·exact⟨Q9 100000 (by omega),fun y hy=>hJ y (Oi (i:=6) hy)⟩
  exact⟨Ol (by omega) ht,fun y hy=>hJ y (BN (i:=6) hy)⟩
 obtain⟨s0,rfl,h0⟩:=id aT;refine Wp 7 rfl<|BO [(0,.slice a l.length c),(2,.slice a l.length c),(3,.slice a l.length c),(4,.slice a l.length c),(5,.slice a l.length c),(6,.slice a l.length c),(7,.slice a l.length c)] [.slice a l.length c,.slice none 0 0,.slice a l.length c,.slice a l.length c,.slice a l.length c,.slice a l.length c,.slice a l.length c,.slice a l.length c,.slice none 0 0,.slice none 0 0,.slice none 0 0] [(0,1),(1,1),(2,1),(3,1),(4,1),(5,1),(6,1),(7,1),(8,1),(9,1),(10,1)] rfl<|BP [(0,.agg ((List.range 11).map s0).toArray),(1,.agg #[.slice a l.length c,.slice none 0 0,.slice a l.length c,.slice a l.length c,.slice a l.length c,.slice a l.length c,.slice a l.length c,.slice a l.length c,.slice none 0 0,.slice none 0 0,.slice none 0 0])] ((List.range 11).map s0++[.slice a l.length c,.slice none 0 0,.slice a l.length c,.slice a l.length c,.slice a l.length c,.slice a l.length c,.slice a l.length c,.slice a l.length c,.slice none 0 0,.slice none 0 0,.slice none 0 0]) hs rfl rfl ?_;(repeat clear hs);rintro bl gl hs ai;obtain⟨ar,aM,aW,aT,cw⟩:=nX ai ar aM aW aT cw;have gw:cY gl ((List.range 11).map s0++[.slice a l.length c,.slice none 0 0,.slice a l.length c,.slice a l.length c,.slice a l.length c,.slice a l.length c,.slice a l.length c,.slice a l.length c,.slice none 0 0,.slice none 0 0,.slice none 0 0]) [ofM l 100000,yC l]:=⟨_,_,rfl,HS aT,_,[],(List.append_nil _).symm,HS (cells:=[_,_,_,_,_,_,_,_,_,_,_]) (Oj aW),rfl⟩;have P3:[ofM l 100000,yC l].length=2:=rfl;generalize [ofM l 100000,yC l]=xs at*;obtain⟨gz,gF,cK,gW,cd⟩:=hs.cP (α:=eL) (i:=0) rfl gw;clear ai;have ai:=gW;rw[←gF];(repeat clear hs);have hs:St g gz []:=cK;clear cK gw h0;obtain⟨ar,aM,aT,cw⟩:=dK ai ar aM aT cw;clear aT aW ht hJ;refine aX rfl<|aI ?_;refine bK (fun m a' u=> ∃(k:Nat) (g':G),u=g'.w∧St g g' []∧G.le g g'∧jo g'∧Rs g' (.slice (vA bl) 2 2) xs∧EP g' b3 0 (nk A)∧m+k=2∧
   Fr 95 [] [(3,vP b3),(5,.bool true),(26,.slice (vA bl) 2 2),(27,vI 2),(28,vI (k:Nat))] a') 2
  (fun a' ha=>⟨0,_,rfl,hs,ar,cw,cd,aM,rfl,ha.kp rfl⟩) ?_
 (repeat clear hs);(repeat clear ar);(repeat clear cw);(repeat clear cd);(repeat clear aM);rintro m a' _ ⟨k,g',rfl,hs,ar,cw,cd,aM,hm,dW⟩;revert a';refine ct<|aZ rfl<|az ?_;by_cases bt:k<2
 ·refine aJ (b:=decide ((k:Int)<2)) (decide_eq_true (by omega)) rfl ?_;have eH:dJ xs (k:Int)=some (xs[k]'(by omega)):=bZ rfl (by omega);obtain⟨hK,hI⟩:=nv (xs[k]'(by omega)) (List.getElem_mem _);generalize xs[k]'(by omega)=b at*;refine aF<|aq<|az<|aI<|cR<|zc (y:=b) cd eH rfl ?_;rintro b9 q9 ys aL ⟨sl,rfl,dS⟩;refine q5 1 [.e aL 0] rfl ?_;clear aL;have aT:fV g' (.agg ((List.range 11).map sl).toArray) b:=⟨sl,rfl,dS⟩;refine w4 hs rfl fun b8 g1 hs ai=>?_;obtain⟨ar,aM,cd,aT,cw⟩:=nX ai ar aM cd aT cw
  have Al:((List.range 11).map sl).all Value.oneCell'=true:=by rw[List.all_eq_true];intro u hu;obtain⟨i,hi,rfl⟩:=List.mem_map.1 hu;obtain⟨_,_,e⟩:=(dS i (List.mem_range.1 hi)).isSlice;rw[e];rfl
  skip;refine bu rfl<|aw T.ok 0 rfl hs rfl rfl rfl rfl rfl rfl Al rfl rfl fun g1 hs ai=>?_;obtain⟨ar,aM,cd,aT,cw⟩:=nX ai ar aM cd aT cw;obtain⟨g2,bS,aV,ai,aL⟩:=hs.bd (i:=0) rfl;replace hs:=aV;clear aV;rw[←bS];obtain⟨ar,aM,cd,aT,cw⟩:=nX ai ar aM cd aT cw;clear Al;have aD:EP g2 b8 0 ((List.range 11).map sl):=aL;clear aL;clear dS;replace hs:St g g2 []:=hs;refine b_<|sP 5 [.z aD,.z aM,.z aM] rfl<|sO rfl (HT _ b A.waf A.time _ aT hK) ?_;rintro g1 _ aP ⟨v1,v2,rfl,cj,dw⟩;replace hs:=hs.call aP;have ai:=aP.le;obtain⟨ar,aD,aM,cd,aT,cw⟩:=hZ ai ar aD aM cd aT cw;clear aP;refine aX rfl<|sP 5 [.z aD,.z aM,.z aM] rfl<|sO rfl (KE _ b A.waf A.time _ aT hK.size) ?_;rintro g1 _ aP ⟨v3,v4,rfl,G9,fh⟩;replace hs:=hs.call aP;have ai:=aP.le;obtain⟨ar,aD,aM,cd,cj,dw⟩:=hZ ai ar aD aM cd cj dw;obtain⟨aT,cw⟩:=cr ai aT cw;clear aP;refine aX rfl<|az ?_;apply bD hs (fe (.f (Fact.rs (pE b))::fe (.f (Fact.rs (pE b)):: .e (.bool true)::dn (dn (eF (fe (.f (Fact.rs (uZ b A.waf A.time))::gU (fe (.f (Fact.rs (uZ b A.waf A.time)):: .e (.bool true)::dn (fe (.e (.bool false)::fe []))))))))))) 43 [(42,92)] (by kernel_rfl) rfl
  ·exact pO [[]] [.z aD] hs rfl<|fR [(0,50)] (fun gd hf=>aax rfl (aaz rfl (EE _ b gd (aT.mono ((G.bI _).trans hf.le)) hK (cw.mono ((G.bI _).trans hf.le)))))<|pO [[]] [.z aD] hs rfl<|fR [(2,52)] (fun gd hf=>aax rfl (aaz rfl (HG _ b gd (aT.mono ((G.bI _).trans hf.le)) hK hI)))<|fR [(1,51),(3,53),(3,53)] (fun gd hf=>ba fun u1 k1=>ba fun _ _=>ba fun u2 k2=>(aj (aaz rfl (vU u1 u2 _ gd k1 k2))))<|pO [[4],[5],[6],[6],[7,8,6,6],[9,6],[6,10],[11],[12],[12],[13,14,12,12],[15,12],[12,16],[17],[18],[18],[20,18],[18],[22,18]] [.c (Wc 9) fun g' h=>vU _ _ _ g' (cj.mono h) (G9.mono h),.c (Wc 9) fun g' h=>vU _ _ _ g' (dw.mono h) (fh.mono h),.z aD,.z aM,.z aM] hs rfl<|fR [(19,69),(21,71),(23,73),(18,68),(18,68)] (fun gd hf=>ah rfl (aaH rfl (aaz rfl (Am _ b A.waf A.time gd (aT.mono ((G.bI _).trans hf.le)) hK (cw.mono ((G.bI _).trans hf.le))))))<|pO [[18],[18],[26,18],[18],[28,18]] [.z aD,.z aM,.z aM] hs rfl<|fR [(25,75),(27,77),(29,79),(18,68)] (fun gd hf=>aaH rfl (aaz rfl (KJ _ b A.waf A.time gd (aT.mono ((G.bI _).trans hf.le)) hK)))<|fR [(24,74),(30,80),(30,80),(18,68)] (fun gd hf=>ba fun u1 k1=>ba fun _ _=>ba fun u2 k2=>aax rfl (aaz rfl (vU u1 u2 _ gd k1 k2)))<|pO [[31,18],[18,32],[33],[34],[34],[35,36,34,34],[34],[34],[38,39,34]] [.z aD,.z aM,.c (Wc 14) fun g' h=>MJ _ b A g' (aT.mono h) hK (cw.mono h),.z aD,.z aM,.c (Wc 15) fun g' h=>N9 _ b A g' (aT.mono h) hK hI] hs rfl<|fR [(37,87),(40,90),(34,84)] (fun gd hf=>aay rfl (aaL rfl (congrArg Value.bool (by simp))))<|EG [[34,41]] [] hs rfl
  (repeat clear hs);intro g6 hs ai;obtain⟨ar,aM,cd,cw⟩:=dK ai ar aM cd cw;exact b_<|aar rfl<|aF<|bJ<|aq<|an<|Wp 2 rfl<|aA<|fun a ha=>⟨m-1,by omega,k+1,_,rfl,hs,ar,cw,cd,aM,by omega,ha.keep ⟨rfl,rfl,rfl,rfl,kW rfl,trivial⟩⟩
 exact aQ (b:=decide ((k:Int)<2)) (decide_eq_false (by omega)) rfl<|bc<|bg<|bg<|cA<|aq<|aZ rfl<|aG (nw rfl hs rfl)
end Go.Proofs.YtbfjdfecgiegpaaGreatDoor
namespace Go.Proofs.YtbfjdfecgiegpaaGreatDoor
open Go Go.K Go.RowKit Go.ChangeShapes Go.WideShapes Go.Proofs.Tryz
set_option maxRecDepth 100000
theorem AL:ownKnob prog.godebug=none:=by kernel_rfl
theorem laidOut:laidOutB prog=true:=by kernel_rfl
theorem B_:prog.cellsOf 3=1:=by kernel_rfl
theorem pZ:prog.cellsOf 9=1:=by kernel_rfl
theorem IZ:prog.cellsOf 24=7:=by kernel_rfl
theorem Ca:prog.cellsOf 40=19:=by kernel_rfl
theorem Gi:prog.cellsOf 4=1:=by kernel_rfl
def xw:List (String×DataW Unit):=[("math/bits.deBruijn32tab",Rows.laid_math_bits_deBruijn32tab),("math/bits.deBruijn64tab",Rows.laid_math_bits_deBruijn64tab),("internal/strconv.uint64pow10",Rows.laid_internal_strconv_uint64pow10),("unicode/utf8.acceptRanges",Rows.laid_unicode_utf8_acceptRanges),("strconv.ErrRange",Rows.laid_strconv_ErrRange),("strconv.ErrSyntax",Rows.laid_strconv_ErrSyntax),("unicode/utf8.first",Rows.laid_unicode_utf8_first)]
theorem TF:prog.globalNamed "strconv.ErrRange" =some 5:=by kernel_rfl
theorem TG:prog.globalNamed "strconv.ErrSyntax" =some 4:=by kernel_rfl
theorem Xl:(prog.globals[3]?).map (·.type)=some 295:=by kernel_rfl
theorem Xm:(prog.globals[5]?).map (·.type)=some 137:=by kernel_rfl
theorem Xn:(prog.globals[4]?).map (·.type)=some 137:=by kernel_rfl
theorem TH:(Rows.laid_internal_strconv_uint64pow10:DataW Unit)=Lib.tabData .u64 Lib.pow10Tab:=by kernel_rfl
theorem I0(u:TypeId)(h:prog.typeName? 3 u=some "*errors.errorString"):u=304:=
 typeName_ptr_named (nm:= "errors.errorString") (by kernel_rfl) (by kernel_rfl) (by decide) u h
theorem AM{W:World}{b:Nat}{v:Value}(hc:W.cell? ⟨b,0,none⟩=some v):EP (yK W) b 0 [v]:=by
 refine⟨(ux hc).2,fun j y hy=>?_⟩
 match j,hy with
 |0,hy=>simp at hy;subst hy;exact hc
 |j+1,hy=>simp at hy
theorem Gj{W:World}(pQ:W.ShapedOpen prog): ∃m,W.cell? ⟨0,0,none⟩=some (vI m):=Tryz.laysM220.s1_3 W pQ
theorem TJ{W:World}(h:laidMet prog xw W)(pQ:W.ShapedOpen prog):jo (yK W):=by
 have h2:=h.tail.tail;rw[show(("internal/strconv.uint64pow10",Rows.laid_internal_strconv_uint64pow10):String×DataW Unit)=("internal/strconv.uint64pow10",Lib.tabData .u64 Lib.pow10Tab)from by rw[TH]]at h2;have hT:=Lib.tabIs_of_head O4 Xl Tryz.underlying295 Tryz.underlying174 (by kernel_rfl) (by kernel_rfl) h2;have h4:=h.tail.tail.tail.tail;have h5:=h4.tail;obtain⟨a,s,hv,_⟩:=laid_sentinel h4 TF Xm Tryz.underlying137 I0 Tryz.underlying304 Tryz.underlying306 rfl rfl Tryz.underlying9 (by kernel_rfl) pZ;obtain⟨a2,s2,YZ,_⟩:=laid_sentinel h5 TG Xn Tryz.underlying137 I0 Tryz.underlying304 Tryz.underlying306 rfl rfl Tryz.underlying9 (by kernel_rfl) pZ;have hc:=World.var?_cell TF hv 0;have Na:=World.var?_cell TG YZ 0;have hc:W.cell? ⟨5,0,none⟩=some (.iface 304 (.pointer (some a))):=by simpa using hc
 have Na:W.cell? ⟨4,0,none⟩=some (.iface 304 (.pointer (some a2))):=by simpa using Na
 obtain⟨m,hm⟩: ∃m,W.cell? ⟨0,0,none⟩=some (vI m):=Gj pQ;have hp:=hT.cell O4 0 (by decide);exact⟨⟨m,AM hm⟩,⟨(ux hp).2,hT⟩,⟨_,AM Na,.inr ⟨_,_,rfl⟩⟩,⟨_,AM hc,.inr ⟨_,_,rfl⟩⟩⟩
theorem u6{P:Program}{t:TypeId}{fs:Array Field}(ht:P.underlying t=some (.struct fs)){H:Type}{enc:TypeId×Value→H}{W:World}{fuel:Nat}{cs:List Value}{x:DataW H×List MemPlace}(h:DataW.trod enc P W 0 (fun _=>true) true fuel t cs=some x):
  cs.length=P.cellsOf t∧ ∀(i:Nat) (u:TypeId) (off:Nat),(fs[i]?).map (fun f=>(f.type,f.offset))=some (u,off)→ ∃n y,DataW.trod enc P W 0 (fun _=>true) true n u ((cs.drop off).take (P.cellsOf u))=some y:=by
 obtain⟨xs,n,_,_,hl,so,hf⟩:=DataW.trod_struct ht h;refine⟨hl,fun i u off Rm=>⟨n,?_⟩⟩;obtain⟨f,hi,e⟩:=Option.map_eq_some_iff.1 Rm;simp only[Prod.mk.injEq]at e;obtain⟨rfl,rfl⟩:=e;have h1:=hf i f hi;have bt:i<xs.length:=by rw[so];exact(Array.getElem?_eq_some_iff.1 hi).1
 rw[List.getElem?_eq_getElem bt]at h1;exact⟨_,h1⟩
theorem iM{H:Type}{enc:TypeId×Value→H}{W:World}{n:Nat}{c:Value}{y:DataW H×List MemPlace}(h:DataW.trod enc prog W 0 (fun _=>true) true n 3 [c]=some y): ∃m:Int,c=vI m:=by obtain⟨m,e,_⟩:=DataW.trod_int Tryz.underlying3 h;exact⟨m,(List.cons.inj e).1⟩
theorem fY{H:Type}{enc:TypeId×Value→H}{W:World}{n:Nat}{c:Value}{y:DataW H×List MemPlace}(h:DataW.trod enc prog W 0 (fun _=>true) true n 3 [c]=some y): ∃m:Int,c=vI m∧mq m:=by obtain⟨m,e,_,hw⟩:=DataW.trod_int Tryz.underlying3 h;exact⟨m,(List.cons.inj e).1,wf_i64 hw⟩
theorem Gk:Nr prog 40 (α:=bO) Q5:=by
 intro H enc W fuel cs x h;obtain⟨hl,hf⟩:=u6 Tryz.underlying40 h;rw[Ca]at hl
 match cs,hl with
 |[c0,c1,c2,c3,c4,c5,c6,c7,c8,c9,Vz,VA,c12,VB,VO,VP,VQ,VR,VS],_=>
  obtain⟨_,_,h0⟩:=hf 0 3 0 rfl;obtain⟨_,_,h1⟩:=hf 1 3 1 rfl;obtain⟨_,_,h2⟩:=hf 2 3 2 rfl;obtain⟨_,_,h3⟩:=hf 3 3 3 rfl;obtain⟨_,_,h4⟩:=hf 4 4 4 rfl;obtain⟨_,_,h5⟩:=hf 5 3 5 rfl;obtain⟨_,_,h6⟩:=hf 6 3 6 rfl;obtain⟨_,_,h7⟩:=hf 7 3 7 rfl;obtain⟨_,_,h8⟩:=hf 8 3 8 rfl;obtain⟨_,_,h9⟩:=hf 9 3 9 rfl;obtain⟨_,_,vG⟩:=hf 10 3 10 rfl;obtain⟨_,_,K2⟩:=hf 11 3 11 rfl;obtain⟨_,_,P8⟩:=hf 12 3 12 rfl;obtain⟨_,_,U8⟩:=hf 13 3 13 rfl;obtain⟨_,_,P9⟩:=hf 14 3 14 rfl;obtain⟨_,_,Zo⟩:=hf 15 3 15 rfl;obtain⟨_,_,Qo⟩:=hf 16 3 16 rfl;obtain⟨_,_,Zp⟩:=hf 17 3 17 rfl;obtain⟨_,_,Zq⟩:=hf 18 9 18 rfl;rw[B_]at h0 h1 h2 h3 h5 h6 h7 h8 h9 vG K2 P8 U8 P9 Zo Qo Zp;rw[Gi]at h4;rw[pZ]at Zq;obtain⟨m0,rfl,k0⟩:=fY h0;obtain⟨m1,rfl,k1⟩:=fY h1;obtain⟨m2,rfl,k2⟩:=fY h2;obtain⟨m3,rfl,k3⟩:=fY h3;obtain⟨m5,rfl,k5⟩:=fY h5;obtain⟨m6,rfl,k6⟩:=fY h6;obtain⟨m7,rfl,k7⟩:=fY h7;obtain⟨m8,rfl,k8⟩:=fY h8;obtain⟨m9,rfl,k9⟩:=fY h9;obtain⟨m10,rfl,VT⟩:=fY vG;obtain⟨m11,rfl,Rn⟩:=fY K2;obtain⟨m12,rfl,Ro⟩:=fY P8;obtain⟨m13,rfl,Rp⟩:=fY U8;obtain⟨m14,rfl,Rq⟩:=fY P9;obtain⟨m15,rfl,Rr⟩:=fY Zo;obtain⟨m16,rfl,VU⟩:=fY Qo;obtain⟨m17,rfl,Rt⟩:=fY Zp;obtain⟨m4,e4,_⟩:=DataW.trod_bool Tryz.underlying4 h4;obtain rfl:=(List.cons.inj e4).1;obtain⟨Ru,Rv,_⟩:=DataW.trod_string Tryz.underlying9 Zq;obtain rfl:=(List.cons.inj Rv).1;exact⟨⟨m0,m1,m2,m3,m4,m5,m6,m7,m8,m9,m10,m11,m12,m13,m14,m15,m16,m17,Ru.data.toList⟩,by show _=cB _;unfold cB;rw[←Ns],k7,k9,Rq,Rr,Rn,Ro,Rp,Rt⟩
theorem Gl{H:Type}{enc:TypeId×Value→H}{W:World}{v:Value}{d:DataW H}{p:List MemPlace}(l_:Value.okWide prog W .any 0 22 v)(h:DataW.Trod enc prog W 0 (fun _=>true) true 22 v d p):
  ∃x:List bO,Rs (yK W) v x∧ ∀y∈x,Q5 y:=by
 obtain⟨a,n,c,rfl⟩:=okWide_slice Tryz.underlying22 l_;obtain⟨fuel,hf⟩:=h;exact I1 (α:=bO) Tryz.underlying22 Ca Gk hf
theorem I2{H:Type}{enc:TypeId×Value→H}{W:World}{v:Value}{d:DataW H}{p:List MemPlace}(l_:Value.okWide prog W .any 0 24 v)(h:DataW.Trod enc prog W 0 (fun _=>true) true 24 v d p):
  ∃A:gi,v=CV A:=by
 obtain⟨⟨cs⟩,rfl,cK⟩:=okWide_struct Tryz.underlying24 l_;obtain⟨fuel,h⟩:=h;have h':DataW.trod enc prog W 0 (fun _=>true) true fuel 24 cs=some (d,p):=h;obtain⟨hl,hf⟩:=u6 Tryz.underlying24 h';rw[IZ]at hl
 match cs,hl with
 |[c0,c1,c2,c3,c4,c5,c6],_=>
  obtain⟨_,_,h0⟩:=hf 0 3 0 rfl;obtain⟨_,_,h1⟩:=hf 1 3 1 rfl;obtain⟨_,_,h2⟩:=hf 2 3 2 rfl;obtain⟨_,_,h3⟩:=hf 3 3 3 rfl;obtain⟨_,_,h4⟩:=hf 4 3 4 rfl;obtain⟨_,_,h5⟩:=hf 5 3 5 rfl;obtain⟨_,_,h6⟩:=hf 6 3 6 rfl;rw[B_]at h0 h1 h2 h3 h4 h5 h6;obtain⟨m0,rfl⟩:=iM h0;obtain⟨m1,rfl⟩:=iM h1;obtain⟨m2,rfl⟩:=iM h2;obtain⟨m3,rfl⟩:=iM h3;obtain⟨m4,rfl⟩:=iM h4;obtain⟨m5,rfl⟩:=iM h5;obtain⟨m6,rfl⟩:=iM h6;exact⟨⟨m0,m1,m2,m3,m4,m5,m6⟩,rfl⟩
theorem trodAll_two{H:Type}{enc:TypeId×Value→H}{P:Program}{w:World}{base:Nat}{spare:Nat→Bool}{held:Bool}{t0 t1:TypeId}{args:Array Value}{ds:List (DataW H)}{ps:List MemPlace}(h:DataW.TrodAll enc P w base spare held [t0,t1] args.toList ds ps):
  ∃v0 v1 d0 d1 p0 p1,args=#[v0,v1]∧ds=[d0,d1]∧ps=p0++p1∧DataW.Trod enc P w base spare held t0 v0 d0 p0∧DataW.Trod enc P w base spare held t1 v1 d1 p1:=by
 obtain⟨v0,VV,d0,VW,p0,q0,rn,rfl,rfl,h0,FZ⟩:=trodAll_cons h;obtain⟨v1,VX,d1,VY,p1,q1,rfl,rfl,rfl,h1,uy⟩:=trodAll_cons FZ;obtain⟨rfl,rfl,rfl⟩:=trodAll_nil uy;exact⟨v0,v1,d0,d1,p0,p1,by cases args;simp_all,rfl,by simp,h0,h1⟩
theorem rW{H:Type}{enc:TypeId×Value→H}{a:Assume}{C:Checked}{os:Os}{f:FuncId}{fn:Func}{s:ChangeSpec}{conds:List PathCond}{apart fresh handsOn again:Bool}{X:World→Array Value→Prop}
  (hX: ∀(w w':World) (args:Array Value),w.heap=w'.heap→X w args→X w' args)
  (own:ownKnob C.prog.godebug=none) (started:os.Started) (O5:C.prog.inits.idxOf? f=none) (Ga:C.prog.funcs[f]? =some fn)
  (witness: ∃(w:World) (tape:Tape) (i:Input),w.os=os∧(w.forCall tape i).Shaped C.prog∧i.vars=[]∧Input.okWide C.prog (w.forCall tape i) .any w.heap.size f i∧
   ((s.pre enc C.prog fn conds apart (w.forCall tape i).memory i.args∧X (w.forCall tape i).memory i.args)∧sizedMet enc C.prog fn (OpenSpec.ofChange s) apart (w.forCall tape i).memory i.args)∧a.holds C.prog (lone (Frame.enter C.prog f i.args .normal) [] (w.forCall tape i)))
  (s9: ∀(W:World) (args:Array Value) (ds gs:List (DataW H)) (before:List MemPlace),
   (∀(j:Nat) t v,fn.params[j]? =some t→args[j]? =some v→ ∃base,Value.okWide C.prog W .any base t v)→
   DataW.Whole enc C.prog fn.params.toList s.vars apart W args.toList ds gs before→X W args→W.ShapedOpen C.prog→
   Calls C.prog f args W fun e W'=> ∃v,e= .returned v∧s.post enc C.prog fn apart fresh handsOn again W args v W'):
  ReturnsInHanded a C os f .any (fun w args=>(s.pre enc C.prog fn conds apart w args∧X w args)∧sizedMet enc C.prog fn (OpenSpec.ofChange s) apart w args) (s.post enc C.prog fn apart fresh handsOn again):=by
 refine returnsInHanded_of_calls own started O5 witness fun w tape i _ pQ _ l_ gM _=>?_;obtain⟨_,_,_,Rw,Xo,_,_,_,_,cF⟩:=l_;obtain rfl:Rw=fn:=Option.some.inj (Xo.symm.trans Ga);obtain⟨⟨⟨ds,gs,before,hw,_⟩,hx⟩,_⟩:=gM;have U9:=DataW.Whole.of_heap (w':=w.forCall tape i) (by rfl) hw;refine(s9 (w.forCall tape i) i.args ds gs before (fun j t v h1 h2=>⟨_,cF j t v h1 h2⟩) U9 (hX _ _ _ (by rfl) hx) pQ).mono fun e W' ⟨v,he,hp⟩=>?_;subst he;exact ChangeSpec.post_blind hp
theorem DQ{f:FuncId}{args:Array Value}{W:World}{s:ChangeSpec}{fn:Func}{H:Type}{enc:TypeId×Value→H}{ds:List (DataW H)}{before:List MemPlace}
  (hr:(fn.params.toList.all fun t=>prog.readableRec t&&decide (t<prog.types.size))=true) (hv:s.vars=[]) (hs:s.fn H ds={results:=[.lit (.bool true)],args:=ds}) (Xp:fn.resultTypes=#[4])
  (hW:DataW.Whole enc prog fn.params.toList s.vars false W args.toList ds [] before)
  (h:CallsIn Wd 0 prog f args (yK W).w (cO (yK W) fun _ r=>r= .bool true)):
  Calls prog f args W fun e W'=> ∃v,e= .returned v∧s.post enc prog fn false true false false W args v W':=by
 refine(callsIn_wide.1 h).mono ?_;rintro _ _ ⟨g',v,rfl,hf,rfl,rfl⟩;exact⟨_,rfl,I3 laidOut hr hv hs Xp Tryz.underlying4 hW hf.below⟩
theorem LO(os:Os)(args:Array Value):laidMetH prog xw ((World.laidAll prog os xw).forCall (fun _ _=>0) ⟨#[],args,[]⟩).memory:=by rw[MakeChecks.laidMetH_plain _ _ _ (by kernel_rfl)];exact laidMet_laidAll _ (by kernel_rfl) (by kernel_rfl)
end Go.Proofs.YtbfjdfecgiegpaaGreatDoor
namespace Go.K
open Go
theorem Gy{P:Program}{f:FuncId}{fn:Func}{s:ChangeSpec}{c:OpenClaim}
  (h1:(c.inPlace==P.inPlace f)=true) (h2:(c.unfollowed==P.unfollowed f)=true) (h3:(c.recurses==P.recurses f)=true) (h4:(c.named==P.varsNamed f)=true)
  (h5:(c.wf (OpenSpec.ofChange s)&&fn.params.all (P.readableRec ·)&&namedTie P c.named s.vars)=true) (a2:laidOutB P=true) (a3:mapsRowed P=true)
  (h6:(P.mayEnter&&(c.lifted==P.liftsFinal)&&(P.make==some c.make))=true)
  (h7:((c.plainKeys==P.plainKeys)&&P.stopsHeard&&(P.stops==[])&&(P.stopKnobs==[]))=true)
  (h8:((c.stops==[])&&(c.knobs==[])&&(c.maps==(fn.params.toList++s.plain.varTypes P).any (P.mapsRec ·))&&(c.ifaces==(fn.params.toList++s.plain.varTypes P).any (P.ifacesRec ·))&&(c.mapsOut==P.mapsAmong fn.resultTypes.toList)&&
   (c.loops==(fn.params.toList++s.plain.varTypes P).any (P.loopsFrom ·))&&(c.wideKeys==(fn.params.toList++s.plain.varTypes P++fn.resultTypes.toList).any (P.wideKeysFrom ·))&&
   s.vars.all (P.varReadable ·)&&fn.resultTypes.all (fun t=>P.readableRec t&&decide (t<P.types.size))&&(c.ifacesOut==fn.resultTypes.toList.any (P.ifacesRec ·))&&(c.loopsOut==fn.resultTypes.toList.any (P.loopsFrom ·))&&c.shortTexts.isNone&&(c.kinds==(if c.domain.isEmpty then []else fn.params.toList.map fun t=>match P.underlying t with|some (.int k)=>some k|_=>none))&&(c.pinned==c.pinnedBy)&&
   (c.veiled==(fn.params.toList++s.plain.varTypes P++fn.resultTypes.toList).any (P.veiledRec ·))&&c.veiledFits P fn.params.toList (fn.params.toList++s.plain.varTypes P++fn.resultTypes.toList))=true):joinedFacts P f fn s c=true:=by
 unfold joinedFacts;simp only[Bool.and_eq_true]at h5 h6 h7 h8⊢;obtain⟨⟨a1,a4⟩,a5⟩:=h5;obtain⟨⟨b1,b2⟩,b3⟩:=h6;obtain⟨⟨⟨d1,d2⟩,d3⟩,d4⟩:=h7;obtain⟨⟨⟨⟨⟨⟨⟨⟨⟨⟨⟨⟨⟨⟨⟨e1,e2⟩,e3⟩,e4⟩,e5⟩,e6⟩,e7⟩,e8⟩,e9⟩,XU⟩,Vh⟩,RX⟩,RY⟩,RZ⟩,R1⟩,R2⟩:=h8;exact⟨⟨⟨⟨⟨⟨⟨⟨⟨⟨⟨⟨⟨⟨⟨⟨⟨⟨⟨⟨⟨⟨⟨⟨⟨⟨⟨⟨⟨⟨⟨a1,a2⟩,a3⟩,a4⟩,a5⟩,e1⟩,d3⟩,e2⟩,d4⟩,h1⟩,h2⟩,h3⟩,h4⟩,e3⟩,e4⟩,e5⟩,e6⟩,e7⟩,e8⟩,e9⟩,XU⟩,Vh⟩,d1⟩,RX⟩,d2⟩,b1⟩,b2⟩,b3⟩,RY⟩,RZ⟩,R1⟩,R2⟩
end Go.K
