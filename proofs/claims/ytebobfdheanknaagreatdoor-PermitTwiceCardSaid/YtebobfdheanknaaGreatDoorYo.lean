/- Parts of the proof, from: The walks through the generator of package ref19: Fab. -/
import Derived.Test.YtebobfdheanknaaGreatDoorYn
import Derived.Test.YtebobfdheanknaaGreatDoorYh
import Derived.Test.YtebobfdheanknaaGreatDoorYb
import Derived.Test.YtebobfdheanknaaGreatDoorRows
import Derived.Lib.LaidTab
import Derived.Stop.LaidErr
import Derived.Lay
import Derived.LaidMore
import Derived.HandedShaped
import Derived.Clock
import Derived.Test.YtebobfdheanknaaGreatDoorYg
import Derived.Test.YtebobfdheanknaaGreatDoorYm
namespace Go.Proofs.YtebobfdheanknaaGreatDoor
open Go Go.K
set_option maxRecDepth 10000
attribute [local irreducible] W WL cT bu bX bA bB bD cW cG
set_option maxHeartbeats 1000000
def Cf(f:bV):List UInt8:=if valid f=true then tD f else []
def pM(t:List UInt8):bc:={gF with kind:=5,ver:=1,prod:=1,text:=t}
def uV(i:Nat):bc:={gF with kind:=4,ver:=1,waf:=(i+1:Nat),lot:=(1+(i+1)/3:Nat),prod:=1}
def om(k h j:Nat):bc:={gF with kind:=6,idn:=(10*k+5*h+j+1:Nat),ver:=1,til:=1000000,tool:=k,cham:=h,rcp:=(j+1:Nat),rvn:=1}
def vz(n:Nat):bc:=om (n/10) (n/5 % 2) (n % 5)
theorem Ev{k h j:Nat}(hh:h<2)(hj:j<5):vz (10*k+5*h+j)=om k h j:=by
 unfold vz
 rw[show(10*k+5*h+j)/10=k from by omega,show(10*k+5*h+j)/5 % 2=h from by omega,show(10*k+5*h+j) % 5=j from by omega]
def Cb(t:List UInt8):List bc:=pM t::(List.range 3).map uV
def Eo(t:List UInt8):List bc:=Cb t++(List.range 120).map vz
theorem uW(f:bV): ∃z:Int,kA f= .tuple #[.string (bs (Cf f)),.int .i64 z]:=by
 unfold kA Cf
 split
 ·exact⟨_,rfl⟩
 ·exact⟨_,rfl⟩
abbrev oF(b:Nat):cV:=.obj b (.cells #[.int .i64 0,.int .i64 0,.slice none 0 0,.slice none 0 0] 30 (0,0))
theorem yp{α:Type}(p:Nat→α)(k:Nat):(List.range (k+1)).map p=(List.range k).map p++[p k]:=by rw[List.range_succ,List.map_append];rfl
theorem NK(v:Value)(x:List Y6)(g:G)(aH:Rs g v x)(hx: ∀y∈x,y.fit):
  CallsIn Wd 0 Tryz.prog 11 #[v] g.w (cR g fun g' r=> ∃v1 v2,r= .tuple #[v1,v2]∧jZ 54 g (Eo (Cf (mk x []))) g' v1∧fA g' v2 (mk x [])):=by
 have hs:=St.start g
 have aq:=G.le.refl g
 obtain⟨a,c,rfl⟩:=aH.isSlice
 refine enter Tryz.func11 rfl Tryz.ntmps11 rfl ?_
 refine cP 1 rfl ?_
 refine an rfl rfl (aK T.ok rfl hs rfl rfl ?_);clear hs;rintro b3 g1 hs ah;obtain⟨aq,aH⟩:=cC ah aq aH
 apply cf;refine cP 1 rfl ?_
 refine an rfl rfl (ay PC aI rfl rfl rfl rfl rfl (Jr _ _ x [] _ aH (Rs.nil _) hx (fun _ h=>absurd h List.not_mem_nil)) ?_);rintro g1 _ aN dI;replace hs:=hs.call aN;have ah:=aN.le;replace aq:=G.le.trans aq ah
 clear aN
 generalize mk x []=f at*
 obtain⟨a1,n1,c1,a2,n2,c2,rfl,aT,bT⟩:=id dI
 clear aT bT aH
 skip
 refine an rfl rfl (aK T.ok rfl hs rfl rfl ?_);clear hs;rintro b4 g1 hs ah;obtain⟨aq,dI⟩:=cC ah aq dI
 refine bg rfl (aA T.ok 0 rfl hs rfl rfl rfl rfl rfl rfl rfl rfl rfl ?_);replace hs:=hs;rintro g1 hs ah;obtain⟨aq,dI⟩:=cC ah aq dI
 obtain⟨g2,bR,aU,ah,aL⟩:=hs.a_ (i:=0) rfl;replace hs:=aU;clear aU;rw[←bR];obtain⟨aq,dI⟩:=cC ah aq dI
 have aC:=aL;clear aL
 replace hs:St g _ [oF b3]:=hs
 apply cf;refine dx 1 [.z aC] (St.start _) rfl ?_
 refine an rfl rfl (ay PD aI rfl rfl rfl rfl rfl (Ew _ f _ dI) ?_);rintro g1 _ aN Gs;replace hs:=hs.call aN;have ah:=aN.le;obtain⟨aq,aC,dI⟩:=ef ah aq aC dI
 clear aN
 obtain⟨n6,e6⟩:=uW f
 rw[e6]at Gs;subst Gs;clear e6
 generalize Cf f=tx at*
 refine ba rfl ?_;refine cP 1 rfl ?_
 refine an rfl rfl (aQ T.ok rfl (vs:=[(0,.int .i64 5),(2,.int .i64 1),(10,.int .i64 1),(18,.string (bs tx))]) (cells:=bW (pM tx)) rfl rfl rfl rfl [(0,1),(1,1),(2,1),(3,1),(4,1),(5,1),(6,1),(7,1),(8,1),(9,1),(10,1),(11,1),(12,1),(13,1),(14,1),(15,1),(16,1),(17,1),(18,1)] rfl (by kernel_rfl) ?_)
 skip
 refine an rfl rfl (bj T.ok rfl hs (vs:=[(0,fv (pM tx))]) (cells:=bW (pM tx)) rfl rfl rfl rfl rfl rfl (by decide) (by decide) (by kernel_rfl) rfl ?_);rintro bl gl hs ah;obtain⟨aq,aC,dI⟩:=ef ah aq aC dI
 replace hs:St g gl [rF (some ⟨bl,0,none⟩) 1 [pM tx],oF b3]:=by
  have e:fl [pM tx]=bW (pM tx):=List.append_nil _
  unfold rF;rw[e];exact hs
 refine ba rfl ?_;apply aB;refine aX rfl ?_;apply aG
 refine bS (fun m a' w=> ∃(k:Nat) (ad:Option Addr) (c8:Nat) (xs:List bc) (g':G),w=g'.w∧St g g' [rF ad c8 xs,oF b3]∧G.le g g'∧fA g' (.agg #[.int .i64 f.ck,.int .i64 f.cu,.slice a1 n1 c1,.slice a2 n2 c2]) f∧EP g' b4 0 [.int .i64 f.ck,.int .i64 f.cu,.slice a1 n1 c1,.slice a2 n2 c2]∧k≤3∧xs.length=k+1∧xs=pM tx::(List.range k).map uV∧m=3-k∧
   Fr 59 [] [(3,.pointer (some ⟨b3,0,none⟩)),(4,.pointer (some ⟨b4,0,none⟩)),(7,.slice ad xs.length c8),(8,.int .i64 (k+1:Nat))] a') 3
  (fun a' ha=>⟨0,_,_,[pM tx],_,rfl,hs,aq,dI,aC,by omega,rfl,rfl,rfl,ha.keep (by(repeat (first|exact trivial|refine⟨rfl,?_⟩)))⟩) ?_
 (repeat clear hs);(repeat clear aq);(repeat clear aC);(repeat clear dI)
 rintro m a' _ ⟨k,ad,c8,xs,g',rfl,hs,aq,dI,aC,hk,lG,jm,rfl,eI⟩
 revert a'
 apply cQ;apply aB;refine aX rfl ?_
 by_cases bh:k<3
 ·refine aJ (b:=decide (((k+1:Nat):Int)≤3)) (decide_eq_true (by omega)) rfl ?_
  apply aE;apply au;apply aB;apply aG;apply ar;refine Wp 5 rfl ?_
  have SO:IntKind.i64.wrap (1+IntKind.i64.wrap (((k+1:Nat):Int).tdiv 3))=((1+(k+1)/3:Nat):Int):=by
   have:k=0∨k=1∨k=2:=by omega
   rcases this with rfl|rfl|rfl<;>rfl
  refine cE (.int .i64 ((1+(k+1)/3:Nat):Int)) (t:=31) rfl (congrArg (Value.int .i64) SO) ?_
  clear SO
  refine an rfl rfl (aQ T.ok rfl (vs:=[(0,.int .i64 4),(2,.int .i64 1),(7,.int .i64 (k+1:Nat)),(9,.int .i64 (1+(k+1)/3:Nat)),(10,.int .i64 1)]) (cells:=bW (uV k)) rfl rfl rfl rfl [(0,1),(1,1),(2,1),(3,1),(4,1),(5,1),(6,1),(7,1),(8,1),(9,1),(10,1),(11,1),(12,1),(13,1),(14,1),(15,1),(16,1),(17,1),(18,1)] rfl (by kernel_rfl) ?_)
  skip
  refine an rfl rfl (bj T.ok rfl hs (vs:=[(0,fv (uV k))]) (cells:=bW (uV k)) rfl rfl rfl rfl rfl rfl (by decide) (by decide) (by kernel_rfl) rfl ?_);rintro bl gl hs ah;obtain⟨aq,aC,dI⟩:=ef ah aq aC dI
  skip
  refine an rfl rfl (b_ T.ok 1 rfl hs rfl rfl rfl rfl rfl rfl rfl (by decide) rfl (Src.gK (hs.own 0 _ rfl).1).2 (by simp[bW,Value.oneCell']) (by show(xs.length+1)*160≤_;omega) (by show xs.length+1≤maxLen;unfold maxLen;omega) ?_);rintro a6 c6 g10 hs ah;obtain⟨aq,aC,dI⟩:=ef ah aq aC dI
  have qD:fl (xs++[uV k])=fl xs++bW (uV k):=by rw[lr];exact congrArg (fl xs++ ·) (List.append_nil _)
  have wT:(xs++[uV k]).length=xs.length+1:=by simp
  replace hs:St g g10 [rF a6 c6 (xs++[uV k]),oF b3]:=by unfold rF;rw[qD,wT];exact hs.drop 0
  refine Wp 1 rfl ?_;apply aD;apply bU;apply au;apply ar;refine Wp 3 rfl ?_;apply aD
  exact fun a ha=>⟨3-(k+1),by omega,k+1,a6,c6,xs++[uV k],_,rfl,hs,aq,dI,aC,by omega,by rw[wT,lG],by rw[yp,jm];rfl,rfl,ha.keep ⟨rfl,rfl,kV rfl (by rw[wT]),kI rfl (by rw[wr (by omega) (by omega)];omega),trivial⟩⟩
 ·refine aS (b:=decide (((k+1:Nat):Int)≤3)) (decide_eq_false (by omega)) rfl ?_
  obtain rfl:k=3:=by omega
  replace jm:xs=Cb tx:=jm
  apply bE;apply bK;apply bK;apply dc;apply au;refine aX rfl ?_;apply aB;refine aX rfl ?_;apply aG
  refine bS (fun m a' w=> ∃(k:Nat) (ad:Option Addr) (c8:Nat) (xs:List bc) (g':G),w=g'.w∧St g g' [rF ad c8 xs,oF b3]∧G.le g g'∧fA g' (.agg #[.int .i64 f.ck,.int .i64 f.cu,.slice a1 n1 c1,.slice a2 n2 c2]) f∧EP g' b4 0 [.int .i64 f.ck,.int .i64 f.cu,.slice a1 n1 c1,.slice a2 n2 c2]∧k≤12∧xs.length=4+10*k∧xs=Cb tx++(List.range (10*k)).map vz∧m=12-k∧
    Fr 59 [] [(3,.pointer (some ⟨b3,0,none⟩)),(4,.pointer (some ⟨b4,0,none⟩)),(7,.slice ad xs.length c8),(9,.int .i64 (10*k:Nat)),(10,.int .i64 (k:Nat))] a') 12
   (fun a' ha=>⟨0,_,_,xs,_,rfl,hs,aq,dI,aC,by omega,lG,by rw[jm];exact(List.append_nil _).symm,rfl,ha.keep (by(repeat (first|exact trivial|refine⟨rfl,?_⟩)))⟩) ?_
  clear jm lG
  (repeat clear hs);(repeat clear aq);(repeat clear aC);(repeat clear dI)
  rintro m a' _ ⟨k,ad,c8,xs,g',rfl,hs,aq,dI,aC,hk,lG,jm,rfl,eI⟩
  revert a'
  apply cQ;apply aB;refine aX rfl ?_
  by_cases Wu:k<12
  ·refine aJ (b:=decide ((k:Int)<12)) (decide_eq_true (by omega)) rfl ?_
   apply aE;apply au;apply aB;apply aG;refine aX rfl ?_;apply aG
   refine bS (fun m a' w=> ∃(h:Nat) (ad:Option Addr) (c8:Nat) (xs:List bc) (g':G),w=g'.w∧St g g' [rF ad c8 xs,oF b3]∧G.le g g'∧fA g' (.agg #[.int .i64 f.ck,.int .i64 f.cu,.slice a1 n1 c1,.slice a2 n2 c2]) f∧EP g' b4 0 [.int .i64 f.ck,.int .i64 f.cu,.slice a1 n1 c1,.slice a2 n2 c2]∧h≤2∧xs.length=4+(10*k+5*h)∧xs=Cb tx++(List.range (10*k+5*h)).map vz∧m=2-h∧
     Fr 59 [] [(3,.pointer (some ⟨b3,0,none⟩)),(4,.pointer (some ⟨b4,0,none⟩)),(7,.slice ad xs.length c8),(9,.int .i64 (10*k+5*h:Nat)),(10,.int .i64 (k:Nat)),(11,.int .i64 (h:Nat))] a') 2
    (fun a' ha=>⟨0,_,_,xs,_,rfl,hs,aq,dI,aC,by omega,lG,jm,rfl,ha.keep (by(repeat (first|exact trivial|refine⟨rfl,?_⟩)))⟩) ?_
   clear jm lG
   (repeat clear hs);(repeat clear aq);(repeat clear aC);(repeat clear dI)
   rintro m a' _ ⟨h,ad,c8,xs,g',rfl,hs,aq,dI,aC,hh,lG,jm,rfl,eI⟩
   revert a'
   apply cQ;apply aB;refine aX rfl ?_
   by_cases Ux:h<2
   ·refine aJ (b:=decide ((h:Int)<2)) (decide_eq_true (by omega)) rfl ?_
    apply aE;apply au;apply aB;apply aG;refine aX rfl ?_;apply aG
    refine bS (fun m a' w=> ∃(j:Nat) (ad:Option Addr) (c8:Nat) (xs:List bc) (g':G),w=g'.w∧St g g' [rF ad c8 xs,oF b3]∧G.le g g'∧fA g' (.agg #[.int .i64 f.ck,.int .i64 f.cu,.slice a1 n1 c1,.slice a2 n2 c2]) f∧EP g' b4 0 [.int .i64 f.ck,.int .i64 f.cu,.slice a1 n1 c1,.slice a2 n2 c2]∧j≤5∧xs.length=4+(10*k+5*h+j)∧xs=Cb tx++(List.range (10*k+5*h+j)).map vz∧m=5-j∧
      Fr 59 [] [(3,.pointer (some ⟨b3,0,none⟩)),(4,.pointer (some ⟨b4,0,none⟩)),(7,.slice ad xs.length c8),(9,.int .i64 (10*k+5*h+j:Nat)),(10,.int .i64 (k:Nat)),(11,.int .i64 (h:Nat)),(12,.int .i64 (j+1:Nat))] a') 5
     (fun a' ha=>⟨0,_,_,xs,_,rfl,hs,aq,dI,aC,by omega,lG,jm,rfl,ha.keep (by(repeat (first|exact trivial|refine⟨rfl,?_⟩)))⟩) ?_
    clear jm lG
    (repeat clear hs);(repeat clear aq);(repeat clear aC);(repeat clear dI)
    rintro m a' _ ⟨j,ad,c8,xs,g',rfl,hs,aq,dI,aC,hj,lG,jm,rfl,eI⟩
    revert a'
    apply cQ;apply aB;refine aX rfl ?_
    by_cases Uy:j<5
    ·refine aJ (b:=decide (((j+1:Nat):Int)≤5)) (decide_eq_true (by omega)) rfl ?_
     apply aE;apply au;apply aB;apply aG;refine aX rfl ?_;apply ar;refine Wp 5 rfl ?_
     refine cE (.int .i64 ((10*k+5*h+j+1:Nat):Int)) (t:=50) rfl (congrArg (Value.int .i64) (by rw[wr (by omega) (by omega)];omega)) ?_
     refine an rfl rfl (aQ T.ok rfl (vs:=[(0,.int .i64 6),(2,.int .i64 1),(1,.int .i64 (10*k+5*h+j+1:Nat)),(11,.int .i64 (k:Nat)),(12,.int .i64 (h:Nat)),(14,.int .i64 (j+1:Nat)),(15,.int .i64 1),(6,.int .i64 1000000)]) (cells:=bW (om k h j)) rfl rfl rfl rfl [(0,1),(1,1),(2,1),(3,1),(4,1),(5,1),(6,1),(7,1),(8,1),(9,1),(10,1),(11,1),(12,1),(13,1),(14,1),(15,1),(16,1),(17,1),(18,1)] rfl (by kernel_rfl) ?_)
     skip
     refine an rfl rfl (bj T.ok rfl hs (vs:=[(0,fv (om k h j))]) (cells:=bW (om k h j)) rfl rfl rfl rfl rfl rfl (by decide) (by decide) (by kernel_rfl) rfl ?_);rintro bl gl hs ah;obtain⟨aq,aC,dI⟩:=ef ah aq aC dI
     skip
     refine an rfl rfl (b_ T.ok 1 rfl hs rfl rfl rfl rfl rfl rfl rfl (by decide) rfl (Src.gK (hs.own 0 _ rfl).1).2 (by simp[bW,Value.oneCell']) (by show(xs.length+1)*160≤_;omega) (by show xs.length+1≤maxLen;unfold maxLen;omega) ?_);rintro a6 c6 g10 hs ah;obtain⟨aq,aC,dI⟩:=ef ah aq aC dI
     have qD:fl (xs++[om k h j])=fl xs++bW (om k h j):=by rw[lr];exact congrArg (fl xs++ ·) (List.append_nil _)
     have wT:(xs++[om k h j]).length=xs.length+1:=by simp
     replace hs:St g g10 [rF a6 c6 (xs++[om k h j]),oF b3]:=by unfold rF;rw[qD,wT];exact hs.drop 0
     refine Wp 1 rfl ?_;apply aD;apply bU;apply au;apply ar;refine Wp 3 rfl ?_;apply aD
     exact fun a ha=>⟨5-(j+1),by omega,j+1,a6,c6,xs++[om k h j],_,rfl,hs,aq,dI,aC,by omega,by rw[wT,lG];omega,by rw[←Nat.add_assoc,yp,jm,Ev Ux Uy,List.append_assoc],rfl,ha.keep ⟨rfl,rfl,kV rfl (by rw[wT]),kI rfl (by rw[wr (by omega) (by omega)];omega),rfl,rfl,kI rfl (by rw[wr (by omega) (by omega)];omega),trivial⟩⟩
    ·refine aS (b:=decide (((j+1:Nat):Int)≤5)) (decide_eq_false (by omega)) rfl ?_
     obtain rfl:j=5:=by omega
     apply bE;apply bK;apply bK;apply dc;apply bU;apply au;apply ar;refine Wp 3 rfl ?_;apply aD
     exact fun a ha=>⟨2-(h+1),by omega,h+1,ad,c8,xs,_,rfl,hs,aq,dI,aC,by omega,by rw[lG];omega,by rw[jm];rfl,rfl,ha.keep ⟨rfl,rfl,rfl,rfl,rfl,kI rfl (by rw[wr (by omega) (by omega)];omega),trivial⟩⟩
   ·refine aS (b:=decide ((h:Int)<2)) (decide_eq_false (by omega)) rfl ?_
    obtain rfl:h=2:=by omega
    apply bE;apply bK;apply bK;apply dc;apply bU;apply au;apply ar;refine Wp 3 rfl ?_;apply aD
    exact fun a ha=>⟨12-(k+1),by omega,k+1,ad,c8,xs,_,rfl,hs,aq,dI,aC,by omega,by rw[lG];omega,by rw[jm];rfl,rfl,ha.keep ⟨rfl,rfl,rfl,rfl,kI rfl (by rw[wr (by omega) (by omega)];omega),trivial⟩⟩
  ·refine aS (b:=decide ((k:Int)<12)) (decide_eq_false (by omega)) rfl ?_
   obtain rfl:k=12:=by omega
   replace jm:xs=Eo tx:=jm
   apply bE;apply bK;apply bK;apply dc;apply au;apply aB
   apply bO hs (eJ (fe [])) 3 [(1,58),(2,2)] (by kernel_rfl) rfl
   ·exact Dz [[],[],[0,0]] [.z aC] hs (by kernel_rfl) rfl
   (repeat clear hs);intro g6 hs ah;replace dI:=dI.mono ah
   skip
   refine bg rfl (aA T.ok 1 rfl hs rfl rfl rfl rfl rfl rfl rfl rfl rfl ?_);replace hs:=hs;rintro g1 hs ah;replace dI:=dI.mono ah
   apply cf
   exact aF (NN T.ok 1 rfl hs rfl rfl rfl rfl (hs.ret ⟨_,_,rfl,by rw[←jm];exact hs.mR (i:=0) rfl (cO.fl _ _),dI⟩))
end Go.Proofs.YtebobfdheanknaaGreatDoor
namespace Go.Proofs.YtebobfdheanknaaGreatDoor
open Go Go.K
set_option maxRecDepth 10000
attribute [local irreducible] W WL cT bu bX bA bB bD cW cG
set_option maxHeartbeats 1000000
structure Y7 where
 z0:Int
 z1:Int
 z2:Int
 z3:Int
 z4:Int
 z5:Int
 z6:Int
def Y7.fit(z:Y7):Prop:=mH z.z0∧mH z.z1∧mH z.z2∧mH z.z3∧mH z.z4∧mH z.z5∧mH z.z6
end Go.Proofs.YtebobfdheanknaaGreatDoor
namespace Go.Proofs.YtebobfdheanknaaGreatDoor
open Go Go.K
set_option maxRecDepth 100000
set_option maxHeartbeats 1000000
def SP:List UInt8:=[109,111,118,101,32,49,46,46,50,10,115,116,101,112,32,48,32,114,101,99,105,112,101,32,49,32,116,111,111,108,115,32,50,32,116,105,109,101,32,51,46,46,51,32,110,101,120,116,32,49,10,115,116,101,112,32,49,32,114,101,99,105,112,101,32,51,32,116,111,111,108,115,32,50,32,116,105,109,101,32,51,46,46,51,32,110,101,120,116,32,45,32,98,97,99,107,32,48,32,108,105,109,105,116,32,49,10]
def Jt:bc:={gF with kind:=5,ver:=1,prod:=5,text:=SP}
def Kz:bc:={gF with kind:=4,ver:=1,waf:=4,lot:=7,prod:=5}
def CZ(n _tool _step rcp:Int):bc:={gF with kind:=6,idn:=n,ver:=1,til:=900,tool:=2,rcp:=rcp,rvn:=1}
def FR(n t til:Int):bc:={gF with kind:=1,idn:=n,ver:=1,time:=t,til:=til,waf:=4,tool:=2,rcp:=1,rvn:=1}
def KA:bc:={gF with kind:=7,idn:=1,ver:=1,til:=900,waf:=4,par:=1}
def rp(p h:List bc):fX:=⟨fun i=>if i=0 then p else if i=3 then [Kz]else if i=4 then [Jt]else if i=5 then [CZ 1 2 0 1,CZ 2 2 0 3]else if i=6 then h else []⟩
def pN(waf step tool rcp:Int):fD:=⟨waf,step,tool,0,rcp,1,50⟩
def wU:List bc:=[FR 11 10 15,FR 12 20 25]
theorem ng{g:G}{s0 s3 s4 s5 s6:Value}{p h:List bc}(h0:Rs g s0 p)(h3:Rs g s3 [Kz])(h4:Rs g s4 [Jt])(h5:Rs g s5 [CZ 1 2 0 1,CZ 2 2 0 3])(h6:Rs g s6 h):iI g (.agg #[s0,.slice none 0 0,.slice none 0 0,s3,s4,s5,s6,.slice none 0 0,.slice none 0 0,.slice none 0 0,.slice none 0 0]) (rp p h):=
 ⟨fun i=>match i with|0=>s0|3=>s3|4=>s4|5=>s5|6=>s6|_=> .slice none 0 0,rfl,fun i hi=>match i,hi with
  |0,_=>h0|1,_=>Rs.nil _|2,_=>Rs.nil _|3,_=>h3|4,_=>h4|5,_=>h5|6,_=>h6|7,_=>Rs.nil _|8,_=>Rs.nil _|9,_=>Rs.nil _|10,_=>Rs.nil _⟩
theorem Ez{p h:List bc}(hp:p.length≤2)(hh:h.length≤2):FO (rp p h):=by
 refine⟨fun i=>?_,fun f hf=>?_⟩
 ·unfold rp
  show(if i=0 then p else _).length≤_
  split
  ·omega
  ·split
   ·decide
   ·split
    ·decide
    ·split
     ·decide
     ·split
      ·omega
      ·decide
 ·obtain rfl:f=Jt:=List.mem_singleton.1 hf
  decide
theorem tE{v:Value}{b:fX}{a:fD}{g:G}{z:Int}(bI:iI g v b)(hb:FO b)(bM:iw g)(e:th b a=z):CallsIn Wd 0 Tryz.prog 23 #[v,Gl a] g.w (cR g fun _ r=>r= .int .i64 z):=by
 subst e;exact D_ v b a g bI hb bM
abbrev oA(b:Nat)(a:fD):cV:=.obj b (.cells (pE a).toArray 41 (0,0))
abbrev oB(b:Nat)(s0 s3 s4 s5 s6:Value):cV:=.obj b (.cells #[s0,.slice none 0 0,.slice none 0 0,s3,s4,s5,s6,.slice none 0 0,.slice none 0 0,.slice none 0 0,.slice none 0 0] 35 (0,0))
theorem Jn(g:G)(bM:iw g):CallsIn Wd 0 Tryz.prog 10 #[] g.w (cR g fun _ r=>r= .bool true):=by
 have hs:=St.start g
 have aq:=G.le.refl g
 refine enter Tryz.func10 rfl Tryz.ntmps10 rfl ?_
 (iterate 3 refine cP 1 rfl ?_)
 refine an rfl rfl (aQ T.ok rfl (vs:=[(0,.int .i64 5),(2,.int .i64 1),(10,.int .i64 5),(18,.string (bs SP))]) (cells:=bW (Jt)) rfl rfl rfl rfl [(0,1),(1,1),(2,1),(3,1),(4,1),(5,1),(6,1),(7,1),(8,1),(9,1),(10,1),(11,1),(12,1),(13,1),(14,1),(15,1),(16,1),(17,1),(18,1)] rfl (by kernel_rfl) ?_)
 skip
 refine an rfl rfl (bj T.ok rfl hs (vs:=[(0,fv (Jt))]) (cells:=fl [Jt]) rfl rfl rfl rfl rfl rfl (by decide) (by decide) (by kernel_rfl) rfl ?_);rintro bF gl hs ah;replace bM:=bM.mono ah
 obtain⟨gz,ik,cS,iT,dz⟩:=hs.cL (α:=bc) (xs:=[Jt]) (i:=0) rfl (cO.fl _ _);clear ah;have ah:=iT;rw[←ik];(repeat clear hs);have hs:St g gz []:=cS;clear cS;replace bM:=bM.mono ah
 skip
 refine an rfl rfl (aQ T.ok rfl (vs:=[(0,.int .i64 4),(2,.int .i64 1),(7,.int .i64 4),(9,.int .i64 7),(10,.int .i64 5)]) (cells:=bW (Kz)) rfl rfl rfl rfl [(0,1),(1,1),(2,1),(3,1),(4,1),(5,1),(6,1),(7,1),(8,1),(9,1),(10,1),(11,1),(12,1),(13,1),(14,1),(15,1),(16,1),(17,1),(18,1)] rfl (by kernel_rfl) ?_)
 skip
 refine an rfl rfl (bj T.ok rfl hs (vs:=[(0,fv (Kz))]) (cells:=fl [Kz]) rfl rfl rfl rfl rfl rfl (by decide) (by decide) (by kernel_rfl) rfl ?_);rintro bL gl hs ah;obtain⟨dz,bM⟩:=cC ah dz bM
 obtain⟨gz,ik,cS,iT,bN⟩:=hs.cL (α:=bc) (xs:=[Kz]) (i:=0) rfl (cO.fl _ _);clear ah;have ah:=iT;rw[←ik];(repeat clear hs);have hs:St g gz []:=cS;clear cS;obtain⟨dz,bM⟩:=cC ah dz bM
 skip
 refine an rfl rfl (aQ T.ok rfl (vs:=[(0,.int .i64 6),(2,.int .i64 1),(1,.int .i64 1),(11,.int .i64 2),(14,.int .i64 1),(15,.int .i64 1),(6,.int .i64 900)]) (cells:=bW (CZ 1 2 0 1)) rfl rfl rfl rfl [(0,1),(1,1),(2,1),(3,1),(4,1),(5,1),(6,1),(7,1),(8,1),(9,1),(10,1),(11,1),(12,1),(13,1),(14,1),(15,1),(16,1),(17,1),(18,1)] rfl (by kernel_rfl) ?_)
 skip
 refine an rfl rfl (aQ T.ok rfl (vs:=[(0,.int .i64 6),(2,.int .i64 1),(1,.int .i64 2),(11,.int .i64 2),(14,.int .i64 3),(15,.int .i64 1),(6,.int .i64 900)]) (cells:=bW (CZ 2 2 0 3)) rfl rfl rfl rfl [(0,1),(1,1),(2,1),(3,1),(4,1),(5,1),(6,1),(7,1),(8,1),(9,1),(10,1),(11,1),(12,1),(13,1),(14,1),(15,1),(16,1),(17,1),(18,1)] rfl (by kernel_rfl) ?_)
 skip
 refine an rfl rfl (bj T.ok rfl hs (vs:=[(0,fv (CZ 1 2 0 1)),(1,fv (CZ 2 2 0 3))]) (cells:=fl [CZ 1 2 0 1,CZ 2 2 0 3]) rfl rfl rfl rfl rfl rfl (by decide) (by decide) (by kernel_rfl) rfl ?_);rintro bQ gl hs ah;obtain⟨bN,dz,bM⟩:=ef ah bN dz bM
 obtain⟨gz,ik,cS,iT,dj⟩:=hs.cL (α:=bc) (xs:=[CZ 1 2 0 1,CZ 2 2 0 3]) (i:=0) rfl (cO.fl _ _);clear ah;have ah:=iT;rw[←ik];(repeat clear hs);have hs:St g gz []:=cS;clear cS;obtain⟨bN,dz,bM⟩:=ef ah bN dz bM
 skip
 refine an rfl rfl (aQ T.ok rfl (vs:=[(4,.slice (some ⟨bF,0,none⟩) 1 1),(3,.slice (some ⟨bL,0,none⟩) 1 1),(5,.slice (some ⟨bQ,0,none⟩) 2 2)]) (cells:=[.slice none 0 0,.slice none 0 0,.slice none 0 0,.slice (some ⟨bL,0,none⟩) 1 1,.slice (some ⟨bF,0,none⟩) 1 1,.slice (some ⟨bQ,0,none⟩) 2 2,.slice none 0 0,.slice none 0 0,.slice none 0 0,.slice none 0 0,.slice none 0 0]) rfl rfl rfl rfl [(0,1),(1,1),(2,1),(3,1),(4,1),(5,1),(6,1),(7,1),(8,1),(9,1),(10,1)] rfl (by kernel_rfl) ?_)
 refine an rfl rfl (aK T.ok rfl hs rfl rfl ?_);clear hs;rintro b2 g1 hs ah;obtain⟨bN,dz,dj,bM⟩:=dE ah bN dz dj bM
 refine bg rfl (aA T.ok 0 rfl hs rfl rfl rfl rfl rfl rfl rfl rfl rfl ?_);replace hs:=hs;rintro g1 hs ah;obtain⟨bN,dz,dj,bM⟩:=dE ah bN dz dj bM
 replace hs:St g g1 [oB b2 (.slice none 0 0) (.slice (some ⟨bL,0,none⟩) 1 1) (.slice (some ⟨bF,0,none⟩) 1 1) (.slice (some ⟨bQ,0,none⟩) 2 2) (.slice none 0 0)]:=hs
 apply c_
 refine an rfl rfl (aQ T.ok rfl (vs:=[(0,.int .i64 4),(2,.int .i64 2),(4,.int .i64 1),(5,.int .i64 1),(6,.int .i64 50)]) (cells:=pE (pN 4 0 2 1)) rfl rfl rfl rfl [(0,1),(1,1),(2,1),(3,1),(4,1),(5,1),(6,1)] rfl (by kernel_rfl) ?_)
 refine an rfl rfl (aK T.ok rfl hs rfl rfl ?_);clear hs;rintro b3 g1 hs ah;obtain⟨bN,dz,dj,bM⟩:=dE ah bN dz dj bM
 refine bg rfl (aA T.ok 0 rfl hs rfl rfl rfl rfl rfl rfl rfl rfl rfl ?_);replace hs:=hs;rintro g1 hs ah;obtain⟨bN,dz,dj,bM⟩:=dE ah bN dz dj bM
 replace hs:St g g1 [oA b3 (pN 4 0 2 1),oB b2 (.slice none 0 0) (.slice (some ⟨bL,0,none⟩) 1 1) (.slice (some ⟨bF,0,none⟩) 1 1) (.slice (some ⟨bQ,0,none⟩) 2 2) (.slice none 0 0)]:=hs
 refine dx 2 [.o 1,.o 0] hs rfl ?_
 refine an rfl rfl (ay UU aI rfl rfl rfl rfl rfl (tE (b:=rp [] []) (a:=pN 4 0 2 1) (ng (Rs.nil _) bN dz dj (Rs.nil _)) (Ez (by decide) (by decide)) bM (show th (rp [] []) (pN 4 0 2 1)=0 from by decide+kernel)) ?_);rintro g1 _ aN rfl;replace hs:=hs.call aN;have ah:=aN.le;obtain⟨bN,dz,dj,bM⟩:=dE ah bN dz dj bM
 clear aN
 refine Wp 1 rfl ?_;refine cP 1 rfl ?_
 skip
 refine bg rfl (aA T.ok 0 rfl hs rfl rfl rfl rfl rfl rfl rfl rfl rfl ?_);replace hs:=hs;rintro g1 hs ah;obtain⟨bN,dz,dj,bM⟩:=dE ah bN dz dj bM
 (repeat clear oh)
 replace hs:St g g1 [oA b3 (pN 4 0 2 3),oB b2 (.slice none 0 0) (.slice (some ⟨bL,0,none⟩) 1 1) (.slice (some ⟨bF,0,none⟩) 1 1) (.slice (some ⟨bQ,0,none⟩) 2 2) (.slice none 0 0)]:=hs
 refine dx 2 [.o 1,.o 0] hs rfl ?_
 refine an rfl rfl (ay UU aI rfl rfl rfl rfl rfl (tE (b:=rp [] []) (a:=pN 4 0 2 3) (ng (Rs.nil _) bN dz dj (Rs.nil _)) (Ez (by decide) (by decide)) bM (show th (rp [] []) (pN 4 0 2 3)=8 from by decide+kernel)) ?_);rintro g1 _ aN rfl;replace hs:=hs.call aN;have ah:=aN.le;obtain⟨bN,dz,dj,bM⟩:=dE ah bN dz dj bM
 clear aN
 refine Wp 1 rfl ?_;refine cP 1 rfl ?_
 skip
 refine bg rfl (aA T.ok 0 rfl hs rfl rfl rfl rfl rfl rfl rfl rfl rfl ?_);replace hs:=hs;rintro g1 hs ah;obtain⟨bN,dz,dj,bM⟩:=dE ah bN dz dj bM
 (repeat clear oh)
 replace hs:St g g1 [oA b3 (pN 4 0 2 1),oB b2 (.slice none 0 0) (.slice (some ⟨bL,0,none⟩) 1 1) (.slice (some ⟨bF,0,none⟩) 1 1) (.slice (some ⟨bQ,0,none⟩) 2 2) (.slice none 0 0)]:=hs
 refine cP 1 rfl ?_
 refine bg rfl (aA T.ok 0 rfl hs rfl rfl rfl rfl rfl rfl rfl rfl rfl ?_);replace hs:=hs;rintro g1 hs ah;obtain⟨bN,dz,dj,bM⟩:=dE ah bN dz dj bM
 (repeat clear oh)
 replace hs:St g g1 [oA b3 (pN 4 0 3 1),oB b2 (.slice none 0 0) (.slice (some ⟨bL,0,none⟩) 1 1) (.slice (some ⟨bF,0,none⟩) 1 1) (.slice (some ⟨bQ,0,none⟩) 2 2) (.slice none 0 0)]:=hs
 refine dx 2 [.o 1,.o 0] hs rfl ?_
 refine an rfl rfl (ay UU aI rfl rfl rfl rfl rfl (tE (b:=rp [] []) (a:=pN 4 0 3 1) (ng (Rs.nil _) bN dz dj (Rs.nil _)) (Ez (by decide) (by decide)) bM (show th (rp [] []) (pN 4 0 3 1)=20 from by decide+kernel)) ?_);rintro g1 _ aN rfl;replace hs:=hs.call aN;have ah:=aN.le;obtain⟨bN,dz,dj,bM⟩:=dE ah bN dz dj bM
 clear aN
 refine Wp 1 rfl ?_;refine cP 1 rfl ?_
 skip
 refine bg rfl (aA T.ok 0 rfl hs rfl rfl rfl rfl rfl rfl rfl rfl rfl ?_);replace hs:=hs;rintro g1 hs ah;obtain⟨bN,dz,dj,bM⟩:=dE ah bN dz dj bM
 (repeat clear oh)
 replace hs:St g g1 [oA b3 (pN 4 0 2 1),oB b2 (.slice none 0 0) (.slice (some ⟨bL,0,none⟩) 1 1) (.slice (some ⟨bF,0,none⟩) 1 1) (.slice (some ⟨bQ,0,none⟩) 2 2) (.slice none 0 0)]:=hs
 refine cP 1 rfl ?_
 refine bg rfl (aA T.ok 0 rfl hs rfl rfl rfl rfl rfl rfl rfl rfl rfl ?_);replace hs:=hs;rintro g1 hs ah;obtain⟨bN,dz,dj,bM⟩:=dE ah bN dz dj bM
 (repeat clear oh)
 replace hs:St g g1 [oA b3 (pN 4 1 2 1),oB b2 (.slice none 0 0) (.slice (some ⟨bL,0,none⟩) 1 1) (.slice (some ⟨bF,0,none⟩) 1 1) (.slice (some ⟨bQ,0,none⟩) 2 2) (.slice none 0 0)]:=hs
 refine dx 2 [.o 1,.o 0] hs rfl ?_
 refine an rfl rfl (ay UU aI rfl rfl rfl rfl rfl (tE (b:=rp [] []) (a:=pN 4 1 2 1) (ng (Rs.nil _) bN dz dj (Rs.nil _)) (Ez (by decide) (by decide)) bM (show th (rp [] []) (pN 4 1 2 1)=10 from by decide+kernel)) ?_);rintro g1 _ aN rfl;replace hs:=hs.call aN;have ah:=aN.le;obtain⟨bN,dz,dj,bM⟩:=dE ah bN dz dj bM
 clear aN
 refine Wp 1 rfl ?_;refine cP 1 rfl ?_
 skip
 refine bg rfl (aA T.ok 0 rfl hs rfl rfl rfl rfl rfl rfl rfl rfl rfl ?_);replace hs:=hs;rintro g1 hs ah;obtain⟨bN,dz,dj,bM⟩:=dE ah bN dz dj bM
 (repeat clear oh)
 replace hs:St g g1 [oA b3 (pN 4 7 2 1),oB b2 (.slice none 0 0) (.slice (some ⟨bL,0,none⟩) 1 1) (.slice (some ⟨bF,0,none⟩) 1 1) (.slice (some ⟨bQ,0,none⟩) 2 2) (.slice none 0 0)]:=hs
 refine dx 2 [.o 1,.o 0] hs rfl ?_
 refine an rfl rfl (ay UU aI rfl rfl rfl rfl rfl (tE (b:=rp [] []) (a:=pN 4 7 2 1) (ng (Rs.nil _) bN dz dj (Rs.nil _)) (Ez (by decide) (by decide)) bM (show th (rp [] []) (pN 4 7 2 1)=2 from by decide+kernel)) ?_);rintro g1 _ aN rfl;replace hs:=hs.call aN;have ah:=aN.le;obtain⟨bN,dz,dj,bM⟩:=dE ah bN dz dj bM
 clear aN
 refine Wp 1 rfl ?_;refine cP 1 rfl ?_
 skip
 refine bg rfl (aA T.ok 0 rfl hs rfl rfl rfl rfl rfl rfl rfl rfl rfl ?_);replace hs:=hs;rintro g1 hs ah;obtain⟨bN,dz,dj,bM⟩:=dE ah bN dz dj bM
 (repeat clear oh)
 replace hs:St g g1 [oA b3 (pN 4 0 2 1),oB b2 (.slice none 0 0) (.slice (some ⟨bL,0,none⟩) 1 1) (.slice (some ⟨bF,0,none⟩) 1 1) (.slice (some ⟨bQ,0,none⟩) 2 2) (.slice none 0 0)]:=hs
 refine cP 1 rfl ?_
 refine bg rfl (aA T.ok 0 rfl hs rfl rfl rfl rfl rfl rfl rfl rfl rfl ?_);replace hs:=hs;rintro g1 hs ah;obtain⟨bN,dz,dj,bM⟩:=dE ah bN dz dj bM
 (repeat clear oh)
 replace hs:St g g1 [oA b3 (pN 9 0 2 1),oB b2 (.slice none 0 0) (.slice (some ⟨bL,0,none⟩) 1 1) (.slice (some ⟨bF,0,none⟩) 1 1) (.slice (some ⟨bQ,0,none⟩) 2 2) (.slice none 0 0)]:=hs
 refine dx 2 [.o 1,.o 0] hs rfl ?_
 refine an rfl rfl (ay UU aI rfl rfl rfl rfl rfl (tE (b:=rp [] []) (a:=pN 9 0 2 1) (ng (Rs.nil _) bN dz dj (Rs.nil _)) (Ez (by decide) (by decide)) bM (show th (rp [] []) (pN 9 0 2 1)=1 from by decide+kernel)) ?_);rintro g1 _ aN rfl;replace hs:=hs.call aN;have ah:=aN.le;obtain⟨bN,dz,dj,bM⟩:=dE ah bN dz dj bM
 clear aN
 refine Wp 1 rfl ?_;refine cP 1 rfl ?_
 skip
 refine bg rfl (aA T.ok 0 rfl hs rfl rfl rfl rfl rfl rfl rfl rfl rfl ?_);replace hs:=hs;rintro g1 hs ah;obtain⟨bN,dz,dj,bM⟩:=dE ah bN dz dj bM
 (repeat clear oh)
 replace hs:St g g1 [oA b3 (pN 4 0 2 1),oB b2 (.slice none 0 0) (.slice (some ⟨bL,0,none⟩) 1 1) (.slice (some ⟨bF,0,none⟩) 1 1) (.slice (some ⟨bQ,0,none⟩) 2 2) (.slice none 0 0)]:=hs
 refine dx 1 [.o 1] hs rfl ?_
 refine an rfl rfl (aK T.ok rfl hs rfl rfl ?_);clear hs;rintro IL g1 hs ah;obtain⟨bN,dz,dj,bM⟩:=dE ah bN dz dj bM
 refine bg rfl (aA T.ok 0 rfl hs rfl rfl rfl rfl rfl rfl rfl rfl rfl ?_);replace hs:=hs;rintro g1 hs ah;obtain⟨bN,dz,dj,bM⟩:=dE ah bN dz dj bM
 apply c_
 refine an rfl rfl (aQ T.ok rfl (vs:=[(0,.int .i64 7),(2,.int .i64 1),(1,.int .i64 1),(7,.int .i64 4),(6,.int .i64 900),(17,.int .i64 1)]) (cells:=bW (KA)) rfl rfl rfl rfl [(0,1),(1,1),(2,1),(3,1),(4,1),(5,1),(6,1),(7,1),(8,1),(9,1),(10,1),(11,1),(12,1),(13,1),(14,1),(15,1),(16,1),(17,1),(18,1)] rfl (by kernel_rfl) ?_)
 skip
 refine an rfl rfl (bj T.ok rfl hs (vs:=[(0,fv (KA))]) (cells:=fl [KA]) rfl rfl rfl rfl rfl rfl (by decide) (by decide) (by kernel_rfl) rfl ?_);rintro bH gl hs ah;obtain⟨bN,dz,dj,bM⟩:=dE ah bN dz dj bM
 obtain⟨gz,ik,cS,iT,pk⟩:=hs.cL (α:=bc) (xs:=[KA]) (i:=0) rfl (cO.fl _ _);clear ah;have ah:=iT;rw[←ik];(repeat clear hs);have hs:St g gz [oB IL (.slice none 0 0) (.slice (some ⟨bL,0,none⟩) 1 1) (.slice (some ⟨bF,0,none⟩) 1 1) (.slice (some ⟨bQ,0,none⟩) 2 2) (.slice none 0 0),oA b3 (pN 4 0 2 1),oB b2 (.slice none 0 0) (.slice (some ⟨bL,0,none⟩) 1 1) (.slice (some ⟨bF,0,none⟩) 1 1) (.slice (some ⟨bQ,0,none⟩) 2 2) (.slice none 0 0)]:=cS;clear cS;obtain⟨bN,dz,dj,bM⟩:=dE ah bN dz dj bM
 refine Wp 1 rfl ?_
 refine bg rfl (aA T.ok 0 rfl hs rfl rfl rfl rfl rfl rfl rfl rfl rfl ?_);replace hs:=hs;rintro g1 hs ah;obtain⟨bN,dz,dj,pk,bM⟩:=kN ah bN dz dj pk bM
 (repeat clear oh)
 replace hs:St g g1 [oB IL (.slice none 0 0) (.slice (some ⟨bL,0,none⟩) 1 1) (.slice (some ⟨bF,0,none⟩) 1 1) (.slice (some ⟨bQ,0,none⟩) 2 2) (.slice (some ⟨bH,0,none⟩) 1 1),oA b3 (pN 4 0 2 1),oB b2 (.slice none 0 0) (.slice (some ⟨bL,0,none⟩) 1 1) (.slice (some ⟨bF,0,none⟩) 1 1) (.slice (some ⟨bQ,0,none⟩) 2 2) (.slice none 0 0)]:=hs
 refine dx 2 [.o 0,.o 1] hs rfl ?_
 refine an rfl rfl (ay UU aI rfl rfl rfl rfl rfl (tE (b:=rp [] [KA]) (a:=pN 4 0 2 1) (ng (Rs.nil _) bN dz dj pk) (Ez (by decide) (by decide)) bM (show th (rp [] [KA]) (pN 4 0 2 1)=32 from by decide+kernel)) ?_);rintro g1 _ aN rfl;replace hs:=hs.call aN;have ah:=aN.le;obtain⟨bN,dz,dj,bM⟩:=dE ah bN dz dj bM
 clear aN
 refine Wp 1 rfl ?_;apply c_
 skip
 refine an rfl rfl (aQ T.ok rfl (vs:=[(0,.int .i64 1),(2,.int .i64 1),(1,.int .i64 11),(7,.int .i64 4),(11,.int .i64 2),(14,.int .i64 1),(15,.int .i64 1),(5,.int .i64 10),(6,.int .i64 15)]) (cells:=bW (FR 11 10 15)) rfl rfl rfl rfl [(0,1),(1,1),(2,1),(3,1),(4,1),(5,1),(6,1),(7,1),(8,1),(9,1),(10,1),(11,1),(12,1),(13,1),(14,1),(15,1),(16,1),(17,1),(18,1)] rfl (by kernel_rfl) ?_)
 skip
 refine an rfl rfl (aQ T.ok rfl (vs:=[(0,.int .i64 1),(2,.int .i64 1),(1,.int .i64 12),(7,.int .i64 4),(11,.int .i64 2),(14,.int .i64 1),(15,.int .i64 1),(5,.int .i64 20),(6,.int .i64 25)]) (cells:=bW (FR 12 20 25)) rfl rfl rfl rfl [(0,1),(1,1),(2,1),(3,1),(4,1),(5,1),(6,1),(7,1),(8,1),(9,1),(10,1),(11,1),(12,1),(13,1),(14,1),(15,1),(16,1),(17,1),(18,1)] rfl (by kernel_rfl) ?_)
 skip
 refine an rfl rfl (bj T.ok rfl hs (vs:=[(0,fv (FR 11 10 15)),(1,fv (FR 12 20 25))]) (cells:=fl [FR 11 10 15,FR 12 20 25]) rfl rfl rfl rfl rfl rfl (by decide) (by decide) (by kernel_rfl) rfl ?_);rintro bP gl hs ah;obtain⟨bN,dz,dj,bM⟩:=dE ah bN dz dj bM
 obtain⟨gz,ik,cS,iT,aH⟩:=hs.cL (α:=bc) (xs:=[FR 11 10 15,FR 12 20 25]) (i:=0) rfl (cO.fl _ _);clear ah;have ah:=iT;rw[←ik];(repeat clear hs);have hs:St g gz [oB IL (.slice none 0 0) (.slice (some ⟨bL,0,none⟩) 1 1) (.slice (some ⟨bF,0,none⟩) 1 1) (.slice (some ⟨bQ,0,none⟩) 2 2) (.slice (some ⟨bH,0,none⟩) 1 1),oA b3 (pN 4 0 2 1),oB b2 (.slice none 0 0) (.slice (some ⟨bL,0,none⟩) 1 1) (.slice (some ⟨bF,0,none⟩) 1 1) (.slice (some ⟨bQ,0,none⟩) 2 2) (.slice none 0 0)]:=cS;clear cS;obtain⟨bN,dz,dj,bM⟩:=dE ah bN dz dj bM
 refine Wp 1 rfl ?_
 refine bg rfl (aA T.ok 2 rfl hs rfl rfl rfl rfl rfl rfl rfl rfl rfl ?_);replace hs:=hs;rintro g1 hs ah;obtain⟨aH,bN,dz,dj,bM⟩:=kN ah aH bN dz dj bM
 (repeat clear oh)
 replace hs:St g g1 [oB IL (.slice none 0 0) (.slice (some ⟨bL,0,none⟩) 1 1) (.slice (some ⟨bF,0,none⟩) 1 1) (.slice (some ⟨bQ,0,none⟩) 2 2) (.slice (some ⟨bH,0,none⟩) 1 1),oA b3 (pN 4 0 2 1),oB b2 (.slice (some ⟨bP,0,none⟩) 2 2) (.slice (some ⟨bL,0,none⟩) 1 1) (.slice (some ⟨bF,0,none⟩) 1 1) (.slice (some ⟨bQ,0,none⟩) 2 2) (.slice none 0 0)]:=hs
 refine dx 1 [.o 2] hs rfl ?_
 refine an rfl rfl (ay Pz aI rfl rfl rfl rfl rfl (Jh _ (rp wU []) 4 20 _ (ng aH bN dz dj (Rs.nil _)) (Ez (by decide) (by decide))) ?_);rintro g1 _ aN ⟨v1,v2,rfl,aT,bT⟩;replace hs:=hs.call aN;have ah:=aN.le;obtain⟨aH,bN,dz,dj,bM⟩:=kN ah aH bN dz dj bM
 clear aN
 rw[show(jb (rp wU []) 4 20).map (·.step)=[0,0]from by decide+kernel]at aT
 rw[show(jb (rp wU []) 4 20).map (·.idn)=[11,12]from by decide+kernel]at bT
 refine Wp 5 rfl ?_;refine dx 28 [.o 2] hs rfl ?_
 refine an rfl rfl (ay IN aI rfl rfl rfl rfl rfl (wI _ (rp wU []) 4 15 _ (ng aH bN dz dj (Rs.nil _)) (Ez (by decide) (by decide)) bM) ?_);rintro g1 _ aN eg;replace hs:=hs.call aN;have ah:=aN.le;obtain⟨aH,aT,bT,bN,dz,dj⟩:=iu ah aH aT bT bN dz dj;replace bM:=bM.mono ah
 clear aN
 rw[show mz (rp wU []) 4 15=[1]from by decide+kernel]at eg
 skip
 refine an rfl rfl (bj T.ok rfl hs (vs:=[(0,.int .i64 (1))]) (cells:=[.int .i64 (1)]) rfl rfl rfl rfl rfl rfl (by decide) (by decide) (by kernel_rfl) rfl ?_);rintro bl gl hs ah;obtain⟨aH,aT,bT,bN,dz,dj⟩:=iu ah aH aT bT bN dz dj;obtain⟨eg,bM⟩:=cC ah eg bM;obtain⟨gz,ik,cS,iT,fq⟩:=hs.cL (α:=Int) (xs:=[1]) (i:=0) rfl (cO.ints _ [1]);clear ah;have ah:=iT;rw[←ik];replace hs:=cS;clear cS;obtain⟨aH,aT,bT,bN,dz,dj⟩:=iu ah aH aT bT bN dz dj;obtain⟨eg,bM⟩:=cC ah eg bM
 refine an rfl rfl (ay Dc aI rfl rfl rfl rfl rfl (pO _ _ _ _ _ eg fq) ?_);rintro g1 _ aN rfl;replace hs:=hs.call aN;have ah:=aN.le;obtain⟨aH,aT,bT,bN,dz,dj⟩:=iu ah aH aT bT bN dz dj;obtain⟨eg,fq,bM⟩:=ef ah eg fq bM
 clear aN
 refine cE (.bool true) (t:=97) rfl (congrArg Value.bool (by decide)) ?_
 refine Wm 3 [.o 2] hs rfl ?_
 clear eg fq
 refine an rfl rfl (ay IN aI rfl rfl rfl rfl rfl (wI _ (rp wU []) 4 5 _ (ng aH bN dz dj (Rs.nil _)) (Ez (by decide) (by decide)) bM) ?_);rintro g1 _ aN eg;replace hs:=hs.call aN;have ah:=aN.le;obtain⟨aH,aT,bT,bN,dz,dj⟩:=iu ah aH aT bT bN dz dj;replace bM:=bM.mono ah
 clear aN
 rw[show mz (rp wU []) 4 5=[0]from by decide+kernel]at eg
 skip
 refine an rfl rfl (bj T.ok rfl hs (vs:=[(0,.int .i64 (0))]) (cells:=[.int .i64 (0)]) rfl rfl rfl rfl rfl rfl (by decide) (by decide) (by kernel_rfl) rfl ?_);rintro bl gl hs ah;obtain⟨aH,aT,bT,bN,dz,dj⟩:=iu ah aH aT bT bN dz dj;obtain⟨eg,bM⟩:=cC ah eg bM;obtain⟨gz,ik,cS,iT,fq⟩:=hs.cL (α:=Int) (xs:=[0]) (i:=0) rfl (cO.ints _ [0]);clear ah;have ah:=iT;rw[←ik];replace hs:=cS;clear cS;obtain⟨aH,aT,bT,bN,dz,dj⟩:=iu ah aH aT bT bN dz dj;obtain⟨eg,bM⟩:=cC ah eg bM
 refine an rfl rfl (ay Dc aI rfl rfl rfl rfl rfl (pO _ _ _ _ _ eg fq) ?_);rintro g1 _ aN rfl;replace hs:=hs.call aN;have ah:=aN.le;obtain⟨aH,aT,bT,bN,dz,dj⟩:=iu ah aH aT bT bN dz dj;obtain⟨eg,fq,bM⟩:=ef ah eg fq bM
 clear aN
 refine cE (.bool true) (t:=103) rfl (congrArg Value.bool (by decide)) ?_
 refine Wp 3 rfl ?_
 clear eg fq
 refine an rfl rfl (bj T.ok rfl hs (vs:=[(0,.int .i64 (0)),(1,.int .i64 (0))]) (cells:=[.int .i64 (0),.int .i64 (0)]) rfl rfl rfl rfl rfl rfl (by decide) (by decide) (by kernel_rfl) rfl ?_);rintro bl gl hs ah;obtain⟨aH,aT,bT,bN,dz,dj⟩:=iu ah aH aT bT bN dz dj;replace bM:=bM.mono ah;obtain⟨gz,ik,cS,iT,fq⟩:=hs.cL (α:=Int) (xs:=[0,0]) (i:=0) rfl (cO.ints _ [0,0]);clear ah;have ah:=iT;rw[←ik];replace hs:=cS;clear cS;obtain⟨aH,aT,bT,bN,dz,dj⟩:=iu ah aH aT bT bN dz dj;replace bM:=bM.mono ah
 refine an rfl rfl (ay Dc aI rfl rfl rfl rfl rfl (pO _ _ _ _ _ aT fq) ?_);rintro g1 _ aN rfl;replace hs:=hs.call aN;have ah:=aN.le;obtain⟨aH,bT,bN,dz,dj,fq⟩:=iu ah aH bT bN dz dj fq;replace bM:=bM.mono ah
 clear aN
 refine cE (.bool true) (t:=108) rfl (congrArg Value.bool (by decide)) ?_
 refine Wp 3 rfl ?_
 clear fq
 refine an rfl rfl (bj T.ok rfl hs (vs:=[(0,.int .i64 (11)),(1,.int .i64 (12))]) (cells:=[.int .i64 (11),.int .i64 (12)]) rfl rfl rfl rfl rfl rfl (by decide) (by decide) (by kernel_rfl) rfl ?_);rintro bl gl hs ah;obtain⟨aH,bT,bN,dz,dj,bM⟩:=iu ah aH bT bN dz dj bM;obtain⟨gz,ik,cS,iT,fq⟩:=hs.cL (α:=Int) (xs:=[11,12]) (i:=0) rfl (cO.ints _ [11,12]);clear ah;have ah:=iT;rw[←ik];replace hs:=cS;clear cS;obtain⟨aH,bT,bN,dz,dj,bM⟩:=iu ah aH bT bN dz dj bM
 refine an rfl rfl (ay Dc aI rfl rfl rfl rfl rfl (pO _ _ _ _ _ bT fq) ?_);rintro g1 _ aN rfl;replace hs:=hs.call aN;have ah:=aN.le;obtain⟨aH,bN,dz,dj,fq,bM⟩:=iu ah aH bN dz dj fq bM
 clear aN
 refine cE (.bool true) (t:=113) rfl (congrArg Value.bool (by decide)) ?_
 refine Wm 3 [.o 2] hs rfl ?_
 clear fq
 refine an rfl rfl (ay Px aI rfl rfl rfl rfl rfl (Gu _ (rp wU []) _ (ng aH bN dz dj (Rs.nil _)) (Ez (by decide) (by decide)) bM) ?_);rintro g1 _ aN eg;replace hs:=hs.call aN;have ah:=aN.le
 clear aN
 rw[show zW (rp wU [])=[12]from by decide+kernel]at eg
 skip
 refine an rfl rfl (bj T.ok rfl hs (vs:=[(0,.int .i64 (12))]) (cells:=[.int .i64 (12)]) rfl rfl rfl rfl rfl rfl (by decide) (by decide) (by kernel_rfl) rfl ?_);rintro bl gl hs ah;replace eg:=eg.mono ah;obtain⟨gz,ik,cS,iT,fq⟩:=hs.cL (α:=Int) (xs:=[12]) (i:=0) rfl (cO.ints _ [12]);clear ah;have ah:=iT;rw[←ik];replace hs:=cS;clear cS;replace eg:=eg.mono ah
 refine an rfl rfl (ay Dc aI rfl rfl rfl rfl rfl (pO _ _ _ _ _ eg fq) ?_);rintro g1 _ aN rfl;replace hs:=hs.call aN;have ah:=aN.le
 clear aN
 refine cE (.bool true) (t:=119) rfl (congrArg Value.bool (by decide)) ?_
 refine ba rfl ?_
 exact aF (aV rfl rfl (hs.ret rfl))
end Go.Proofs.YtebobfdheanknaaGreatDoor
namespace Go.Proofs.YtebobfdheanknaaGreatDoor
open Go Go.K
set_option maxRecDepth 10000
attribute [local irreducible] W WL cT bu bX bA bB bD cW cG
theorem z_{f:bc}(h:fp f≠[]):fm f=true:=by
 unfold fp at h
 cases hv:fm f with
 |true=>rfl
 |false=>rw[hv]at h;exact absurd rfl h
theorem yh{f:bc}(h:fm f=true):f.text.length≤8192:=by
 unfold fm at h
 split at h
 ·cases h
 ·split at h
  ·cases h
  ·rename_i hc
   simp only[Bool.or_eq_true,decide_eq_true_eq,not_or]at hc
   omega
theorem GB{l:List bc}{day:Int}{i:Nat}{f:bc}(h:f∈(ofM l day).ls i):fm f=true:=by
 have h1:f∈gH (jU day l) i:=(iM _).mem_iff.1 h
 obtain⟨k,hk,_⟩:=sG h1
 obtain⟨_,h2⟩:=AM day l
 obtain⟨e,fu⟩:=h2 _ hk
 exact z_ (by rw[←e];exact fu)
theorem NH{l:List bc}(day:Int)(hl:l.length≤1000000):FO (ofM l day):=by
 refine⟨fun i=>?_,fun f hf=>?_⟩
 ·show(dK (lj i) (gH (jU day l) i)).length≤_
  rw[fR]
  exact Nat.le_trans (sI _ _) (Nat.le_trans (xK day l) hl)
 ·have:=yh (GB (i:=4) hf);omega
theorem Jm(x:List Y6):O0 (mk x []):=by
 have hn:=vx x
 have hlen:(mk x []).steps.length=eM x:=yi x (eM x)
 have qQ: ∀s∈(mk x []).steps,∃i y,i<eM x∧s=oM y (eM x) i:=by
  intro s hs
  obtain⟨i,hi,rfl⟩:=List.mem_map.1 (show s∈(List.range (eM x)).map fun i=>oM (x.getD i yj) (eM x) i from hs)
  exact⟨i,_,List.mem_range.1 hi,rfl⟩
 have jK: ∀s∈(mk x []).steps,(∀m∈s.next,0≤m∧m<(eM x:Int))∧s.next.length≤100000:=by
  intro s hs
  obtain⟨i,y,hi,rfl⟩:=qQ s hs
  show(∀m∈gL y (eM x) i,_)∧(gL y (eM x) i).length≤_
  have h3:=(dq (c:=y.y3.tdiv 12) (n:=3) (by decide)).1
  unfold gL
  split
  ·rename_i h
   split
   ·rename_i h2
    refine⟨fun m hm=>?_,by simp⟩
    rcases List.mem_cons.1 hm with rfl|hm
    ·omega
    ·obtain rfl:=List.mem_singleton.1 hm
     omega
   ·refine⟨fun m hm=>?_,by simp⟩
    obtain rfl:=List.mem_singleton.1 hm
    omega
  ·exact⟨fun m hm=>absurd hm List.not_mem_nil,by simp⟩
 refine⟨fun e=>?_,fun s hs=>?_,fun s hs m hm=>?_,fun s hs=>?_,fun s hs=>(jK s hs).2⟩
 ·rw[e]at hlen;simp at hlen;omega
 ·obtain⟨i,y,hi,rfl⟩:=qQ s hs
  show fP y≠[]
  unfold fP;simp
 ·rw[hlen];exact(jK s hs).1 m hm
 ·obtain⟨i,y,hi,rfl⟩:=qQ s hs
  rw[hlen]
  show(if aO y.y4 4=0 then aO (y.y4.tdiv 4) (i+1)else -1)<_
  split
  ·have:=(dq (c:=y.y4.tdiv 4) (n:=(i:Int)+1) (by omega)).2;omega
  ·omega
theorem yk(f:bV)(waf idn time:Int): ∀(cs:List Int) (n:Nat) (out:List bc),(uU f waf idn time cs n out).length≤out.length+n
 |[],_,out=>Nat.le_add_right ..
 |_::_,0,out=>Nat.le_refl _
 |c::cs,n+1,out=>by
  rw[uU]
  split
  ·omega
  ·have:=yk f waf idn time cs n (out++[Em f waf idn time c out])
   simp only[List.length_append,List.length_cons,List.length_nil]at this
   omega
theorem En(t:List UInt8):(Eo t).length=124:=by simp[Eo,Cb]
def bn(c:Bool)(k:Int):Int:=bif c then k else 0
theorem Yh(c1 c2 c3 c4 c5 c6:Bool):B9 (B6 [c1,c2,c3,c4,c5,c6])=bn c1 1+bn c2 2+bn c3 4+bn c4 8+bn c5 16+bn c6 32:=by
 cases c1<;>cases c2<;>cases c3<;>cases c4<;>cases c5<;>cases c6<;>rfl
end Go.Proofs.YtebobfdheanknaaGreatDoor
namespace Go.Proofs.YtebobfdheanknaaGreatDoor
open Go Go.K
set_option maxRecDepth 10000
attribute [local irreducible] W WL cT bu bX bA bB bD cW cG
set_option maxHeartbeats 20000000
theorem Cc(c:Bool){k:Int}(h:0≤k):0≤bn c k∧bn c k≤k:=by cases c<;>simp[bn,h]
end Go.Proofs.YtebobfdheanknaaGreatDoor
namespace Go.Proofs.YtebobfdheanknaaGreatDoor
open Go Go.K Go.RowKit Go.ChangeShapes Go.WideShapes
set_option maxRecDepth 100000
theorem wY:ownKnob Tryz.prog.godebug=none:=by kernel_rfl
theorem laidOut:laidOutB Tryz.prog=true:=by kernel_rfl
theorem pQ:Tryz.prog.cellsOf 3=1:=by kernel_rfl
theorem EE:Tryz.prog.cellsOf 138=6:=by kernel_rfl
theorem nj:Tryz.prog.cellsOf 9=1:=by kernel_rfl
def tI:List (String×DataW Unit):=[("math/bits.deBruijn32tab",Rows.laid_math_bits_deBruijn32tab),("math/bits.deBruijn64tab",Rows.laid_math_bits_deBruijn64tab),("internal/strconv.uint64pow10",Rows.laid_internal_strconv_uint64pow10),("unicode/utf8.acceptRanges",Rows.laid_unicode_utf8_acceptRanges),("strconv.ErrRange",Rows.laid_strconv_ErrRange),("strconv.ErrSyntax",Rows.laid_strconv_ErrSyntax),("unicode/utf8.first",Rows.laid_unicode_utf8_first)]
theorem NZ:Tryz.prog.globalNamed "strconv.ErrRange" =some 5:=by kernel_rfl
theorem N0:Tryz.prog.globalNamed "strconv.ErrSyntax" =some 4:=by kernel_rfl
theorem Q4:(Tryz.prog.globals[3]?).map (·.type)=some 320:=by kernel_rfl
theorem Q5:(Tryz.prog.globals[5]?).map (·.type)=some 209:=by kernel_rfl
theorem Q6:(Tryz.prog.globals[4]?).map (·.type)=some 209:=by kernel_rfl
theorem N1:(Rows.laid_internal_strconv_uint64pow10:DataW Unit)=Lib.tabData .u64 Lib.pow10Tab:=by kernel_rfl
theorem EF(u:TypeId)(h:Tryz.prog.typeName? 3 u=some "*errors.errorString"):u=329:=
 typeName_ptr_named (nm:= "errors.errorString") (by kernel_rfl) (by kernel_rfl) (by decide) u h
theorem wZ{W:World}{b:Nat}{v:Value}(hc:W.cell? ⟨b,0,none⟩=some v):EP (r_ W) b 0 [v]:=by
 refine⟨(qW hc).2,fun j y hy=>?_⟩
 match j,hy with
 |0,hy=>simp at hy;subst hy;exact hc
 |j+1,hy=>simp at hy
theorem Cn{W:World}(mU:W.ShapedOpen Tryz.prog): ∃m,W.cell? ⟨0,0,none⟩=some (.int .i64 m):=Tryz.laysM220.s1_3 W mU
theorem N2{W:World}(h:laidMet Tryz.prog tI W)(mU:W.ShapedOpen Tryz.prog):iw (r_ W):=by
 have h2:=h.tail.tail
 rw[show(("internal/strconv.uint64pow10",Rows.laid_internal_strconv_uint64pow10):String×DataW Unit)=("internal/strconv.uint64pow10",Lib.tabData .u64 Lib.pow10Tab)from by rw[N1]]at h2
 have hT:=Lib.tabIs_of_head JH Q4 Tryz.underlying320 Tryz.underlying245 (by kernel_rfl) (by kernel_rfl) h2
 have h4:=h.tail.tail.tail.tail
 have h5:=h4.tail
 obtain⟨a,s,hv,_⟩:=laid_sentinel h4 NZ Q5 Tryz.underlying209 EF Tryz.underlying329 Tryz.underlying331 rfl rfl Tryz.underlying9 (by kernel_rfl) nj
 obtain⟨a2,s2,Sk,_⟩:=laid_sentinel h5 N0 Q6 Tryz.underlying209 EF Tryz.underlying329 Tryz.underlying331 rfl rfl Tryz.underlying9 (by kernel_rfl) nj
 have hc:=World.var?_cell NZ hv 0
 have HX:=World.var?_cell N0 Sk 0
 have hc:W.cell? ⟨5,0,none⟩=some (.iface 329 (.pointer (some a))):=by simpa using hc
 have HX:W.cell? ⟨4,0,none⟩=some (.iface 329 (.pointer (some a2))):=by simpa using HX
 obtain⟨m,hm⟩: ∃m,W.cell? ⟨0,0,none⟩=some (.int .i64 m):=Cn mU
 have hp:=hT.cell JH 0 (by decide)
 exact⟨⟨m,wZ hm⟩,⟨(qW hp).2,hT⟩,⟨_,wZ HX,.inr ⟨_,_,rfl⟩⟩,⟨_,wZ hc,.inr ⟨_,_,rfl⟩⟩⟩
theorem nP{H:Type}{enc:TypeId×Value→H}{W:World}{n:Nat}{c:Value}{y:DataW H×List MemPlace}(h:DataW.trod enc Tryz.prog W 0 (fun _=>true) true n 3 [c]=some y): ∃m:Int,c= .int .i64 m:=by
 obtain⟨m,e,_⟩:=DataW.trod_int Tryz.underlying3 h
 exact⟨m,(List.cons.inj e).1⟩
theorem EG:Bm Tryz.prog 138 (α:=Y6) Y6.fit:=by
 intro H enc W fuel cs x h
 obtain⟨hl,hi⟩:=tJ Tryz.underlying138 Tryz.underlying3 pQ EE h
 match cs,hl with
 |[c0,c1,c2,c3,c4,c5],_=>
  obtain⟨m0,e0,f0⟩:=hi 0 (by decide)
  obtain⟨m1,e1,f1⟩:=hi 1 (by decide)
  obtain⟨m2,e2,f2⟩:=hi 2 (by decide)
  obtain⟨m3,e3,f3⟩:=hi 3 (by decide)
  obtain⟨m4,e4,f4⟩:=hi 4 (by decide)
  obtain⟨m5,e5,f5⟩:=hi 5 (by decide)
  obtain rfl:=Option.some.inj e0
  obtain rfl:=Option.some.inj e1
  obtain rfl:=Option.some.inj e2
  obtain rfl:=Option.some.inj e3
  obtain rfl:=Option.some.inj e4
  obtain rfl:=Option.some.inj e5
  exact⟨⟨m0,m1,m2,m3,m4,m5⟩,rfl,⟨f0,f1,f2,f3,f4,f5⟩⟩
theorem EH{H:Type}{enc:TypeId×Value→H}{W:World}{v:Value}{d:DataW H}{p:List MemPlace}(lH:Value.okWide Tryz.prog W .any 0 22 v)(h:DataW.Trod enc Tryz.prog W 0 (fun _=>true) true 22 v d p):
  ∃x:List Y6,Rs (r_ W) v x∧ ∀y∈x,y.fit:=by
 obtain⟨a,n,c,rfl⟩:=okWide_slice Tryz.underlying22 lH
 obtain⟨fuel,hf⟩:=h
 exact tK (α:=Y6) Tryz.underlying22 EE EG hf
theorem open_ints{H:Type}{enc:TypeId×Value→H}{W:World}{v:Value}{d:DataW H}{p:List MemPlace}(lH:Value.okWide Tryz.prog W .any 0 23 v)(h:DataW.Trod enc Tryz.prog W 0 (fun _=>true) true 23 v d p):
  ∃x:List Int,Rs (r_ W) v x∧ ∀y∈x,mH y:=by
 obtain⟨a,n,c,rfl⟩:=okWide_slice Tryz.underlying23 lH
 obtain⟨fuel,hf⟩:=h
 exact tK (α:=Int) Tryz.underlying23 pQ (Co Tryz.underlying3) hf
theorem oP{H:Type}{enc:TypeId×Value→H}{a:Assume}{C:Checked}{os:Os}{f:FuncId}{fn:Func}{s:ChangeSpec}{conds:List PathCond}{apart fresh handsOn again:Bool}{X:World→Array Value→Prop}
  (hX: ∀(w w':World) (args:Array Value),w.heap=w'.heap→X w args→X w' args)
  (own:ownKnob C.prog.godebug=none) (started:os.Started) (JI:C.prog.inits.idxOf? f=none) (Gt:C.prog.funcs[f]? =some fn)
  (witness: ∃(w:World) (tape:Tape) (i:Input),w.os=os∧(w.forCall tape i).Shaped C.prog∧i.vars=[]∧Input.okWide C.prog (w.forCall tape i) .any w.heap.size f i∧
   ((s.pre enc C.prog fn conds apart (w.forCall tape i).memory i.args∧X (w.forCall tape i).memory i.args)∧sizedMet enc C.prog fn (OpenSpec.ofChange s) apart (w.forCall tape i).memory i.args)∧a.holds C.prog (lone (Frame.enter C.prog f i.args .normal) [] (w.forCall tape i)))
  (pR: ∀(W:World) (args:Array Value) (ds gs:List (DataW H)) (before:List MemPlace),
   (∀(j:Nat) t v,fn.params[j]? =some t→args[j]? =some v→ ∃base,Value.okWide C.prog W .any base t v)→
   DataW.Whole enc C.prog fn.params.toList s.vars apart W args.toList ds gs before→X W args→W.ShapedOpen C.prog→
   Calls C.prog f args W fun e W'=> ∃v,e= .returned v∧s.post enc C.prog fn apart fresh handsOn again W args v W'):
  ReturnsInHanded a C os f .any (fun w args=>(s.pre enc C.prog fn conds apart w args∧X w args)∧sizedMet enc C.prog fn (OpenSpec.ofChange s) apart w args) (s.post enc C.prog fn apart fresh handsOn again):=by
 refine returnsInHanded_of_calls own started JI witness ?_
 intro w tape i _ mU _ lH gD _
 obtain⟨_,_,_,UW,Q7,_,_,_,_,iG⟩:=lH
 obtain rfl:UW=fn:=Option.some.inj (Q7.symm.trans Gt)
 obtain⟨⟨⟨ds,gs,before,hw,_⟩,hx⟩,_⟩:=gD
 have O8:=DataW.Whole.of_heap (w':=w.forCall tape i) (by rfl) hw
 refine(pR (w.forCall tape i) i.args ds gs before (fun j t v h1 h2=>⟨_,iG j t v h1 h2⟩) O8 (hX _ _ _ (by rfl) hx) mU).mono fun e W' ⟨v,he,hp⟩=>?_
 subst he
 exact ChangeSpec.post_blind hp
theorem Ad{f:FuncId}{args:Array Value}{W:World}{s:ChangeSpec}{fn:Func}{H:Type}{enc:TypeId×Value→H}{ds:List (DataW H)}{before:List MemPlace}
  (hr:(fn.params.toList.all fun t=>Tryz.prog.readableRec t&&decide (t<Tryz.prog.types.size))=true) (hv:s.vars=[]) (hs:s.fn H ds={results:=[.lit (.bool true)],args:=ds}) (Q8:fn.resultTypes=#[4])
  (hW:DataW.Whole enc Tryz.prog fn.params.toList s.vars false W args.toList ds [] before)
  (h:CallsIn Wd 0 Tryz.prog f args (r_ W).w (cR (r_ W) fun _ r=>r= .bool true)):
  Calls Tryz.prog f args W fun e W'=> ∃v,e= .returned v∧s.post enc Tryz.prog fn false true false false W args v W':=by
 refine(callsIn_wide.1 h).mono ?_
 rintro _ _ ⟨g',v,rfl,hf,rfl,rfl⟩
 exact⟨_,rfl,EI laidOut hr hv hs Q8 Tryz.underlying4 hW hf.below⟩
theorem GY(os:Os)(args:Array Value):laidMetH Tryz.prog tI ((World.laidAll Tryz.prog os tI).forCall (fun _ _=>0) ⟨#[],args,[]⟩).memory:=by
 rw[MakeChecks.laidMetH_plain _ _ _ (by kernel_rfl)]
 exact laidMet_laidAll _ (by kernel_rfl) (by kernel_rfl)
end Go.Proofs.YtebobfdheanknaaGreatDoor
namespace Go.Proofs.YtebobfdheanknaaGreatDoor
open Go Go.K
set_option maxRecDepth 10000
attribute [local irreducible] W WL cT bu bX bA bB bD cW cG
theorem Ai{k:Int}(h:1≤k∧k≤11):(fO k).head? =some (UInt8.ofNat (2*k).toNat):=by
 have:k=1∨k=2∨k=3∨k=4∨k=5∨k=6∨k=7∨k=8∨k=9∨k=10∨k=11:=by omega
 rcases this with e|e|e|e|e|e|e|e|e|e|e<;>subst e<;>decide+kernel
theorem uF{f:bc}(h:fp f≠[]):fp f=fO f.kind++sD f ((dM f.kind).elim [] (·.key)):=by
 unfold fp;rw[if_pos (z_ h)]
theorem yx{f:bc}(h:fm f=true):1≤f.kind∧f.kind≤11:=by
 obtain⟨s,hs,_⟩:=kQ h
 obtain⟨_,_,_,_,_,_,h1,h2⟩:=mO hs
 exact⟨h1,h2⟩
theorem yy{f h:bc}(hf:fp f≠[])(e:fp f=fp h):f.kind=h.kind:=by
 have hh:fp h≠[]:=fun e2=>hf (e.trans e2)
 have k1:=yx (z_ hf)
 have k2:=yx (z_ hh)
 have h1:=Ai k1
 have h2:=Ai k2
 have a1:(fp f).head? =some (UInt8.ofNat (2*f.kind).toNat):=by
  rw[uF hf,List.head?_append,h1];rfl
 have a2:(fp h).head? =some (UInt8.ofNat (2*h.kind).toNat):=by
  rw[uF hh,List.head?_append,h2];rfl
 rw[e,a2]at a1
 have:=congrArg UInt8.toNat (Option.some.inj a1)
 simp only[UInt8.toNat_ofNat']at this
 omega
theorem y'{day:Int}{l:List bc}: ∀{p},p∈jU day l→p.2∈l:=by
 refine xJ (P:=fun m l=> ∀{p},p∈m→p.2∈l) (fun h=>absurd h List.not_mem_nil) (fun m l f ih p hp=>?_) l
 rcases AL day m f with e|⟨_,e⟩<;>rw[e]at hp
 ·exact List.mem_append_left _ (ih hp)
 ·rcases xH hp with rfl|hp
  ·exact List.mem_append_right _ (List.mem_singleton_self _)
  ·exact List.mem_append_left _ (ih hp)
theorem AA{a:List UInt8}: ∀{m:KF},(∀p∈m,p.1≠a)→zt a m=none
 |[],_=>rfl
 |(k,v)::r,h=>by
  unfold zt
  rw[if_neg fun e=>h _ (List.mem_cons_self ..) e.symm]
  exact AA fun p hp=>h p (List.mem_cons_of_mem _ hp)
theorem AB{a:List UInt8}{x:bc}: ∀{m:KF},(∀p∈m,p.1≠a)→mE a x m=m++[(a,x)]
 |[],_=>rfl
 |(k,v)::r,h=>by
  unfold mE
  rw[if_neg fun e=>h _ (List.mem_cons_self ..) e.symm,AB fun p hp=>h p (List.mem_cons_of_mem _ hp)]
  rfl
theorem AH{day:Int}{l:List bc}{f:bc}(hk:fp f≠[])(hd:f.day≤day)(h: ∀x∈l,fp x≠fp f):jU day (l++[f])=jU day l++[(fp f,f)]:=by
 have hn: ∀p∈jU day l,p.1≠fp f:=fun p hp=>by
  rw[((AM day l).2 p hp).1];exact h _ (y' hp)
 rw[C_]
 unfold iD
 rw[if_neg fun h=>h.elim hk fun e=>by omega,AA hn,if_pos rfl,AB hn]
end Go.Proofs.YtebobfdheanknaaGreatDoor
namespace Go.Proofs.YtebobfdheanknaaGreatDoor
open Go Go.K
set_option maxRecDepth 10000
attribute [local irreducible] W WL cT bu bX bA bB bD cW cG
def RO(f:bV)(waf idn time:Int)(r:List bc):Prop:=∀i (hi:i<r.length),∃c,j3 f (r.take i)≠[]∧r[i]=Em f waf idn time c (r.take i)
theorem RO.snoc{f:bV}{waf idn time c:Int}{r:List bc}(h:RO f waf idn time r)(fu:j3 f r≠[]):RO f waf idn time (r++[Em f waf idn time c r]):=by
 intro i hi
 rw[List.length_append,List.length_singleton]at hi
 by_cases bh:i<r.length
 ·obtain⟨d,h1,h2⟩:=h i bh
  refine⟨d,?_,?_⟩
  ·rw[List.take_append_of_le_length (by omega)];exact h1
  ·rw[List.getElem_append_left bh,List.take_append_of_le_length (by omega)];exact h2
 ·obtain rfl:i=r.length:=by omega
  refine⟨c,?_,?_⟩
  ·rw[List.take_left];exact fu
  ·rw[List.getElem_append_right (Nat.le_refl _),List.take_left];simp
theorem AE(f:bV)(waf idn time:Int): ∀(cs:List Int) (n:Nat) (out:List bc),RO f waf idn time out→RO f waf idn time (uU f waf idn time cs n out)
 |[],_,_,h=>h
 |_::_,0,_,h=>h
 |c::cs,n+1,out,h=>by
  rw[uU]
  split
  ·exact h
  ·rename_i fu
   exact AE f waf idn time cs n _ (h.snoc fu)
theorem RO.at{f:bV}{waf idn time:Int}{r:List bc}(h:RO f waf idn time r){i:Nat}(hi:i<r.length):r[i].kind=1∧r[i].idn=idn+i∧r[i].waf=waf∧r[i].time=time+10*i:=by
 obtain⟨c,_,e⟩:=h i hi
 have hl:(r.take i).length=i:=by rw[List.length_take];omega
 rw[e]
 unfold Em yn
 rw[hl]
 exact⟨rfl,rfl,rfl,rfl⟩
def Uo(x:bc):Prop:=(x.kind=5∧x.prod=1)∨(x.kind=4∧x.prod=1∧1≤x.waf∧x.waf≤3)∨x.kind=6∨(x.kind=1∧500≤x.idn∧x.idn<508)
theorem UT(t:List UInt8): ∀x∈Eo t,Uo x:=by
 intro x hx
 unfold Eo Cb at hx
 rcases List.mem_append.1 hx with hx|hx
 ·rcases List.mem_cons.1 hx with rfl|hx
  ·exact .inl ⟨rfl,rfl⟩
  ·obtain⟨i,hi,rfl⟩:=List.mem_map.1 hx
   have:=List.mem_range.1 hi
   refine .inr (.inl ⟨rfl,rfl,?_,?_⟩)
   ·show(1:Int)≤((i+1:Nat):Int);omega
   ·show((i+1:Nat):Int)≤3;omega
 ·obtain⟨i,_,rfl⟩:=List.mem_map.1 hx
  exact .inr (.inr (.inl rfl))
theorem GX{b:fX}(a:fD)(h:b.holds=[]):oI b a=[]:=by
 have e:H8 b a=[]:=by unfold H8 s9;rw[h];rfl
 unfold oI;rw[e];simp[jJ]
end Go.Proofs.YtebobfdheanknaaGreatDoor
namespace Go.Proofs.YtebobfdheanknaaGreatDoor
open Go Go.K
set_option maxRecDepth 10000
attribute [local irreducible] W WL cT bu bX bA bB bD cW cG
def fC(idn ver:Int)(gone:Bool)(time til waf tool step rcp:Int):bc:=⟨1,idn,ver,0,gone,time,til,waf,0,0,0,tool,0,step,rcp,1,0,0,[]⟩
theorem FQ{x:jD}{r:List jD}{g:bc}(h: ¬(g.num x.at_<x.lo||x.hi<g.num x.at_)):lV (x::r) g=lV r (g.put x.at_ 0):=by rw[lV];exact if_neg h
theorem NL{idn ver:Int}{gone:Bool}{time til waf tool step rcp:Int}(h1:1≤idn∧idn≤1000000)(h2:1≤ver∧ver≤1000000)(h3:0≤time∧time≤til∧til≤1000000)(h4:1≤waf∧waf≤1000000)(h5:0≤tool∧tool≤59)(h6:0≤step∧step≤39)(h7:1≤rcp∧rcp≤1000000):
  fm (fC idn ver gone time til waf tool step rcp)=true:=by
 have e1:dM (fC idn ver gone time til waf tool step rcp).kind=some (n3 0):=rfl
 unfold fm
 rw[e1]
 have e2:o7 (n3 0).rest (fC idn ver gone time til waf tool step rcp)=true:=decide_eq_true h3.2.1
 have e3:lV (n3 0).fields (fC idn ver gone time til waf tool step rcp)=some (ow (fC idn ver gone time til waf tool step rcp)):=by
  have e:(n3 0).fields=lT++[eD 7]++eU++[⟨13,0,39⟩]++rM++gG++[⟨16,-10000000,10000000⟩]:=rfl
  rw[e]
  simp only[lT,eU,rM,gG,eD,ez,List.cons_append,List.nil_append]
  repeat rw[FQ (by simp[fC,bc.num,bc.put];try omega)]
  rfl
 simp only[e2,e3]
 simp[fC,n3,lU,ow,gF]
 exact⟨decide_eq_false (by omega),decide_eq_false (by omega)⟩
theorem AG{f:bc}(h:fm f=true):fp f=fO f.kind++sD f ((dM f.kind).elim [] (·.key)):=by unfold fp;rw[if_pos h]
theorem jz{f:bc}(h:fm f=true):fp f≠[]:=by
 have k:=yx h
 rw[AG h]
 intro e
 have h1:=Ai k
 rw[(List.append_eq_nil_iff.1 e).1]at h1
 cases h1
theorem rN{idn ver:Int}{gone:Bool}{time til waf tool step rcp:Int}(h:fm (fC idn ver gone time til waf tool step rcp)=true):fp (fC idn ver gone time til waf tool step rcp)=2::fO idn:=by
 rw[AG h]
 show fO 1++(fO idn++[])=_
 rw[show fO 1=[2]from by decide+kernel,List.append_nil];rfl
theorem NO{day:Int}{l:List bc}: ∀(r:List bc),(∀x∈r,fp x≠[]∧x.day≤day)→r.Pairwise (fun x y=>fp x≠fp y)→(∀x∈l,∀y∈r,fp x≠fp y)→jU day (l++r)=jU day l++r.map fun x=>(fp x,x):=by
 intro r
 suffices hh: ∀(n:Nat) (r:List bc),r.length=n→(∀x∈r,fp x≠[]∧x.day≤day)→r.Pairwise (fun x y=>fp x≠fp y)→(∀x∈l,∀y∈r,fp x≠fp y)→jU day (l++r)=jU day l++r.map fun x=>(fp x,x)from hh _ r rfl
 intro n
 induction n with
 |zero=>intro r hr _ _ _;obtain rfl:=List.eq_nil_of_length_eq_zero hr;simp
 |succ n ih=>
  intro r hr h1 h2 h3
  rcases List.eq_nil_or_concat r with rfl|⟨r,x,rfl⟩
  ·cases hr
  rw[List.concat_eq_append]at*
  rw[List.length_append,List.length_singleton]at hr
  rw[List.pairwise_append]at h2
  rw[←List.append_assoc,AH (h1 x (by simp)).1 (h1 x (by simp)).2,ih r (by omega) (fun y hy=>h1 y (List.mem_append_left _ hy)) h2.1 (fun y hy z hz=>h3 y hy z (List.mem_append_left _ hz))]
  ·simp
  ·intro y hy
   rcases List.mem_append.1 hy with hy|hy
   ·exact h3 y hy x (by simp)
   ·exact h2.2.2 y hy x (by simp)
end Go.Proofs.YtebobfdheanknaaGreatDoor
namespace Go.Proofs.YtebobfdheanknaaGreatDoor
open Go Go.K
set_option maxRecDepth 10000
attribute [local irreducible] W WL cT bu bX bA bB bD cW cG
theorem od{lo hi:Int}: ∀{p:Int} {l:List Int},kU lo hi p l=true→ ∀n∈l,lo≤n∧n≤hi
 |_,[],_,n,hn=>absurd hn List.not_mem_nil
 |p,m::r,h,n,hn=>by
  simp only[kU,within,Bool.and_eq_true,decide_eq_true_eq]at h
  rcases List.mem_cons.1 hn with rfl|hn
  ·exact h.1.1
  ·exact od h.2 n hn
theorem KU{lo hi:Int}{l:List Int}(h:ascending l lo hi=true): ∀n∈l,lo≤n∧n≤hi:=by
 cases l with
 |nil=>exact fun n hn=>absurd hn List.not_mem_nil
 |cons m r=>
  simp only[ascending,within,Bool.and_eq_true,decide_eq_true_eq]at h
  intro n hn
  rcases List.mem_cons.1 hn with rfl|hn
  ·exact h.1
  ·exact od h.2 n hn
theorem GI{f:bV}(h:valid f=true){n:Int}{s:Step}(hs:dA f.steps n=some s):0≤n∧n≤39∧(1≤s.dD∧s.dD≤1000000)∧(∀t∈s.dB,0≤t∧t≤59):=by
 obtain⟨h0,_,h2⟩:=qS hs
 have bh:=(List.getElem?_eq_some_iff.1 h2).1
 simp only[valid,within,Bool.and_eq_true,decide_eq_true_eq]at h
 have hr:=List.all_eq_true.1 h.1.2 s (List.mem_of_getElem? h2)
 have P_:=h.1.1.1.2.2
 simp only[cg,within,Bool.and_eq_true,decide_eq_true_eq]at hr
 refine⟨h0,by omega,hr.1.1.1.1.1.2,KU hr.1.1.1.1.2⟩
theorem SJ{f:bV}{waf idn time:Int}{r:List bc}(hf:O0 f)(hv:valid f=true)(hc:RO f waf idn time r){i:Nat}(hi:i<r.length)(ht:0≤time∧time≤1000)(Vb:i≤1000):
  ∃tool step rcp,r[i]=fC (idn+i) 1 false (time+10*i) (time+10*i+5) waf tool step rcp∧(0≤tool∧tool≤59)∧(0≤step∧step≤39)∧(1≤rcp∧rcp≤1000000):=by
 obtain⟨c,fu,e⟩:=hc i hi
 have hl:(r.take i).length=i:=by rw[List.length_take];omega
 obtain⟨s,tool,_,dm,Wt,hp⟩:=Eu hf c _ fu
 obtain⟨h1,h2,h3,h4⟩:=GI hv dm
 refine⟨tool,_,s.dD,?_,h4 _ (List.mem_of_getElem? Wt),⟨h1,h2⟩,h3⟩
 rw[e,hp,hl]
 show(⟨1,_,1,0,false,_,IntKind.i64.wrap _,_,0,0,0,_,0,_,_,1,0,0,[]⟩:bc)=_
 rw[wr (by omega) (by omega)]
 rfl
theorem O1{f:bV}{waf idn time:Int}{r:List bc}(hf:O0 f)(hv:valid f=true)(hc:RO f waf idn time r)(hw:1≤waf∧waf≤1000000)(hn:1≤idn∧idn≤100000)(ht:0≤time∧time≤1000){i:Nat}(hi:i<r.length)(Vb:i≤1000):
  fm r[i]=true∧r[i].kind=1∧r[i].day=0∧r[i].gone=false∧r[i].idn=idn+i∧r[i].waf=waf∧r[i].time=time+10*i∧fp r[i]=2::fO (idn+i):=by
 obtain⟨tool,step,rcp,e,h1,h2,h3⟩:=SJ hf hv hc hi ht Vb
 have RP:fm r[i]=true:=by rw[e];exact NL (by omega) (by omega) (by omega) hw h1 h2 h3
 refine⟨RP,?_⟩
 rw[e]at RP⊢
 exact⟨rfl,rfl,rfl,rfl,rfl,rfl,rN RP⟩
structure XC(F S:List bc):Prop where
 f: ∀i (hi:i<F.length),i<6∧fm F[i]=true∧F[i].kind=1∧F[i].day=0∧F[i].gone=false∧F[i].idn=500+i∧F[i].waf=1∧F[i].time=10+10*i∧fp F[i]=2::fO (500+i)
 s: ∀i (hi:i<S.length),i<6∧fm S[i]=true∧S[i].kind=1∧S[i].day=0∧S[i].gone=false∧S[i].idn=600+i∧S[i].waf=2∧S[i].time=12+10*i∧fp S[i]=2::fO (600+i)
def Xz(k:Nat):Int:=if k<6 then 500+k else 594+k
theorem XC.key{F S:List bc}(h:XC F S){x:bc}(hx:x∈F++S): ∃k,k<12∧fp x=2::fO (Xz k)∧fm x=true∧x.kind=1∧x.day=0∧x.gone=false∧((x.waf=1∧x.idn<600)∨(x.waf=2∧600≤x.idn))∧0≤x.time∧x.time≤100:=by
 rcases List.mem_append.1 hx with hx|hx
 ·obtain⟨i,hi,rfl⟩:=List.mem_iff_getElem.1 hx
  obtain⟨h1,h2,h3,h4,h5,h6,h7,h8,h9⟩:=h.f i hi
  exact⟨i,by omega,by rw[h9,Xz,if_pos h1],h2,h3,h4,h5,.inl ⟨h7,by omega⟩,by omega,by omega⟩
 ·obtain⟨i,hi,rfl⟩:=List.mem_iff_getElem.1 hx
  obtain⟨h1,h2,h3,h4,h5,h6,h7,h8,h9⟩:=h.s i hi
  refine⟨i+6,by omega,?_,h2,h3,h4,h5,.inr ⟨h7,by omega⟩,by omega,by omega⟩
  rw[h9,Xz,if_neg (by omega)]
  congr 2;omega
theorem tB(t:List UInt8): ∀x∈Eo t,x.kind≠1∧x.kind≠3:=by
 intro x UH
 have:=UT t x UH
 have rS:x.kind≠1:=by
  unfold Eo Cb at UH
  rcases List.mem_append.1 UH with h|h
  ·rcases List.mem_cons.1 h with rfl|h
   ·show(5:Int)≠1;decide
   ·obtain⟨i,_,rfl⟩:=List.mem_map.1 h
    show(4:Int)≠1;decide
  ·obtain⟨i,_,rfl⟩:=List.mem_map.1 h
   show(6:Int)≠1;decide
 refine⟨rS,?_⟩
 rcases this with h|h|h|h<;>omega
end Go.Proofs.YtebobfdheanknaaGreatDoor
namespace Go.Proofs.YtebobfdheanknaaGreatDoor
open Go Go.K
def ln:Nat→List Step→List (List UInt8)
 |_,[]=>[]
 |k,s::r=>jh k s::ln (k+1) r
def gT(f:bV):List (List UInt8):=kH f.ck f.cu::(ln 0 f.steps++f.windows.map gi)
def r3(ls:List (List UInt8)):List UInt8:=(ls.map fun l=>l++[10]).flatten
theorem sn(l:List UInt8)(ls:List (List UInt8)):r3 (l::ls)=l++10::r3 ls:=by simp[r3]
theorem Xn(ls ms:List (List UInt8)):r3 (ls++ms)=r3 ls++r3 ms:=by simp[r3]
theorem Cm: ∀(l:List Step) (k:Nat),r3 (ln k l)=gj k l
 |[],_=>rfl
 |s::l,k=>by rw[ln,sn,Cm l (k+1)];rfl
theorem GJ: ∀l:List cj,r3 (l.map gi)=jY l
 |[]=>rfl
 |w::l=>by rw[List.map_cons,sn,GJ l];rfl
theorem UA(f:bV):tD f=r3 (gT f):=by
 unfold tD gT
 rw[sn,Xn,Cm,GJ]
theorem Jo: ∀ls:List (List UInt8),(∀l∈ls,(10:UInt8)∉l)→cz 10 (r3 ls)=ls++[[]]
 |[],_=>rfl
 |l::ls,h=>by
  rw[sn,Ek 10 l _ (h l (List.mem_cons_self ..)),Jo ls fun x hx=>h x (List.mem_cons_of_mem _ hx)]
  rfl
def acc(first:Bool)(f:bV):List (List UInt8)→Option bV
 |[]=>some f
 |l::r=>(uz first f l).bind fun f'=>acc false f' r
theorem go_acc: ∀(ls:List (List UInt8)) (first:Bool) (f:bV) (i:Nat),
  (∃f',gm first f i ls= .inl f'∧acc first f (ls.filter fun l=> !BL l)=some f')∨
  (∃j,gm first f i ls= .inr j∧acc first f (ls.filter fun l=> !BL l)=none)
 |[],first,f,i=> .inl ⟨f,rfl,rfl⟩
 |l::r,first,f,i=>by
  rw[gm]
  by_cases hs:BL l=true
  ·rw[if_pos hs,List.filter_cons_of_neg (by simp[hs])]
   exact go_acc r first f (i+1)
  ·rw[if_neg hs,List.filter_cons_of_pos (by simp[hs]),acc]
   cases uz first f l with
   |none=>exact .inr ⟨_,rfl,rfl⟩
   |some f'=>exact go_acc r false f' (i+1)
theorem XD(p r:List UInt8):p.isPrefixOf (p++r)=true:=by
 rw[List.isPrefixOf_iff_prefix];exact List.prefix_append p r
theorem XW(i:Nat)(s:Step):nB.isPrefixOf (jh i s)=true:=by
 rw[zg,List.append_assoc];exact XD _ _
theorem Xo(w:cj):nB.isPrefixOf (gi w)=false:=by
 rw[ov];rfl
theorem Py: ∀(r:List (List UInt8)) (f f':bV),acc false f r=some f'→
  ∃ss ws,f'=⟨f.ck,f.cu,f.steps++ss,f.windows++ws⟩∧r=ln f.steps.length ss++ws.map gi∧(ss≠[]→f.windows=[])
 |[],f,f',h=>by
  obtain rfl:=Option.some.inj h
  exact⟨[],[],by simp,rfl,fun h=>absurd rfl h⟩
 |l::r,f,f',h=>by
  rw[acc]at h
  obtain⟨f1,h1,h2⟩:=Option.bind_eq_some_iff.1 h
  obtain⟨ss,ws,rfl,rfl,hw⟩:=Py r f1 f' h2
  have h1:nI f l=some f1:=h1
  unfold nI at h1
  split at h1
  ·obtain⟨s,hs,rfl⟩:=Option.map_eq_some_iff.1 h1
   unfold rJ at hs
   obtain⟨s',mK,aU⟩:=Option.bind_eq_some_iff.1 hs
   split at aU
   ·rename_i hc
    obtain rfl:=Option.some.inj aU
    have hl:=(O2.1 mK).1
    simp only[Bool.and_eq_true,decide_eq_true_eq]at hc
    have YO:f.windows=[]:=List.eq_nil_of_length_eq_zero (by omega)
    refine⟨s'::ss,ws,by simp,?_,fun _=>YO⟩
    rw[hl,ln,List.length_append,List.length_singleton];rfl
   ·cases aU
  ·obtain⟨w,hs,rfl⟩:=Option.map_eq_some_iff.1 h1
   unfold jk at hs
   obtain⟨w',mK,aU⟩:=Option.bind_eq_some_iff.1 hs
   split at aU
   ·obtain rfl:=Option.some.inj aU
    have hl:=(GD.1 mK).1
    have YP:ss=[]:=by
     cases ss with
     |nil=>rfl
     |cons a b=>exact absurd (hw (by simp)) (by simp)
    subst YP
    refine⟨[],w'::ws,by simp,?_,fun h=>absurd rfl h⟩
    rw[hl];rfl
   ·cases aU
theorem Xd(f:bV)(l:List UInt8):uz false f l=nI f l:=rfl
theorem Jp{lo hi hi':Int}(h:hi≤hi'): ∀{l:List Int} {p:Int},kU lo hi p l=true→kU lo hi' p l=true
 |[],_,_=>rfl
 |n::r,p,h1=>by
  simp only[kU,within,Bool.and_eq_true,decide_eq_true_eq]at h1⊢
  exact⟨⟨⟨h1.1.1.1,by omega⟩,h1.1.2⟩,Jp h h1.2⟩
theorem Js{s:Step}{n m:Int}(h:n≤m)(h1:cg s n=true):cg s m=true:=by
 unfold cg at h1⊢
 simp only[Bool.and_eq_true,Bool.or_eq_true,decide_eq_true_eq,within,beq_iff_eq]at h1⊢
 obtain⟨⟨⟨⟨⟨⟨⟨a,b⟩,c⟩,d⟩,e⟩,f⟩,g⟩,k⟩:=h1
 refine⟨⟨⟨⟨⟨⟨⟨?_,b⟩,c⟩,d⟩,?_⟩,f⟩,g⟩,k⟩
 ·rcases a with a|a
  ·exact .inl a
  ·exact .inr (by omega)
 ·cases hn:s.next with
  |nil=>rfl
  |cons x r=>
   rw[hn]at e
   simp only[ascending,within,Bool.and_eq_true,decide_eq_true_eq]at e⊢
   exact⟨by omega,Jp (by omega) e.2⟩
theorem Ey{w:cj}{n m:Int}(h:n≤m)(h1:dS w n=true):dS w m=true:=by
 unfold dS at h1⊢
 simp only[Bool.and_eq_true,within,decide_eq_true_eq]at h1⊢
 obtain⟨⟨⟨a,b⟩,c⟩,d⟩:=h1
 exact⟨⟨⟨by omega,by omega⟩,c⟩,d⟩
theorem GK{n m:Int}(h:n≤m): ∀{l pre:List cj},ek n pre l=true→ek m pre l=true
 |[],_,_=>rfl
 |w::r,pre,h1=>by
  simp only[ek,Bool.and_eq_true]at h1⊢
  exact⟨⟨Ey h h1.1.1,h1.1.2⟩,GK h h1.2⟩
theorem SH(r:List (List UInt8)): ∀(ss:List Step) (f:bV),f.windows=[]→(∀s∈ss,cg s 40=true)→f.steps.length+ss.length≤40→
  acc false f (ln f.steps.length ss++r)=acc false ⟨f.ck,f.cu,f.steps++ss,[]⟩ r
 |[],f,hw,_,_=>by
  rw[ln,List.nil_append,List.append_nil,←hw]
 |s::ss,f,hw,hs,hl=>by
  have oh:=hs s (List.mem_cons_self ..)
  have hN:=(yV (n:=40) (by decide) oh).n
  rw[List.length_cons]at hl
  have e:uz false f (jh f.steps.length s)=some ⟨f.ck,f.cu,f.steps++[s],[]⟩:=by
   rw[Xd]
   unfold nI
   rw[if_pos (XW _ _)]
   unfold rJ
   rw[O2.2 ⟨rfl,hN⟩]
   show Option.map _ (if _ then _ else _)=_
   rw[if_pos (by rw[oh,hw];simp;omega),Option.map_some,hw]
  have:=SH r ss ⟨f.ck,f.cu,f.steps++[s],[]⟩ rfl (fun x hx=>hs x (List.mem_cons_of_mem _ hx)) (by simp;omega)
  rw[ln,List.cons_append,acc,e]
  show acc false _ _=_
  rw[List.length_append,List.length_singleton]at this
  rw[this,List.append_assoc];rfl
theorem Xe: ∀(ws:List cj) (f:bV),ek 40 f.windows ws=true→f.windows.length+ws.length≤20→f.steps≠[]→
  acc false f (ws.map gi)=some ⟨f.ck,f.cu,f.steps,f.windows++ws⟩
 |[],f,_,_,_=>by rw[List.append_nil];rfl
 |w::ws,f,hw,hl,hs=>by
  rw[ek,Bool.and_eq_true,Bool.and_eq_true]at hw
  rw[List.length_cons]at hl
  have hlen:0<f.steps.length:=List.length_pos_iff.2 hs
  have hN:=u7 (n:=40) (by decide) hw.1.1
  have e:uz false f (gi w)=some ⟨f.ck,f.cu,f.steps,f.windows++[w]⟩:=by
   rw[Xd]
   unfold nI
   rw[if_neg (by rw[Xo];decide)]
   unfold jk
   rw[GD.2 ⟨rfl,hN⟩]
   show Option.map _ (if _ then _ else _)=_
   rw[if_pos (by rw[hw.1.1,hw.1.2];simp;omega)];rfl
  rw[List.map_cons,acc,e]
  show acc false _ _=_
  rw[Xe ws ⟨f.ck,f.cu,f.steps,f.windows++[w]⟩ hw.2 (by simp;omega) hs,List.append_assoc];rfl
structure RN(f:bV):Prop where
 S_:eh f=true
 one:1≤f.steps.length
 steps:f.steps.length≤40
 J9:f.windows.length≤20
 all: ∀s∈f.steps,cg s f.steps.length=true
 ok:ek f.steps.length [] f.windows=true
theorem Yg{f:bV}:valid f=true↔RN f:=by
 unfold valid
 simp only[Bool.and_eq_true,within,decide_eq_true_eq,List.all_eq_true]
 constructor
 ·rintro⟨⟨⟨⟨a,b,c⟩,d⟩,e⟩,f⟩
  exact⟨a,by omega,by omega,by omega,e,f⟩
 ·rintro⟨a,b,c,d,e,f⟩
  exact⟨⟨⟨⟨a,by omega,by omega⟩,by omega⟩,e⟩,f⟩
theorem Xp{f:bV}(h:eh f=true):qm (kH f.ck f.cu)=some (f.ck,f.cu):=by
 unfold qm
 rw[Pw.2 ⟨rfl,qi h⟩]
 show(if _ then _ else _)=_
 exact if_pos h
theorem XX{f:bV}(hm:eh f=true)(hs: ∀s∈f.steps,cg s 40=true)(hl:f.steps.length≤40)(fu:f.steps≠[])(hw:ek 40 [] f.windows=true)(RW:f.windows.length≤20):acc true rL (gT f)=some f:=by
 unfold gT
 rw[acc]
 show((qm _).map _).bind _=_
 rw[Xp hm]
 show acc false ⟨f.ck,f.cu,[],[]⟩ _=_
 rw[show ln 0 f.steps=ln (⟨f.ck,f.cu,[],[]⟩:bV).steps.length f.steps from rfl]
 rw[SH _ f.steps ⟨f.ck,f.cu,[],[]⟩ rfl hs (by simpa using hl)]
 show acc false ⟨f.ck,f.cu,f.steps,[]⟩ _=_
 rw[Xe f.windows ⟨f.ck,f.cu,f.steps,[]⟩ hw (by simpa using RW) fu]
 rfl
theorem uG{f:bV}(h:valid f=true):acc true rL (gT f)=some f:=by
 have hB:=Yg.1 h
 have:=hB.steps
 exact XX hB.S_ (fun s hs=>Js (by omega) (hB.all s hs)) hB.steps (fun e=>by have:=hB.one;rw[e]at this;simp at this) (GK (by omega) hB.ok) hB.J9
theorem XE{f:bV}{ls:List (List UInt8)}(h:acc true rL ls=some f)(hv:valid f=true):ls=gT f:=by
 cases ls with
 |nil=>
  obtain rfl:=Option.some.inj h
  cases hv
 |cons l r=>
  rw[acc]at h
  obtain⟨f1,h1,h2⟩:=Option.bind_eq_some_iff.1 h
  have h1:(qm l).map (fun p=>(⟨p.1,p.2,[],[]⟩:bV))=some f1:=h1
  obtain⟨⟨m,n⟩,hm,rfl⟩:=Option.map_eq_some_iff.1 h1
  unfold qm at hm
  obtain⟨⟨m',n'⟩,Kr,Ss⟩:=Option.bind_eq_some_iff.1 hm
  split at Ss
  ·obtain⟨rfl,rfl⟩:=Prod.mk.inj (Option.some.inj Ss)
   obtain⟨ss,ws,rfl,rfl,_⟩:=Py r _ f h2
   rw[(Pw.1 Kr).1];rfl
  ·cases Ss
theorem AI{x:List UInt8}: ∀{ss:List Step} {k:Nat},x∈ln k ss→ ∃i s,x=jh i s
 |s::ss,k,h=>by
  rcases List.mem_cons.1 h with rfl|h
  ·exact⟨_,_,rfl⟩
  ·exact AI h
theorem Xq{f:bV}: ∀l∈gT f,(10:UInt8)∉l:=by
 intro l hl
 unfold gT at hl
 rcases List.mem_cons.1 hl with rfl|hl
 ·rw[rC]
  intro h
  rcases List.mem_append.1 h with h|h
  ·revert h;decide
  ·exact Ex (by decide) (by decide) _ _ h
 ·rcases List.mem_append.1 hl with hl|hl
  ·obtain⟨i,s,rfl⟩:=AI hl
   exact Uz (by decide) (WK (by decide) (by decide) (by decide) (by decide) (by decide) i s)
  ·obtain⟨w,_,rfl⟩:=List.mem_map.1 hl
   rw[ov]
   intro h
   simp only[List.mem_append]at h
   rcases h with((((h|h)|h)|h)|h)|h
   ·revert h;decide
   ·exact kB (by decide) _ h
   ·revert h;decide
   ·exact kB (by decide) _ h
   ·revert h;decide
   ·exact kB (by decide) _ h
theorem UP{f:bV}: ∀l∈gT f,BL l=false:=by
 intro l hl
 unfold gT at hl
 rcases List.mem_cons.1 hl with rfl|hl
 ·rw[rC];rfl
 ·rcases List.mem_append.1 hl with hl|hl
  ·obtain⟨i,s,rfl⟩:=AI hl
   rw[zg];rfl
  ·obtain⟨w,_,rfl⟩:=List.mem_map.1 hl
   rw[ov];rfl
theorem UQ(f:bV):(gT f++[[]]).filter (fun l=> !BL l)=gT f:=by
 rw[List.filter_append,List.filter_eq_self.2 fun l hl=>by rw[UP l hl];rfl]
 show _++[]=_
 rw[List.append_nil]
theorem XF{s:List UInt8}{f:bV}:lx s= .inl f↔valid f=true∧(cz 10 s).filter (fun l=> !BL l)=gT f:=by
 unfold lx
 rcases go_acc (cz 10 s) true rL 0 with⟨f',h1,h2⟩|⟨j,h1,h2⟩
 ·rw[h1]
  show(if valid f'=true then Sum.inl f' else Sum.inr (cz 10 s).length)=_↔_
  by_cases hv:valid f'=true
  ·rw[if_pos hv]
   constructor
   ·intro e;obtain rfl:=Sum.inl.inj e
    exact⟨hv,XE h2 hv⟩
   ·rintro⟨a,b⟩
    rw[b,uG a]at h2
    rw[Option.some.inj h2]
  ·rw[if_neg hv]
   refine⟨fun e=>(by cases e),?_⟩
   rintro⟨a,b⟩
   rw[b,uG a]at h2
   exact absurd (Option.some.inj h2▸a) hv
 ·rw[h1]
  refine⟨fun e=>(by cases e),?_⟩
  rintro⟨a,b⟩
  rw[b,uG a]at h2
  cases h2
theorem Wq{f:bV}(h:valid f=true):lx (tD f)= .inl f:=by
 refine XF.2 ⟨h,?_⟩
 rw[UA,Jo _ Xq,UQ]
set_option maxRecDepth 100000
theorem Ac{t:List UInt8}(h:t.length≤8192):fm (pM t)=true:=by
 unfold fm
 rw[show dM (pM t).kind=some (n3 4)from rfl]
 have e3:lV (n3 4).fields (pM t)=some {pM t with prod:=0}:=by
  rw[show(n3 4).fields=[eD 10]from rfl,FQ (by simp[pM,bc.num,eD])]
  rfl
 simp only[e3]
 simp[pM,gF,n3,lU,ow,o7]
 exact decide_eq_false (by omega)
theorem JG: ∀i:Nat,i<3→fm (uV i)=true∧fp (uV i)=8::UInt8.ofNat (2*(i+1))::[0]:=by decide+kernel
theorem AD: ∀n:Nat,n<120→fm (vz n)=true∧fp (vz n)=12::fO ((n:Int)+1):=by decide+kernel
theorem XL: ∀i:Nat,i<120→ ∀j:Nat,j<120→fO ((i:Int)+1)=fO ((j:Int)+1)→i=j:=by decide+kernel
theorem Xt{t:List UInt8}(h:t.length≤8192): ∀x∈Eo t,fm x=true∧x.day=0∧x.gone=false:=by
 intro x hx
 unfold Eo Cb at hx
 rcases List.mem_append.1 hx with hx|hx
 ·rcases List.mem_cons.1 hx with rfl|hx
  ·exact⟨Ac h,rfl,rfl⟩
  ·obtain⟨i,hi,rfl⟩:=List.mem_map.1 hx
   exact⟨(JG i (List.mem_range.1 hi)).1,rfl,rfl⟩
 ·obtain⟨i,hi,rfl⟩:=List.mem_map.1 hx
  exact⟨(AD i (List.mem_range.1 hi)).1,rfl,rfl⟩
theorem XM{t:List UInt8}(h:t.length≤8192):(Eo t).Pairwise fun x y=>fp x≠fp y:=by
 have hk: ∀{x y:bc},fm x=true→x.kind≠y.kind→fp x≠fp y:=fun hv fu e=>fu (yy (jz hv) e)
 unfold Eo Cb
 rw[List.pairwise_append]
 refine⟨?_,?_,?_⟩
 ·rw[List.pairwise_cons]
  refine⟨fun y hy=>?_,?_⟩
  ·obtain⟨i,hi,rfl⟩:=List.mem_map.1 hy
   exact hk (Ac h) (by show(5:Int)≠4;decide)
  ·have: ∀i:Nat,i<3→ ∀j:Nat,j<3→i<j→fp (uV i)≠fp (uV j):=by decide+kernel
   rw[List.pairwise_map]
   exact List.pairwise_lt_range.imp_of_mem fun {a b} ha hb Vm=>this a (List.mem_range.1 ha) b (List.mem_range.1 hb) Vm
 ·rw[List.pairwise_map]
  refine List.pairwise_lt_range.imp_of_mem fun {a b} ha hb Vm e=>?_
  rw[(AD a (List.mem_range.1 ha)).2,(AD b (List.mem_range.1 hb)).2]at e
  have:=XL a (List.mem_range.1 ha) b (List.mem_range.1 hb) (List.cons.inj e).2
  omega
 ·intro x hx y hy
  obtain⟨j,hj,rfl⟩:=List.mem_map.1 hy
  rcases List.mem_cons.1 hx with rfl|hx
  ·exact hk (Ac h) (by show(5:Int)≠6;decide)
  ·obtain⟨i,hi,rfl⟩:=List.mem_map.1 hx
   exact hk (JG i (List.mem_range.1 hi)).1 (by show(4:Int)≠6;decide)
structure Yr(R:List bc):Prop where
 ok: ∀x∈R,fm x=true∧x.kind=1∧x.day=0∧x.gone=false∧x.waf=1∧0≤x.time∧x.time≤1000000
 key:R.Pairwise fun x y=>fp x≠fp y
 time:R.Pairwise fun x y=>x.time<y.time
 idn:R.Pairwise fun x y=>x.idn≠y.idn
theorem X8{t:List UInt8}(h:t.length≤8192){R:List bc}(hR:Yr R)(i:Nat):(ofM (Eo t++R) 100000).ls i=dK (lj i) ((Eo t++R).filter fun x=>decide (x.kind=(i:Int)+1)):=by
 have dh: ∀x∈Eo t++R,fm x=true∧x.day=0∧x.gone=false:=fun x hx=>by
  rcases List.mem_append.1 hx with hx|hx
  ·exact Xt h x hx
  ·obtain⟨a,_,b,c,_⟩:=hR.ok x hx;exact⟨a,b,c⟩
 have hp:(Eo t++R).Pairwise fun x y=>fp x≠fp y:=by
  rw[List.pairwise_append]
  refine⟨XM h,hR.key,fun x hx y hy e=>?_⟩
  obtain⟨a,b,_⟩:=hR.ok y hy
  exact(tB t x hx).1 ((yy (by rw[e];exact jz a) e).trans b)
 have hb:=NO (day:=100000) (l:=[]) (Eo t++R) (fun x hx=>⟨jz (dh x hx).1,by have:=(dh x hx).2.1;omega⟩) hp (fun x hx=>absurd hx List.not_mem_nil)
 rw[List.nil_append]at hb
 show dK _ (gH (jU 100000 (Eo t++R)) i)=_
 rw[hb]
 congr 1
 show gH ([]++_) i=_
 rw[List.nil_append]
 unfold gH
 rw[List.filter_map,List.map_map]
 have:((fun p:List UInt8×bc=>p.2)∘fun x=>(fp x,x))=id:=rfl
 rw[this,List.map_id]
 refine List.filter_congr fun x hx=>?_
 simp[(dh x hx).2.2]
theorem Xg(t:List UInt8)(R:List bc)(k:Int):(Eo t++R).filter (fun x=>decide (x.kind=k))=([pM t].filter fun x=>decide (x.kind=k))++((List.range 3).map uV).filter (fun x=>decide (x.kind=k))++((List.range 120).map vz).filter (fun x=>decide (x.kind=k))++R.filter fun x=>decide (x.kind=k):=by
 unfold Eo Cb
 rw[List.filter_append,List.filter_append,←List.singleton_append,List.filter_append]
theorem SX{α:Type}{p:α→Bool}{l:List α}(h: ∀x∈l,p x=true):l.filter p=l:=List.filter_eq_self.2 h
theorem Yl{α:Type}{p:α→Bool}{l:List α}(h: ∀x∈l,p x=false):l.filter p=[]:=List.filter_eq_nil_iff.2 fun x hx=>by rw[h x hx];simp
theorem X9{t:List UInt8}(h:t.length≤8192){R:List bc}(hR:Yr R){b:fX}(hb:b=ofM (Eo t++R) 100000):
  b.procs.Perm R∧b.C7=[]∧b.jw=(List.range 3).map uV∧b.oc=[pM t]∧b.sE.Perm ((List.range 120).map vz)∧b.holds=[]∧b.jS=[]:=by
 subst hb
 have kl: ∀x∈(List.range 3).map uV,x.kind=4:=fun x hx=>by obtain⟨i,_,rfl⟩:=List.mem_map.1 hx;rfl
 have kq: ∀x∈(List.range 120).map vz,x.kind=6:=fun x hx=>by obtain⟨i,_,rfl⟩:=List.mem_map.1 hx;rfl
 have kr: ∀x∈R,x.kind=1:=fun x hx=>(hR.ok x hx).2.1
 have e: ∀(i:Nat),(ofM (Eo t++R) 100000).ls i=dK (lj i) (([pM t].filter fun x=>decide (x.kind=(i:Int)+1))++((List.range 3).map uV).filter (fun x=>decide (x.kind=(i:Int)+1))++((List.range 120).map vz).filter (fun x=>decide (x.kind=(i:Int)+1))++R.filter fun x=>decide (x.kind=(i:Int)+1)):=fun i=>by
  rw[X8 h hR,Xg]
 have no: ∀{i:Nat} {l:List bc} {k:Int},(∀x∈l,x.kind=k)→k≠(i:Int)+1→(l.filter fun x=>decide (x.kind=(i:Int)+1))=[]:=fun h fu=>Yl fun x hx=>decide_eq_false (by rw[h x hx];exact fu)
 have ya: ∀{i:Nat} {l:List bc},(∀x∈l,x.kind=(i:Int)+1)→(l.filter fun x=>decide (x.kind=(i:Int)+1))=l:=fun h=>SX fun x hx=>decide_eq_true (h x hx)
 have kf: ∀x∈[pM t],x.kind=5:=fun x hx=>by rw[List.mem_singleton.1 hx];rfl
 refine⟨?_,?_,?_,?_,?_,?_,?_⟩
 ·show((ofM (Eo t++R) 100000).ls 0).Perm R
  rw[e,no kf (by decide),no kl (by decide),no kq (by decide),ya kr]
  exact iM _
 ·show(ofM (Eo t++R) 100000).ls 2=[]
  rw[e,no kf (by decide),no kl (by decide),no kq (by decide),no kr (by decide)];rfl
 ·show(ofM (Eo t++R) 100000).ls 3=_
  rw[e,no kf (by decide),ya kl,no kq (by decide),no kr (by decide)]
  decide+kernel
 ·show(ofM (Eo t++R) 100000).ls 4=_
  rw[e,ya kf,no kl (by decide),no kq (by decide),no kr (by decide)];rfl
 ·show((ofM (Eo t++R) 100000).ls 5).Perm _
  rw[e,no kf (by decide),no kl (by decide),ya kq,no kr (by decide),List.append_nil]
  exact iM _
 ·show(ofM (Eo t++R) 100000).ls 6=[]
  rw[e,no kf (by decide),no kl (by decide),no kq (by decide),no kr (by decide)];rfl
 ·show(ofM (Eo t++R) 100000).ls 7=[]
  rw[e,no kf (by decide),no kl (by decide),no kq (by decide),no kr (by decide)];rfl
end Go.Proofs.YtebobfdheanknaaGreatDoor
namespace Go.Proofs.YtebobfdheanknaaGreatDoor
open Go Go.K
set_option maxRecDepth 100000
structure GL(b:fX)(f:bV)(R:List bc):Prop where
 procs:b.procs.Perm R
 C7:b.C7=[]
 jw:b.jw=(List.range 3).map uV
 oc:b.oc=[pM (tD f)]
 sE:b.sE.Perm ((List.range 120).map vz)
 holds:b.holds=[]
 val:valid f=true
 ok:Yr R
theorem Xr{f:bV}(hv:valid f=true){R:List bc}(hR:Yr R):GL (ofM (Eo (Cf f)++R) 100000) f R:=by
 have e:Cf f=tD f:=if_pos hv
 obtain⟨h1,h2,h3,h4,h5,h6,_⟩:=X9 (t:=Cf f) (by rw[e];exact Xi (Hi hv)) hR rfl
 exact⟨h1,h2,h3,by rw[h4,e],h5,h6,hv,hR⟩
variable {b:fX} {f:bV} {R:List bc}
theorem GL.Yz(h:GL b f R){m:Int}(hm:mB m=true)(t:Int):zV b m t=m:=by
 unfold zV wM
 rw[h.C7,if_pos hm];rfl
theorem GL.lot(h:GL b f R){t:Int}(ht:0≤t):pG b 1 t=some (uV 0):=by
 unfold pG
 rw[h.jw]
 have e:(List.range 3).map uV=[uV 0,uV 1,uV 2]:=rfl
 have h1:zY 1 t (uV 0)=true:=by
  show((mB 1&&(1:Int)==1)&&decide ((0:Int)≤t))=true
  rw[decide_eq_true ht];rfl
 have h2:zY 1 t (uV 1)=false:=rfl
 have h3:zY 1 t (uV 2)=false:=rfl
 rw[e]
 simp[n5,h1,h2,h3]
theorem GL.Nu(h:GL b f R){t:Int}(ht:0≤t):fB b 1 t=if(check f).1=0 then some f else none:=by
 unfold fB
 rw[h.lot ht,h.oc]
 have e:((some (uV 0)).getD gF).prod=1:=rfl
 rw[e,if_neg (by decide)]
 have e2:([pM (tD f)].find? fun x=>x.prod==1)=some (pM (tD f)):=rfl
 rw[e2]
 have e3:(pM (tD f)).text=tD f:=rfl
 simp only[e3,Wq h.val]
theorem GL.Ys(h:GL b f R):pF b 1=R:=by
 unfold pF
 rw[if_pos (show mB 1=true from rfl)]
 have h1: ∀x∈b.procs,(zV b x.waf x.time==1)=true:=fun x hx=>by
  have e:=(h.ok.ok x (h.procs.mem_iff.1 hx)).2.2.2.2.1
  rw[e,h.Yz rfl];rfl
 rw[SX h1]
 refine ox ((iM _).trans h.procs) (jG _) (h.ok.time.imp fun {x y} Kl=>?_) fun x hx y hy e=>?_
 ·rw[iC];show ¬(y.time<x.time∨(y.time=x.time∧y.idn<x.idn));omega
 ·have UH:=h.procs.mem_iff.1 ((iM _).mem_iff.1 hx)
  have YD:=h.procs.mem_iff.1 ((iM _).mem_iff.1 hy)
  obtain⟨i,hi,rfl⟩:=List.mem_iff_getElem.1 UH
  obtain⟨j,hj,rfl⟩:=List.mem_iff_getElem.1 YD
  have hp:=List.pairwise_iff_getElem.1 h.ok.time
  have et:R[i].time=R[j].time:=congrArg Prod.fst e
  rcases Nat.lt_trichotomy i j with zK|zK|zK
  ·have:=hp i j hi hj zK;omega
  ·subst zK;rfl
  ·have:=hp j i hj hi zK;omega
theorem GL.Yw(h:GL b f R){tool rcp time:Int}(h1:0≤tool∧tool≤11)(h2:1≤rcp∧rcp≤5)(h3:0≤time∧time≤1000000):b.sE.any (pD tool 0 rcp 1 time)=true:=by
 rw[List.any_eq_true]
 refine⟨vz (10*tool.toNat+(rcp.toNat-1)),h.sE.mem_iff.2 (List.mem_map_of_mem (List.mem_range.2 (by omega))),?_⟩
 have e:vz (10*tool.toNat+(rcp.toNat-1))=om tool.toNat 0 (rcp.toNat-1):=by
  unfold vz
  rw[show(10*tool.toNat+(rcp.toNat-1))/10=tool.toNat from by omega,show(10*tool.toNat+(rcp.toNat-1))/5 % 2=0 from by omega,show(10*tool.toNat+(rcp.toNat-1)) % 5=rcp.toNat-1 from by omega]
 rw[e]
 show((((tool.toNat:Int)==tool&&(((0:Nat):Int)==0&&(((rcp.toNat-1+1:Nat):Int)==rcp&&(1:Int)==1)))&&decide ((0:Int)≤time))&&decide (time≤1000000))=true
 simp;omega
theorem Ky{a:fD}{h:List bc}(hf:fB b a.waf a.time=some f)(hh:b.holds=[]):
  rn b a h=bn (!(wH (some f) h).contains a.step) 2+bn ((gR (some f) a.step).isSome&& !((gR (some f) a.step).getD jW).dB.contains a.tool) 4+bn ((gR (some f) a.step).isSome&&((gR (some f) a.step).getD jW).dD !=a.rcp) 8+bn (!b.sE.any (pD a.tool a.cham a.rcp a.rvn a.time)) 16:=by
 unfold rn B5
 rw[Yh,hf,GX a hh]
 simp[bn]
theorem NI{a:fD}{h:List bc}(hf:fB b a.waf a.time=none)(hh:b.holds=[]):rn b a h=1+bn (!b.sE.any (pD a.tool a.cham a.rcp a.rvn a.time)) 16:=by
 unfold rn B5
 rw[Yh,hf,GX a hh]
 simp[bn,gR]
theorem Wz{zs:List Int}{x:Int}(h:x∈Lib.compact zs):x∈zs:=by
 unfold Lib.compact Lib.compactUpTo at h
 obtain⟨j,hj,rfl⟩:=List.mem_map.1 h
 have bh:=List.mem_range.1 (List.mem_filter.1 hj).1
 show zs.toArray[j]! ∈zs
 rw[getElem!_pos zs.toArray j (by simpa using bh)]
 exact List.getElem_mem bh
theorem WC{zs:List Int}{x:Int}(h:x∈zs):x∈Lib.compact zs:=by
 have key: ∀j,j<zs.length→zs.toArray[j]! ∈Lib.compact zs:=by
  intro j
  induction j with
  |zero=>
   intro hj
   exact List.mem_map.2 ⟨0,List.mem_filter.2 ⟨List.mem_range.2 hj,by simp[Lib.keeps]⟩,rfl⟩
  |succ j ih=>
   intro hj
   by_cases he:zs.toArray[j+1]! =zs.toArray[j]!
   ·rw[he];exact ih (by omega)
   ·exact List.mem_map.2 ⟨j+1,List.mem_filter.2 ⟨List.mem_range.2 hj,Lib.keeps_pos he⟩,rfl⟩
 obtain⟨j,hj,rfl⟩:=List.mem_iff_getElem.1 h
 have:=key j hj
 rw[getElem!_pos zs.toArray j (by simpa using hj)]at this
 simpa using this
theorem NJ{x:Int}{xs:List Int}:x∈jJ xs↔x∈xs:=(List.mergeSort_perm xs _).mem_iff
theorem X_{hi:List bc}{x:bc}{m:Int}(h:m∈wH (some f) (hi++[x])): ∃s,dA f.steps x.step=some s∧(m∈s.next∨(m=s.back∧0≤s.back∧uQ (some f) (hi++[x]) x.step<s.dF)):=by
 unfold wH at h
 rw[if_neg (by simp),if_neg (by simp),show((hi++[x]).getLast?.getD gF)=x from by rw[List.getLast?_concat];rfl]at h
 cases hs:gR (some f) x.step with
 |none=>rw[hs]at h;exact absurd h List.not_mem_nil
 |some s=>
  rw[hs]at h
  refine⟨s,hs,?_⟩
  have h2:=Wz h
  split at h2
  ·rename_i hc
   rcases List.mem_append.1 (NJ.1 h2)with h3|h3
   ·exact .inl h3
   ·exact .inr ⟨List.mem_singleton.1 h3,hc⟩
  ·exact .inl h2
theorem Yt{x:List Y6}{n:Int}{s:Step}(h:dA (mk x []).steps n=some s):(∀t∈s.dB,0≤t∧t≤11)∧(1≤s.dD∧s.dD≤5)∧ ∀m∈s.next,n<m:=by
 obtain⟨h0,_,h2⟩:=qS h
 have hl:(mk x []).steps.length=eM x:=yi x (eM x)
 have bh:=(List.getElem?_eq_some_iff.1 h2).1
 have e:(mk x []).steps[n.toNat]? =some (oM (x.getD n.toNat yj) (eM x) n.toNat):=by
  show((List.range (eM x)).map fun i=>oM (x.getD i yj) (eM x) i)[n.toNat]? =_
  rw[List.getElem?_map,List.getElem?_range (by omega)];rfl
 rw[e]at h2
 obtain rfl:=Option.some.inj h2
 generalize x.getD n.toNat yj=y
 have p0:=dq (c:=y.y0) (n:=5) (by omega)
 have p3:=dq (c:=y.y2) (n:=6) (by omega)
 have p4:=dq (c:=y.y2.tdiv 12) (n:=3) (by omega)
 have p5:=dq (c:=y.y3.tdiv 12) (n:=3) (by omega)
 refine⟨fun t ht=>?_,⟨?_,?_⟩,fun m hm=>?_⟩
 ·have ht:t∈fP y:=ht
  unfold fP at ht
  rcases List.mem_cons.1 ht with rfl|ht
  ·omega
  ·split at ht
   ·obtain rfl:=List.mem_singleton.1 ht;omega
   ·exact absurd ht List.not_mem_nil
 ·show 1≤1+aO y.y0 5;omega
 ·show 1+aO y.y0 5≤5;omega
 ·have hm:m∈gL y (eM x) n.toNat:=hm
  unfold gL at hm
  split at hm
  ·rcases List.mem_cons.1 hm with rfl|hm
   ·omega
   ·split at hm
    ·obtain rfl:=List.mem_singleton.1 hm;omega
    ·exact absurd hm List.not_mem_nil
  ·exact absurd hm List.not_mem_nil
end Go.Proofs.YtebobfdheanknaaGreatDoor
namespace Go.Proofs.YtebobfdheanknaaGreatDoor
open Go Go.K
set_option maxRecDepth 100000
theorem XN{f:bV}{waf idn time:Int}{r:List bc}(hf:O0 f)(hc:RO f waf idn time r){i:Nat}(hi:i<r.length)(ht:0≤time∧time≤1000)(Vb:i≤1000):
  ∃s tool,dA f.steps r[i].step=some s∧s.dB[0]? =some tool∧r[i]=fC (idn+i) 1 false (time+10*i) (time+10*i+5) waf tool r[i].step s.dD:=by
 obtain⟨c,fu,e⟩:=hc i hi
 have hl:(r.take i).length=i:=by rw[List.length_take];omega
 obtain⟨s,tool,_,dm,Wt,hp⟩:=Eu hf c _ fu
 have e2:r[i]=fC (idn+i) 1 false (time+10*i) (time+10*i+5) waf tool (pL f c (r.take i)) s.dD:=by
  rw[e,hp,hl]
  show(⟨1,_,1,0,false,_,IntKind.i64.wrap _,_,0,0,0,_,0,_,_,1,0,0,[]⟩:bc)=_
  rw[wr (by omega) (by omega)]
  rfl
 have e3:r[i].step=pL f c (r.take i):=by rw[e2];rfl
 rw[e3]
 exact⟨s,tool,dm,Wt,e2⟩
theorem Ym: ∀i:Nat,i<8→ ∀j:Nat,j<8→i<j→fO (500+(i:Int))≠fO (500+(j:Int)):=by decide+kernel
theorem Yn: ∀i:Nat,i<8→fO (500+(i:Int))≠fO 900:=by decide+kernel
theorem XO{f:bV}{r:List bc}(hf:O0 f)(hv:valid f=true)(hc:RO f 1 500 10 r)(h8:r.length≤8):Yr r:=by
 have at_:=fun i (hi:i<r.length)=>O1 hf hv hc (by omega) (by omega) (by omega) hi (by omega)
 refine⟨fun x hx=>?_,?_,?_,?_⟩
 ·obtain⟨i,hi,rfl⟩:=List.mem_iff_getElem.1 hx
  obtain⟨h1,h2,h3,h4,_,h6,h7,_⟩:=at_ i hi
  exact⟨h1,h2,h3,h4,h6,by omega,by omega⟩
 ·rw[List.pairwise_iff_getElem]
  intro i j hi hj zK e
  rw[(at_ i hi).2.2.2.2.2.2.2,(at_ j hj).2.2.2.2.2.2.2]at e
  exact Ym i (by omega) j (by omega) zK (List.cons.inj e).2
 ·rw[List.pairwise_iff_getElem]
  intro i j hi hj zK
  rw[(at_ i hi).2.2.2.2.2.2.1,(at_ j hj).2.2.2.2.2.2.1];omega
 ·rw[List.pairwise_iff_getElem]
  intro i j hi hj zK
  rw[(at_ i hi).2.2.2.2.1,(at_ j hj).2.2.2.2.1];omega
def jE(x:bc):bc:={x with idn:=900,time:=IntKind.i64.wrap (x.time+10),til:=IntKind.i64.wrap (x.til+10)}
def Cd(x:bc):fD:=⟨1,x.step,x.tool,0,x.rcp,1,x.time⟩
theorem Xu{x:List Y6}{f:bV}(hx:f=mk x []){w:List bc}{y:bc}(hf:O0 f)(hc:RO f 1 500 10 (w++[y]))(h8:(w++[y]).length≤8):
  ∃s,dA f.steps y.step=some s∧(s.back≠y.step→(900:Int)∈zW (ofM (Eo (Cf f)++(w++[y])++[jE y]) 100000)∧
   th (ofM (Eo (Cf f)++(w++[y])) 100000) (Cd (jE y))=if(check f).1=0 then 2 else 1):=by
 have hv:valid f=true:=by rw[hx];exact E7 x []
 have hlen:(w++[y]).length=w.length+1:=by simp
 obtain⟨s,tool,hs,Wt,e⟩:=XN hf hc (i:=w.length) (by omega) (by omega) (by omega)
 have ey:(w++[y])[w.length]'(by omega)=y:=by simp
 rw[ey]at hs e
 have hP:=XO hf hv hc h8
 have hk:=fun {i:Nat} (hi:i<(w++[y]).length)=>O1 hf hv hc (by omega) (by omega) (by omega) hi (by omega)
 have hm:=by rw[hx]at hs;exact Yt hs
 obtain⟨Kr,Ss,YE⟩:=hm
 have Ni:=Kr tool (List.mem_of_getElem? Wt)
 refine⟨s,hs,fun hb=>?_⟩
 obtain⟨v1,v2,v3,_⟩:=GI hv hs
 have ea:jE y=fC 900 1 false (10+10*(w.length:Int)+10) (10+10*(w.length:Int)+5+10) 1 tool y.step s.dD:=by
  have h1:y.time=10+10*(w.length:Int):=by rw[e];rfl
  have h2:y.til=10+10*(w.length:Int)+5:=by rw[e];rfl
  unfold jE
  rw[h1,h2,wr (by omega) (by omega),wr (by omega) (by omega),e]
  rfl
 have Yx:fm (jE y)=true:=by rw[ea];exact NL (by omega) (by omega) (by omega) (by omega) (by omega) ⟨v1,v2⟩ v3
 have YF:fp (jE y)=2::fO 900:=by rw[ea]at Yx⊢;exact rN Yx
 have YQ:(jE y).time=20+10*(w.length:Int):=by rw[ea];show 10+10*(w.length:Int)+10=_;omega
 have hQ:Yr ((w++[y])++[jE y]):=by
  have all: ∀z∈w++[y],fp z≠fp (jE y)∧z.time<(jE y).time∧z.idn≠(jE y).idn:=fun z hz=>by
   obtain⟨i,hi,rfl⟩:=List.mem_iff_getElem.1 hz
   obtain⟨_,_,_,_,h5,_,h7,YG⟩:=hk hi
   refine⟨fun e2=>?_,by omega,?_⟩
   ·rw[YG,YF]at e2
    exact Yn i (by omega) (List.cons.inj e2).2
   ·rw[h5];show _≠(900:Int);omega
  refine⟨fun z hz=>?_,List.pairwise_append.2 ⟨hP.key,List.pairwise_singleton _ _,fun z hz u hu=>?_⟩,List.pairwise_append.2 ⟨hP.time,List.pairwise_singleton _ _,fun z hz u hu=>?_⟩,List.pairwise_append.2 ⟨hP.idn,List.pairwise_singleton _ _,fun z hz u hu=>?_⟩⟩
  ·rcases List.mem_append.1 hz with hz|hz
   ·exact hP.ok z hz
   ·obtain rfl:=List.mem_singleton.1 hz
    refine⟨Yx,?_⟩
    rw[ea]
    exact⟨rfl,rfl,rfl,rfl,by show 0≤10+10*(w.length:Int)+10;omega,by show 10+10*(w.length:Int)+10≤1000000;omega⟩
  ·obtain rfl:=List.mem_singleton.1 hu;exact(all z hz).1
  ·obtain rfl:=List.mem_singleton.1 hu;exact(all z hz).2.1
  ·obtain rfl:=List.mem_singleton.1 hu;exact(all z hz).2.2
 have no:(wH (some f) (w++[y])).contains y.step=false:=by
  rw[Bool.eq_false_iff]
  intro SS
  obtain⟨s2,aU,h⟩:=X_ (List.contains_iff_mem.1 SS)
  rw[hs]at aU
  obtain rfl:=Option.some.inj aU
  rcases h with h|⟨h,_⟩
  ·have:=YE _ h;omega
  ·exact hb h.symm
 have Xh:0≤(jE y).time∧(jE y).time≤1000000:=by omega
 have fa:Cd (jE y)=⟨1,y.step,tool,0,s.dD,1,(jE y).time⟩:=by rw[ea];rfl
 refine⟨?_,?_⟩
 ·have B:=Xr hv hQ
  rw[←List.append_assoc]at B
  generalize ofM (Eo (Cf f)++(w++[y])++[jE y]) 100000=b at*
  unfold zW
  refine WC (NJ.2 (List.mem_map.2 ⟨jE y,List.mem_filter.2 ⟨B.procs.mem_iff.2 (by simp),?_⟩,rfl⟩))
  have fw:lQ b (jE y)=Cd (jE y):=by
   unfold lQ
   rw[show(jE y).waf=1 from by rw[ea];rfl,B.Yz rfl]
   rw[ea];rfl
  have YH:Ji b (jE y)=w++[y]:=by
   unfold Ji
   rw[fw,show(Cd (jE y)).waf=1 from rfl,B.Ys]
   rw[List.takeWhile_append_of_pos]
   ·rw[List.takeWhile_cons_of_neg (by simp),List.append_nil]
   ·intro z hz
    have:=(List.pairwise_append.1 hQ.idn).2.2 z hz (jE y) (by simp)
    simpa using this
  unfold Eb
  rw[fw,YH,bne_iff_ne]
  by_cases Ba:(check f).1=0
  ·rw[Ky (f:=f) (by rw[fa];exact(B.Nu Xh.1).trans (if_pos Ba)) B.holds,show(Cd (jE y)).step=y.step from by rw[fa],no]
   have h2:=Cc ((gR (some f) y.step).isSome&& !((gR (some f) y.step).getD jW).dB.contains (Cd (jE y)).tool) (k:=4) (by decide)
   have h3:=Cc ((gR (some f) y.step).isSome&&((gR (some f) y.step).getD jW).dD !=(Cd (jE y)).rcp) (k:=8) (by decide)
   have h4:=Cc (!b.sE.any (pD (Cd (jE y)).tool (Cd (jE y)).cham (Cd (jE y)).rcp (Cd (jE y)).rvn (Cd (jE y)).time)) (k:=16) (by decide)
   have h1:bn (!false) 2=2:=rfl
   omega
  ·rw[NI (by rw[fa];exact(B.Nu Xh.1).trans (if_neg Ba)) B.holds]
   have h4:=Cc (!b.sE.any (pD (Cd (jE y)).tool (Cd (jE y)).cham (Cd (jE y)).rcp (Cd (jE y)).rvn (Cd (jE y)).time)) (k:=16) (by decide)
   omega
 ·have B:=Xr hv hP
  generalize ofM (Eo (Cf f)++(w++[y])) 100000=b at*
  unfold th
  have hu:jb b (Cd (jE y)).waf (Cd (jE y)).time=w++[y]:=by
   rw[fa]
   show jb b 1 (jE y).time=_
   unfold jb
   rw[B.Ys]
   refine SX fun z hz=>?_
   have:=(List.pairwise_append.1 hQ.time).2.2 z hz (jE y) (by simp)
   simp;omega
  rw[hu]
  have hq:b.sE.any (pD (Cd (jE y)).tool (Cd (jE y)).cham (Cd (jE y)).rcp (Cd (jE y)).rvn (Cd (jE y)).time)=true:=by
   rw[fa];exact B.Yw Ni Ss Xh
  by_cases Ba:(check f).1=0
  ·rw[if_pos Ba,Ky (f:=f) (by rw[fa];exact(B.Nu Xh.1).trans (if_pos Ba)) B.holds,hq,show(Cd (jE y)).step=y.step from by rw[fa],no]
   have dm:gR (some f) y.step=some s:=hs
   rw[dm,fa]
   have YI:s.dB.contains tool=true:=List.contains_iff_mem.2 (List.mem_of_getElem? Wt)
   show bn true 2+bn (true&& !s.dB.contains tool) 4+bn (true&&s.dD !=s.dD) 8+bn (!true) 16=2
   rw[YI];simp[bn]
  ·rw[if_neg Ba,NI (by rw[fa];exact(B.Nu Xh.1).trans (if_neg Ba)) B.holds,hq]
   rfl
end Go.Proofs.YtebobfdheanknaaGreatDoor
namespace Go.Proofs.YtebobfdheanknaaGreatDoor
open Go Go.K
set_option maxRecDepth 10000
attribute [local irreducible] W WL cT bu bX bA bB bD cW cG
set_option maxHeartbeats 4000000
abbrev sv(ad:Nat→Option Addr)(cc:Nat→Nat)(b:fX)(i:Nat):Value:=.slice (ad i) (b.ls i).length (cc i)
end Go.Proofs.YtebobfdheanknaaGreatDoor
namespace Go.Proofs.YtebobfdheanknaaGreatDoor
open Go Go.K
set_option maxRecDepth 10000
attribute [local irreducible] W WL cT bu bX bA bB bD cW cG
set_option maxHeartbeats 20000000
def WE(b:fX):Fact:=⟨fun v g=>iI g v b,fun _ _ _ hf h=>h.mono hf.le⟩
theorem UR(b:fX):uK (WE b):=fun _ _ _ h k=>k.mono h
end Go.Proofs.YtebobfdheanknaaGreatDoor
namespace Go.Proofs.YtebobfdheanknaaGreatDoor
open Go Go.K
set_option maxRecDepth 10000
attribute [local irreducible] W WL cT bu bX bA bB bD cW cG
set_option maxHeartbeats 20000000
theorem sw(ρ:Nat→Option Value)(i:Nat)(v:Value):o5 ρ i v i=some v:=if_pos rfl
theorem k8{ρ:Nat→Option Value}{i n:Nat}{v:Value}(h:n≠i):o5 ρ i v n=ρ n:=if_neg h
end Go.Proofs.YtebobfdheanknaaGreatDoor
