/- Parts of the proof, from: The walk through the law's examples. -/
import Derived.Test.YtebobfdheanknaaGreatDoorYn
import Derived.Test.YtebobfdheanknaaGreatDoorYb
import Derived.Test.YtebobfdheanknaaGreatDoorRows
import Derived.Lib.LaidTab
import Derived.Stop.LaidErr
import Derived.Lay
import Derived.LaidMore
import Derived.HandedShaped
import Derived.Clock
import Derived.JoinedOf
namespace Go.Proofs.YtebobfdheanknaaGreatDoor
open Go Go.K
set_option maxRecDepth 100000
set_option maxHeartbeats 1000000
def SP:List UInt8:=[109,111,118,101,32,49,46,46,50,10,115,116,101,112,32,48,32,114,101,99,105,112,101,32,49,32,116,111,111,108,115,32,50,32,116,105,109,101,32,51,46,46,51,32,110,101,120,116,32,49,10,115,116,101,112,32,49,32,114,101,99,105,112,101,32,51,32,116,111,111,108,115,32,50,32,116,105,109,101,32,51,46,46,51,32,110,101,120,116,32,45,32,98,97,99,107,32,48,32,108,105,109,105,116,32,49,10]
def Jt:bc:={gF with kind:=5,ver:=1,prod:=5,text:=SP}
def Kz:bc:={gF with kind:=4,ver:=1,waf:=4,lot:=7,prod:=5}
def CZ(n _tool _step rcp:Int):bc:={gF with kind:=6,idn:=n,ver:=1,til:=900,tool:=2,rcp:=rcp,rvn:=1}
def FR(n t til:Int):bc:={gF with kind:=1,idn:=n,ver:=1,time:=t,til:=til,waf:=4,tool:=2,rcp:=1,rvn:=1}
def KA:bc:={gF with kind:=7,idn:=1,ver:=1,til:=900,waf:=4,par:=1}
def rp(p h:List bc):fX:=⟨fun i=>if i=0 then p else if i=3 then [Kz]else if i=4 then [Jt]else if i=5 then [CZ 1 2 0 1,CZ 2 2 0 3]else if i=6 then h else []⟩
def pN(waf step tool rcp:Int):hQ:=⟨waf,step,tool,0,rcp,1,50⟩
def wU:List bc:=[FR 11 10 15,FR 12 20 25]
theorem ng{g:G}{s0 s3 s4 s5 s6:Value}{p h:List bc}(h0:Rs g s0 p)(h3:Rs g s3 [Kz])(h4:Rs g s4 [Jt])(h5:Rs g s5 [CZ 1 2 0 1,CZ 2 2 0 3])(h6:Rs g s6 h):ln g (.agg #[s0,.slice none 0 0,.slice none 0 0,s3,s4,s5,s6,.slice none 0 0,.slice none 0 0,.slice none 0 0,.slice none 0 0]) (rp p h):=
 ⟨fun i=>match i with|0=>s0|3=>s3|4=>s4|5=>s5|6=>s6|_=> .slice none 0 0,rfl,fun i hi=>match i,hi with
  |0,_=>h0|1,_=>Rs.nil _|2,_=>Rs.nil _|3,_=>h3|4,_=>h4|5,_=>h5|6,_=>h6|7,_=>Rs.nil _|8,_=>Rs.nil _|9,_=>Rs.nil _|10,_=>Rs.nil _⟩
theorem Ez{p h:List bc}(hp:p.length≤2)(hh:h.length≤2):FO (rp p h):=by
 refine⟨fun i=> ?_,fun f hf=> ?_⟩
 ·unfold rp
  show(if i=0 then p else _).length≤_
  split
  ·omega
  ·split
   ·decide
   ·split
    ·decide
    ·split
     ·decide
     ·split
      ·omega
      ·decide
 ·obtain rfl:f=Jt:=List.mem_singleton.1 hf
  decide
theorem tE{v:Value}{b:fX}{a:hQ}{g:G}{z:Int}(bI:ln g v b)(hb:FO b)(bM:iw g)(e:th b a=z):CallsIn Wd 0 Tryz.prog 23 #[v,Gl a] g.w (cR g fun _ r=>r= .int .i64 z):=by
 subst e;exact D_ v b a g bI hb bM
abbrev oA(b:Nat)(a:hQ):cV:=.obj b (.cells (pE a).toArray 41 (0,0))
abbrev oB(b:Nat)(s0 s3 s4 s5 s6:Value):cV:=.obj b (.cells #[s0,.slice none 0 0,.slice none 0 0,s3,s4,s5,s6,.slice none 0 0,.slice none 0 0,.slice none 0 0,.slice none 0 0] 35 (0,0))
theorem Jn(g:G)(bM:iw g):CallsIn Wd 0 Tryz.prog 10 #[] g.w (cR g fun _ r=>r= .bool true):=by
 have hs:=St.start g
 have aq:=G.le.refl g
 refine enter Tryz.func10 rfl Tryz.ntmps10 rfl ?_
 (iterate 3 refine cP 1 rfl ?_)
 refine an rfl rfl (aQ T.ok rfl (vs:=[(0,.int .i64 5),(2,.int .i64 1),(10,.int .i64 5),(18,.string (bs SP))]) (cells:=bW (Jt)) rfl rfl rfl rfl [(0,1),(1,1),(2,1),(3,1),(4,1),(5,1),(6,1),(7,1),(8,1),(9,1),(10,1),(11,1),(12,1),(13,1),(14,1),(15,1),(16,1),(17,1),(18,1)] rfl (by kernel_rfl) ?_)
 skip
 refine an rfl rfl (bj T.ok rfl hs (vs:=[(0,fv (Jt))]) (cells:=fl [Jt]) rfl rfl rfl rfl rfl rfl (by decide) (by decide) (by kernel_rfl) rfl ?_);rintro bF gl hs ah;replace bM:=bM.mono ah
 obtain⟨gz,ik,cS,iT,dz⟩:=hs.cL (α:=bc) (xs:=[Jt]) (i:=0) rfl (cO.fl _ _);clear ah;have ah:=iT;rw[←ik];(repeat clear hs);have hs:St g gz []:=cS;clear cS;replace bM:=bM.mono ah
 skip
 refine an rfl rfl (aQ T.ok rfl (vs:=[(0,.int .i64 4),(2,.int .i64 1),(7,.int .i64 4),(9,.int .i64 7),(10,.int .i64 5)]) (cells:=bW (Kz)) rfl rfl rfl rfl [(0,1),(1,1),(2,1),(3,1),(4,1),(5,1),(6,1),(7,1),(8,1),(9,1),(10,1),(11,1),(12,1),(13,1),(14,1),(15,1),(16,1),(17,1),(18,1)] rfl (by kernel_rfl) ?_)
 skip
 refine an rfl rfl (bj T.ok rfl hs (vs:=[(0,fv (Kz))]) (cells:=fl [Kz]) rfl rfl rfl rfl rfl rfl (by decide) (by decide) (by kernel_rfl) rfl ?_);rintro bL gl hs ah;obtain⟨dz,bM⟩:=cC ah dz bM
 obtain⟨gz,ik,cS,iT,bN⟩:=hs.cL (α:=bc) (xs:=[Kz]) (i:=0) rfl (cO.fl _ _);clear ah;have ah:=iT;rw[←ik];(repeat clear hs);have hs:St g gz []:=cS;clear cS;obtain⟨dz,bM⟩:=cC ah dz bM
 skip
 refine an rfl rfl (aQ T.ok rfl (vs:=[(0,.int .i64 6),(2,.int .i64 1),(1,.int .i64 1),(11,.int .i64 2),(14,.int .i64 1),(15,.int .i64 1),(6,.int .i64 900)]) (cells:=bW (CZ 1 2 0 1)) rfl rfl rfl rfl [(0,1),(1,1),(2,1),(3,1),(4,1),(5,1),(6,1),(7,1),(8,1),(9,1),(10,1),(11,1),(12,1),(13,1),(14,1),(15,1),(16,1),(17,1),(18,1)] rfl (by kernel_rfl) ?_)
 skip
 refine an rfl rfl (aQ T.ok rfl (vs:=[(0,.int .i64 6),(2,.int .i64 1),(1,.int .i64 2),(11,.int .i64 2),(14,.int .i64 3),(15,.int .i64 1),(6,.int .i64 900)]) (cells:=bW (CZ 2 2 0 3)) rfl rfl rfl rfl [(0,1),(1,1),(2,1),(3,1),(4,1),(5,1),(6,1),(7,1),(8,1),(9,1),(10,1),(11,1),(12,1),(13,1),(14,1),(15,1),(16,1),(17,1),(18,1)] rfl (by kernel_rfl) ?_)
 skip
 refine an rfl rfl (bj T.ok rfl hs (vs:=[(0,fv (CZ 1 2 0 1)),(1,fv (CZ 2 2 0 3))]) (cells:=fl [CZ 1 2 0 1,CZ 2 2 0 3]) rfl rfl rfl rfl rfl rfl (by decide) (by decide) (by kernel_rfl) rfl ?_);rintro bQ gl hs ah;obtain⟨bN,dz,bM⟩:=ef ah bN dz bM
 obtain⟨gz,ik,cS,iT,dj⟩:=hs.cL (α:=bc) (xs:=[CZ 1 2 0 1,CZ 2 2 0 3]) (i:=0) rfl (cO.fl _ _);clear ah;have ah:=iT;rw[←ik];(repeat clear hs);have hs:St g gz []:=cS;clear cS;obtain⟨bN,dz,bM⟩:=ef ah bN dz bM
 skip
 refine an rfl rfl (aQ T.ok rfl (vs:=[(4,.slice (some ⟨bF,0,none⟩) 1 1),(3,.slice (some ⟨bL,0,none⟩) 1 1),(5,.slice (some ⟨bQ,0,none⟩) 2 2)]) (cells:=[.slice none 0 0,.slice none 0 0,.slice none 0 0,.slice (some ⟨bL,0,none⟩) 1 1,.slice (some ⟨bF,0,none⟩) 1 1,.slice (some ⟨bQ,0,none⟩) 2 2,.slice none 0 0,.slice none 0 0,.slice none 0 0,.slice none 0 0,.slice none 0 0]) rfl rfl rfl rfl [(0,1),(1,1),(2,1),(3,1),(4,1),(5,1),(6,1),(7,1),(8,1),(9,1),(10,1)] rfl (by kernel_rfl) ?_)
 refine an rfl rfl (aK T.ok rfl hs rfl rfl ?_);clear hs;rintro b2 g1 hs ah;obtain⟨bN,dz,dj,bM⟩:=dE ah bN dz dj bM
 refine bg rfl (aA T.ok 0 rfl hs rfl rfl rfl rfl rfl rfl rfl rfl rfl ?_);replace hs:=hs;rintro g1 hs ah;obtain⟨bN,dz,dj,bM⟩:=dE ah bN dz dj bM
 replace hs:St g g1 [oB b2 (.slice none 0 0) (.slice (some ⟨bL,0,none⟩) 1 1) (.slice (some ⟨bF,0,none⟩) 1 1) (.slice (some ⟨bQ,0,none⟩) 2 2) (.slice none 0 0)]:=hs
 apply c_
 refine an rfl rfl (aQ T.ok rfl (vs:=[(0,.int .i64 4),(2,.int .i64 2),(4,.int .i64 1),(5,.int .i64 1),(6,.int .i64 50)]) (cells:=pE (pN 4 0 2 1)) rfl rfl rfl rfl [(0,1),(1,1),(2,1),(3,1),(4,1),(5,1),(6,1)] rfl (by kernel_rfl) ?_)
 refine an rfl rfl (aK T.ok rfl hs rfl rfl ?_);clear hs;rintro b3 g1 hs ah;obtain⟨bN,dz,dj,bM⟩:=dE ah bN dz dj bM
 refine bg rfl (aA T.ok 0 rfl hs rfl rfl rfl rfl rfl rfl rfl rfl rfl ?_);replace hs:=hs;rintro g1 hs ah;obtain⟨bN,dz,dj,bM⟩:=dE ah bN dz dj bM
 replace hs:St g g1 [oA b3 (pN 4 0 2 1),oB b2 (.slice none 0 0) (.slice (some ⟨bL,0,none⟩) 1 1) (.slice (some ⟨bF,0,none⟩) 1 1) (.slice (some ⟨bQ,0,none⟩) 2 2) (.slice none 0 0)]:=hs
 refine dx 2 [.o 1,.o 0] hs rfl ?_
 refine an rfl rfl (ay wi aI rfl rfl rfl rfl rfl (tE (b:=rp [] []) (a:=pN 4 0 2 1) (ng (Rs.nil _) bN dz dj (Rs.nil _)) (Ez (by decide) (by decide)) bM (show th (rp [] []) (pN 4 0 2 1)=0 from by decide+kernel)) ?_);rintro g1 _ aN rfl;replace hs:=hs.call aN;have ah:=aN.le;obtain⟨bN,dz,dj,bM⟩:=dE ah bN dz dj bM
 clear aN
 refine Wp 1 rfl ?_;refine cP 1 rfl ?_
 skip
 refine bg rfl (aA T.ok 0 rfl hs rfl rfl rfl rfl rfl rfl rfl rfl rfl ?_);replace hs:=hs;rintro g1 hs ah;obtain⟨bN,dz,dj,bM⟩:=dE ah bN dz dj bM
 (repeat clear oh)
 replace hs:St g g1 [oA b3 (pN 4 0 2 3),oB b2 (.slice none 0 0) (.slice (some ⟨bL,0,none⟩) 1 1) (.slice (some ⟨bF,0,none⟩) 1 1) (.slice (some ⟨bQ,0,none⟩) 2 2) (.slice none 0 0)]:=hs
 refine dx 2 [.o 1,.o 0] hs rfl ?_
 refine an rfl rfl (ay wi aI rfl rfl rfl rfl rfl (tE (b:=rp [] []) (a:=pN 4 0 2 3) (ng (Rs.nil _) bN dz dj (Rs.nil _)) (Ez (by decide) (by decide)) bM (show th (rp [] []) (pN 4 0 2 3)=8 from by decide+kernel)) ?_);rintro g1 _ aN rfl;replace hs:=hs.call aN;have ah:=aN.le;obtain⟨bN,dz,dj,bM⟩:=dE ah bN dz dj bM
 clear aN
 refine Wp 1 rfl ?_;refine cP 1 rfl ?_
 skip
 refine bg rfl (aA T.ok 0 rfl hs rfl rfl rfl rfl rfl rfl rfl rfl rfl ?_);replace hs:=hs;rintro g1 hs ah;obtain⟨bN,dz,dj,bM⟩:=dE ah bN dz dj bM
 (repeat clear oh)
 replace hs:St g g1 [oA b3 (pN 4 0 2 1),oB b2 (.slice none 0 0) (.slice (some ⟨bL,0,none⟩) 1 1) (.slice (some ⟨bF,0,none⟩) 1 1) (.slice (some ⟨bQ,0,none⟩) 2 2) (.slice none 0 0)]:=hs
 refine cP 1 rfl ?_
 refine bg rfl (aA T.ok 0 rfl hs rfl rfl rfl rfl rfl rfl rfl rfl rfl ?_);replace hs:=hs;rintro g1 hs ah;obtain⟨bN,dz,dj,bM⟩:=dE ah bN dz dj bM
 (repeat clear oh)
 replace hs:St g g1 [oA b3 (pN 4 0 3 1),oB b2 (.slice none 0 0) (.slice (some ⟨bL,0,none⟩) 1 1) (.slice (some ⟨bF,0,none⟩) 1 1) (.slice (some ⟨bQ,0,none⟩) 2 2) (.slice none 0 0)]:=hs
 refine dx 2 [.o 1,.o 0] hs rfl ?_
 refine an rfl rfl (ay wi aI rfl rfl rfl rfl rfl (tE (b:=rp [] []) (a:=pN 4 0 3 1) (ng (Rs.nil _) bN dz dj (Rs.nil _)) (Ez (by decide) (by decide)) bM (show th (rp [] []) (pN 4 0 3 1)=20 from by decide+kernel)) ?_);rintro g1 _ aN rfl;replace hs:=hs.call aN;have ah:=aN.le;obtain⟨bN,dz,dj,bM⟩:=dE ah bN dz dj bM
 clear aN
 refine Wp 1 rfl ?_;refine cP 1 rfl ?_
 skip
 refine bg rfl (aA T.ok 0 rfl hs rfl rfl rfl rfl rfl rfl rfl rfl rfl ?_);replace hs:=hs;rintro g1 hs ah;obtain⟨bN,dz,dj,bM⟩:=dE ah bN dz dj bM
 (repeat clear oh)
 replace hs:St g g1 [oA b3 (pN 4 0 2 1),oB b2 (.slice none 0 0) (.slice (some ⟨bL,0,none⟩) 1 1) (.slice (some ⟨bF,0,none⟩) 1 1) (.slice (some ⟨bQ,0,none⟩) 2 2) (.slice none 0 0)]:=hs
 refine cP 1 rfl ?_
 refine bg rfl (aA T.ok 0 rfl hs rfl rfl rfl rfl rfl rfl rfl rfl rfl ?_);replace hs:=hs;rintro g1 hs ah;obtain⟨bN,dz,dj,bM⟩:=dE ah bN dz dj bM
 (repeat clear oh)
 replace hs:St g g1 [oA b3 (pN 4 1 2 1),oB b2 (.slice none 0 0) (.slice (some ⟨bL,0,none⟩) 1 1) (.slice (some ⟨bF,0,none⟩) 1 1) (.slice (some ⟨bQ,0,none⟩) 2 2) (.slice none 0 0)]:=hs
 refine dx 2 [.o 1,.o 0] hs rfl ?_
 refine an rfl rfl (ay wi aI rfl rfl rfl rfl rfl (tE (b:=rp [] []) (a:=pN 4 1 2 1) (ng (Rs.nil _) bN dz dj (Rs.nil _)) (Ez (by decide) (by decide)) bM (show th (rp [] []) (pN 4 1 2 1)=10 from by decide+kernel)) ?_);rintro g1 _ aN rfl;replace hs:=hs.call aN;have ah:=aN.le;obtain⟨bN,dz,dj,bM⟩:=dE ah bN dz dj bM
 clear aN
 refine Wp 1 rfl ?_;refine cP 1 rfl ?_
 skip
 refine bg rfl (aA T.ok 0 rfl hs rfl rfl rfl rfl rfl rfl rfl rfl rfl ?_);replace hs:=hs;rintro g1 hs ah;obtain⟨bN,dz,dj,bM⟩:=dE ah bN dz dj bM
 (repeat clear oh)
 replace hs:St g g1 [oA b3 (pN 4 7 2 1),oB b2 (.slice none 0 0) (.slice (some ⟨bL,0,none⟩) 1 1) (.slice (some ⟨bF,0,none⟩) 1 1) (.slice (some ⟨bQ,0,none⟩) 2 2) (.slice none 0 0)]:=hs
 refine dx 2 [.o 1,.o 0] hs rfl ?_
 refine an rfl rfl (ay wi aI rfl rfl rfl rfl rfl (tE (b:=rp [] []) (a:=pN 4 7 2 1) (ng (Rs.nil _) bN dz dj (Rs.nil _)) (Ez (by decide) (by decide)) bM (show th (rp [] []) (pN 4 7 2 1)=2 from by decide+kernel)) ?_);rintro g1 _ aN rfl;replace hs:=hs.call aN;have ah:=aN.le;obtain⟨bN,dz,dj,bM⟩:=dE ah bN dz dj bM
 clear aN
 refine Wp 1 rfl ?_;refine cP 1 rfl ?_
 skip
 refine bg rfl (aA T.ok 0 rfl hs rfl rfl rfl rfl rfl rfl rfl rfl rfl ?_);replace hs:=hs;rintro g1 hs ah;obtain⟨bN,dz,dj,bM⟩:=dE ah bN dz dj bM
 (repeat clear oh)
 replace hs:St g g1 [oA b3 (pN 4 0 2 1),oB b2 (.slice none 0 0) (.slice (some ⟨bL,0,none⟩) 1 1) (.slice (some ⟨bF,0,none⟩) 1 1) (.slice (some ⟨bQ,0,none⟩) 2 2) (.slice none 0 0)]:=hs
 refine cP 1 rfl ?_
 refine bg rfl (aA T.ok 0 rfl hs rfl rfl rfl rfl rfl rfl rfl rfl rfl ?_);replace hs:=hs;rintro g1 hs ah;obtain⟨bN,dz,dj,bM⟩:=dE ah bN dz dj bM
 (repeat clear oh)
 replace hs:St g g1 [oA b3 (pN 9 0 2 1),oB b2 (.slice none 0 0) (.slice (some ⟨bL,0,none⟩) 1 1) (.slice (some ⟨bF,0,none⟩) 1 1) (.slice (some ⟨bQ,0,none⟩) 2 2) (.slice none 0 0)]:=hs
 refine dx 2 [.o 1,.o 0] hs rfl ?_
 refine an rfl rfl (ay wi aI rfl rfl rfl rfl rfl (tE (b:=rp [] []) (a:=pN 9 0 2 1) (ng (Rs.nil _) bN dz dj (Rs.nil _)) (Ez (by decide) (by decide)) bM (show th (rp [] []) (pN 9 0 2 1)=1 from by decide+kernel)) ?_);rintro g1 _ aN rfl;replace hs:=hs.call aN;have ah:=aN.le;obtain⟨bN,dz,dj,bM⟩:=dE ah bN dz dj bM
 clear aN
 refine Wp 1 rfl ?_;refine cP 1 rfl ?_
 skip
 refine bg rfl (aA T.ok 0 rfl hs rfl rfl rfl rfl rfl rfl rfl rfl rfl ?_);replace hs:=hs;rintro g1 hs ah;obtain⟨bN,dz,dj,bM⟩:=dE ah bN dz dj bM
 (repeat clear oh)
 replace hs:St g g1 [oA b3 (pN 4 0 2 1),oB b2 (.slice none 0 0) (.slice (some ⟨bL,0,none⟩) 1 1) (.slice (some ⟨bF,0,none⟩) 1 1) (.slice (some ⟨bQ,0,none⟩) 2 2) (.slice none 0 0)]:=hs
 refine dx 1 [.o 1] hs rfl ?_
 refine an rfl rfl (aK T.ok rfl hs rfl rfl ?_);clear hs;rintro IL g1 hs ah;obtain⟨bN,dz,dj,bM⟩:=dE ah bN dz dj bM
 refine bg rfl (aA T.ok 0 rfl hs rfl rfl rfl rfl rfl rfl rfl rfl rfl ?_);replace hs:=hs;rintro g1 hs ah;obtain⟨bN,dz,dj,bM⟩:=dE ah bN dz dj bM
 apply c_
 refine an rfl rfl (aQ T.ok rfl (vs:=[(0,.int .i64 7),(2,.int .i64 1),(1,.int .i64 1),(7,.int .i64 4),(6,.int .i64 900),(17,.int .i64 1)]) (cells:=bW (KA)) rfl rfl rfl rfl [(0,1),(1,1),(2,1),(3,1),(4,1),(5,1),(6,1),(7,1),(8,1),(9,1),(10,1),(11,1),(12,1),(13,1),(14,1),(15,1),(16,1),(17,1),(18,1)] rfl (by kernel_rfl) ?_)
 skip
 refine an rfl rfl (bj T.ok rfl hs (vs:=[(0,fv (KA))]) (cells:=fl [KA]) rfl rfl rfl rfl rfl rfl (by decide) (by decide) (by kernel_rfl) rfl ?_);rintro bH gl hs ah;obtain⟨bN,dz,dj,bM⟩:=dE ah bN dz dj bM
 obtain⟨gz,ik,cS,iT,pk⟩:=hs.cL (α:=bc) (xs:=[KA]) (i:=0) rfl (cO.fl _ _);clear ah;have ah:=iT;rw[←ik];(repeat clear hs);have hs:St g gz [oB IL (.slice none 0 0) (.slice (some ⟨bL,0,none⟩) 1 1) (.slice (some ⟨bF,0,none⟩) 1 1) (.slice (some ⟨bQ,0,none⟩) 2 2) (.slice none 0 0),oA b3 (pN 4 0 2 1),oB b2 (.slice none 0 0) (.slice (some ⟨bL,0,none⟩) 1 1) (.slice (some ⟨bF,0,none⟩) 1 1) (.slice (some ⟨bQ,0,none⟩) 2 2) (.slice none 0 0)]:=cS;clear cS;obtain⟨bN,dz,dj,bM⟩:=dE ah bN dz dj bM
 refine Wp 1 rfl ?_
 refine bg rfl (aA T.ok 0 rfl hs rfl rfl rfl rfl rfl rfl rfl rfl rfl ?_);replace hs:=hs;rintro g1 hs ah;obtain⟨bN,dz,dj,pk,bM⟩:=kN ah bN dz dj pk bM
 (repeat clear oh)
 replace hs:St g g1 [oB IL (.slice none 0 0) (.slice (some ⟨bL,0,none⟩) 1 1) (.slice (some ⟨bF,0,none⟩) 1 1) (.slice (some ⟨bQ,0,none⟩) 2 2) (.slice (some ⟨bH,0,none⟩) 1 1),oA b3 (pN 4 0 2 1),oB b2 (.slice none 0 0) (.slice (some ⟨bL,0,none⟩) 1 1) (.slice (some ⟨bF,0,none⟩) 1 1) (.slice (some ⟨bQ,0,none⟩) 2 2) (.slice none 0 0)]:=hs
 refine dx 2 [.o 0,.o 1] hs rfl ?_
 refine an rfl rfl (ay wi aI rfl rfl rfl rfl rfl (tE (b:=rp [] [KA]) (a:=pN 4 0 2 1) (ng (Rs.nil _) bN dz dj pk) (Ez (by decide) (by decide)) bM (show th (rp [] [KA]) (pN 4 0 2 1)=32 from by decide+kernel)) ?_);rintro g1 _ aN rfl;replace hs:=hs.call aN;have ah:=aN.le;obtain⟨bN,dz,dj,bM⟩:=dE ah bN dz dj bM
 clear aN
 refine Wp 1 rfl ?_;apply c_
 skip
 refine an rfl rfl (aQ T.ok rfl (vs:=[(0,.int .i64 1),(2,.int .i64 1),(1,.int .i64 11),(7,.int .i64 4),(11,.int .i64 2),(14,.int .i64 1),(15,.int .i64 1),(5,.int .i64 10),(6,.int .i64 15)]) (cells:=bW (FR 11 10 15)) rfl rfl rfl rfl [(0,1),(1,1),(2,1),(3,1),(4,1),(5,1),(6,1),(7,1),(8,1),(9,1),(10,1),(11,1),(12,1),(13,1),(14,1),(15,1),(16,1),(17,1),(18,1)] rfl (by kernel_rfl) ?_)
 skip
 refine an rfl rfl (aQ T.ok rfl (vs:=[(0,.int .i64 1),(2,.int .i64 1),(1,.int .i64 12),(7,.int .i64 4),(11,.int .i64 2),(14,.int .i64 1),(15,.int .i64 1),(5,.int .i64 20),(6,.int .i64 25)]) (cells:=bW (FR 12 20 25)) rfl rfl rfl rfl [(0,1),(1,1),(2,1),(3,1),(4,1),(5,1),(6,1),(7,1),(8,1),(9,1),(10,1),(11,1),(12,1),(13,1),(14,1),(15,1),(16,1),(17,1),(18,1)] rfl (by kernel_rfl) ?_)
 skip
 refine an rfl rfl (bj T.ok rfl hs (vs:=[(0,fv (FR 11 10 15)),(1,fv (FR 12 20 25))]) (cells:=fl [FR 11 10 15,FR 12 20 25]) rfl rfl rfl rfl rfl rfl (by decide) (by decide) (by kernel_rfl) rfl ?_);rintro bP gl hs ah;obtain⟨bN,dz,dj,bM⟩:=dE ah bN dz dj bM
 obtain⟨gz,ik,cS,iT,aH⟩:=hs.cL (α:=bc) (xs:=[FR 11 10 15,FR 12 20 25]) (i:=0) rfl (cO.fl _ _);clear ah;have ah:=iT;rw[←ik];(repeat clear hs);have hs:St g gz [oB IL (.slice none 0 0) (.slice (some ⟨bL,0,none⟩) 1 1) (.slice (some ⟨bF,0,none⟩) 1 1) (.slice (some ⟨bQ,0,none⟩) 2 2) (.slice (some ⟨bH,0,none⟩) 1 1),oA b3 (pN 4 0 2 1),oB b2 (.slice none 0 0) (.slice (some ⟨bL,0,none⟩) 1 1) (.slice (some ⟨bF,0,none⟩) 1 1) (.slice (some ⟨bQ,0,none⟩) 2 2) (.slice none 0 0)]:=cS;clear cS;obtain⟨bN,dz,dj,bM⟩:=dE ah bN dz dj bM
 refine Wp 1 rfl ?_
 refine bg rfl (aA T.ok 2 rfl hs rfl rfl rfl rfl rfl rfl rfl rfl rfl ?_);replace hs:=hs;rintro g1 hs ah;obtain⟨aH,bN,dz,dj,bM⟩:=kN ah aH bN dz dj bM
 (repeat clear oh)
 replace hs:St g g1 [oB IL (.slice none 0 0) (.slice (some ⟨bL,0,none⟩) 1 1) (.slice (some ⟨bF,0,none⟩) 1 1) (.slice (some ⟨bQ,0,none⟩) 2 2) (.slice (some ⟨bH,0,none⟩) 1 1),oA b3 (pN 4 0 2 1),oB b2 (.slice (some ⟨bP,0,none⟩) 2 2) (.slice (some ⟨bL,0,none⟩) 1 1) (.slice (some ⟨bF,0,none⟩) 1 1) (.slice (some ⟨bQ,0,none⟩) 2 2) (.slice none 0 0)]:=hs
 refine dx 1 [.o 2] hs rfl ?_
 refine an rfl rfl (ay Pz aI rfl rfl rfl rfl rfl (Jh _ (rp wU []) 4 20 _ (ng aH bN dz dj (Rs.nil _)) (Ez (by decide) (by decide))) ?_);rintro g1 _ aN ⟨v1,v2,rfl,aT,bT⟩;replace hs:=hs.call aN;have ah:=aN.le;obtain⟨aH,bN,dz,dj,bM⟩:=kN ah aH bN dz dj bM
 clear aN
 rw[show(jb (rp wU []) 4 20).map (·.step)=[0,0]from by decide+kernel]at aT
 rw[show(jb (rp wU []) 4 20).map (·.idn)=[11,12]from by decide+kernel]at bT
 refine Wp 5 rfl ?_;refine dx 28 [.o 2] hs rfl ?_
 refine an rfl rfl (ay IN aI rfl rfl rfl rfl rfl (wI _ (rp wU []) 4 15 _ (ng aH bN dz dj (Rs.nil _)) (Ez (by decide) (by decide)) bM) ?_);rintro g1 _ aN eg;replace hs:=hs.call aN;have ah:=aN.le;obtain⟨aH,aT,bT,bN,dz,dj⟩:=iu ah aH aT bT bN dz dj;replace bM:=bM.mono ah
 clear aN
 rw[show mz (rp wU []) 4 15=[1]from by decide+kernel]at eg
 skip
 refine an rfl rfl (bj T.ok rfl hs (vs:=[(0,.int .i64 (1))]) (cells:=[.int .i64 (1)]) rfl rfl rfl rfl rfl rfl (by decide) (by decide) (by kernel_rfl) rfl ?_);rintro bl gl hs ah;obtain⟨aH,aT,bT,bN,dz,dj⟩:=iu ah aH aT bT bN dz dj;obtain⟨eg,bM⟩:=cC ah eg bM;obtain⟨gz,ik,cS,iT,fq⟩:=hs.cL (α:=Int) (xs:=[1]) (i:=0) rfl (cO.ints _ [1]);clear ah;have ah:=iT;rw[←ik];replace hs:=cS;clear cS;obtain⟨aH,aT,bT,bN,dz,dj⟩:=iu ah aH aT bT bN dz dj;obtain⟨eg,bM⟩:=cC ah eg bM
 refine an rfl rfl (ay Dc aI rfl rfl rfl rfl rfl (pO _ _ _ _ _ eg fq) ?_);rintro g1 _ aN rfl;replace hs:=hs.call aN;have ah:=aN.le;obtain⟨aH,aT,bT,bN,dz,dj⟩:=iu ah aH aT bT bN dz dj;obtain⟨eg,fq,bM⟩:=ef ah eg fq bM
 clear aN
 refine cE (.bool true) (t:=97) rfl (congrArg Value.bool (by decide)) ?_
 refine Wm 3 [.o 2] hs rfl ?_
 clear eg fq
 refine an rfl rfl (ay IN aI rfl rfl rfl rfl rfl (wI _ (rp wU []) 4 5 _ (ng aH bN dz dj (Rs.nil _)) (Ez (by decide) (by decide)) bM) ?_);rintro g1 _ aN eg;replace hs:=hs.call aN;have ah:=aN.le;obtain⟨aH,aT,bT,bN,dz,dj⟩:=iu ah aH aT bT bN dz dj;replace bM:=bM.mono ah
 clear aN
 rw[show mz (rp wU []) 4 5=[0]from by decide+kernel]at eg
 skip
 refine an rfl rfl (bj T.ok rfl hs (vs:=[(0,.int .i64 (0))]) (cells:=[.int .i64 (0)]) rfl rfl rfl rfl rfl rfl (by decide) (by decide) (by kernel_rfl) rfl ?_);rintro bl gl hs ah;obtain⟨aH,aT,bT,bN,dz,dj⟩:=iu ah aH aT bT bN dz dj;obtain⟨eg,bM⟩:=cC ah eg bM;obtain⟨gz,ik,cS,iT,fq⟩:=hs.cL (α:=Int) (xs:=[0]) (i:=0) rfl (cO.ints _ [0]);clear ah;have ah:=iT;rw[←ik];replace hs:=cS;clear cS;obtain⟨aH,aT,bT,bN,dz,dj⟩:=iu ah aH aT bT bN dz dj;obtain⟨eg,bM⟩:=cC ah eg bM
 refine an rfl rfl (ay Dc aI rfl rfl rfl rfl rfl (pO _ _ _ _ _ eg fq) ?_);rintro g1 _ aN rfl;replace hs:=hs.call aN;have ah:=aN.le;obtain⟨aH,aT,bT,bN,dz,dj⟩:=iu ah aH aT bT bN dz dj;obtain⟨eg,fq,bM⟩:=ef ah eg fq bM
 clear aN
 refine cE (.bool true) (t:=103) rfl (congrArg Value.bool (by decide)) ?_
 refine Wp 3 rfl ?_
 clear eg fq
 refine an rfl rfl (bj T.ok rfl hs (vs:=[(0,.int .i64 (0)),(1,.int .i64 (0))]) (cells:=[.int .i64 (0),.int .i64 (0)]) rfl rfl rfl rfl rfl rfl (by decide) (by decide) (by kernel_rfl) rfl ?_);rintro bl gl hs ah;obtain⟨aH,aT,bT,bN,dz,dj⟩:=iu ah aH aT bT bN dz dj;replace bM:=bM.mono ah;obtain⟨gz,ik,cS,iT,fq⟩:=hs.cL (α:=Int) (xs:=[0,0]) (i:=0) rfl (cO.ints _ [0,0]);clear ah;have ah:=iT;rw[←ik];replace hs:=cS;clear cS;obtain⟨aH,aT,bT,bN,dz,dj⟩:=iu ah aH aT bT bN dz dj;replace bM:=bM.mono ah
 refine an rfl rfl (ay Dc aI rfl rfl rfl rfl rfl (pO _ _ _ _ _ aT fq) ?_);rintro g1 _ aN rfl;replace hs:=hs.call aN;have ah:=aN.le;obtain⟨aH,bT,bN,dz,dj,fq⟩:=iu ah aH bT bN dz dj fq;replace bM:=bM.mono ah
 clear aN
 refine cE (.bool true) (t:=108) rfl (congrArg Value.bool (by decide)) ?_
 refine Wp 3 rfl ?_
 clear fq
 refine an rfl rfl (bj T.ok rfl hs (vs:=[(0,.int .i64 (11)),(1,.int .i64 (12))]) (cells:=[.int .i64 (11),.int .i64 (12)]) rfl rfl rfl rfl rfl rfl (by decide) (by decide) (by kernel_rfl) rfl ?_);rintro bl gl hs ah;obtain⟨aH,bT,bN,dz,dj,bM⟩:=iu ah aH bT bN dz dj bM;obtain⟨gz,ik,cS,iT,fq⟩:=hs.cL (α:=Int) (xs:=[11,12]) (i:=0) rfl (cO.ints _ [11,12]);clear ah;have ah:=iT;rw[←ik];replace hs:=cS;clear cS;obtain⟨aH,bT,bN,dz,dj,bM⟩:=iu ah aH bT bN dz dj bM
 refine an rfl rfl (ay Dc aI rfl rfl rfl rfl rfl (pO _ _ _ _ _ bT fq) ?_);rintro g1 _ aN rfl;replace hs:=hs.call aN;have ah:=aN.le;obtain⟨aH,bN,dz,dj,fq,bM⟩:=iu ah aH bN dz dj fq bM
 clear aN
 refine cE (.bool true) (t:=113) rfl (congrArg Value.bool (by decide)) ?_
 refine Wm 3 [.o 2] hs rfl ?_
 clear fq
 refine an rfl rfl (ay Px aI rfl rfl rfl rfl rfl (Gu _ (rp wU []) _ (ng aH bN dz dj (Rs.nil _)) (Ez (by decide) (by decide)) bM) ?_);rintro g1 _ aN eg;replace hs:=hs.call aN;have ah:=aN.le
 clear aN
 rw[show zW (rp wU [])=[12]from by decide+kernel]at eg
 skip
 refine an rfl rfl (bj T.ok rfl hs (vs:=[(0,.int .i64 (12))]) (cells:=[.int .i64 (12)]) rfl rfl rfl rfl rfl rfl (by decide) (by decide) (by kernel_rfl) rfl ?_);rintro bl gl hs ah;replace eg:=eg.mono ah;obtain⟨gz,ik,cS,iT,fq⟩:=hs.cL (α:=Int) (xs:=[12]) (i:=0) rfl (cO.ints _ [12]);clear ah;have ah:=iT;rw[←ik];replace hs:=cS;clear cS;replace eg:=eg.mono ah
 refine an rfl rfl (ay Dc aI rfl rfl rfl rfl rfl (pO _ _ _ _ _ eg fq) ?_);rintro g1 _ aN rfl;replace hs:=hs.call aN;have ah:=aN.le
 clear aN
 refine cE (.bool true) (t:=119) rfl (congrArg Value.bool (by decide)) ?_
 refine ba rfl ?_
 exact aF (aV rfl rfl (hs.ret rfl))
end Go.Proofs.YtebobfdheanknaaGreatDoor
namespace Go.Proofs.YtebobfdheanknaaGreatDoor
open Go Go.K
set_option maxRecDepth 10000
attribute [local irreducible] W WL cT bu bX bA bB bD cW cG
theorem z_{f:bc}(h:fp f≠[]):fm f=true:=by
 unfold fp at h
 cases hv:fm f with
 |true=>rfl
 |false=>rw[hv]at h;exact absurd rfl h
theorem yh{f:bc}(h:fm f=true):f.text.length≤8192:=by
 unfold fm at h
 split at h
 ·cases h
 ·split at h
  ·cases h
  ·rename_i hc
   simp only[Bool.or_eq_true,decide_eq_true_eq,not_or]at hc
   omega
theorem GB{l:List bc}{day:Int}{i:Nat}{f:bc}(h:f∈(ofM l day).ls i):fm f=true:=by
 have h1:f∈gH (jU day l) i:=(iM _).mem_iff.1 h
 obtain⟨k,hk,_⟩:=sG h1
 obtain⟨_,h2⟩:=AM day l
 obtain⟨e,fu⟩:=h2 _ hk
 exact z_ (by rw[←e];exact fu)
theorem NH{l:List bc}(day:Int)(hl:l.length≤1000000):FO (ofM l day):=by
 refine⟨fun i=> ?_,fun f hf=> ?_⟩
 ·show(dK (lj i) (gH (jU day l) i)).length≤_
  rw[fR]
  exact Nat.le_trans (sI _ _) (Nat.le_trans (xK day l) hl)
 ·have:=yh (GB (i:=4) hf);omega
theorem Jm(x:List Y6):O0 (mk x []):=by
 have hn:=vx x
 have hlen:(mk x []).steps.length=eM x:=yi x (eM x)
 have qQ: ∀s∈(mk x []).steps,∃i y,i<eM x∧s=oM y (eM x) i:=by
  intro s hs
  obtain⟨i,hi,rfl⟩:=List.mem_map.1 (show s∈(List.range (eM x)).map fun i=>oM (x.getD i yj) (eM x) i from hs)
  exact⟨i,_,List.mem_range.1 hi,rfl⟩
 have jK: ∀s∈(mk x []).steps,(∀m∈s.next,0≤m∧m<(eM x:Int))∧s.next.length≤100000:=by
  intro s hs
  obtain⟨i,y,hi,rfl⟩:=qQ s hs
  show(∀m∈gL y (eM x) i,_)∧(gL y (eM x) i).length≤_
  have h3:=(dq (c:=y.y3.tdiv 12) (n:=3) (by decide)).1
  unfold gL
  split
  ·rename_i h
   split
   ·rename_i h2
    refine⟨fun m hm=> ?_,by simp⟩
    rcases List.mem_cons.1 hm with rfl|hm
    ·omega
    ·obtain rfl:=List.mem_singleton.1 hm
     omega
   ·refine⟨fun m hm=> ?_,by simp⟩
    obtain rfl:=List.mem_singleton.1 hm
    omega
  ·exact⟨fun m hm=>absurd hm List.not_mem_nil,by simp⟩
 refine⟨fun e=> ?_,fun s hs=> ?_,fun s hs m hm=> ?_,fun s hs=> ?_,fun s hs=>(jK s hs).2⟩
 ·rw[e]at hlen;simp at hlen;omega
 ·obtain⟨i,y,hi,rfl⟩:=qQ s hs
  show fP y≠[]
  unfold fP;simp
 ·rw[hlen];exact(jK s hs).1 m hm
 ·obtain⟨i,y,hi,rfl⟩:=qQ s hs
  rw[hlen]
  show(if aO y.y4 4=0 then aO (y.y4.tdiv 4) (i+1)else -1)<_
  split
  ·have:=(dq (c:=y.y4.tdiv 4) (n:=(i:Int)+1) (by omega)).2;omega
  ·omega
theorem yk(f:bV)(waf idn time:Int): ∀(cs:List Int) (n:Nat) (out:List bc),(uU f waf idn time cs n out).length≤out.length+n
 |[],_,out=>Nat.le_add_right ..
 |_::_,0,out=>Nat.le_refl _
 |c::cs,n+1,out=>by
  rw[uU]
  split
  ·omega
  ·have:=yk f waf idn time cs n (out++[Em f waf idn time c out])
   simp only[List.length_append,List.length_cons,List.length_nil]at this
   omega
theorem En(t:List UInt8):(Eo t).length=124:=by simp[Eo,Cb]
def bn(c:Bool)(k:Int):Int:=bif c then k else 0
theorem NI(c1 c2 c3 c4 c5 c6:Bool):B9 (B6 [c1,c2,c3,c4,c5,c6])=bn c1 1+bn c2 2+bn c3 4+bn c4 8+bn c5 16+bn c6 32:=by
 cases c1<;>cases c2<;>cases c3<;>cases c4<;>cases c5<;>cases c6<;>rfl
theorem Cc(z:Y7):0≤(r3 z).step:=(dq (c:=z.z1) (n:=5) (by decide)).1
end Go.Proofs.YtebobfdheanknaaGreatDoor
namespace Go.K
open Go Go.RowKit
variable {F:Fence} {P:Program} {N:Nat} {ds:List Deferred} {l:Env} {w:World} {Q Q':Exit→Act→World→Prop} {ops:Array Oper} {os:List Oper} {c:Code}
theorem u6(hq: ∀e a w,Q e a w→Q' e a w): ∀(os:List Oper) (a:Act) (w:World),wpListIn F 0 P ops Q os a w→wpListIn F 0 P ops Q' os a w:=by
 intro os
 induction os with
 |nil=>exact fun a w h=>hq _ _ _ h
 |cons o os ih=>
  intro a w h
  simp only[wpListIn]at h⊢
  split
  ·rename_i hw
   simp only[hw,if_true]at h
   have h':=Oper.wpIn_mono (ih · ·) h
   unfold Oper.wpIn at h'⊢
   refine⟨h'.1,?_⟩
   have h':=h'.2
   generalize(o.semAt F.round a.eval).run P w=r at h'⊢
   have EM:LetsOut Q→LetsOut Q':=fun⟨a,w,h⟩=>⟨a,w,hq _ _ _ h⟩
   cases r with
   |ok x w'=>
    cases x<;>simp only[Oper.uponIn]at h'⊢ <;>
     first
      |exact h'
      |exact⟨h'.1,CallsIn.mono h'.2 (fun e G2 he=>by cases e<;>first|exact he|exact hq _ _ _ he|exact EM he)⟩
      |exact⟨h'.1,RoundIn.mono h'.2 (fun e G2 he=>by cases e<;>first|exact he|exact hq _ _ _ he|exact EM he)⟩
   |halt x w'=>cases x<;>simp only[Oper.uponIn]at h'⊢ <;>first|exact h'|exact hq _ _ _ h'
  ·rename_i hw
   simp only[hw]at h
   exact⟨h.1,ih _ _ h.2⟩
theorem Jp{J':Act→World→Prop}(J:Act→World→Prop)(h:WL F P N ds ops (Exit.then (c.wpIn F 0 P (Exit.then J Q)) (Exit.then J Q)) os l w)(h2: ∀a w,J a w→J' a w):WL F P N ds ops (Exit.then (c.wpIn F 0 P (Exit.then J' Q)) (Exit.then J' Q)) os l w:=by
 have e: ∀e a w,Exit.then J Q e a w→Exit.then J' Q e a w:=fun e a w hq=>by cases e<;>first|exact h2 _ _ hq|exact hq
 refine fun a ha=>u6 (fun x a w hq=> ?_) os a w (h a ha)
 cases x<;>first|exact Go.wpIn_mono hq e|exact hq
end Go.K
namespace Go.Proofs.YtebobfdheanknaaGreatDoor
open Go Go.K
set_option maxRecDepth 10000
attribute [local irreducible] W WL cT bu bX bA bB bD cW cG
set_option maxHeartbeats 20000000
theorem Cd{g:G}{s:bV⊕Nat}{r:Value}(h:ke g s r): ∃(f:bV) (v:Value) (k e:Int),r= .tuple #[v,.int .i64 k,.int .i64 e]∧fA g v f∧((s= .inl f∧e=0)∨((∃n,s= .inr n)∧e=40)):=by
 unfold ke at h
 split at h
 ·rename_i f
  obtain⟨v,e,h⟩:=h
  exact⟨f,v,0,0,e,h,.inl ⟨rfl,rfl⟩⟩
 ·rename_i k
  exact⟨tg,Ep,k,40,h,⟨none,0,0,none,0,0,rfl,Rs.nil _,Rs.nil _⟩,.inr ⟨⟨k,rfl⟩,rfl⟩⟩
def oj(b:fX)(a:hQ):Int:=
 match fB b a.waf a.time with
 |none=>1
 |some f=>bn (!(mz b a.waf a.time).contains a.step) 2+bn ((gR (some f) a.step).isSome&& !((gR (some f) a.step).getD jW).dB.contains a.tool) 4+bn ((gR (some f) a.step).isSome&&((gR (some f) a.step).getD jW).dD !=a.rcp) 8
theorem jz{b:fX}{a:hQ}(h:fB b a.waf a.time=none):oj b a=1:=by unfold oj;rw[h]
theorem oN{b:fX}{a:hQ}{f:bV}(h:fB b a.waf a.time=some f):oj b a=bn (!(mz b a.waf a.time).contains a.step) 2+bn ((gR (some f) a.step).isSome&& !((gR (some f) a.step).getD jW).dB.contains a.tool) 4+bn ((gR (some f) a.step).isSome&&((gR (some f) a.step).getD jW).dD !=a.rcp) 8:=by unfold oj;rw[h]
theorem tB(c:Bool){k:Int}(h:0≤k):0≤bn c k∧bn c k≤k:=by cases c<;>simp[bn,h]
theorem yl(b:fX)(a:hQ):0≤oj b a∧oj b a≤14:=by
 cases h:fB b a.waf a.time with
 |none=>rw[jz h];decide
 |some f=>
  rw[oN h]
  have h1:=tB (!(mz b a.waf a.time).contains a.step) (k:=2) (by decide)
  have h2:=tB ((gR (some f) a.step).isSome&& !((gR (some f) a.step).getD jW).dB.contains a.tool) (k:=4) (by decide)
  have h3:=tB ((gR (some f) a.step).isSome&&((gR (some f) a.step).getD jW).dD !=a.rcp) (k:=8) (by decide)
  omega
theorem Er(b:fX)(a:hQ):th b a=oj b a+bn (!b.sE.any (pD a.tool a.cham a.rcp a.rvn a.time)) 16+bn (decide ((0:Int)<((oI b a).length:Nat))) 32:=by
 unfold th rn B5
 rw[NI]
 cases h:fB b a.waf a.time with
 |none=>rw[jz h];simp[bn,gR]
 |some f=>
  rw[oN h]
  show bn (!(some f).isSome) 1+bn ((some f).isSome&&_) 2+_+_+_+_=_
  have e:mz b a.waf a.time=wH (some f) (jb b a.waf a.time):=by unfold mz;rw[h]
  rw[e]
  simp[bn]
theorem Ce(v0:Value)(x:List Y6)(v1:Value)(cs:List Int)(v2:Value)(raw:List bc)(z:Y7)(g:G)(bM:iw g)(aH:Rs g v0 x)(hx: ∀y∈x,y.fit)(aT:Rs g v1 cs)(mG: ∀c∈cs,mH c)(bT:Rs g v2 raw)(hr: ∀f∈raw,Ky f)(hz:z.fit):
  CallsIn Wd 0 Tryz.prog 5 #[v0,v1,v2,.agg (NJ z).toArray] g.w (cR g fun _ r=>r= .bool true):=by
 have hs:=St.start g
 have aq:=G.le.refl g
 refine enter Tryz.func5 rfl Tryz.ntmps5 rfl ?_
 apply c_
 refine an rfl rfl (aR rfl hs rfl rfl ?_);clear hs;rintro b7 g1 hs ah;obtain⟨aq,aH,aT,bT,bM⟩:=kN ah aq aH aT bT bM
 obtain⟨g2,bR,aU,ah,aL⟩:=hs.a_ (i:=0) rfl;replace hs:=aU;clear aU;rw[←bR];obtain⟨aq,aH,aT,bT,bM⟩:=kN ah aq aH aT bT bM
 have aC:EP g2 b7 0 (NJ z):=aL;clear aL
 refine ba rfl ?_;apply c_
 refine an rfl rfl (ay Ps aI rfl rfl rfl rfl rfl (Jn _ bM) ?_);rintro g1 _ aN rfl;replace hs:=hs.call aN;have ah:=aN.le;obtain⟨aq,aC,aH,aT,bT,bM⟩:=iu ah aq aC aH aT bT bM
 clear aN
 refine ba rfl ?_;refine cP 1 rfl ?_
 refine an rfl rfl (ay Pt aI rfl rfl rfl rfl rfl (NK _ x _ aH hx) ?_)
 rintro g1 _ aN ⟨u1,u2,rfl,⟨cells,hh,eK⟩,dI⟩
 obtain rfl:=kX eK
 replace hs:=hs.gJ aN hh;have ah:=aN.le;obtain⟨aq,aC,aT,bT,bM⟩:=kN ah aq aC aT bT bM
 clear hh eK aN
 have MR:=En (Cf (mk x []))
 generalize Eo (Cf (mk x []))=l1 at*
 obtain⟨ad,c8,rfl⟩:=(hs.own 0 _ rfl).1.form
 replace hs:St g g1 [rF ad c8 l1]:=hs
 have GC:=Jm x
 generalize mk x []=f at*
 obtain⟨a1,n1,c1,a2,n2,c2,rfl,_,_⟩:=id dI
 refine Wp 3 rfl ?_
 refine an rfl rfl (aK T.ok rfl hs rfl rfl ?_);clear hs;rintro we g1 hs ah;obtain⟨aq,aC,aT,bT,dI,bM⟩:=iu ah aq aC aT bT dI bM
 refine Wp 1 rfl ?_
 refine bg rfl (aA T.ok 0 rfl hs rfl rfl rfl rfl rfl rfl rfl rfl rfl ?_);replace hs:=hs;rintro g1 hs ah;obtain⟨aq,aC,aT,bT,dI,bM⟩:=iu ah aq aC aT bT dI bM
 obtain⟨g2,bR,aU,ah,aL⟩:=hs.a_ (i:=0) rfl;replace hs:=aU;clear aU;rw[←bR];obtain⟨aq,aC,aT,bT,dI,bM⟩:=iu ah aq aC aT bT dI bM
 have aP:EP g2 we 0 [.int .i64 f.ck,.int .i64 f.cu,.slice a1 n1 c1,.slice a2 n2 c2]:=aL;clear aL
 replace hs:St g g2 [rF ad c8 l1]:=hs
 apply cf;refine dx 3 [.z aP] (St.start _) rfl ?_
 refine an rfl rfl (ay Pu aI rfl rfl rfl rfl rfl (Es _ _ f cs 8 1 500 10 _ dI aT GC mG (by omega) ⟨by omega,by omega⟩ ⟨by omega,by omega⟩) ?_);rintro g1 _ aN dz;replace hs:=hs.call aN;have ah:=aN.le;obtain⟨aq,aC,aP,aT,bT,dI⟩:=iu ah aq aC aP aT bT dI;replace bM:=bM.mono ah
 clear aN
 have sP:=yk f 1 500 10 cs 8 []
 generalize uU f 1 500 10 cs 8 []=l2 at*
 obtain⟨a4,c4,rfl⟩:=dz.isSlice
 obtain⟨_,news,SH,Ie⟩:=Src.jq dz
 obtain rfl:=kX SH
 have sP:l2.length≤8:=by simpa using sP
 skip
 refine an rfl rfl (b_ T.ok 0 rfl hs rfl rfl rfl rfl rfl rfl rfl (by decide) rfl Ie (zP g1 l2) (by show(l1.length+l2.length)*160≤_;omega) (by unfold maxLen;omega) ?_);rintro a6 c6 g10 hs ah;obtain⟨aq,aC,aP,aT,bT,dI⟩:=iu ah aq aC aP aT bT dI;replace bM:=bM.mono ah
 have x_:(l1++l2).length=l1.length+l2.length:=List.length_append
 replace hs:St g g10 [rF a6 c6 (l1++l2)]:=by unfold rF;rw[lr,x_];exact hs
 rw[←x_]
 generalize l1++l2=l3 at*
 clear dz dI aP SH Ie aH aT
 refine ba rfl ?_;refine cP 2 rfl ?_
 refine an rfl rfl (ay Pw aI rfl rfl rfl rfl rfl (Jo _ raw 15 _ bT (by omega) hr) ?_);rintro g1 _ aN dj;replace hs:=hs.call aN;have ah:=aN.le;obtain⟨aq,aC,bT,bM⟩:=dE ah aq aC bT bM
 clear aN
 have Wq:(ym raw 15).length≤15:=by unfold ym tC;rw[List.length_map,List.length_map,List.length_take];omega
 generalize ym raw 15=l4 at*
 obtain⟨a5,c5,rfl⟩:=dj.isSlice
 obtain⟨_,news,SI,Ig⟩:=Src.jq dj
 obtain rfl:=kX SI
 skip
 refine an rfl rfl (b_ T.ok 0 rfl hs rfl rfl rfl rfl rfl rfl rfl (by decide) rfl Ig (zP g1 l4) (by show(l3.length+l4.length)*160≤_;omega) (by unfold maxLen;omega) ?_);rintro a7 c7 g11 hs ah;obtain⟨aq,aC,bT,dj,bM⟩:=kN ah aq aC bT dj bM
 have NL:(l3++l4).length=l3.length+l4.length:=List.length_append
 replace hs:St g g11 [rF a7 c7 (l3++l4)]:=by unfold rF;rw[lr,NL];exact hs
 rw[←NL]
 generalize l3++l4=l5 at*
 clear dj SI Ig bT
 obtain⟨g8,xD,qO,ah,pk⟩:=hs.cL (α:=bc) (i:=0) rfl (cO.fl _ _)
 rw[←xD];(repeat clear hs);have hs:St g g8 []:=qO;clear qO;obtain⟨aq,aC,bM⟩:=ef ah aq aC bM;clear xD
 skip
 refine an rfl rfl (ay Pv aI rfl rfl rfl rfl rfl (Qs _ l5 100000 _ pk (by omega)) ?_);rintro g1 _ aN bI;replace hs:=hs.call aN;have ah:=aN.le;obtain⟨aq,aC,bM⟩:=ef ah aq aC bM
 clear aN pk
 have hK:=NH (l:=l5) 100000 (by omega)
 generalize ofM l5 100000=b at*
 obtain⟨sl,rfl,jr⟩:=id bI
 have pK:((List.range 11).map sl).all Value.oneCell'=true:=by
  rw[List.all_eq_true]
  intro u hu
  obtain⟨i,hi,rfl⟩:=List.mem_map.1 hu
  obtain⟨_,_,e⟩:=(jr i (List.mem_range.1 hi)).isSlice
  rw[e];rfl
 clear jr
 skip
 refine an rfl rfl (aK T.ok rfl hs rfl rfl ?_);clear hs;rintro BO g1 hs ah;obtain⟨aq,aC,bI,bM⟩:=dE ah aq aC bI bM
 skip
 refine bg rfl (aA T.ok 0 rfl hs rfl rfl rfl rfl rfl rfl pK rfl rfl ?_);replace hs:=hs;rintro g1 hs ah;obtain⟨aq,aC,bI,bM⟩:=dE ah aq aC bI bM
 obtain⟨g2,bR,aU,ah,aL⟩:=hs.a_ (i:=0) rfl;replace hs:=aU;clear aU;rw[←bR];obtain⟨aq,aC,bI,bM⟩:=dE ah aq aC bI bM
 have aP:EP g2 BO 0 ((List.range 11).map sl):=aL;clear aL
 replace hs:St g g2 []:=hs
 apply cf;refine dx 1 [.z aC] (St.start _) rfl ?_
 refine an rfl rfl (ay Py aI rfl rfl rfl rfl rfl (NM z _ hz) ?_);rintro g1 _ aN rfl;replace hs:=hs.call aN;have ah:=aN.le;obtain⟨aq,aC,aP,bI,bM⟩:=kN ah aq aC aP bI bM
 clear aN aC
 have hA:=Cc z
 generalize r3 z=A at*
 skip
 refine an rfl rfl (aK T.ok rfl hs rfl rfl ?_);clear hs;rintro FY g1 hs ah;obtain⟨aq,aP,bI,bM⟩:=dE ah aq aP bI bM
 skip
 refine bg rfl (aA T.ok 0 rfl hs rfl rfl rfl rfl rfl rfl rfl rfl rfl ?_);replace hs:=hs;rintro g1 hs ah;obtain⟨aq,aP,bI,bM⟩:=dE ah aq aP bI bM
 obtain⟨g2,bR,aU,ah,aL⟩:=hs.a_ (i:=0) rfl;replace hs:=aU;clear aU;rw[←bR];obtain⟨aq,aP,bI,bM⟩:=dE ah aq aP bI bM
 have aC:EP g2 FY 0 (pE A):=aL;clear aL
 replace hs:St g g2 []:=hs
 apply cf;refine aX rfl ?_;refine dx 5 [.z aP,.z aC,.z aC] (St.start _) rfl ?_
 have ly:fB b A.waf A.time=fB b A.waf A.time:=rfl
 conv at ly=>rhs;unfold fB
 refine an rfl rfl (ay IP aI rfl rfl rfl rfl rfl (D4 _ b A.waf A.time _ bI) ?_);rintro g1 _ aN rfl;replace hs:=hs.call aN;have ah:=aN.le;obtain⟨aq,aC,aP,bI,bM⟩:=kN ah aq aC aP bI bM
 clear aN
 generalize((pG b A.waf A.time).getD gF).prod=pr at*
 refine ba rfl ?_;refine dx 2 [.z aP] (St.start _) rfl ?_
 refine an rfl rfl (ay KR aI rfl rfl rfl rfl rfl (A5 _ b pr _ bI) ?_);rintro g1 _ aN rfl;replace hs:=hs.call aN;have ah:=aN.le;obtain⟨aq,aC,aP,bI,bM⟩:=kN ah aq aC aP bI bM
 clear aN
 have Sl:((b.oc.find? fun f=>f.prod==pr).getD gF).text.length≤999999:=by
  cases B2:b.oc.find? fun f=>f.prod==pr with
  |none=>decide
  |some t=>exact hK.text t (List.mem_of_find?_eq_some B2)
 generalize(b.oc.find? fun f=>f.prod==pr)=od at*
 refine Wp 3 rfl ?_
 refine an rfl rfl (aK T.ok rfl hs rfl rfl ?_);clear hs;rintro Pr g1 hs ah;obtain⟨aq,aC,aP,bI,bM⟩:=kN ah aq aC aP bI bM
 skip
 refine bg rfl (aA T.ok 0 rfl hs rfl rfl rfl rfl rfl rfl rfl rfl rfl ?_);replace hs:=hs;rintro g1 hs ah;obtain⟨aq,aC,aP,bI,bM⟩:=kN ah aq aC aP bI bM
 obtain⟨g2,bR,aU,ah,aL⟩:=hs.a_ (i:=0) rfl;replace hs:=aU;clear aU;rw[←bR];obtain⟨aq,aC,aP,bI,bM⟩:=kN ah aq aC aP bI bM
 have dO:EP g2 Pr 0 (bW (od.getD gF)):=aL;clear aL
 replace hs:St g g2 []:=hs
 refine ba rfl ?_;refine dx 2 [.z dO] (St.start _) rfl ?_
 refine an rfl rfl (ay KS aI rfl rfl rfl rfl rfl (A9 (od.getD gF).text _ Sl bM) ?_);rintro g1 _ aN SJ;replace hs:=hs.call aN;have ah:=aN.le;obtain⟨aq,aC,aP,bI,bM⟩:=kN ah aq aC aP bI bM
 clear aN
 obtain⟨f,v,k,e,rfl,dI,FQ⟩:=Cd SJ
 clear SJ
 obtain⟨a1,n1,c1,a2,n2,c2,rfl,aT,bT⟩:=id dI
 refine Wp 4 rfl ?_
 refine an rfl rfl (aK T.ok rfl hs rfl rfl ?_);clear hs;rintro O1 g1 hs ah;obtain⟨aq,aC,aP,aT,bT,dI⟩:=iu ah aq aC aP aT bT dI;obtain⟨bI,bM⟩:=cC ah bI bM
 skip
 refine bg rfl (aA T.ok 0 rfl hs rfl rfl rfl rfl rfl rfl rfl rfl rfl ?_);replace hs:=hs;rintro g1 hs ah;obtain⟨aq,aC,aP,aT,bT,dI⟩:=iu ah aq aC aP aT bT dI;obtain⟨bI,bM⟩:=cC ah bI bM
 obtain⟨g2,bR,aU,ah,aL⟩:=hs.a_ (i:=0) rfl;replace hs:=aU;clear aU;rw[←bR];obtain⟨aq,aC,aP,aT,bT,dI⟩:=iu ah aq aC aP aT bT dI;obtain⟨bI,bM⟩:=cC ah bI bM
 have mg:EP g2 O1 0 [.int .i64 f.ck,.int .i64 f.cu,.slice a1 n1 c1,.slice a2 n2 c2]:=aL;clear aL
 replace hs:St g g2 []:=hs
 clear dO
 refine ba rfl ?_;apply aB;refine cP 3 rfl ?_
 obtain⟨rfl,_,_⟩:=aT.oL
 refine GD (l':=[(64,.bool (pr==0)),(9,.bool true),(12,.pointer (some ⟨BO,0,none⟩)),(13,.pointer (some ⟨FY,0,none⟩)),(14,.int .i64 0),(18,.bool od.isSome),(19,.pointer (some ⟨O1,0,none⟩)),(21,.int .i64 e)]) (by(repeat (first|exact trivial|refine⟨rfl,?_⟩))) ?_
 refine Jp (fun a' w=> ∃g',w=g'.w∧St g g' []∧G.le g g'∧ln g' (.agg ((List.range 11).map sl).toArray) b∧iw g'∧EP g' BO 0 ((List.range 11).map sl)∧EP g' FY 0 (pE A)∧Fr 161 [] [(9,.bool true),(12,.pointer (some ⟨BO,0,none⟩)),(13,.pointer (some ⟨FY,0,none⟩)),(14,.int .i64 (oj b A))] a') ?_ ?_
 ·cases hp:pr==0 with
  |true=>
   have Uo:pr=0:=by simpa using hp
   replace ly:fB b A.waf A.time=none:=by rw[ly,if_pos Uo]
   refine ba rfl ?_
   refine aJ rfl rfl ?_
   apply ar;refine Wp 1 rfl ?_;apply aD
   exact fun a ha=>⟨_,rfl,hs,aq,bI,bM,aP,aC,ha.keep ⟨rfl,rfl,rfl,kI rfl (jz ly).symm,trivial⟩⟩
  |false=>
   rw[if_neg (by simpa using hp)]at ly
   refine Wp 4 rfl ?_
   cases od with
   |none=>
    replace ly:fB b A.waf A.time=none:=ly
    refine ba rfl ?_
    refine aJ rfl rfl ?_
    apply ar;refine Wp 1 rfl ?_;apply aD
    exact fun a ha=>⟨_,rfl,hs,aq,bI,bM,aP,aC,ha.keep ⟨rfl,rfl,rfl,kI rfl (jz ly).symm,trivial⟩⟩
   |some t=>
    refine Wp 4 rfl ?_
    rcases FQ with⟨FQ,rfl⟩|⟨⟨k2,FQ⟩,rfl⟩
    ·replace FQ:lx t.text= .inl f:=FQ
     replace ly:fB b A.waf A.time=if(check f).1=0 then some f else none:=by rw[ly];simp only[FQ]
     skip
     refine Wm 1 [.e mg 0] (St.start _) rfl ?_
     refine an rfl rfl (ay KT aI rfl rfl rfl rfl rfl (A_ _ f _ dI) ?_);rintro g1 _ aN ⟨a9,n9,c9,rfl,Up⟩;replace hs:=hs.call aN;have ah:=aN.le;obtain⟨aq,aC,aP,mg,aT,bT⟩:=iu ah aq aC aP mg aT bT;obtain⟨dI,bI,bM⟩:=ef ah dI bI bM
     clear aN Up
     refine ba rfl ?_
     cases Ba:(check f).1 !=0 with
     |true=>
      replace ly:fB b A.waf A.time=none:=by rw[ly,if_neg (by simpa using Ba)]
      skip
      refine aJ rfl rfl ?_
      apply ar;refine Wp 1 rfl ?_;apply aD
      exact fun a ha=>⟨_,rfl,hs,aq,bI,bM,aP,aC,ha.keep ⟨rfl,rfl,rfl,kI rfl (jz ly).symm,trivial⟩⟩
     |false=>
      replace ly:fB b A.waf A.time=some f:=by rw[ly,if_pos (by simpa using Ba)]
      refine aS rfl rfl ?_
      have hw:=oN ly
      apply aB;apply aB
      apply bO hs (gE (fe (.f (Fact.rs (mz b A.waf A.time))::eJ (.e (.bool ((mz b A.waf A.time).contains A.step))::fe [])))) 10 [(9,87)] (by kernel_rfl) rfl
      ·refine Dm [[],[],[1],[],[3]] [.z aP,.z aC,.z aC] hs (by kernel_rfl) rfl ?_
       refine aw (ak (js:=[(0,78),(2,80),(4,82)]) (by kernel_rfl) fun gd hf=>ai rfl (ai rfl (ai rfl (aj (az rfl (ay IN aI rfl rfl rfl rfl rfl (wI _ b A.waf A.time gd (bI.mono ((G.bJ _).trans hf.le)) hK (bM.mono ((G.bJ _).trans hf.le))) fun g' v h1 h2=>⟨g',rfl,h1,h2⟩)))))) ?_
       refine Dm [[],[6]] [.z aC] hs (by kernel_rfl) rfl ?_
       refine aw (ak (js:=[(5,83),(7,85),(5,83)]) (by kernel_rfl) fun gd hf=>aY fun _ _=>ai rfl (aY fun v5 h5=>aj (az rfl (ay KU aI rfl rfl rfl rfl rfl (Ek _ _ A.step gd h5) fun g' v h1 h2=>⟨g',rfl,h1,h2⟩)))) ?_
       exact Dz [[8]] [] hs (by kernel_rfl) rfl
      (repeat clear hs);intro g6 hs ah;obtain⟨aq,aC,aP,mg,aT,bT⟩:=iu ah aq aC aP mg aT bT;obtain⟨dI,bI,bM⟩:=ef ah dI bI bM
      apply cf
      generalize(mz b A.waf A.time).contains A.step=cn at*
      refine lL (fun a' w=>w=g6.w∧Fr 161 [] [(9,.bool true),(12,.pointer (some ⟨BO,0,none⟩)),(13,.pointer (some ⟨FY,0,none⟩)),(19,.pointer (some ⟨O1,0,none⟩)),(14,.int .i64 (bn (!cn) 2))] a') ?_ ?_
      ·cases cn with
       |true=>
        refine aS rfl rfl ?_
        apply aE
        exact fun a ha=>⟨rfl,ha.keep ⟨rfl,rfl,rfl,rfl,rfl,trivial⟩⟩
       |false=>
        refine aJ rfl rfl ?_
        apply ar;refine Wp 3 rfl ?_;apply aD
        exact fun a ha=>⟨rfl,ha.keep ⟨rfl,rfl,rfl,rfl,kI rfl (by decide),trivial⟩⟩
      rintro a' _ ⟨rfl,eI⟩
      revert a'
      apply cQ;apply aB;apply aB
      by_cases dm:A.step<(f.steps.length:Int)
      ·have bh:A.step.toNat<f.steps.length:=by omega
       have qF:gR (some f) A.step=some f.steps[A.step.toNat]:=(if_neg (by omega)).trans (List.getElem?_eq_getElem bh)
       rw[qF]at hw
       obtain⟨b0,p0,ys,rfl,vy,hx⟩:=aT.at (i:=A.step.toNat) (List.getElem?_eq_getElem bh)
       generalize f.steps[A.step.toNat]=s at*
       obtain⟨a7,n7,c7,a8,n8,c8,rfl,eg,fq⟩:=hx
       clear fq
       replace hw:oj b A=bn (!cn) 2+bn (!s.dB.contains A.tool) 4+bn (s.dD !=A.rcp) 8:=hw
       apply bO hs (gE (fe (.e (.bool true)::fj (gE (fe []))))) 19 [(18,108)] (by kernel_rfl) rfl
       ·refine Dm [[],[0],[],[2],[3]] [.z aC,.z mg] hs (by kernel_rfl) rfl ?_
        refine aw (ak (js:=[(1,91),(4,94)]) (by kernel_rfl) fun gd hf=>ai rfl (ai rfl (aj (az rfl (aM _ T.ok rfl ⟨gd,rfl,aZ.refl _,congrArg Value.bool (decide_eq_true dm)⟩))))) ?_
        refine Dm [[5],[6],[7,6],[6],[9,6]] [.z mg,.z aC] hs (by kernel_rfl) rfl ?_
        refine aw (ak (js:=[(8,98),(10,100),(6,96)]) (by kernel_rfl) fun gd hf=>ai rfl (ai rfl (ai rfl (aj (az rfl (fT T.ok rfl rfl rfl hA bh rfl rfl rfl ⟨gd,rfl,aZ.refl _,rfl⟩)))))) ?_
        exact Dz [[11,6],[12,6],[6],[14,6],[13,15,6,6],[16,6],[6,17]] [.e vy 1,.z aC,.c KU fun g' h=>Ek _ s.dB A.tool g' (eg.mono h)] hs (by kernel_rfl) rfl
       (repeat clear hs);intro g7 hs ah;obtain⟨aq,aC,aP,mg,vy,aT⟩:=iu ah aq aC aP mg vy aT;obtain⟨bT,dI,bI,bM⟩:=dE ah bT dI bI bM
       apply cf
       generalize s.dB.contains A.tool=ct at*
       refine lL (fun a' w=>w=g7.w∧Fr 161 [] [(9,.bool true),(12,.pointer (some ⟨BO,0,none⟩)),(13,.pointer (some ⟨FY,0,none⟩)),(19,.pointer (some ⟨O1,0,none⟩)),(14,.int .i64 (bn (!cn) 2+bn (!ct) 4))] a') ?_ ?_
       ·cases ct with
        |true=>
         refine aS rfl rfl ?_
         apply aE
         exact fun a ha=>⟨rfl,ha.keep ⟨rfl,rfl,rfl,rfl,kI rfl (by cases cn<;>rfl),trivial⟩⟩
        |false=>
         refine aJ rfl rfl ?_
         apply ar;refine Wp 3 rfl ?_;apply aD
         exact fun a ha=>⟨rfl,ha.keep ⟨rfl,rfl,rfl,rfl,kI rfl (by cases cn<;>rfl),trivial⟩⟩
       rintro a' _ ⟨rfl,eI⟩
       revert a'
       apply cQ;apply aB
       apply bO hs (gE (fe (.e (.bool true)::fj (gE [])))) 18 [(17,128)] (by kernel_rfl) rfl
       ·refine Dm [[],[0],[],[2],[3]] [.z aC,.z mg] hs (by kernel_rfl) rfl ?_
        refine aw (ak (js:=[(1,112),(4,115)]) (by kernel_rfl) fun gd hf=>ai rfl (ai rfl (aj (az rfl (aM _ T.ok rfl ⟨gd,rfl,aZ.refl _,congrArg Value.bool (decide_eq_true dm)⟩))))) ?_
        refine Dm [[5],[6],[7,6],[6],[9,6]] [.z mg,.z aC] hs (by kernel_rfl) rfl ?_
        refine aw (ak (js:=[(8,119),(10,121),(6,117)]) (by kernel_rfl) fun gd hf=>ai rfl (ai rfl (ai rfl (aj (az rfl (fT T.ok rfl rfl rfl hA bh rfl rfl rfl ⟨gd,rfl,aZ.refl _,rfl⟩)))))) ?_
        exact Dz [[11,6],[12,6],[6],[14,6],[13,15,6],[6,16]] [.e vy 0,.z aC] hs (by kernel_rfl) rfl
       (repeat clear hs);intro g8 hs ah;obtain⟨aq,aC,aP,mg,aT,bT⟩:=iu ah aq aC aP mg aT bT;obtain⟨dI,bI,bM⟩:=ef ah dI bI bM
       apply cf
       cases eK:s.dD !=A.rcp with
       |false=>
        refine aS rfl rfl ?_
        apply aE
        exact fun a ha=>⟨_,rfl,hs,aq,bI,bM,aP,aC,ha.keep ⟨rfl,rfl,rfl,kI rfl (by rw[hw,eK];cases cn<;>cases ct<;>rfl),trivial⟩⟩
       |true=>
        refine aJ rfl rfl ?_
        apply ar;refine Wp 3 rfl ?_;apply aD
        exact fun a ha=>⟨_,rfl,hs,aq,bI,bM,aP,aC,ha.keep ⟨rfl,rfl,rfl,kI rfl (by rw[hw,eK];cases cn<;>cases ct<;>rfl),trivial⟩⟩
      ·have qF:gR (some f) A.step=none:=(if_neg (by omega)).trans (List.getElem?_eq_none (by omega))
       rw[qF]at hw
       apply bO hs (gE (fe (.e (.bool false)::fj (gE (fe []))))) 19 [(18,108)] (by kernel_rfl) rfl
       ·refine Dm [[],[0],[],[2],[3]] [.z aC,.z mg] hs (by kernel_rfl) rfl ?_
        refine aw (ak (js:=[(1,91),(4,94)]) (by kernel_rfl) fun gd hf=>ai rfl (ai rfl (aj (az rfl (aM _ T.ok rfl ⟨gd,rfl,aZ.refl _,congrArg Value.bool (decide_eq_false dm)⟩))))) ?_
        exact Dz [[5],[6],[7,6],[6],[9,6],[8,10,6],[11,6],[12,6],[6],[14,6],[13,15,6,6],[16,6],[6,17]] [] hs (by kernel_rfl) rfl
       (repeat clear hs);intro g7 hs ah;obtain⟨aq,aC,aP,mg,aT,bT⟩:=iu ah aq aC aP mg aT bT;obtain⟨dI,bI,bM⟩:=ef ah dI bI bM
       apply cf
       refine aS rfl rfl ?_
       apply aE;apply au;apply aB
       apply bO hs (gE (fe (.e (.bool false)::fj (gE [])))) 18 [(17,128)] (by kernel_rfl) rfl
       ·refine Dm [[],[0],[],[2],[3]] [.z aC,.z mg] hs (by kernel_rfl) rfl ?_
        refine aw (ak (js:=[(1,112),(4,115)]) (by kernel_rfl) fun gd hf=>ai rfl (ai rfl (aj (az rfl (aM _ T.ok rfl ⟨gd,rfl,aZ.refl _,congrArg Value.bool (decide_eq_false dm)⟩))))) ?_
        exact Dz [[5],[6],[7,6],[6],[9,6],[8,10,6],[11,6],[12,6],[6],[14,6],[13,15,6],[6,16]] [] hs (by kernel_rfl) rfl
       (repeat clear hs);intro g8 hs ah;obtain⟨aq,aC,aP,mg,aT,bT⟩:=iu ah aq aC aP mg aT bT;obtain⟨dI,bI,bM⟩:=ef ah dI bI bM
       apply cf
       refine aS rfl rfl ?_
       apply aE
       exact fun a ha=>⟨_,rfl,hs,aq,bI,bM,aP,aC,ha.keep ⟨rfl,rfl,rfl,kI rfl (by rw[hw];cases cn<;>rfl),trivial⟩⟩
    ·replace FQ:lx t.text= .inr k2:=FQ
     replace ly:fB b A.waf A.time=none:=by rw[ly];simp only[FQ]
     refine ba rfl ?_
     refine aJ rfl rfl ?_
     apply ar;refine Wp 1 rfl ?_;apply aD
     exact fun a ha=>⟨_,rfl,hs,aq,bI,bM,aP,aC,ha.keep ⟨rfl,rfl,rfl,kI rfl (jz ly).symm,trivial⟩⟩
 (repeat clear hs);(repeat clear aq);(repeat clear bI);(repeat clear bM);(repeat clear aP);(repeat clear aC);clear ly FQ aT bT mg dI
 rintro a' _ ⟨g',rfl,hs,aq,bI,bM,aP,aC,eI⟩
 revert a'
 have O2:=Er b A
 have GF:=yl b A
 apply cQ;apply aB;refine dx 11 [.z aP,.z aC,.z aC,.z aC,.z aC,.z aC] (St.start _) rfl ?_
 refine an rfl rfl (ay KV aI rfl rfl rfl rfl rfl (DW _ b A.tool A.cham A.rcp A.rvn A.time _ bI) ?_);rintro g1 _ aN rfl;replace hs:=hs.call aN;have ah:=aN.le;obtain⟨aq,aC,aP,bI,bM⟩:=kN ah aq aC aP bI bM
 clear aN
 refine ba rfl ?_
 generalize b.sE.any (pD A.tool A.cham A.rcp A.rvn A.time)=cq at*
 refine lL (fun a' w=> ∃g',w=g'.w∧St g g' []∧ln g' (.agg ((List.range 11).map sl).toArray) b∧iw g'∧EP g' BO 0 ((List.range 11).map sl)∧EP g' FY 0 (pE A)∧Fr 161 [] [(9,.bool true),(12,.pointer (some ⟨BO,0,none⟩)),(13,.pointer (some ⟨FY,0,none⟩)),(14,.int .i64 (oj b A+bn (!cq) 16))] a') ?_ ?_
 ·cases cq with
  |true=>
   refine aS rfl rfl ?_
   apply aE
   exact fun a ha=>⟨_,rfl,hs,bI,bM,aP,aC,ha.keep ⟨rfl,rfl,rfl,kI rfl (Int.add_zero _).symm,trivial⟩⟩
  |false=>
   refine aJ rfl rfl ?_
   apply ar;refine Wp 3 rfl ?_;apply aD
   exact fun a ha=>⟨_,rfl,hs,bI,bM,aP,aC,ha.keep ⟨rfl,rfl,rfl,kI rfl (by rw[wr (by omega) (by omega)];rfl),trivial⟩⟩
 (repeat clear hs);(repeat clear aq);(repeat clear bI);(repeat clear bM);(repeat clear aP);(repeat clear aC)
 rintro a' _ ⟨g',rfl,hs,bI,bM,aP,aC,eI⟩
 revert a'
 have Uq:0≤bn (!cq) 16∧bn (!cq) 16≤16:=by cases cq<;>decide
 apply cQ;apply aB;refine dx 2 [.z aP,.z aC] (St.start _) rfl ?_
 refine an rfl rfl (ay KW aI rfl rfl rfl rfl rfl (A7 _ b A _ bI hK.size) ?_);rintro g1 _ aN dj;replace hs:=hs.call aN;have ah:=aN.le;obtain⟨aC,aP,bI,bM⟩:=dE ah aC aP bI bM
 clear aN
 obtain⟨a5,c5,rfl⟩:=dj.isSlice
 clear dj
 refine ba rfl ?_
 cases jr:decide ((0:Int)<((oI b A).length:Nat))with
 |true=>
  rw[jr]at O2
  refine aJ rfl rfl ?_
  apply ar;refine ba rfl ?_;refine dx 4 [.z aP,.z aC] (St.start _) rfl ?_
  refine an rfl rfl (ay wi aI rfl rfl rfl rfl rfl (D_ _ b A _ bI hK bM) ?_);rintro g1 _ aN rfl;replace hs:=hs.call aN;have ah:=aN.le;obtain⟨aC,aP,bI,bM⟩:=dE ah aC aP bI bM
  clear aN
  refine ba rfl ?_
  refine aF (aV rfl rfl (hs.ret (congrArg Value.bool ?_)))
  rw[beq_iff_eq,O2]
  exact(by rw[wr (by omega) (by omega)];rfl)
 |false=>
  rw[jr]at O2
  refine aS rfl rfl ?_
  apply aE;apply au;refine dx 4 [.z aP,.z aC] (St.start _) rfl ?_
  refine an rfl rfl (ay wi aI rfl rfl rfl rfl rfl (D_ _ b A _ bI hK bM) ?_);rintro g1 _ aN rfl;replace hs:=hs.call aN;have ah:=aN.le
  clear aN
  refine ba rfl ?_
  refine aF (aV rfl rfl (hs.ret (congrArg Value.bool ?_)))
  rw[beq_iff_eq,O2]
  exact(Int.add_zero _)
end Go.Proofs.YtebobfdheanknaaGreatDoor
namespace Go.Proofs.YtebobfdheanknaaGreatDoor
open Go Go.K Go.RowKit Go.ChangeShapes Go.WideShapes
set_option maxRecDepth 100000
theorem wY:ownKnob Tryz.prog.godebug=none:=by kernel_rfl
theorem laidOut:laidOutB Tryz.prog=true:=by kernel_rfl
theorem pQ:Tryz.prog.cellsOf 3=1:=by kernel_rfl
theorem EE:Tryz.prog.cellsOf 138=6:=by kernel_rfl
theorem nj:Tryz.prog.cellsOf 9=1:=by kernel_rfl
theorem JG:Tryz.prog.cellsOf 43=7:=by kernel_rfl
theorem yx:Tryz.prog.cellsOf 54=19:=by kernel_rfl
theorem Cm:Tryz.prog.cellsOf 4=1:=by kernel_rfl
def tI:List (String×DataW Unit):=[("math/bits.deBruijn32tab",Rows.laid_math_bits_deBruijn32tab),("math/bits.deBruijn64tab",Rows.laid_math_bits_deBruijn64tab),("internal/strconv.uint64pow10",Rows.laid_internal_strconv_uint64pow10),("unicode/utf8.acceptRanges",Rows.laid_unicode_utf8_acceptRanges),("strconv.ErrRange",Rows.laid_strconv_ErrRange),("strconv.ErrSyntax",Rows.laid_strconv_ErrSyntax),("unicode/utf8.first",Rows.laid_unicode_utf8_first)]
theorem NZ:Tryz.prog.globalNamed "strconv.ErrRange" =some 5:=by kernel_rfl
theorem N0:Tryz.prog.globalNamed "strconv.ErrSyntax" =some 4:=by kernel_rfl
theorem Q4:(Tryz.prog.globals[3]?).map (·.type)=some 320:=by kernel_rfl
theorem Q5:(Tryz.prog.globals[5]?).map (·.type)=some 209:=by kernel_rfl
theorem Q6:(Tryz.prog.globals[4]?).map (·.type)=some 209:=by kernel_rfl
theorem N1:(Rows.laid_internal_strconv_uint64pow10:DataW Unit)=Lib.tabData .u64 Lib.pow10Tab:=by kernel_rfl
theorem EF(u:TypeId)(h:Tryz.prog.typeName? 3 u=some "*errors.errorString"):u=329:=
 typeName_ptr_named (nm:= "errors.errorString") (by kernel_rfl) (by kernel_rfl) (by decide) u h
theorem wZ{W:World}{b:Nat}{v:Value}(hc:W.cell? ⟨b,0,none⟩=some v):EP (r_ W) b 0 [v]:=by
 refine⟨(qW hc).2,fun j y hy=> ?_⟩
 match j,hy with
 |0,hy=>simp at hy;subst hy;exact hc
 |j+1,hy=>simp at hy
theorem Cn{W:World}(mU:W.ShapedOpen Tryz.prog): ∃m,W.cell? ⟨0,0,none⟩=some (.int .i64 m):=Tryz.laysM220.s1_3 W mU
theorem Ac{P:Program}{w:World}{r:Reach}{base:Nat}{t e:TypeId}{n:Nat}{v:Value}(ht:P.underlying t=some (.array n e))(h:Value.okWide P w r base t v): ∃cs,v= .agg cs∧cs.size=P.cellsOf t:=by
 simp only[Value.okWide,ht]at h
 obtain⟨cs,h1,h2,_⟩:=h
 exact⟨cs,h1,h2⟩
theorem N2{W:World}(h:laidMet Tryz.prog tI W)(mU:W.ShapedOpen Tryz.prog):iw (r_ W):=by
 have h2:=h.tail.tail
 rw[show(("internal/strconv.uint64pow10",Rows.laid_internal_strconv_uint64pow10):String×DataW Unit)=("internal/strconv.uint64pow10",Lib.tabData .u64 Lib.pow10Tab)from by rw[N1]]at h2
 have hT:=Lib.tabIs_of_head JH Q4 Tryz.underlying320 Tryz.underlying245 (by kernel_rfl) (by kernel_rfl) h2
 have h4:=h.tail.tail.tail.tail
 have h5:=h4.tail
 obtain⟨a,s,hv,_⟩:=laid_sentinel h4 NZ Q5 Tryz.underlying209 EF Tryz.underlying329 Tryz.underlying331 rfl rfl Tryz.underlying9 (by kernel_rfl) nj
 obtain⟨a2,s2,Sk,_⟩:=laid_sentinel h5 N0 Q6 Tryz.underlying209 EF Tryz.underlying329 Tryz.underlying331 rfl rfl Tryz.underlying9 (by kernel_rfl) nj
 have hc:=World.var?_cell NZ hv 0
 have HX:=World.var?_cell N0 Sk 0
 have hc:W.cell? ⟨5,0,none⟩=some (.iface 329 (.pointer (some a))):=by simpa using hc
 have HX:W.cell? ⟨4,0,none⟩=some (.iface 329 (.pointer (some a2))):=by simpa using HX
 obtain⟨m,hm⟩: ∃m,W.cell? ⟨0,0,none⟩=some (.int .i64 m):=Cn mU
 have hp:=hT.cell JH 0 (by decide)
 exact⟨⟨m,wZ hm⟩,⟨(qW hp).2,hT⟩,⟨_,wZ HX,.inr ⟨_,_,rfl⟩⟩,⟨_,wZ hc,.inr ⟨_,_,rfl⟩⟩⟩
theorem yy{P:Program}{t:TypeId}{fs:Array Field}(ht:P.underlying t=some (.struct fs)){H:Type}{enc:TypeId×Value→H}{W:World}{fuel:Nat}{cs:List Value}{x:DataW H×List MemPlace}(h:DataW.trod enc P W 0 (fun _=>true) true fuel t cs=some x):
  cs.length=P.cellsOf t∧ ∀(i:Nat) (u:TypeId) (off:Nat),(fs[i]?).map (fun f=>(f.type,f.offset))=some (u,off)→ ∃n y,DataW.trod enc P W 0 (fun _=>true) true n u ((cs.drop off).take (P.cellsOf u))=some y:=by
 obtain⟨xs,n,_,_,hl,lG,hf⟩:=DataW.trod_struct ht h
 refine⟨hl,fun i u off UP=>⟨n,?_⟩⟩
 obtain⟨f,hi,e⟩:=Option.map_eq_some_iff.1 UP
 simp only[Prod.mk.injEq]at e
 obtain⟨rfl,rfl⟩:=e
 have h1:=hf i f hi
 have bh:i<xs.length:=by rw[lG];exact(Array.getElem?_eq_some_iff.1 hi).1
 rw[List.getElem?_eq_getElem bh]at h1
 exact⟨_,h1⟩
theorem nP{H:Type}{enc:TypeId×Value→H}{W:World}{n:Nat}{c:Value}{y:DataW H×List MemPlace}(h:DataW.trod enc Tryz.prog W 0 (fun _=>true) true n 3 [c]=some y): ∃m:Int,c= .int .i64 m:=by
 obtain⟨m,e,_⟩:=DataW.trod_int Tryz.underlying3 h
 exact⟨m,(List.cons.inj e).1⟩
theorem EG:Bm Tryz.prog 138 (α:=Y6) Y6.fit:=by
 intro H enc W fuel cs x h
 obtain⟨hl,hi⟩:=tJ Tryz.underlying138 Tryz.underlying3 pQ EE h
 match cs,hl with
 |[c0,c1,c2,c3,c4,c5],_=>
  obtain⟨m0,e0,f0⟩:=hi 0 (by decide)
  obtain⟨m1,e1,f1⟩:=hi 1 (by decide)
  obtain⟨m2,e2,f2⟩:=hi 2 (by decide)
  obtain⟨m3,e3,f3⟩:=hi 3 (by decide)
  obtain⟨m4,e4,f4⟩:=hi 4 (by decide)
  obtain⟨m5,e5,f5⟩:=hi 5 (by decide)
  obtain rfl:=Option.some.inj e0
  obtain rfl:=Option.some.inj e1
  obtain rfl:=Option.some.inj e2
  obtain rfl:=Option.some.inj e3
  obtain rfl:=Option.some.inj e4
  obtain rfl:=Option.some.inj e5
  exact⟨⟨m0,m1,m2,m3,m4,m5⟩,rfl,⟨f0,f1,f2,f3,f4,f5⟩⟩
theorem EH{H:Type}{enc:TypeId×Value→H}{W:World}{v:Value}{d:DataW H}{p:List MemPlace}(lH:Value.okWide Tryz.prog W .any 0 22 v)(h:DataW.Trod enc Tryz.prog W 0 (fun _=>true) true 22 v d p):
  ∃x:List Y6,Rs (r_ W) v x∧ ∀y∈x,y.fit:=by
 obtain⟨a,n,c,rfl⟩:=okWide_slice Tryz.underlying22 lH
 obtain⟨fuel,hf⟩:=h
 exact tK (α:=Y6) Tryz.underlying22 EE EG hf
theorem open_ints{H:Type}{enc:TypeId×Value→H}{W:World}{v:Value}{d:DataW H}{p:List MemPlace}(lH:Value.okWide Tryz.prog W .any 0 23 v)(h:DataW.Trod enc Tryz.prog W 0 (fun _=>true) true 23 v d p):
  ∃x:List Int,Rs (r_ W) v x∧ ∀y∈x,mH y:=by
 obtain⟨a,n,c,rfl⟩:=okWide_slice Tryz.underlying23 lH
 obtain⟨fuel,hf⟩:=h
 exact tK (α:=Int) Tryz.underlying23 pQ (Co Tryz.underlying3) hf
theorem fD{H:Type}{enc:TypeId×Value→H}{W:World}{n:Nat}{c:Value}{y:DataW H×List MemPlace}(h:DataW.trod enc Tryz.prog W 0 (fun _=>true) true n 3 [c]=some y): ∃m:Int,c= .int .i64 m∧mH m:=by
 obtain⟨m,e,_,hw⟩:=DataW.trod_int Tryz.underlying3 h
 exact⟨m,(List.cons.inj e).1,wf_i64 hw⟩
theorem Cp:Bm Tryz.prog 54 (α:=bc) Ky:=by
 intro H enc W fuel cs x h
 obtain⟨hl,hf⟩:=yy Tryz.underlying54 h
 rw[yx]at hl
 match cs,hl with
 |[c0,c1,c2,c3,c4,c5,c6,c7,c8,c9,Wz,WA,c12,WB,WC,WD,WE,WG,WH],_=>
  obtain⟨_,_,h0⟩:=hf 0 3 0 rfl
  obtain⟨_,_,h1⟩:=hf 1 3 1 rfl
  obtain⟨_,_,h2⟩:=hf 2 3 2 rfl
  obtain⟨_,_,h3⟩:=hf 3 3 3 rfl
  obtain⟨_,_,h4⟩:=hf 4 4 4 rfl
  obtain⟨_,_,h5⟩:=hf 5 3 5 rfl
  obtain⟨_,_,h6⟩:=hf 6 3 6 rfl
  obtain⟨_,_,h7⟩:=hf 7 3 7 rfl
  obtain⟨_,_,h8⟩:=hf 8 3 8 rfl
  obtain⟨_,_,h9⟩:=hf 9 3 9 rfl
  obtain⟨_,_,uH⟩:=hf 10 3 10 rfl
  obtain⟨_,_,Km⟩:=hf 11 3 11 rfl
  obtain⟨_,_,Kn⟩:=hf 12 3 12 rfl
  obtain⟨_,_,O6⟩:=hf 13 3 13 rfl
  obtain⟨_,_,Ko⟩:=hf 14 3 14 rfl
  obtain⟨_,_,SX⟩:=hf 15 3 15 rfl
  obtain⟨_,_,Il⟩:=hf 16 3 16 rfl
  obtain⟨_,_,O7⟩:=hf 17 3 17 rfl
  obtain⟨_,_,SY⟩:=hf 18 9 18 rfl
  rw[pQ]at h0 h1 h2 h3 h5 h6 h7 h8 h9 uH Km Kn O6 Ko SX Il O7
  rw[Cm]at h4
  rw[nj]at SY
  obtain⟨m0,rfl,k0⟩:=fD h0
  obtain⟨m1,rfl,k1⟩:=fD h1
  obtain⟨m2,rfl,k2⟩:=fD h2
  obtain⟨m3,rfl,k3⟩:=fD h3
  obtain⟨m5,rfl,k5⟩:=fD h5
  obtain⟨m6,rfl,k6⟩:=fD h6
  obtain⟨m7,rfl,k7⟩:=fD h7
  obtain⟨m8,rfl,k8⟩:=fD h8
  obtain⟨m9,rfl,k9⟩:=fD h9
  obtain⟨m10,rfl,WI⟩:=fD uH
  obtain⟨m11,rfl,UQ⟩:=fD Km
  obtain⟨m12,rfl,WJ⟩:=fD Kn
  obtain⟨m13,rfl,UR⟩:=fD O6
  obtain⟨m14,rfl,US⟩:=fD Ko
  obtain⟨m15,rfl,WK⟩:=fD SX
  obtain⟨m16,rfl,WM⟩:=fD Il
  obtain⟨m17,rfl,WN⟩:=fD O7
  obtain⟨m4,e4,_⟩:=DataW.trod_bool Tryz.underlying4 h4
  obtain rfl:=(List.cons.inj e4).1
  obtain⟨UT,UU,_⟩:=DataW.trod_string Tryz.underlying9 SY
  obtain rfl:=(List.cons.inj UU).1
  exact⟨⟨m0,m1,m2,m3,m4,m5,m6,m7,m8,m9,m10,m11,m12,m13,m14,m15,m16,m17,UT.data.toList⟩,by show _=bW _;unfold bW;rw[←Im],k7,UQ,UR,US⟩
theorem Cq{H:Type}{enc:TypeId×Value→H}{W:World}{v:Value}{d:DataW H}{p:List MemPlace}(lH:Value.okWide Tryz.prog W .any 0 24 v)(h:DataW.Trod enc Tryz.prog W 0 (fun _=>true) true 24 v d p):
  ∃x:List bc,Rs (r_ W) v x∧ ∀y∈x,Ky y:=by
 obtain⟨a,n,c,rfl⟩:=okWide_slice Tryz.underlying24 lH
 obtain⟨fuel,hf⟩:=h
 exact tK (α:=bc) Tryz.underlying24 yx Cp hf
theorem GX{H:Type}{enc:TypeId×Value→H}{W:World}{v:Value}{d:DataW H}{p:List MemPlace}(lH:Value.okWide Tryz.prog W .any 0 43 v)(h:DataW.Trod enc Tryz.prog W 0 (fun _=>true) true 43 v d p):
  ∃y:Y7,v= .agg (NJ y).toArray∧y.fit:=by
 obtain⟨⟨cs⟩,rfl,cS⟩:=Ac Tryz.underlying43 lH
 obtain⟨fuel,h⟩:=h
 have h':DataW.trod enc Tryz.prog W 0 (fun _=>true) true fuel 43 cs=some (d,p):=h
 obtain⟨hl,hi⟩:=tJ Tryz.underlying43 Tryz.underlying3 pQ JG h'
 match cs,hl with
 |[c0,c1,c2,c3,c4,c5,c6],_=>
  obtain⟨m0,e0,f0⟩:=hi 0 (by decide)
  obtain⟨m1,e1,f1⟩:=hi 1 (by decide)
  obtain⟨m2,e2,f2⟩:=hi 2 (by decide)
  obtain⟨m3,e3,f3⟩:=hi 3 (by decide)
  obtain⟨m4,e4,f4⟩:=hi 4 (by decide)
  obtain⟨m5,e5,f5⟩:=hi 5 (by decide)
  obtain⟨m6,e6,f6⟩:=hi 6 (by decide)
  obtain rfl:=Option.some.inj e0
  obtain rfl:=Option.some.inj e1
  obtain rfl:=Option.some.inj e2
  obtain rfl:=Option.some.inj e3
  obtain rfl:=Option.some.inj e4
  obtain rfl:=Option.some.inj e5
  obtain rfl:=Option.some.inj e6
  exact⟨⟨m0,m1,m2,m3,m4,m5,m6⟩,rfl,f0,f1,f2,f3,f4,f5,f6⟩
theorem oP{H:Type}{enc:TypeId×Value→H}{a:Assume}{C:Checked}{os:Os}{f:FuncId}{fn:Func}{s:ChangeSpec}{conds:List PathCond}{apart fresh handsOn again:Bool}{X:World→Array Value→Prop}
  (hX: ∀(w w':World) (args:Array Value),w.heap=w'.heap→X w args→X w' args)
  (own:ownKnob C.prog.godebug=none) (started:os.Started) (JI:C.prog.inits.idxOf? f=none) (Gt:C.prog.funcs[f]? =some fn)
  (witness: ∃(w:World) (tape:Tape) (i:Input),w.os=os∧(w.forCall tape i).Shaped C.prog∧i.vars=[]∧Input.okWide C.prog (w.forCall tape i) .any w.heap.size f i∧
   ((s.pre enc C.prog fn conds apart (w.forCall tape i).memory i.args∧X (w.forCall tape i).memory i.args)∧sizedMet enc C.prog fn (OpenSpec.ofChange s) apart (w.forCall tape i).memory i.args)∧a.holds C.prog (lone (Frame.enter C.prog f i.args .normal) [] (w.forCall tape i)))
  (pR: ∀(W:World) (args:Array Value) (ds gs:List (DataW H)) (before:List MemPlace),
   (∀(j:Nat) t v,fn.params[j]? =some t→args[j]? =some v→ ∃base,Value.okWide C.prog W .any base t v)→
   DataW.Whole enc C.prog fn.params.toList s.vars apart W args.toList ds gs before→X W args→W.ShapedOpen C.prog→
   Calls C.prog f args W fun e W'=> ∃v,e= .returned v∧s.post enc C.prog fn apart fresh handsOn again W args v W'):
  ReturnsInHanded a C os f .any (fun w args=>(s.pre enc C.prog fn conds apart w args∧X w args)∧sizedMet enc C.prog fn (OpenSpec.ofChange s) apart w args) (s.post enc C.prog fn apart fresh handsOn again):=by
 refine returnsInHanded_of_calls own started JI witness ?_
 intro w tape i _ mU _ lH gD _
 obtain⟨_,_,_,UW,Q7,_,_,_,_,iG⟩:=lH
 obtain rfl:UW=fn:=Option.some.inj (Q7.symm.trans Gt)
 obtain⟨⟨⟨ds,gs,before,hw,_⟩,hx⟩,_⟩:=gD
 have O8:=DataW.Whole.of_heap (w':=w.forCall tape i) (by rfl) hw
 refine(pR (w.forCall tape i) i.args ds gs before (fun j t v h1 h2=>⟨_,iG j t v h1 h2⟩) O8 (hX _ _ _ (by rfl) hx) mU).mono fun e W' ⟨v,he,hp⟩=> ?_
 subst he
 exact ChangeSpec.post_blind hp
theorem Ad{f:FuncId}{args:Array Value}{W:World}{s:ChangeSpec}{fn:Func}{H:Type}{enc:TypeId×Value→H}{ds:List (DataW H)}{before:List MemPlace}
  (hr:(fn.params.toList.all fun t=>Tryz.prog.readableRec t&&decide (t<Tryz.prog.types.size))=true) (hv:s.vars=[]) (hs:s.fn H ds={results:=[.lit (.bool true)],args:=ds}) (Q8:fn.resultTypes=#[4])
  (hW:DataW.Whole enc Tryz.prog fn.params.toList s.vars false W args.toList ds [] before)
  (h:CallsIn Wd 0 Tryz.prog f args (r_ W).w (cR (r_ W) fun _ r=>r= .bool true)):
  Calls Tryz.prog f args W fun e W'=> ∃v,e= .returned v∧s.post enc Tryz.prog fn false true false false W args v W':=by
 refine(callsIn_wide.1 h).mono ?_
 rintro _ _ ⟨g',v,rfl,hf,rfl,rfl⟩
 exact⟨_,rfl,EI laidOut hr hv hs Q8 Tryz.underlying4 hW hf.below⟩
theorem GY(os:Os)(args:Array Value):laidMetH Tryz.prog tI ((World.laidAll Tryz.prog os tI).forCall (fun _ _=>0) ⟨#[],args,[]⟩).memory:=by
 rw[MakeChecks.laidMetH_plain _ _ _ (by kernel_rfl)]
 exact laidMet_laidAll _ (by kernel_rfl) (by kernel_rfl)
end Go.Proofs.YtebobfdheanknaaGreatDoor
namespace Go.K
open Go
theorem CE{P:Program}{f:FuncId}{fn:Func}{s:ChangeSpec}{c:OpenClaim}
  (h1:(c.inPlace==P.inPlace f)=true) (h2:(c.unfollowed==P.unfollowed f)=true) (h3:(c.recurses==P.recurses f)=true) (h4:(c.named==P.varsNamed f)=true)
  (h5:(c.wf (OpenSpec.ofChange s)&&fn.params.all (P.readableRec ·)&&namedTie P c.named s.vars)=true) (a2:laidOutB P=true) (a3:mapsRowed P=true)
  (h6:(P.mayEnter&&(c.lifted==P.liftsFinal)&&(P.make==some c.make))=true)
  (h7:((c.plainKeys==P.plainKeys)&&P.stopsHeard&&(P.stops==[])&&(P.stopKnobs==[]))=true)
  (h8:((c.stops==[])&&(c.knobs==[])&&(c.maps==(fn.params.toList++s.plain.varTypes P).any (P.mapsRec ·))&&(c.ifaces==(fn.params.toList++s.plain.varTypes P).any (P.ifacesRec ·))&&(c.mapsOut==P.mapsAmong fn.resultTypes.toList)&&
   (c.loops==(fn.params.toList++s.plain.varTypes P).any (P.loopsFrom ·))&&(c.wideKeys==(fn.params.toList++s.plain.varTypes P++fn.resultTypes.toList).any (P.wideKeysFrom ·))&&
   s.vars.all (P.varReadable ·)&&fn.resultTypes.all (fun t=>P.readableRec t&&decide (t<P.types.size))&&(c.ifacesOut==fn.resultTypes.toList.any (P.ifacesRec ·))&&(c.loopsOut==fn.resultTypes.toList.any (P.loopsFrom ·))&&c.shortTexts.isNone&&(c.kinds==(if c.domain.isEmpty then []else fn.params.toList.map fun t=>match P.underlying t with|some (.int k)=>some k|_=>none))&&(c.pinned==c.pinnedBy)&&
   (c.veiled==(fn.params.toList++s.plain.varTypes P++fn.resultTypes.toList).any (P.veiledRec ·))&&c.veiledFits P fn.params.toList (fn.params.toList++s.plain.varTypes P++fn.resultTypes.toList))=true):joinedFacts P f fn s c=true:=by
 unfold joinedFacts
 simp only[Bool.and_eq_true]at h5 h6 h7 h8⊢
 obtain⟨⟨a1,a4⟩,a5⟩:=h5
 obtain⟨⟨b1,b2⟩,b3⟩:=h6
 obtain⟨⟨⟨d1,d2⟩,d3⟩,d4⟩:=h7
 obtain⟨⟨⟨⟨⟨⟨⟨⟨⟨⟨⟨⟨⟨⟨⟨e1,e2⟩,e3⟩,e4⟩,e5⟩,e6⟩,e7⟩,e8⟩,e9⟩,Vp⟩,Vq⟩,Vr⟩,Vs⟩,Vt⟩,Vu⟩,Vv⟩:=h8
 exact⟨⟨⟨⟨⟨⟨⟨⟨⟨⟨⟨⟨⟨⟨⟨⟨⟨⟨⟨⟨⟨⟨⟨⟨⟨⟨⟨⟨⟨⟨⟨a1,a2⟩,a3⟩,a4⟩,a5⟩,e1⟩,d3⟩,e2⟩,d4⟩,h1⟩,h2⟩,h3⟩,h4⟩,e3⟩,e4⟩,e5⟩,e6⟩,e7⟩,e8⟩,e9⟩,Vp⟩,Vq⟩,d1⟩,Vr⟩,d2⟩,b1⟩,b2⟩,b3⟩,Vs⟩,Vt⟩,Vu⟩,Vv⟩
end Go.K
