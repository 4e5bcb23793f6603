/- Parts of the proof, from: Reading the line of a step. -/
import Derived.Test.YtgehbndkogohpaaGreatDoorYf
import Derived.Test.YtgehbndkogohpaaGreatDoorYc
import Derived.Test.YtgehbndkogohpaaGreatDoorYd
import Derived.Test.YtgehbndkogohpaaGreatDoorYe
import Derived.Test.YtgehbndkogohpaaGreatDoorShelfP
import Derived.Test.YtgehbndkogohpaaGreatDoorYb
namespace Go.Proofs.YtgehbndkogohpaaGreatDoor
open Go Go.K
set_option maxRecDepth 10000
attribute [local irreducible] W WL cD bc bK bd bg bh cq ck
set_option maxHeartbeats 8000000
def QF(x:List UInt8):Fact:=⟨fun v g=> ∃ns,mu x=some ns∧Rs g v (ints ns),fun _ _ _ hf ⟨ns,h1,h2⟩=>⟨ns,h1,h2.mono hf.le⟩⟩
def T_(x y:List UInt8):Fact:=⟨fun v g=> ∃(r:Nat) (tl:List Nat) (a:Option Addr) (c:Nat),fH x=some r∧mu y=some tl∧v= .agg #[.int .i64 r,.slice a tl.length c,.int .i64 0,.int .i64 0,.slice none 0 0,.int .i64 (-1),.int .i64 0]∧Rs g (.slice a tl.length c) (ints tl),
 fun _ _ _ hf ⟨r,tl,a,c,h1,h2,h3,h4⟩=>⟨r,tl,a,c,h1,h2,h3,h4.mono hf.le⟩⟩
theorem QG:(⟨#[45]⟩:ByteArray).toList=[45]:=cB [45]
theorem Aq(l:List Nat):(ints l).length=l.length:=by simp[ints]
theorem L4{b:Nat}(f:bQ)(line:List UInt8)(hlen:line.length≤1000000)(L5:f.steps.length≤1000000){g0 g:G}{L:List cS}(hF:jv g)(hO:I1 b f L g0 g):
  CallsIn Wd 0 Tryz.prog 262 #[.pointer (some ⟨b,0,none⟩),.string (bs line)] g.w fun e w'=>
   ek g (fun g' r=>r= .tuple #[]∧ ∃s,pD f line=some s∧I1 b {f with steps:=f.steps++[s]} L g0 g') e w'∨
   (pD f line=none∧fg g lV (fun g'=> ∃cs,St g0 g' (I5 b cs::L)) e w'):=by
 have aq:=G.le.refl g;obtain⟨sa,sc,wa,wc,xm,hs,df⟩:=hO;unfold Ki at hs;unfold I5;replace hs:St g0 g (.obj b (.cells [.int .i64 f.bB,.int .i64 f.bU,.slice sa f.steps.length sc,.slice wa f.windows.length wc].toArray 28 (0,0))::
  .row 60 7 (.slice sa f.steps.length sc) f.steps.length xm::
  .row 58 3 (.slice wa f.windows.length wc) f.windows.length (kL f.windows)::L):=hs
 refine enter Tryz.func262 rfl Tryz.ntmps262 rfl ?_;refine dz 6 [.o 0] hs rfl ?_;refine ak rfl rfl (au M3 aJ rfl rfl rfl rfl rfl (GK f.steps.length _ (by unfold qN;omega) hF) ?_);rintro g1 _ aP SJ;rw[u3]at SJ;subst SJ;replace hs:=hs.call aP;have ah:=aP.le;obtain⟨aq,df⟩:=cf ah aq df;skip;refine ak rfl rfl (bD T.ok rfl hs (vs:=[(0,.string (bs kA)),(1,.string (bs (dec f.steps.length))),(2,.string (bs jB)),(3,.string (bs [])),(4,.string (bs k9)),(5,.string (bs [])),(6,.string (bs oq)),(7,.string (bs [])),(8,.string (bs ot)),(9,.string (bs []))])
  (cells:=[.string (bs kA),.string (bs (dec f.steps.length)),.string (bs jB),.string (bs []),.string (bs k9),.string (bs []),.string (bs oq),.string (bs []),.string (bs ot),.string (bs [])]) rfl rfl rfl rfl rfl rfl (by decide) (by decide) (by kernel_rfl) rfl ?_)
 clear hs;rintro bl gl hs ah;obtain⟨aq,df⟩:=cf ah aq df;obtain⟨gz,iQ,cP,jq,aU⟩:=hs.cK (α:=yf) (xs:=(L0 f.steps.length).map yf.mk) (i:=0) rfl (cG.strs _ (L0 f.steps.length));have ah:=jq;rw[←iQ];replace hs:=cP;clear cP;obtain⟨aq,df⟩:=cf ah aq df;skip;refine ak rfl rfl (cj B8 aJ rfl rfl rfl rfl rfl (tG line (L0 f.steps.length) _ _ hlen (by unfold L0;simp) (hF.mono aq) aU) ?_ ?_);rotate_left
 ·intro hn g5 nD;replace hs:=hs.call nD;replace aq:=aq.trans nD.le
  (repeat (first|with_reducible refine gB ?_|with_reducible refine gC ?_|with_reducible refine gD ?_))
  exact dv (.inr ⟨gE (GJ hn),fg.intro aq ⟨_,(hs.drop 1).drop 1⟩⟩)
 rintro g4 v ki ⟨vm,aH⟩;replace hs:=hs.call ki;have ah:=ki.le;obtain⟨aq,df⟩:=cf ah aq df;obtain⟨pa,pc,rfl⟩:=aH.isSlice;rw[List.length_map]at aH⊢;have rq:=kP 32 line;have wi:=o3 32 line;generalize lL:bN 32 line=ps at*;obtain⟨a0,a1,a2,a3,a4,a5,a6,a7,a8,a9,rest,rfl⟩:=L3 vm.1;have tS:=D9 vm;have C4: ∀{n},(∀bk,iJ a3 a5 a7 a9 bk=none)→eR n line=none:=fun hb=>D8 lL hb;have Ej:(a0::a1::a2::a3::a4::a5::a6::a7::a8::a9::rest).length=rest.length+10:=rfl;rw[Ej]at aH⊢;refine bj rfl ?_;apply aD;have s7:=hs;apply ea (fe (.f (qf a3)::(fe (.f (D6 a3)::(fe (.f (qf a5)::(fe (.f (QF a5)::(.f (T_ a3 a5)::(.f (Bd g4.dr.w.heap.size [.int .i64 0,.slice none 0 0,.int .i64 0,.int .i64 0,.slice none 0 0,.int .i64 0,.int .i64 0] 60)::[])))))))))) 10 [(8,23),(9,5)] (by kernel_rfl)
 ·refine Dx [[]] (by kernel_rfl) rfl ?_;refine ay (an (js:=[(0,15)]) (by kernel_rfl) fun gd hf=>?_) ?_
  ·have dG:=(G.bu _).trans hf.le;refine ai rfl ?_;apply aj;refine aB rfl ?_;refine aW T.ok rfl (aH.mono dG) (y:=⟨a3⟩) rfl rfl rfl rfl rfl rfl rfl ?_;intro b p ys aL d_;exact⟨_,rfl,a_.refl _,b,p,rfl,by rw[←show ys=[Value.string (bs a3)]from d_];exact aL⟩
  refine ay (an (js:=[(1,16)]) (by kernel_rfl) fun gd hf=>?_) ?_
  ·skip;refine aZ fun v1 h1=>?_;apply aj;obtain⟨b,p,rfl,aL⟩:=h1;refine aB rfl ?_;refine bJ T.ok 0 rfl aL rfl rfl ?_;refine⟨_,rfl,a_.refl _,?_⟩;exact rfl
  refine ay (an (js:=[(2,17)]) (by kernel_rfl) fun gd hf=>?_) ?_
  ·have eJ:=hs.dr.call hf;have dG:=(G.bu _).trans hf.le;refine ai rfl ?_;apply aj;refine aB rfl ?_;refine cj qs aJ rfl rfl rfl rfl rfl (jE a3 _ (Nat.le_trans (rq a3 (by simp)) hlen) (hF.mono (aq.trans dG))) (fun g' v eu h=>⟨g',rfl,eu,h⟩) fun hn g' eu=>?_;replace eJ:=eJ.call eu
   (repeat (first|with_reducible refine gB ?_|with_reducible refine gC ?_|with_reducible refine gD ?_))
   exact dv (.inr ⟨gE (C4 fun _=>I6 hn),fg.intro ((aq.trans dG).trans eu.le) ⟨_,(eJ.drop 1).drop 1⟩⟩)
  refine Dx [[]] (by kernel_rfl) rfl ?_;refine ay (an (js:=[(4,19)]) (by kernel_rfl) fun gd hf=>?_) ?_
  ·have dG:=(G.bu _).trans hf.le;refine ai rfl ?_;apply aj;refine aB rfl ?_;refine aW T.ok rfl (aH.mono dG) (y:=⟨a5⟩) rfl rfl rfl rfl rfl rfl rfl ?_;intro b p ys aL d_;exact⟨_,rfl,a_.refl _,b,p,rfl,by rw[←show ys=[Value.string (bs a5)]from d_];exact aL⟩
  refine ay (an (js:=[(5,20)]) (by kernel_rfl) fun gd hf=>?_) ?_
  ·skip;refine aZ fun v5 h5=>?_;apply aj;obtain⟨b,p,rfl,aL⟩:=h5;refine aB rfl ?_;refine bJ T.ok 0 rfl aL rfl rfl ?_;refine⟨_,rfl,a_.refl _,?_⟩;exact rfl
  refine ay (an (js:=[(6,21)]) (by kernel_rfl) fun gd hf=>?_) ?_
  ·have eJ:=hs.dr.call hf;have dG:=(G.bu _).trans hf.le;refine ai rfl ?_;apply aj;refine aB rfl ?_;refine cj JJ aJ rfl rfl rfl rfl rfl (GL a5 _ (Nat.le_trans (rq a5 (by simp)) hlen) (hF.mono (aq.trans dG))) (fun g' v eu h=>⟨g',rfl,eu,h⟩) fun hn g' eu=>?_;replace eJ:=eJ.call eu
   (repeat (first|with_reducible refine gB ?_|with_reducible refine gC ?_|with_reducible refine gD ?_))
   exact dv (.inr ⟨gE (C4 fun _=>I7 hn),fg.intro ((aq.trans dG).trans eu.le) ⟨_,(eJ.drop 1).drop 1⟩⟩)
  refine ay (an (js:=[(3,18),(7,22)]) (by kernel_rfl) fun gd hf=>?_) ?_
  ·skip;refine aZ fun v3 h3=>?_;refine aZ fun v7 h7=>?_;apply aj;obtain⟨r,hr,rfl⟩:=h3;obtain⟨tl,ht,T'⟩:=h7;obtain⟨ta,tc,rfl⟩:=T'.isSlice;rw[Aq]at T'⊢;refine aB rfl ?_;refine aQ T.ok rfl (vs:=[(0,.int .i64 r),(1,.slice ta tl.length tc),(5,.int .i64 (-1))]) (cells:=[.int .i64 r,.slice ta tl.length tc,.int .i64 0,.int .i64 0,.slice none 0 0,.int .i64 (-1),.int .i64 0]) rfl rfl rfl rfl [(0,1),(1,1),(2,1),(3,1),(4,1),(5,1),(6,1)] rfl (by kernel_rfl) ?_;exact⟨_,rfl,a_.refl _,r,tl,ta,tc,hr,ht,rfl,T'⟩
  refine ay (an (js:=[]) (by kernel_rfl) fun gd hf=>?_) ?_
  ·skip;apply aj;refine aB rfl ?_;refine aK T.ok rfl (St.start gd) rfl rfl ?_;intro b g' jo hle;have ho:=jo.own 0 _ rfl;exact⟨g',rfl,jo.nC,b,rfl,Nat.le_trans hf.below.size ho.1,ho.2⟩
  exact fD
 intro g1 aP;refine aZ fun v8 h8=>?_;refine aZ fun v9 h9=>?_;apply aj;replace hs:=hs.dr.call aP;have ah:=(G.bu _).trans aP.le;obtain⟨aq,aH,df⟩:=dy ah aq aH df;obtain⟨r,tl,ta,tc,hr,ht,rfl,bS⟩:=h8;obtain⟨bx,rfl,rS⟩:=h9;replace hs:=s7.dr.ft aP rS;clear s7;skip;refine bA rfl (az T.ok 0 rfl hs rfl rfl rfl rfl rfl rfl rfl rfl rfl ?_);replace hs:=hs;rintro g1 hs ah;obtain⟨aq,aH,bS,df⟩:=eS ah aq aH bS df;apply bW;refine cN 1 rfl ?_;refine ak rfl rfl (aW T.ok rfl aH (y:=⟨a7⟩) rfl rfl rfl rfl rfl rfl rfl ?_);rintro bq pq ys aL rfl;refine Wm 1 [.e aL 0] (St.start _) rfl ?_;skip;refine ak rfl rfl (cj JI aJ rfl rfl rfl rfl rfl (GM a7 _ (Nat.le_trans (rq a7 (by simp)) hlen) (hF.mono aq)) ?_ ?_);rotate_left
 ·intro hn g5 nD;replace hs:=hs.call nD;replace aq:=aq.trans nD.le
  (repeat (first|with_reducible refine gB ?_|with_reducible refine gC ?_|with_reducible refine gD ?_))
  exact dv (.inr ⟨gE (C4 fun _=>I8 hn),fg.intro aq ⟨_,((hs.drop 0).drop 1).drop 1⟩⟩)
 rintro g6 _ lz ⟨m,n,Lc,rfl⟩;replace hs:=hs.call lz;have ah:=lz.le;obtain⟨aq,aH,bS,df⟩:=eS ah aq aH bS df;refine Wp 4 rfl ?_;refine bA rfl (az T.ok 0 rfl hs rfl rfl rfl rfl rfl rfl rfl rfl rfl ?_);replace hs:=hs;rintro g1 hs ah;obtain⟨aq,aH,bS,df⟩:=eS ah aq aH bS df;refine Wp 1 rfl ?_;refine bA rfl (az T.ok 0 rfl hs rfl rfl rfl rfl rfl rfl rfl rfl rfl ?_);replace hs:=hs;rintro g1 hs ah;obtain⟨aq,aH,bS,df⟩:=eS ah aq aH bS df;apply bW;apply aD;refine cN 1 rfl ?_;refine ak rfl rfl (aW T.ok rfl aH (y:=⟨a9⟩) rfl rfl rfl rfl rfl rfl rfl ?_);rintro bq pq ys aL rfl;refine Wm 1 [.e aL 0] (St.start _) rfl ?_;refine bj rfl ?_;refine pb (fun a' w=> ∃(na:Option Addr) (nc:Nat) (nx:List Nat) (g':G),w=g'.w∧g1.le g'∧pz a9=some nx∧Rs g' (.slice na nx.length nc) (ints nx)∧
  St g0 g' (.obj bx (.cells [.int .i64 r,.slice ta tl.length tc,.int .i64 m,.int .i64 n,.slice na nx.length nc,.int .i64 (-1),.int .i64 (0)].toArray 60 (0,0))::
   .obj b (.cells [.int .i64 f.bB,.int .i64 f.bU,.slice sa f.steps.length sc,.slice wa f.windows.length wc].toArray 28 (0,0))::
   .row 60 7 (.slice sa f.steps.length sc) f.steps.length xm::
   .row 58 3 (.slice wa f.windows.length wc) f.windows.length (kL f.windows)::L)∧
  Fr 91 [] [(0,.pointer (some ⟨b,0,none⟩)),(1,.string (bs line)),(4,.slice pa (rest.length+10) pc),(5,.pointer (some ⟨bx,0,none⟩))] a') ?_ ?_
 ·by_cases h9:a9=[45]
  ·refine aV (b:=_) ?_ rfl ?_
   ·rw[cB,QG];simp[h9]
   apply aF;exact fun a ha=>⟨none,0,[],g1,rfl,G.le.refl _,by unfold pz;rw[if_pos h9],Rs.nil _,hs,ha.keep (by(repeat (first|exact trivial|refine⟨rfl,?_⟩)))⟩
  refine aM (b:=_) ?_ rfl ?_
  ·rw[cB,QG];simp[h9]
  have tu:=G.le.refl g1;apply aA;refine Wp 1 rfl ?_;refine ak rfl rfl (aW T.ok rfl aH (y:=⟨a9⟩) rfl rfl rfl rfl rfl rfl rfl ?_);rintro bq pq ys aL rfl;refine Wm 1 [.e aL 0] (St.start _) rfl ?_;skip;have HD:pz a9=mu a9:=by unfold pz;rw[if_neg h9]
  refine ak rfl rfl (cj JJ aJ rfl rfl rfl rfl rfl (GL a9 _ (Nat.le_trans (rq a9 (by simp)) hlen) (hF.mono aq)) ?_ ?_);rotate_left
  ·intro hn g5 nD;replace hs:=hs.call nD;replace aq:=aq.trans nD.le
   (repeat (first|with_reducible refine gB ?_|with_reducible refine gC ?_|with_reducible refine gD ?_))
   exact dv (.inr ⟨gE (C4 fun _=>I9 (by rw[HD];exact hn)),fg.intro aq ⟨_,((hs.drop 0).drop 1).drop 1⟩⟩)
  rintro g7 v AJ ⟨nx,lO,cH⟩;obtain⟨na,nc,rfl⟩:=cH.isSlice;rw[Aq]at cH⊢;replace hs:=hs.call AJ;have ah:=AJ.le;obtain⟨aq,tu,bS,df⟩:=eS ah aq tu bS df;refine Wp 1 rfl ?_;refine bA rfl (az T.ok 0 rfl hs rfl rfl rfl rfl rfl rfl rfl rfl rfl ?_);replace hs:=hs;rintro g8 hs ah;obtain⟨aq,tu,bS,cH,df⟩:=kO ah aq tu bS cH df;apply aE;exact fun a ha=>⟨na,nc,nx,g8,rfl,tu,by rw[HD,lO],cH,hs,ha.keep (by(repeat (first|exact trivial|refine⟨rfl,?_⟩)))⟩
 clear hs;rintro a' _ ⟨na,nc,nx,g7,rfl,ah,lO,cH,hs,eF⟩;obtain⟨aq,bS,df⟩:=dy ah aq bS df;revert a';apply cI;apply aD;refine aY rfl ?_;refine pb (fun a' w=> ∃(bk lm:Int) (g':G),w=g'.w∧g7.le g'∧eR f.steps.length line=some ⟨r,ints tl,m,n,ints nx,bk,lm⟩∧
  St g0 g' (.obj bx (.cells [.int .i64 r,.slice ta tl.length tc,.int .i64 m,.int .i64 n,.slice na nx.length nc,.int .i64 (bk),.int .i64 (lm)].toArray 60 (0,0))::
   .obj b (.cells [.int .i64 f.bB,.int .i64 f.bU,.slice sa f.steps.length sc,.slice wa f.windows.length wc].toArray 28 (0,0))::
   .row 60 7 (.slice sa f.steps.length sc) f.steps.length xm::
   .row 58 3 (.slice wa f.windows.length wc) f.windows.length (kL f.windows)::L)∧
  Fr 91 [] [(0,.pointer (some ⟨b,0,none⟩)),(5,.pointer (some ⟨bx,0,none⟩))] a') ?_ ?_
 ·by_cases KH:rest.length=0
  ·obtain rfl:=List.length_eq_zero_iff.1 KH;refine aV (b:=_) ?_ rfl ?_
   ·simp
   apply aF;exact fun a ha=>⟨-1,0,g7,rfl,G.le.refl _,by rw[BW lL tS,C3 hr ht Lc lO],hs,ha.keep (by(repeat (first|exact trivial|refine⟨rfl,?_⟩)))⟩
  refine aM (b:=_) ?_ rfl ?_
  ·simp;omega
  have tu:=G.le.refl g7;have QH:10<(bN 32 line).length:=by rw[lL,Ej];omega
  refine cN 1 rfl ?_;refine ak rfl rfl (bD T.ok rfl hs (vs:=[(0,.string (bs [])),(1,.string (bs [])),(2,.string (bs [])),(3,.string (bs [])),(4,.string (bs [])),(5,.string (bs [])),(6,.string (bs [])),(7,.string (bs [])),(8,.string (bs [])),(9,.string (bs [])),(10,.string (bs ou)),(11,.string (bs [])),(12,.string (bs k_)),(13,.string (bs []))])
   (cells:=[.string (bs []),.string (bs []),.string (bs []),.string (bs []),.string (bs []),.string (bs []),.string (bs []),.string (bs []),.string (bs []),.string (bs []),.string (bs ou),.string (bs []),.string (bs k_),.string (bs [])]) rfl rfl rfl rfl rfl rfl (by decide) (by decide) (by kernel_rfl) rfl ?_)
  clear hs;rintro bl gl hs ah;obtain⟨aq,tu,bS,cH,df⟩:=kO ah aq tu bS cH df;obtain⟨gz,iQ,cP,jq,o5⟩:=hs.cK (α:=yf) (xs:=ML.map yf.mk) (i:=0) rfl (cG.strs _ ML);have ah:=jq;rw[←iQ];replace hs:=cP;clear cP;obtain⟨aq,tu,bS,cH,df⟩:=kO ah aq tu bS cH df;skip;refine ak rfl rfl (cj B8 aJ rfl rfl rfl rfl rfl (tG line ML _ _ hlen (by decide) (hF.mono aq) o5) ?_ ?_);rotate_left
  ·intro hn g5 nD;replace hs:=hs.call nD;replace aq:=aq.trans nD.le
   (repeat (first|with_reducible refine gB ?_|with_reducible refine gC ?_|with_reducible refine gD ?_))
   exact dv (.inr ⟨gE (Eb QH hn),fg.intro aq ⟨_,((hs.drop 0).drop 1).drop 1⟩⟩)
  clear o5;rintro g4 v ki ⟨Vo,o5⟩;replace hs:=hs.call ki;have ah:=ki.le;obtain⟨aq,tu,bS,cH,df⟩:=kO ah aq tu bS cH df;obtain⟨qa,qc,rfl⟩:=o5.isSlice;rw[List.length_map]at o5⊢;rw[lL]at Vo o5⊢;rw[Ej]at o5⊢;refine bj rfl ?_;refine cN 3 rfl ?_;by_cases h4:rest.length=4
  ·obtain⟨b0,b1,b2,b3,rfl⟩:=C1 h4;refine cO 50 (b':=true) (by simp) rfl ?_;have qR:=Ea lL tS Vo;refine ak rfl rfl (cj fp aJ rfl rfl rfl rfl rfl (dZ true _) ?_ fun h=>nomatch h);rintro g3 _ eW ⟨rfl,_⟩;replace hs:=hs.call eW;have ah:=eW.le;obtain⟨aq,tu,bS,cH,o5,df⟩:=lR ah aq tu bS cH o5 df;apply bW;apply ea (fe (.f (qf b1)::(fe (.f (D6 b1)::(fe (.f (qf b3)::(fe (.f (D6 b3)::(fe []))))))))) 9 [(3,55),(7,59),(8,60)] (by kernel_rfl)
   ·refine Dx [[]] (by kernel_rfl) rfl ?_;refine ay (an (js:=[(0,52)]) (by kernel_rfl) fun gd hf=>?_) ?_
    ·have dG:=(G.bu _).trans hf.le;refine ai rfl ?_;apply aj;refine aB rfl ?_;refine aW T.ok rfl (o5.mono dG) (y:=⟨b1⟩) rfl rfl rfl rfl rfl rfl rfl ?_;intro b p ys aL d_;exact⟨_,rfl,a_.refl _,b,p,rfl,by rw[←show ys=[Value.string (bs b1)]from d_];exact aL⟩
    refine ay (an (js:=[(1,53)]) (by kernel_rfl) fun gd hf=>?_) ?_
    ·skip;refine aZ fun v1 h1=>?_;apply aj;obtain⟨b,p,rfl,aL⟩:=h1;refine aB rfl ?_;refine bJ T.ok 0 rfl aL rfl rfl ?_;refine⟨_,rfl,a_.refl _,?_⟩;exact rfl
    refine ay (an (js:=[(2,54)]) (by kernel_rfl) fun gd hf=>?_) ?_
    ·have eJ:=hs.dr.call hf;have dG:=(G.bu _).trans hf.le;refine ai rfl ?_;apply aj;refine aB rfl ?_;refine cj qs aJ rfl rfl rfl rfl rfl (jE b1 _ (Nat.le_trans (rq b1 (by simp)) hlen) (hF.mono (aq.trans dG))) (fun g' v eu h=>⟨g',rfl,eu,h⟩) fun hn g' eu=>?_;replace eJ:=eJ.call eu
     (repeat (first|with_reducible refine gB ?_|with_reducible refine gC ?_|with_reducible refine gD ?_))
     exact dv (.inr ⟨gE (by rw[qR];unfold sN;rw[hn];exact C2),fg.intro ((aq.trans dG).trans eu.le) ⟨_,((eJ.drop 0).drop 1).drop 1⟩⟩)
    refine Dx [[]] (by kernel_rfl) rfl ?_;refine ay (an (js:=[(4,56)]) (by kernel_rfl) fun gd hf=>?_) ?_
    ·have dG:=(G.bu _).trans hf.le;refine ai rfl ?_;apply aj;refine aB rfl ?_;refine aW T.ok rfl (o5.mono dG) (y:=⟨b3⟩) rfl rfl rfl rfl rfl rfl rfl ?_;intro b p ys aL d_;exact⟨_,rfl,a_.refl _,b,p,rfl,by rw[←show ys=[Value.string (bs b3)]from d_];exact aL⟩
    refine ay (an (js:=[(5,57)]) (by kernel_rfl) fun gd hf=>?_) ?_
    ·skip;refine aZ fun v5 h5=>?_;apply aj;obtain⟨b,p,rfl,aL⟩:=h5;refine aB rfl ?_;refine bJ T.ok 0 rfl aL rfl rfl ?_;refine⟨_,rfl,a_.refl _,?_⟩;exact rfl
    refine ay (an (js:=[(6,58)]) (by kernel_rfl) fun gd hf=>?_) ?_
    ·have eJ:=hs.dr.call hf;have dG:=(G.bu _).trans hf.le;refine ai rfl ?_;apply aj;refine aB rfl ?_;refine cj qs aJ rfl rfl rfl rfl rfl (jE b3 _ (Nat.le_trans (rq b3 (by simp)) hlen) (hF.mono (aq.trans dG))) (fun g' v eu h=>⟨g',rfl,eu,h⟩) fun hn g' eu=>?_;replace eJ:=eJ.call eu
     (repeat (first|with_reducible refine gB ?_|with_reducible refine gC ?_|with_reducible refine gD ?_))
     exact dv (.inr ⟨gE (by rw[qR];unfold sN;rw[hn];(cases fH b1<;>exact C2)),fg.intro ((aq.trans dG).trans eu.le) ⟨_,((eJ.drop 0).drop 1).drop 1⟩⟩)
    exact Dy [[]] (by kernel_rfl) rfl
   intro g1 aP;refine aZ fun v3 h3=>?_;refine aZ fun v7 h7=>?_;refine ai rfl ?_;apply aj;replace hs:=hs.dr.call aP;have ah:=(G.bu _).trans aP.le;obtain⟨aq,tu,bS,cH,df⟩:=kO ah aq tu bS cH df;obtain⟨bk,Cp,rfl⟩:=h3;obtain⟨lm,Rn,rfl⟩:=h7;skip;refine bA rfl (az T.ok 0 rfl hs rfl rfl rfl rfl rfl rfl rfl rfl rfl ?_);replace hs:=hs;rintro g8 hs ah;obtain⟨aq,tu,bS,cH,df⟩:=kO ah aq tu bS cH df;refine Wp 1 rfl ?_;refine bA rfl (az T.ok 0 rfl hs rfl rfl rfl rfl rfl rfl rfl rfl rfl ?_);replace hs:=hs;rintro g9 hs ah;obtain⟨aq,tu,bS,cH,df⟩:=kO ah aq tu bS cH df;apply aE;exact fun a ha=>⟨bk,lm,g9,rfl,tu,by rw[qR];unfold sN;rw[Cp,Rn];exact C3 hr ht Lc lO,hs,ha.keep (by(repeat (first|exact trivial|refine⟨rfl,?_⟩)))⟩
  refine cO 50 (b':=false) (by simp;omega) rfl ?_;refine ak rfl rfl (cj fp aJ rfl rfl rfl rfl rfl (dZ false _) ?_ ?_)
  ·rintro g3 _ eW ⟨_,hc⟩;cases hc
  intro _ g3 eW;replace hs:=hs.call eW;replace aq:=aq.trans eW.le
  (repeat (first|with_reducible refine gB ?_|with_reducible refine gC ?_|with_reducible refine gD ?_))
  exact dv (.inr ⟨gE (Ec QH (by rw[lL,Ej];omega)),fg.intro aq ⟨_,((hs.drop 0).drop 1).drop 1⟩⟩)
 clear hs;rintro a' _ ⟨bk,lm,g8,rfl,ah,dH,hs,eF⟩;obtain⟨aq,bS,cH,df⟩:=eS ah aq bS cH df;revert a';apply cI;refine dz 1 [.o 0] hs rfl ?_;refine ak rfl rfl (au Jp aJ rfl rfl rfl rfl rfl (sV _ ⟨r,ints tl,m,n,ints nx,bk,lm⟩ 40 _ ⟨[.int .i64 r,.slice ta tl.length tc,.int .i64 m,.int .i64 n,.slice na nx.length nc,.int .i64 bk,.int .i64 lm],rfl,ta,tl.length,tc,na,nx.length,nc,rfl,bS,cH⟩ (by decide) (by decide)) ?_);rintro g9 _ JU rfl;replace hs:=hs.call JU;have ah:=JU.le;obtain⟨aq,bS,cH,df⟩:=eS ah aq bS cH df;have MM:pD f line=if(bT ⟨r,ints tl,m,n,ints nx,bk,lm⟩ 40&&decide ((f.steps.length:Int)<40)&&decide ((f.windows.length:Int)=0))=true then some ⟨r,ints tl,m,n,ints nx,bk,lm⟩else none:=by unfold pD;rw[dH];rfl
 cases z':bT ⟨r,ints tl,m,n,ints nx,bk,lm⟩ 40 with
 |false=>
  refine Wp 16 rfl ?_;refine ak rfl rfl (cj fp aJ rfl rfl rfl rfl rfl (dZ false _) ?_ ?_)
  ·rintro g3 _ eW ⟨_,hc⟩;cases hc
  intro _ g3 eW;replace hs:=hs.call eW;replace aq:=aq.trans eW.le
  (repeat (first|with_reducible refine gB ?_|with_reducible refine gC ?_|with_reducible refine gD ?_))
  exact dv (.inr ⟨by rw[MM,z'];rfl,fg.intro aq ⟨_,((hs.drop 0).drop 1).drop 1⟩⟩)
 |true=>
 refine Wm 9 [.o 1] hs rfl ?_;by_cases Sx:f.steps.length<40
 ·refine cO 72 (b':=true) (by simp;omega) rfl ?_;refine Wm 7 [.o 1] hs rfl ?_;by_cases Vp:f.windows.length=0
  ·refine cO 79 (b':=true) (by simp[Vp]) rfl ?_;refine ak rfl rfl (cj fp aJ rfl rfl rfl rfl rfl (dZ true _) ?_ fun h=>nomatch h);rintro g3 _ eW ⟨rfl,_⟩;replace hs:=hs.call eW;have ah:=eW.le;obtain⟨aq,bS,cH,df⟩:=eS ah aq bS cH df;replace MM:pD f line=some ⟨r,ints tl,m,n,ints nx,bk,lm⟩:=by rw[MM,z',decide_eq_true (by omega:(f.steps.length:Int)<40),decide_eq_true (by omega:(f.windows.length:Int)=0)];rfl
   apply bW;apply CH aJ rfl (Fact.eq _::Fact.eq _::Fact.eq _::Fact.eq _::Fact.eq _::Fact.eq _::(Fact.rs [(⟨r,ints tl,m,n,ints nx,bk,lm⟩:Step)])::(P9 g0 (fun v Rm=> .obj bx (.cells [.int .i64 r,.slice ta tl.length tc,.int .i64 m,.int .i64 n,.slice na nx.length nc,.int .i64 bk,.int .i64 lm].toArray 60 (0,0)):: .obj b (.cells [.int .i64 f.bB,.int .i64 f.bU,.slice sa f.steps.length sc,.slice wa f.windows.length wc].toArray 28 (0,0)):: .row 60 7 v (f.steps.length+1) Rm:: .row 58 3 (.slice wa f.windows.length wc) f.windows.length (kL f.windows)::L) (f.steps.length+1) (f.steps++[(⟨r,ints tl,m,n,ints nx,bk,lm⟩:Step)]))::[]) 8 [(0,81),(7,88)] [] [1,2,3,4,5,6] 7 rfl (by kernel_rfl) (by kernel_rfl)
   case houts=>exact rfl
   case hsoft=>(repeat (first|exact FQ|apply FR|refine gN (qK _) ?_|refine gN (cr _) ?_|refine gN (rX _ _) ?_|refine gN (pS _) ?_|refine gN (rY _) ?_|refine gN (nZ _) ?_|refine gN (x6 _) ?_|refine gN (zI _) ?_|refine FT (by exact rfl) ?_))
   ·refine iC (Gb (js:=[]) (by kernel_rfl) (by exact rfl) fun gd hf=>?_) ?_
    ·skip;apply aj
     (refine aB rfl ?_;refine aN _ T.ok rfl ?_;refine⟨_,rfl,a_.refl _,?_⟩;exact rfl)
    refine iC (nj (js:=[]) (by kernel_rfl) (by exact rfl) (by exact rfl) fun gd hf=>?_) ?_
    ·skip;apply aj
     (refine aB rfl ?_;refine aN _ T.ok rfl ?_;refine⟨_,rfl,a_.refl _,?_⟩;exact rfl)
    refine iC (nj (js:=[(1,82)]) (by kernel_rfl) (by exact rfl) (by exact rfl) fun gd hf=>?_) ?_
    ·skip;refine ai rfl ?_;apply aj
     (refine aB rfl ?_;refine aN _ T.ok rfl ?_;refine⟨_,rfl,a_.refl _,?_⟩;exact rfl)
    refine iC (nj (js:=[(2,83)]) (by kernel_rfl) (by exact rfl) (by exact rfl) fun gd hf=>?_) ?_
    ·skip;refine ai rfl ?_;apply aj
     (refine aB rfl ?_;refine aN _ T.ok rfl ?_;refine⟨_,rfl,a_.refl _,?_⟩;exact rfl)
    refine iC (nj (js:=[(3,84)]) (by kernel_rfl) (by exact rfl) (by exact rfl) fun gd hf=>?_) ?_
    ·have eJ:=hs.dr.call hf;refine ai rfl ?_;apply aj
     (refine aB rfl ?_;refine e_ T.ok 1 rfl eJ rfl rfl rfl ?_;refine⟨_,rfl,a_.refl _,?_⟩;exact rfl)
    refine iC (nj (js:=[]) (by kernel_rfl) (by exact rfl) (by exact rfl) fun gd hf=>?_) ?_
    ·have eJ:=hs.dr.call hf;apply aj
     (refine aB rfl ?_;refine e_ T.ok 0 rfl eJ rfl rfl rfl ?_;refine⟨_,rfl,a_.refl _,?_⟩;exact rfl)
    refine iC (nj (js:=[(5,86)]) (by kernel_rfl) (by exact rfl) (by exact rfl) fun gd hf=>?_) ?_
    ·have dG:=(G.bu _).trans hf.le;refine ai rfl ?_;apply aj;refine aB rfl ?_;refine bD T.ok rfl (St.start gd) (vs:=[(0,.agg #[.int .i64 r,.slice ta tl.length tc,.int .i64 m,.int .i64 n,.slice na nx.length nc,.int .i64 bk,.int .i64 lm])]) (cells:=[.int .i64 r,.slice ta tl.length tc,.int .i64 m,.int .i64 n,.slice na nx.length nc,.int .i64 bk,.int .i64 lm]) rfl rfl rfl rfl rfl rfl (by decide) (by decide) (by kernel_rfl) rfl ?_;intro b2 g2 nz FU;obtain⟨g3,pf,vn,qI,ny⟩:=nz.cK (α:=Step) (xs:=[⟨r,ints tl,m,n,ints nx,bk,lm⟩]) (i:=0) rfl ⟨_,[],by rw[List.append_nil],⟨ta,tl.length,tc,na,nx.length,nc,rfl,bS.mono (dG.trans FU),cH.mono (dG.trans FU)⟩,rfl⟩;exact⟨g3,pf,vn.nC,ny⟩
    refine iC (J9 (js:=[(4,85),(6,87)]) (by kernel_rfl) fun gd hf=>?_) ?_
    ·have eJ:=hs.dr.call hf;have dG:=(G.bu _).trans hf.le;refine ai rfl ?_;refine aZ fun v6 h6=>?_;apply aj;obtain⟨ax,cx,rfl⟩:=Rs.isSlice h6;obtain⟨_,news,CA,g_⟩:=Src.lq h6;refine⟨rfl,?_⟩;refine cd T.ok 2 rfl eJ rfl rfl rfl rfl rfl rfl rfl (by decide) rfl g_ CA.one (by show(f.steps.length+1)*88≤_;omega) (by unfold maxLen;show f.steps.length+1≤_;omega) ?_;intro a' c' g8 yW vG;exact⟨g8,rfl,vG,a',c',_,rfl,yW,cG.app (CA.mono vG) (df.mono (dG.trans vG))⟩
    exact J8
   intro g1 aP;refine ai rfl ?_;refine aZ fun v7 h7=>?_;apply aj;have ah:=(G.bu _).trans aP;replace aq:=G.le.trans aq ah;obtain⟨Vq,Vr,Ua,rfl,hs,Ub⟩:=h7;refine Wp 2 rfl ?_;refine bA rfl (az T.ok 1 rfl hs rfl rfl rfl rfl rfl rfl rfl rfl rfl ?_);replace hs:=hs;rintro g9 hs ah;replace aq:=G.le.trans aq ah;apply aE;refine kD rfl (.inl (ek.intro aq ⟨rfl,_,MM,Vq,Vr,wa,wc,Ua,?_,Ub.mono ah⟩));have aT:=hs.drop 0;show St g0 _ (.obj b _:: .row _ 7 (.slice Vq (f.steps++[_]).length Vr) (f.steps++[_]).length _:: .row _ 3 _ _ _::L);rw[List.length_append];exact aT
  refine cO 79 (b':=false) (by simp[Vp]) rfl ?_;refine ak rfl rfl (cj fp aJ rfl rfl rfl rfl rfl (dZ false _) ?_ ?_)
  ·rintro g3 _ eW ⟨_,hc⟩;cases hc
  intro _ g3 eW;replace hs:=hs.call eW;replace aq:=aq.trans eW.le
  (repeat (first|with_reducible refine gB ?_|with_reducible refine gC ?_|with_reducible refine gD ?_))
  exact dv (.inr ⟨by rw[MM,decide_eq_false (by omega: ¬(f.windows.length:Int)=0),Bool.and_false];rfl,fg.intro aq ⟨_,((hs.drop 0).drop 1).drop 1⟩⟩)
 refine cO 72 (b':=false) (by simp;omega) rfl ?_;refine Wp 7 rfl ?_;refine ak rfl rfl (cj fp aJ rfl rfl rfl rfl rfl (dZ false _) ?_ ?_)
 ·rintro g3 _ eW ⟨_,hc⟩;cases hc
 intro _ g3 eW;replace hs:=hs.call eW;replace aq:=aq.trans eW.le
 (repeat (first|with_reducible refine gB ?_|with_reducible refine gC ?_|with_reducible refine gD ?_))
 exact dv (.inr ⟨by rw[MM,decide_eq_false (by omega: ¬(f.steps.length:Int)<40),Bool.and_false,Bool.false_and];rfl,fg.intro aq ⟨_,((hs.drop 0).drop 1).drop 1⟩⟩)
end Go.Proofs.YtgehbndkogohpaaGreatDoor
namespace Go.Proofs.YtgehbndkogohpaaGreatDoor
open Go Go.K
set_option maxRecDepth 10000
attribute [local irreducible] W WL cD bc bK bd bg bh cq ck
set_option maxHeartbeats 4000000
theorem gG{fn:Func}{tb:Tb}{P:Program}{g0 g:G}{L:List cS}(dq:tb.ok P){tmps:Array Value}{t tt b:Nat}{v:Value}{cs:List Value}{E:TypeId}{fz:Nat×Nat}(i:Nat)(hr:fn.results=#[.cell t tt])(hs:St g0 g L)
  (h1:tmps[t]? =some (.pointer (some ⟨b,0,none⟩))) (hi:L[i]? =some (.obj b (.cells cs.toArray E fz))) (hv:vj tb tt cs 0=some v):
  (results fn tmps).run P g.w= .ok v g.w:=by
 have e1:=gm (P:=P) (w:=g.w) (off:=0) (o:=0) dq hv (je (hs.own i _ hi).2.1);simp only[Nat.add_zero]at e1;simp[results,hr,h1,asAddr,e1]
theorem qg{b6:Nat}{v6:Bool}{g0 g:G}{e0:cS}{L:List cS}(hs:St g0 g (e0:: .obj b6 (.cells [Value.bool v6].toArray 4 (0,0))::L)):
  CallsDIn Wd 0 Tryz.prog 260 #[.pointer (some ⟨b6,0,none⟩)] (.panicking lV) g.w fun en u' w'=>en= .returned (.tuple #[])∧u'= .panicking [{v:=.iface 341 (.agg #[]),recovered:=true}]∧
   ∃g',g'.w=w'∧g.le g'∧St g0 g' (e0:: .obj b6 (.cells [Value.bool false].toArray 4 (0,0))::L):=by
 refine callsDIn_of_wpSIn Tryz.func260 rfl trivial fun c₀ cs hu=>?_;apply wpSIn_seq;apply wpSIn_region;simp[wpOpsSIn,go_sem,recoverD,hu,lV,Tryz.ntmps260,Exit.thenS];refine CL (N:=5) (l:=[(0,.pointer (some ⟨b6,0,none⟩)),(1,.iface 341 (.agg #[])),(2,.iface 341 (.agg #[]))]) rfl (by simp) (by simp[pX]) ?_;have aq:=G.le.refl g;refine cN 1 rfl ?_;refine ak rfl rfl (og (neg:=true) rfl rfl rfl rfl rfl ?_);apply bW;refine aM rfl rfl ?_;apply aA;refine bA rfl (az T.ok 1 rfl hs rfl rfl rfl rfl rfl rfl rfl rfl rfl ?_);replace hs:=hs;rintro g1 hs ah;replace aq:=G.le.trans aq ah;apply aE;exact Qi _ rfl rfl ⟨rfl,rfl,g1,rfl,aq,hs⟩
theorem qh{b6:Nat}(w:World):CallsDIn Wd 0 Tryz.prog 260 #[.pointer (some ⟨b6,0,none⟩)] .returning w fun en u' w'=>en= .returned (.tuple #[])∧u'= .returning∧w'=w:=by refine callsDIn_of_wpSIn Tryz.func260 rfl trivial fun c₀ cs hu=>?_;apply wpSIn_seq;apply wpSIn_region;simp[wpOpsSIn,go_sem,recoverD,hu,Tryz.ntmps260,Exit.thenS];refine CL (N:=5) (l:=[(0,.pointer (some ⟨b6,0,none⟩)),(1,.nilIface),(2,.nilIface)]) rfl (by simp) (by simp[pX]) ?_;refine cN 1 rfl ?_;refine ak rfl rfl (og (neg:=true) rfl rfl rfl rfl rfl ?_);apply bW;refine aV rfl rfl ?_;apply aF;exact Qi _ rfl (by cases c₀;simp_all) ⟨rfl,rfl,rfl⟩
def l9(f:bQ)(line:List UInt8):Option bQ:=
 if kA.isPrefixOf line=true then(pD f line).map fun s=>{f with steps:=f.steps++[s]}
 else(iq f line).map fun w=>{f with windows:=f.windows++[w]}
def sk(b:Nat)(L:List cS)(g0 g':G)(res:Option bQ)(r:Value):Prop:=
 match res with
 |some f'=>r= .bool true∧I1 b f' L g0 g'
 |none=>r= .bool false∧ ∃cs,St g0 g' (I5 b cs::L)
theorem I_{b:Nat}(f:bQ)(line:List UInt8)(hlen:line.length≤1000000)(L5:f.steps.length≤1000000)(Cy:f.windows.length≤1000000){g0 g:G}{L:List cS}(hF:jv g)(hO:I1 b f L g0 g):
  CallsIn Wd 0 Tryz.prog 218 #[.pointer (some ⟨b,0,none⟩),.string (bs line),.bool false] g.w (ek g fun g' r=>sk b L g0 g' (l9 f line) r):=by
 have aq:=G.le.refl g;obtain⟨sa,sc,wa,wc,xm,hs,df⟩:=hO;refine Gh Tryz.func218 rfl Tryz.ntmps218 rfl ?_;apply cM;refine ak rfl rfl (aK T.ok rfl hs rfl rfl ?_);clear hs;rintro b6 g1 hs ah;obtain⟨aq,df⟩:=cf ah aq df;have aT:St g0 g1 (Ki b f sa sc wa wc xm++ .obj b6 (.cells [Value.bool false].toArray 4 (0,0))::L):=hs.perm List.perm_middle.symm;replace hs:=aT;clear aT;apply bW;refine cN 1 rfl ?_;refine z6 rfl aJ rfl rfl rfl rfl ?_;apply bW;apply aD;apply aG;refine aY rfl ?_;refine aV rfl rfl ?_;refine cN 1 rfl ?_;refine ak rfl rfl (au Jz aJ rfl rfl rfl rfl rfl (Ar line kA _) ?_);rintro g2 _ xN rfl;replace hs:=hs.call xN;have ah:=xN.le;obtain⟨aq,df⟩:=cf ah aq df;have hO:I1 b f (.obj b6 (.cells [Value.bool false].toArray 4 (0,0))::L) g0 g2:=⟨sa,sc,wa,wc,xm,hs,df⟩
 have Vs:=hF.mono aq;clear hs df;refine bj rfl ?_;cases gj:kA.isPrefixOf line with
 |true=>
  refine aM rfl rfl ?_;apply aA;refine Wp 2 rfl ?_;have dH:=L4 f line hlen L5 Vs hO;refine ak rfl rfl (oS OB aJ rfl rfl rfl rfl rfl (dH.mono fun e w' h=>?_));rcases h with⟨g3,v,rfl,rfl,ah,rfl,s,jo,Uc⟩|⟨hn,g3,rfl,rfl,ah,cs,hs⟩
  ·refine .inl ⟨_,rfl,?_⟩;obtain⟨sa,sc,wa,wc,xm,hs,df⟩:=Uc;replace aq:=G.le.trans aq ah;apply aE;apply bR;apply ar;apply cM;refine bA rfl (az T.ok 3 rfl hs rfl rfl rfl rfl rfl rfl rfl rfl rfl ?_);replace hs:=hs;rintro g1 hs ah;obtain⟨aq,df⟩:=cf ah aq df;apply bW;refine aI (LM v_ fun tmps r9=>(qh _).mono ?_);rintro e u' LA ⟨rfl,rfl,rfl⟩;refine⟨_,gG T.ok 3 rfl hs (r9 _ _ rfl) rfl rfl,?_⟩;refine ek.intro aq ?_;rw[show l9 f line=some {f with steps:=f.steps++[s]}from by unfold l9;rw[if_pos gj,jo];rfl];exact⟨rfl,sa,sc,wa,wc,xm,hs.drop 3,df⟩
  refine .inr ⟨_,rfl,?_⟩;replace aq:=aq.trans ah
  (repeat (first|with_reducible refine gB ?_|with_reducible refine gC ?_|with_reducible refine gD ?_))
  refine BB v_ fun tmps r9=>(qg hs).mono ?_;rintro e u' LA ⟨rfl,rfl,g4,rfl,GN,Hm⟩;refine⟨_,gG T.ok 1 rfl Hm (r9 _ _ rfl) rfl rfl,?_⟩;refine ek.intro (aq.trans GN) ?_;rw[show l9 f line=none from by unfold l9;rw[if_pos gj,hn];rfl];exact⟨rfl,cs,Hm.drop 1⟩
 |false=>
  refine aV rfl rfl ?_;apply aA;refine Wp 2 rfl ?_;have dH:=GI f line hlen Cy Vs hO;refine ak rfl rfl (oS OC aJ rfl rfl rfl rfl rfl (dH.mono fun e w' h=>?_));rcases h with⟨g3,v,rfl,rfl,ah,rfl,s,jo,Uc⟩|⟨hn,g3,rfl,rfl,ah,cs,hs⟩
  ·refine .inl ⟨_,rfl,?_⟩;obtain⟨sa,sc,wa,wc,xm,hs,df⟩:=Uc;replace aq:=G.le.trans aq ah;apply aE;apply bR;apply ar;apply cM;refine bA rfl (az T.ok 3 rfl hs rfl rfl rfl rfl rfl rfl rfl rfl rfl ?_);replace hs:=hs;rintro g1 hs ah;obtain⟨aq,df⟩:=cf ah aq df;apply bW;refine aI (LM v_ fun tmps r9=>(qh _).mono ?_);rintro e u' LA ⟨rfl,rfl,rfl⟩;refine⟨_,gG T.ok 3 rfl hs (r9 _ _ rfl) rfl rfl,?_⟩;refine ek.intro aq ?_;rw[show l9 f line=some {f with windows:=f.windows++[s]}from by unfold l9;rw[if_neg (by rw[gj];simp),jo];rfl];exact⟨rfl,sa,sc,wa,wc,xm,hs.drop 3,df⟩
  refine .inr ⟨_,rfl,?_⟩;replace aq:=aq.trans ah
  (repeat (first|with_reducible refine gB ?_|with_reducible refine gC ?_|with_reducible refine gD ?_))
  refine BB v_ fun tmps r9=>(qg hs).mono ?_;rintro e u' LA ⟨rfl,rfl,g4,rfl,GN,Hm⟩;refine⟨_,gG T.ok 1 rfl Hm (r9 _ _ rfl) rfl rfl,?_⟩;refine ek.intro (aq.trans GN) ?_;rw[show l9 f line=none from by unfold l9;rw[if_neg (by rw[gj];simp),hn];rfl];exact⟨rfl,cs,Hm.drop 1⟩
theorem As{b:Nat}(line:List UInt8)(hlen:line.length≤1000000){g0 g:G}{L:List cS}(hF:jv g)(hs:St g0 g (Ki b ⟨0,0,[],[]⟩ none 0 none 0 []++L)):
  CallsIn Wd 0 Tryz.prog 218 #[.pointer (some ⟨b,0,none⟩),.string (bs line),.bool true] g.w (ek g fun g' r=>sk b L g0 g' ((lI line).map fun p=>⟨p.1,p.2,[],[]⟩) r):=by
 have aq:=G.le.refl g;refine Gh Tryz.func218 rfl Tryz.ntmps218 rfl ?_;apply cM;refine ak rfl rfl (aK T.ok rfl hs rfl rfl ?_);clear hs;rintro b6 g1 hs ah;replace aq:=G.le.trans aq ah;have aT:St g0 g1 (Ki b ⟨0,0,[],[]⟩ none 0 none 0 []++ .obj b6 (.cells [Value.bool false].toArray 4 (0,0))::L):=hs.perm List.perm_middle.symm;replace hs:=aT;clear aT;apply bW;refine cN 1 rfl ?_;refine z6 rfl aJ rfl rfl rfl rfl ?_;apply bW;apply aD;apply aG;refine aY rfl ?_;refine aM rfl rfl ?_;apply aA;refine Wp 2 rfl ?_;have dH:=L6 line hlen (hF.mono aq) hs;clear hs;refine ak rfl rfl (oS OA aJ rfl rfl rfl rfl rfl (dH.mono fun e w' h=>?_));rcases h with⟨g3,v,rfl,rfl,ah,rfl,m,n,Lc,hs⟩|⟨hn,g3,rfl,rfl,ah,cs,hs⟩
 ·refine .inl ⟨_,rfl,?_⟩;replace aq:=G.le.trans aq ah;apply aE;apply bR;apply ar;apply cM;refine bA rfl (az T.ok 3 rfl hs rfl rfl rfl rfl rfl rfl rfl rfl rfl ?_);replace hs:=hs;rintro g1 hs ah;replace aq:=G.le.trans aq ah;apply bW;refine aI (LM v_ fun tmps r9=>(qh _).mono ?_);rintro e u' LA ⟨rfl,rfl,rfl⟩;refine⟨_,gG T.ok 3 rfl hs (r9 _ _ rfl) rfl rfl,?_⟩;refine ek.intro aq ?_;rw[Lc];exact⟨rfl,none,0,none,0,[],hs.drop 3,rfl⟩
 refine .inr ⟨_,rfl,?_⟩;replace hs:=(hs.drop 1).drop 1;replace aq:=aq.trans ah
 (repeat (first|with_reducible refine gB ?_|with_reducible refine gC ?_|with_reducible refine gD ?_))
 refine BB v_ fun tmps r9=>(qg hs).mono ?_;rintro e u' LA ⟨rfl,rfl,g4,rfl,GN,Hm⟩;refine⟨_,gG T.ok 1 rfl Hm (r9 _ _ rfl) rfl rfl,?_⟩;refine ek.intro (aq.trans GN) ?_;rw[hn];exact⟨rfl,cs,Hm.drop 1⟩
end Go.Proofs.YtgehbndkogohpaaGreatDoor
namespace Go.Proofs.YtgehbndkogohpaaGreatDoor
open Go Go.K
set_option maxRecDepth 10000
attribute [local irreducible] W WL cD bc bK bd bg bh cq ck
set_option maxHeartbeats 4000000
def np:bQ:=⟨0,0,[],[]⟩
def pC(l:List UInt8):Bool:=l==[]||[35].isPrefixOf l
def oC(first:Bool)(f:bQ)(l:List UInt8):Option bQ:=if first=true then(lI l).map fun p=>⟨p.1,p.2,[],[]⟩else l9 f l
def fj(first:Bool)(f:bQ)(i:Nat):List (List UInt8)→bQ⊕Nat
 |[]=> .inl f
 |l::r=>if pC l=true then fj first f (i+1) r else
  match oC first f l with
  |some f'=>fj false f' (i+1) r
  |none=> .inr (i+1)
def kW(s:List UInt8):bQ⊕Nat:=
 match fj true np 0 (bN 10 s)with
 | .inl f=>if valid f=true then .inl f else .inr (bN 10 s).length
 | .inr k=> .inr k
def L8:Value:=.agg #[.int .i64 0,.int .i64 0,.slice none 0 0,.slice none 0 0]
def oN(g':G)(res:bQ⊕Nat)(r:Value):Prop:=
 match res with
 | .inl f=> ∃v,r= .tuple #[v,.int .i64 0,.int .i64 0]∧ff g' v f
 | .inr k=>r= .tuple #[L8,.int .i64 k,.int .i64 40]
theorem GO{fn:Func}{tb:Tb}{P:Program}{N:Nat}{l:Env}{g0 g:G}{L:List cS}{R:Ending→World→Prop}(dq:tb.ok P)(i:Nat){t tt u x b:Nat}{cs:List Value}{E:TypeId}{fz:Nat×Nat}{v v2 v3:Value}(hr:fn.results=#[.cell t tt,.tmp u,.tmp x])(hs:St g0 g L)(hi:L[i]? =some (.obj b (.cells cs.toArray E fz)))
  (hl:lk l t=some (.pointer (some ⟨b,0,none⟩))) (hv:vj tb tt cs 0=some v) (wo:lk l u=some v2) (Q9:lk l x=some v3) (hR:R (.returned (.tuple #[v,v2,v3])) g.w) (a:Act) (ha:Fr N [] l a):bodyPost P fn R .ret a g.w:=by
 refine⟨ha.defers,_,?_,hR⟩;have:=gm (P:=P) (w:=g.w) (off:=0) (o:=0) dq hv (je (hs.own i _ hi).2.1);simp only[Nat.add_zero]at this;simp[results,hr,ha.get t _ hl,ha.get u _ wo,ha.get x _ Q9,asAddr,this]
def Au(b b2:Nat)(first:Bool)(f:bQ)(g0 g:G):Prop:=
 match first with
 |true=>f=np∧St g0 g (Ki b np none 0 none 0 []++[.obj b2 (.cells [.int .i64 0,.int .i64 0,.slice none 0 0,.slice none 0 0].toArray 28 (0,0))])
 |false=>I1 b f [.obj b2 (.cells [.int .i64 0,.int .i64 0,.slice none 0 0,.slice none 0 0].toArray 28 (0,0))] g0 g
theorem Au.o{b b2:Nat}{first:Bool}{f:bQ}{g0 g:G}(h:Au b b2 first f g0 g):I1 b f [.obj b2 (.cells [.int .i64 0,.int .i64 0,.slice none 0 0,.slice none 0 0].toArray 28 (0,0))] g0 g:=by
 cases first with
 |true=>obtain⟨rfl,h⟩:=h;exact⟨none,0,none,0,[],h,rfl⟩
 |false=>exact h
theorem Au.call{b b2:Nat}{first:Bool}{f:bQ}{g0 g g':G}(h:Au b b2 first f g0 g)(hf:a_ g g'):Au b b2 first f g0 g':=by
 cases first with
 |true=>exact⟨h.1,h.2.call hf⟩
 |false=>obtain⟨a,c,d,e,k,h1,h2⟩:=h;exact⟨a,c,d,e,k,h1.call hf,h2.mono hf.le⟩
theorem Ed{b b2:Nat}{first:Bool}(f:bQ)(line:List UInt8)(hlen:line.length≤1000000)(L5:f.steps.length≤1000000)(Cy:f.windows.length≤1000000){g0 g:G}(hF:jv g)(h:Au b b2 first f g0 g):
  CallsIn Wd 0 Tryz.prog 218 #[.pointer (some ⟨b,0,none⟩),.string (bs line),.bool first] g.w (ek g fun g' r=>sk b [.obj b2 (.cells [.int .i64 0,.int .i64 0,.slice none 0 0,.slice none 0 0].toArray 28 (0,0))] g0 g' (oC first f line) r):=by
 cases first with
 |true=>obtain⟨rfl,h⟩:=h;exact As line hlen hF h
 |false=>exact I_ f line hlen L5 Cy hF h
theorem GP{first:Bool}{f f':bQ}{line:List UInt8}(h:oC first f line=some f'):f'.steps.length≤f.steps.length+1∧f'.windows.length≤f.windows.length+1:=by
 unfold oC l9 at h;split at h
 ·obtain⟨p,_,rfl⟩:=Option.map_eq_some_iff.1 h;exact⟨Nat.zero_le _,Nat.zero_le _⟩
 split at h
 ·obtain⟨p,_,rfl⟩:=Option.map_eq_some_iff.1 h;exact⟨by simp,by simp⟩
 obtain⟨p,_,rfl⟩:=Option.map_eq_some_iff.1 h;exact⟨by simp,by simp⟩
theorem HY(s:List UInt8)(g:G)(hlen:s.length≤999999)(hF:jv g):CallsIn Wd 0 Tryz.prog 108 #[.string (bs s)] g.w (cF g fun g' r=>oN g' (kW s) r):=by
 have hs:=St.start g;have aq:=G.le.refl g;refine enter Tryz.func108 rfl Tryz.ntmps108 rfl ?_;apply cM;refine ak rfl rfl (aK T.ok rfl hs rfl rfl ?_);clear hs;rintro b2 g1 hs ah;replace aq:=G.le.trans aq ah;refine bj rfl ?_;apply cM;refine ak rfl rfl (aK T.ok rfl hs rfl rfl ?_);clear hs;rintro b g1 hs ah;replace aq:=G.le.trans aq ah;apply bW;refine cN 1 rfl ?_;refine ak rfl rfl (au ED aJ rfl rfl rfl rfl rfl (yG s 10 _ (by omega) (hF.mono aq)) ?_);rintro g1 vo aP Kk;obtain⟨gz,iQ,cP,jq,aH⟩:=hs.nU aP Kk;have ah:=aP.le.trans jq;rw[←iQ];replace hs:=cP;clear cP Kk;replace aq:=G.le.trans aq ah;have wi:=o3 10 s;have rq:=kP 10 s;have Vt: ∀x,fj true np 0 (bN 10 s)=x→kW s=match x with
  | .inl f=>if valid f=true then .inl f else .inr (bN 10 s).length
  | .inr k=> .inr k:=by rintro x rfl;rfl
 generalize bN 10 s=ps at*;obtain⟨pa,pc,rfl⟩:=aH.isSlice;have QI:=aq;have Kl:(ps.map yf.mk).length=ps.length:=List.length_map _;have GQ:Rs gz (.slice pa ps.length pc) (ps.map yf.mk):=by have h:=aH;rw[Kl]at h;exact h
 clear aH;rw[Kl];have aT:St g gz (Ki b np none 0 none 0 []++[.obj b2 (.cells [.int .i64 0,.int .i64 0,.slice none 0 0,.slice none 0 0].toArray 28 (0,0))]):=
  ((hs.iN 58 3 none).iN 60 7 none).perm (List.perm_middle (l₁:=[cS.row 60 7 (.slice none 0 0) 0 [],cS.row 58 3 (.slice none 0 0) 0 []]))
 clear hs;have Vu:Au b b2 true np g gz:=⟨rfl,aT⟩
 clear aT;refine bj rfl ?_;refine aY rfl ?_;apply aD;refine aY rfl ?_;apply aG;refine bM (fun m a' w=> ∃(k:Nat) (first:Bool) (f:bQ) (g':G),w=g'.w∧Au b b2 first f g g'∧G.le gz g'∧k≤ps.length∧m=ps.length-k∧f.steps.length≤k∧f.windows.length≤k∧fj first f k (ps.drop k)=fj true np 0 ps∧
  Fr 40 [] [(2,.pointer (some ⟨b2,0,none⟩)),(5,.pointer (some ⟨b,0,none⟩)),(6,.slice pa ps.length pc),(7,.bool first),(12,.slice pa ps.length pc),(13,.int .i64 ps.length),(14,.int .i64 k)] a') ps.length
   (fun a' ha=>⟨0,true,np,gz,rfl,Vu,G.le.refl _,Nat.zero_le _,rfl,Nat.zero_le _,Nat.zero_le _,rfl,ha.keep (by(repeat (first|exact trivial|refine⟨rfl,?_⟩)))⟩) ?_
 clear aq Vu;rintro m a' _ ⟨k,first,f,g',rfl,hP,yH,hk,rfl,L5,Cy,wO,eF⟩;have aH:=GQ.mono yH;have aq:=QI.trans yH;revert a';apply cI;refine aY rfl ?_;apply aD;by_cases bC:k<ps.length
 ·refine aM (b:=decide ((k:Int)<(ps.length:Int))) (by simp;omega) rfl ?_;rw[List.drop_eq_getElem_cons bC]at wO;apply aF;apply ar;apply aD;apply aG;refine cN 1 rfl ?_;refine ak rfl rfl (aW T.ok rfl aH (y:=⟨ps[k]⟩) (by simp[dS,bC]) rfl rfl rfl rfl rfl rfl ?_);rintro bq pq ys aL rfl;refine Wm 1 [.e aL 0] (St.start _) rfl ?_;refine bj rfl ?_;apply aD;refine cN 3 rfl ?_;by_cases h0:ps[k]=[]
  ·refine cO 21 (b':=true) (by rw[cB,tH];simp[h0]) rfl ?_;rw[show fj first f k (ps[k]::ps.drop (k+1))=fj first f (k+1) (ps.drop (k+1))from by rw[fj,if_pos (by unfold pC;rw[h0];rfl)]]at wO;refine bj rfl ?_;refine aM rfl rfl ?_;apply bF;apply bG;apply c_;apply ar;apply aA;refine Wp 2 rfl ?_;apply aE;refine fun a ha=>⟨ps.length-(k+1),by omega,k+1,first,f,g',rfl,hP,yH,by omega,rfl,by have:=L5;omega,by have:=Cy;omega,wO,ha.keep ⟨rfl,rfl,rfl,rfl,rfl,rfl,kI rfl (by rw[wr (by omega) (by omega)];omega),trivial⟩⟩
  refine cO 21 (b':=false) (by rw[cB,tH];simp[h0]) rfl ?_;refine Wp 1 rfl ?_;refine ak rfl rfl (au Jz aJ rfl rfl rfl rfl rfl (Ar ps[k] [35] _) ?_);rintro g2 _ xN rfl;replace hP:=hP.call xN;have ah:=xN.le;replace aq:=G.le.trans aq ah;replace yH:=yH.trans ah;cases gj:[35].isPrefixOf ps[k]with
  |true=>
   rw[show fj first f k (ps[k]::ps.drop (k+1))=fj first f (k+1) (ps.drop (k+1))from by rw[fj,if_pos (by unfold pC;rw[gj,Bool.or_true])]]at wO;refine bj rfl ?_;refine aM rfl rfl ?_;apply bF;apply bG;apply c_;apply ar;apply aA;refine Wp 2 rfl ?_;apply aE;refine fun a ha=>⟨ps.length-(k+1),by omega,k+1,first,f,g2,rfl,hP,yH,by omega,rfl,by have:=L5;omega,by have:=Cy;omega,wO,ha.keep ⟨rfl,rfl,rfl,rfl,rfl,rfl,kI rfl (by rw[wr (by omega) (by omega)];omega),trivial⟩⟩
  |false=>
   rw[show fj first f k (ps[k]::ps.drop (k+1))=(match oC first f ps[k]with
    |some f'=>fj false f' (k+1) (ps.drop (k+1))
    |none=> .inr (k+1))from by rw[fj,if_neg (by unfold pC;rw[gj,Bool.or_false];simpa using h0)]]at wO
   refine bj rfl ?_;refine aV rfl rfl ?_;apply aF;apply ar;apply aD;refine cN 2 rfl ?_;refine ak rfl rfl (du N' aJ rfl rfl rfl rfl rfl (Ed f ps[k] (Nat.le_trans (rq _ (List.getElem_mem bC)) (by omega)) (by omega) (by omega) (hF.mono aq) hP) ?_);rintro g3 r ah C5;replace yH:=yH.trans ah;cases Gd:oC first f ps[k]with
   |some f'=>
    rw[Gd]at C5 wO;obtain⟨rfl,hO⟩:=C5;have wo:=GP Gd;refine bj rfl ?_;refine aV rfl rfl ?_;apply aF;apply ar;apply aA;refine Wp 1 rfl ?_;apply aE;apply bR;apply ar;apply aA;refine Wp 2 rfl ?_;apply aE;refine fun a ha=>⟨ps.length-(k+1),by omega,k+1,false,f',g3,rfl,hO,yH,by omega,rfl,by have:=wo.1;omega,by have:=wo.2;omega,wO,ha.keep ⟨rfl,rfl,rfl,rfl,rfl,rfl,kI rfl (by rw[wr (by omega) (by omega)];omega),trivial⟩⟩
   |none=>
    rw[Gd]at C5 wO;obtain⟨rfl,cs,hs⟩:=C5;refine bj rfl ?_;refine aM rfl rfl ?_;apply cM;refine ak rfl rfl (aQ T.ok rfl (vs:=[]) (cells:=[.int .i64 0,.int .i64 0,.slice none 0 0,.slice none 0 0]) rfl rfl rfl rfl [(0,1),(1,1),(2,1),(3,1)] rfl (by kernel_rfl) ?_);refine Wp 2 rfl ?_;refine bA rfl (az T.ok 1 rfl hs rfl rfl rfl rfl rfl rfl rfl rfl rfl ?_);replace hs:=hs;rintro g1 hs ah;refine bj rfl ?_;refine aI ?_;apply eD;apply hQ;apply eD;apply eD;apply hQ;apply eD;refine GO (v2:=.int .i64 ((k+1:Nat):Int)) T.ok 1 rfl hs rfl rfl rfl (kI rfl (by rw[wr (by omega) (by omega)];omega)) rfl (hs.ret ?_);rw[Vt _ wO.symm];rfl
 refine aV (b:=decide ((k:Int)<(ps.length:Int))) (by simp;omega) rfl ?_;obtain rfl:k=ps.length:=by omega
 rw[List.drop_length]at wO;have QJ:=Vt _ wO.symm;obtain⟨sa,sc,wa,wc,xm,hs,df⟩:=hP.o;obtain⟨g1,z',nz,ZA,bS⟩:=hs.cK (α:=Step) (xs:=f.steps) (i:=1) rfl df;obtain⟨g2,bL,aT,UN,cH⟩:=nz.cK (α:=bZ) (xs:=f.windows) (i:=1) rfl (cG.win _ _);replace hs:St g g2 (.obj b (.cells [.int .i64 f.bB,.int .i64 f.bU,.slice sa f.steps.length sc,.slice wa f.windows.length wc].toArray 28 (0,0)):: .obj b2 (.cells [.int .i64 0,.int .i64 0,.slice none 0 0,.slice none 0 0].toArray 28 (0,0))::[]):=aT;clear nz aT;replace bS:=bS.mono UN;rw[←z',←bL];have dj:ff g2 (.agg #[.int .i64 f.bB,.int .i64 f.bU,.slice sa f.steps.length sc,.slice wa f.windows.length wc]) f:=⟨sa,f.steps.length,sc,wa,f.windows.length,wc,rfl,bS,cH⟩
 apply bF;apply bG;apply bG;apply c_;apply ar;apply aD;refine dz 1 [.o 0] hs rfl ?_;refine ak rfl rfl (au Kx aJ rfl rfl rfl rfl rfl (xZ _ f _ dj) ?_);rintro g1 _ aP rfl;replace hs:=hs.call aP;have ah:=aP.le;replace dj:=dj.mono ah;refine bj rfl ?_;cases hv:valid f with
 |true=>
  refine aV rfl rfl ?_;apply aF;apply ar;refine dz 1 [.o 0] hs rfl ?_;refine bA rfl (az T.ok 1 rfl hs rfl rfl rfl rfl rfl rfl rfl rfl rfl ?_);replace hs:=hs;rintro g1 hs ah;replace dj:=dj.mono ah;refine bj rfl ?_;refine aI ?_;skip;refine GO T.ok 1 rfl hs rfl rfl rfl rfl rfl (hs.ret ?_);rw[QJ];show oN _ (if valid f=true then _ else _) _;rw[if_pos hv];exact⟨_,rfl,dj⟩
 |false=>
  refine aM rfl rfl ?_;apply cM;refine ak rfl rfl (aQ T.ok rfl (vs:=[]) (cells:=[.int .i64 0,.int .i64 0,.slice none 0 0,.slice none 0 0]) rfl rfl rfl rfl [(0,1),(1,1),(2,1),(3,1)] rfl (by kernel_rfl) ?_);refine Wp 2 rfl ?_;refine bA rfl (az T.ok 1 rfl hs rfl rfl rfl rfl rfl rfl rfl rfl rfl ?_);replace hs:=hs;rintro g1 hs ah;refine bj rfl ?_;refine aI ?_;apply eD;refine GO T.ok 1 rfl hs rfl rfl rfl rfl rfl (hs.ret ?_);rw[QJ];show oN _ (if valid f=true then _ else _) _;rw[if_neg (by rw[hv];simp)];rfl
end Go.Proofs.YtgehbndkogohpaaGreatDoor
namespace Go.Proofs.YtgehbndkogohpaaGreatDoor
open Go Go.K
set_option maxRecDepth 10000
attribute [local irreducible] W WL cD bc bK bd bg bh cq ck
set_option maxHeartbeats 2000000
def I'(E:TypeId):Prop:=liesAt Tryz.prog Tryz.prog.depth E (2/Tryz.prog.cellsOf E) 0 117 1=true
theorem EM:I' 150:=by unfold I';kernel_rfl
theorem Av{b:Nat}{p v:Value}(hp:p= .pointer none∨p= .pointer (some ⟨b,0,none⟩)){E:TypeId}(hE:I' E){g0 g:G}{L:List cS}(hs:St g0 g (.obj b (.cells [p,v].toArray E (0,0))::L)):
  CallsIn Wd 0 Tryz.prog 125 #[.pointer (some ⟨b,0,none⟩)] g.w
   (ek g fun g' r=>r= .tuple #[]∧St g0 g' (.obj b (.cells [.pointer (some ⟨b,0,none⟩),v].toArray E (0,0))::L)):=by
 have aq:=G.le.refl g;have hh:g.w.heap[b]? =some (.cells [p,v].toArray E (0,0)):=(hs.own 0 _ rfl).2.1;have nN:g.w.shape? b=some (E,2):=by simp[World.shape?,hh]
 obtain⟨j,hj,F_⟩:=Option.map_eq_some_iff.1 Tryz.Builder_Extra_169.sizeBuilder;refine enter Tryz.func125 rfl Tryz.ntmps125 rfl ?_;refine dz 4 [.o 0] hs rfl ?_;rcases hp with rfl|rfl
 ·refine ak rfl rfl (dw T.ok (neg:=false) rfl rfl rfl rfl rfl ?_);apply aE;apply ar;refine aM rfl rfl ?_;apply aA;refine Wp 2 rfl ?_;refine ak rfl rfl (zZ rfl rfl (Lib.run_to_unsafe g.w ⟨b,0,none⟩ Tryz.underlying114 Tryz.underlying272 hj (by rw[F_];decide) nN (Nat.zero_lt_succ 1)) ?_);refine ak rfl rfl (BA Tryz.func226 (by kernel_rfl) (by kernel_rfl) (by kernel_rfl) (e:=Extern.AbiNoEscape.same) (by kernel_rfl) aJ rfl rfl rfl rfl ?_);refine ak rfl rfl (zZ rfl rfl (Lib.run_from_unsafe g.w ⟨b,0,none⟩ Tryz.underlying272 Tryz.underlying114 hj nN hE) ?_);refine Wp 2 rfl ?_;refine bA rfl (az T.ok 0 rfl hs rfl rfl rfl rfl rfl rfl rfl rfl rfl ?_);replace hs:=hs;rintro g1 hs ah;replace aq:=G.le.trans aq ah;apply aE;exact kD rfl (ek.intro aq ⟨rfl,hs⟩)
 refine ak rfl rfl (dw T.ok (neg:=false) rfl rfl rfl rfl rfl ?_);apply aE;apply ar;refine aV rfl rfl ?_;refine dz 5 [.o 0] hs rfl ?_;refine ak rfl rfl (uP rfl rfl rfl Tryz.underlying114 hj ?_);apply bW;refine aV rfl rfl ?_;apply aF;exact kD rfl (ek.intro aq ⟨rfl,hs⟩)
theorem EL{b:Nat}{p v:Value}{xs:List UInt8}{Lr:List cS}(hp:p= .pointer none∨p= .pointer (some ⟨b,0,none⟩))(hb:ma 5 v xs Lr)(ys:List UInt8)(hl:xs.length+ys.length≤140737488355328)
  {E:TypeId} (hE:I' E) {g0 g:G} {L:List cS} (hs:St g0 g (.obj b (.cells [p,v].toArray E (0,0))::(Lr++L))):
  CallsIn Wd 0 Tryz.prog 47 #[.pointer (some ⟨b,0,none⟩),.string (bs ys)] g.w
   (ek g fun g' _=> ∃v' vt,ma 5 v' (xs++ys) vt∧St g0 g' (.obj b (.cells [.pointer (some ⟨b,0,none⟩),v'].toArray E (0,0))::(vt++L))):=by
 have aq:=G.le.refl g;refine enter Tryz.func47 rfl Tryz.ntmps47 rfl ?_;refine aY rfl ?_;refine cN 1 rfl ?_;refine ak rfl rfl (du Nk aJ rfl rfl rfl rfl rfl (Av hp hE hs) ?_);clear hs;rintro g1 _ ah ⟨rfl,hs⟩;replace aq:=G.le.trans aq ah;apply bW;refine dz 6 [.o 0] hs rfl ?_;refine ak rfl rfl (zY T.ok rfl hb hs.Xr rfl rfl rfl rfl rfl rfl rfl rfl rfl rfl hl ?_);rintro v' vt g2 Vv aT ah;replace aq:=G.le.trans aq ah;obtain⟨ao,no,co,rfl⟩: ∃ao no co,v'= .slice ao no co:=by rcases Vv with⟨rfl,_⟩|⟨_,_,_,rfl,_⟩<;>exact⟨_,_,_,rfl⟩
 replace hs:=aT.TF;refine Wp 2 rfl ?_;refine bA rfl (az T.ok 0 rfl hs rfl rfl rfl rfl rfl rfl rfl rfl rfl ?_);replace hs:=hs;rintro g1 hs ah;replace aq:=G.le.trans aq ah;apply bW;refine aY rfl ?_;exact aI (rH rfl rfl rfl (ek.intro aq ⟨_,vt,Vv,hs⟩))
theorem AZ{b:Nat}{p v:Value}{xs:List UInt8}{Lr:List cS}(hx:xs≠[])(hb:ma 5 v xs Lr){E:TypeId}{g0 g:G}{L:List cS}(hs:St g0 g (.obj b (.cells [p,v].toArray E (0,0))::(Lr++L))):
  CallsIn Wd 0 Tryz.prog 52 #[.pointer (some ⟨b,0,none⟩)] g.w (ek g fun g' r=>r= .string (bs xs)∧St g0 g' L):=by
 rcases hb with⟨_,h,_⟩|⟨br,cap,cur,rfl,rfl,o7,sB,nY,fP⟩
 ·exact absurd h hx
 have En:xs.length≠0:=by simpa using hx
 have aq:=G.le.refl g;refine enter Tryz.func52 rfl Tryz.ntmps52 rfl ?_;refine aY rfl ?_;apply aD;apply bP hs (eO (eQ [])) 10 [(4,7),(9,12)] (by kernel_rfl) rfl
 ·refine Dm [[],[0],[1],[2]] [.o 0] hs (by kernel_rfl) rfl ?_;refine ay (an (js:=[(3,6)]) (by kernel_rfl) fun gd hf=>?_) ?_
  ·exact ai rfl (aj (aB rfl (vO rfl rfl (by omega) ⟨gd,rfl,a_.refl gd,rfl⟩)))
  exact Dz [[],[5],[6],[7],[8]] [.o 0] hs (by kernel_rfl) rfl
 clear hs;intro g1 hs ah;replace aq:=G.le.trans aq ah;skip;refine ak rfl rfl (vP 1 hs rfl rfl rfl rfl hx rfl rfl o7 sB nY fP ?_);clear hs;intro g2 hs ah;replace aq:=G.le.trans aq ah;refine bj rfl ?_;exact aI (aX rfl rfl (ek.intro aq ⟨rfl,hs.drop 0⟩))
end Go.Proofs.YtgehbndkogohpaaGreatDoor
namespace Go.Proofs.YtgehbndkogohpaaGreatDoor
open Go Go.K
set_option maxRecDepth 10000
attribute [local irreducible] W WL cD bc bK bd bg bh cq ck
set_option maxHeartbeats 2000000
def It(b:Nat)(z:Int):cS:=.obj b (.cells [.int .u64 z].toArray 261 (0,0))
theorem zL(b:Nat)(k0:Nat)(z0:Int)(g:G)(Tr:0≤z0∧z0<128^(k0+1)):
  P0 Tryz.prog 274 #[.pointer (some ⟨b,0,none⟩)] (fun x:Int×Bool=>[.int .u8 x.1,.bool x.2]) (lu (k0+1) z0) (It b z0) g:=by
 intro g1 hle yv J Jx P1 hy AX;have aq:=G.le.refl g1;refine enter Tryz.func274 rfl Tryz.ntmps274 rfl ?_;apply aG;refine bM (fun m a' w=> ∃(k:Nat) (z:Int) (pre:List (Int×Bool)) (g2:G),w=g2.w∧G.le g1 g2∧k≤k0∧m=k∧(0≤z∧z<128^(k+1))∧J pre (It b z) g2∧lu (k0+1) z0=pre++lu (k+1) z∧
   Fr 18 [] [(0,yv),(1,.pointer (some ⟨b,0,none⟩))] a') k0
  (fun a' ha=>⟨k0,z0,[],g1,rfl,aq,Nat.le_refl _,rfl,Tr,AX,rfl,ha.keep (by(repeat (first|exact trivial|refine⟨rfl,?_⟩)))⟩) ?_
 clear aq;rintro k a' _ ⟨_,z,pre,g2,rfl,aq,hk,rfl,hz,qu,hx,eF⟩;obtain⟨g0,L,i,hs,hi,Cm⟩:=P1 _ _ _ qu;revert a';have wO:lu (k+1) z=(IntKind.u8.wrap (bc .u64 z 127),decide (z<128))::if z<128 then []else lu k (ck .u64 z 7):=rfl
 rw[wO]at hx;apply cI;apply aG;apply cM;refine ak rfl rfl (e_ T.ok i rfl hs hi rfl rfl ?_);refine bj rfl ?_;apply aD;refine cN 1 rfl ?_;refine ak rfl rfl (e_ T.ok i rfl hs hi rfl rfl ?_);refine Wp 3 rfl ?_;refine ak rfl rfl (eo rfl rfl rfl rfl rfl rfl ((hy pre _ _ _ _ hx aq qu).mono ?_));rintro _ _ ⟨g3,bb,rfl,rfl,ah,ht,hf⟩;refine⟨_,rfl,?_⟩;replace aq:=aq.trans ah;have gj:pre++[(IntKind.u8.wrap (bc .u64 z 127),decide (z<128))]<+:lu (k0+1) z0:=⟨if z<128 then []else lu k (ck .u64 z 7),by rw[hx];simp⟩
 cases bb with
 |false=>
  refine bj rfl ?_;refine aM rfl rfl ?_;skip;refine aI ?_;apply eD;apply hQ;apply eD;apply hQ;refine s3 rfl ?_;exact⟨g3,_,rfl,rfl,aq,.inr ⟨_,_,gj,hf rfl⟩⟩
 |true=>
  have He:=ht rfl;by_cases bC:z<128
  ·rw[if_pos bC]at hx;refine bj rfl ?_;refine aM (b:=decide (z<128)) (decide_eq_true bC) rfl ?_;skip;refine aI ?_;apply eD;apply hQ;apply eD;apply hQ;refine s3 rfl ?_;exact⟨g3,_,rfl,rfl,aq,.inl ⟨_,by rw[hx];exact He⟩⟩
  rw[if_neg bC]at hx;obtain⟨k,rfl⟩: ∃k',k=k'+1:=⟨k-1,by
   rcases k with _|k
   ·simp at hz;omega
   rfl⟩
  obtain⟨g4,L',i',jo,hi',Lx⟩:=P1 _ _ _ He;refine bj rfl ?_;refine aV (b:=decide (z<128)) (decide_eq_false bC) rfl ?_;apply aF;apply ar;apply aA;refine ak rfl rfl (e_ T.ok i' rfl jo hi' rfl rfl ?_);refine Wp 1 rfl ?_;refine bA rfl (az T.ok i' rfl jo hi' rfl rfl rfl rfl rfl rfl rfl rfl ?_);rintro g5 DC ah;have W_:=Lx (It b (ck .u64 z 7)) g5 DC ah;apply aE;apply bR;exact fun a ha=>⟨k,by omega,k,ck .u64 z 7,_,g5,rfl,aq.trans ah,by omega,rfl,by
   rw[Ts hz.1];have h:=hz.2;rw[Int.pow_succ]at h;exact⟨by omega,by omega⟩,W_,by rw[hx];simp,ha.keep (by(repeat (first|exact trivial|refine⟨rfl,?_⟩)))⟩
theorem F5(z:Int)(g:G):CallsIn Wd 0 Tryz.prog 244 #[.int .u64 z] g.w
  (cF g fun g' r=> ∃b,r= .func (.func 274) #[] #[.pointer (some ⟨b,0,none⟩)]∧(It b z).holds g.w.heap.size g'):=by
 have hs:=St.start g;have aq:=G.le.refl g;refine enter Tryz.func244 rfl Tryz.ntmps244 rfl ?_;apply cM;refine ak rfl rfl (aO rfl hs rfl rfl ?_);clear hs;rintro b1 g1 hs ah;refine bj rfl ?_;refine aY rfl ?_;exact aI (aX rfl rfl (hs.ret ⟨_,rfl,hs.own 0 _ rfl⟩))
theorem zi(n:Int)(g:G)(hn:qm n):CallsIn Wd 0 Tryz.prog 158 #[.int .i64 n] g.w (cF g fun _ r=>r= .tuple #[.string (bs (eT n)),.int .i64 0]):=by
 have hs:=St.start g;have aq:=G.le.refl g;have Em:=hn.1;have Eo:=hn.2;refine pL Tryz.func158 rfl Tryz.ntmps158 rfl ?_;refine aY rfl ?_;apply aD;refine cN 3 rfl ?_;refine cO 9 (b':=false) (decide_eq_false (by omega)) rfl ?_;refine bj rfl ?_;refine aV (b:=decide (4611686018427387903<n)) (decide_eq_false (by omega)) rfl ?_;apply aF;apply ar;apply cM;refine ak rfl rfl (aK T.ok rfl hs rfl rfl ?_);clear hs;rintro bo g1 hs ah;replace hs:=hs.iN 5 1 none;apply bW;apply aD;refine cN 7 rfl ?_;have Xc:=F6 n;have MI:=wP 10 (zz n);unfold eT;refine kz (.int .u64 (zz n)) (t:=19) rfl rfl ?_;generalize zz n=z at*;refine ak rfl rfl (au Oq aJ rfl rfl rfl rfl rfl (F5 z _) ?_);rintro g4 _ ki ⟨bz,rfl,hh⟩;replace hs:=hs.ft ki hh;have ah:=ki.le;clear hh;apply bW;apply aG;refine F7 (N:=33) hs rfl OF (zL bz 9 z g4 Xc) rfl (fun _=>rfl)
  (fun pre L _=> ∃v,L=[.row 5 1 v pre.length (pre.map fun x=>Value.int .u8 (DI x)),.obj bo (.cells #[v] 115 (0,0))]) (fun _ _ _ _=>False)
  (fun _ _ _ _ _ h=>h) (fun _ _ _ _ _ _ h=>h) ⟨_,rfl⟩ (fun x=>[(5,.int .u8 x.1),(6,.bool x.2),(4,.pointer (some ⟨bo,0,none⟩))]) ?_ ?_ ?_ ?_
 ·intro x ro w;refine aY rfl ?_;apply aA;refine Wp 1 rfl ?_;apply aE;exact fun a ha=>⟨rfl,ha.keep (by(repeat (first|exact trivial|refine⟨rfl,?_⟩)))⟩
 ·rintro lp D ro pre x rest e gr Lr jf hle hs ⟨v,rfl⟩;have cC:=G.le.refl gr;have wi:pre.length<10:=by have:=congrArg List.length jf;simp at this;omega
  obtain⟨xb,xl⟩:=x;apply aG;apply aD;refine aY rfl ?_;refine pb (fun a' w'=>w'=gr.w∧Fr 33 [] [(5,.int .u8 (DI (xb,xl))),(4,.pointer (some ⟨bo,0,none⟩))] a') ?_ ?_
  ·cases xl with
   |true=>
    skip;refine aV rfl rfl ?_;apply aF;exact fun a ha=>⟨rfl,ha.keep (by(repeat (first|exact trivial|refine⟨rfl,?_⟩)))⟩
   |false=>
    skip;refine aM rfl rfl ?_;apply aA;refine Wp 3 rfl ?_;apply aE;exact fun a ha=>⟨rfl,ha.keep (by(repeat (first|exact trivial|refine⟨rfl,?_⟩)))⟩
  rintro a' _ ⟨rfl,eF⟩;revert a';apply cI;apply aA;refine Wm 2 [.o 4] hs rfl ?_;refine ak rfl rfl (bD T.ok rfl hs (vs:=[(0,.int .u8 (DI (xb,xl)))]) (cells:=[.int .u8 (DI (xb,xl))]) rfl rfl rfl rfl rfl rfl (by decide) (by decide) (by kernel_rfl) rfl ?_);rintro b2 g2 hs ah;replace cC:=G.le.trans cC ah;skip;refine ak rfl rfl (cd T.ok 4 rfl hs rfl rfl rfl rfl rfl rfl rfl (by decide) rfl (Src.fL (hs.own 0 _ rfl).1).2 (by simp[Value.oneCell']) (by show(pre.length+1)*1≤_;omega) (by unfold maxLen;omega) ?_);rintro a9 c9 g3 hs ah;replace cC:=G.le.trans cC ah;skip;refine bA rfl (az T.ok 5 rfl hs rfl rfl rfl rfl rfl rfl rfl rfl rfl ?_);replace hs:=hs;rintro g1 hs ah;replace cC:=G.le.trans cC ah;apply aE;apply bR;exact fun a ha=>⟨_,_,rfl,hs.drop 0,cC,_,rfl,.slice a9 (pre.length+1) c9,by simp[lh]⟩
 ·rintro lp D o e Lr ge hle hs ⟨v,rfl⟩;obtain⟨av,cv,rfl⟩:=(hs.own 3 _ rfl).1.form;have g_:=(Src.fL (hs.own 3 _ rfl).1).2;apply bR;apply ar;refine dz 1 [.o 4] hs rfl ?_;refine ak rfl rfl (mR T.ok (ns:=(lu (9+1) z).map DI) rfl rfl rfl rfl rfl rfl rfl rfl (by rw[List.map_map];exact g_) ?_);refine bj rfl ?_;refine aI ?_;skip;refine P2 1 rfl hs rfl rfl rfl (fun g' jo fw=>?_);exact jo.ret rfl
 rintro c lp D o pre e Lr ge _ _ _ h;exact h.elim
end Go.Proofs.YtgehbndkogohpaaGreatDoor
namespace Go.Proofs.YtgehbndkogohpaaGreatDoor
open Go Go.K
set_option maxRecDepth 10000
attribute [local irreducible] W WL cD bc bK bd bg bh cq ck
set_option maxHeartbeats 2000000
theorem ES(s:List UInt8)(g:G)(hl:s.length≤1099511627776):CallsIn Wd 0 Tryz.prog 181 #[.string (bs s)] g.w (cF g fun _ r=>r= .tuple #[.string (bs (mA s).1),.int .i64 (mA s).2]):=by
 have hs:=St.start g;have aq:=G.le.refl g;refine enter Tryz.func181 rfl Tryz.ntmps181 rfl ?_;unfold mA;refine aY rfl ?_;apply aD;refine aY rfl ?_;by_cases bC:65536<s.length
 ·rw[if_pos bC];refine aM (b:=decide ((65536:Int)<((bs s).size:Int))) (decide_eq_true (by rw[fC];omega)) rfl ?_;refine aY rfl ?_;exact aI (rH rfl rfl rfl (hs.ret rfl))
 rw[if_neg bC];refine aV (b:=decide ((65536:Int)<((bs s).size:Int))) (decide_eq_false (by rw[fC];omega)) rfl ?_;have wi:=lr (s.length:Int);apply aF;apply ar;refine cN 2 rfl ?_;refine kz (.int .i64 (s.length:Int)) (t:=11) rfl (by rw[fC]) ?_;refine ak rfl rfl (au Ju aJ rfl rfl rfl rfl rfl (zi (s.length:Int) _ ⟨by omega,by omega⟩) ?_);rintro g1 _ aP rfl;replace hs:=hs.call aP;have ah:=aP.le;refine bj rfl ?_;refine cN 2 rfl ?_;refine ak rfl rfl (ct (p:=eT s.length) (q:=s) rfl rfl rfl (by omega) ?_);refine bj rfl ?_;exact aI (rH rfl rfl rfl (hs.ret rfl))
end Go.Proofs.YtgehbndkogohpaaGreatDoor
namespace Go.Proofs.YtgehbndkogohpaaGreatDoor
open Go Go.K
set_option maxRecDepth 10000
attribute [local irreducible] W WL cD bc bK bd bg bh cq ck
theorem uC(v fv:Value)(l:List Int)(p:Int→Bool)(g:G)(hl:Rs g v l)
  (hp: ∀(g':G) (x:Int),x∈l→g.le g'→iE Tryz.prog fv [.int .i64 x] g'.w (cF g' fun _ r=>r= .bool (p x))):
  CallsIn Wd 0 Tryz.prog 231 #[v,fv] g.w (cF g fun _ r=>r= .int .i64 (lQ p l)):=by
 obtain⟨a,c,rfl⟩:=hl.isSlice;have hlen:=hl.dJ;unfold maxLen at hlen;have hs:=St.start g;refine enter Tryz.func231 rfl Tryz.ntmps231 rfl ?_;refine aY rfl ?_;apply aD;refine aY rfl ?_;apply aG;refine bM (fun m a' w=> ∃(k:Nat) (g':G),w=g'.w∧St g g' []∧G.le g g'∧k≤l.length∧m=l.length-k∧(∀j (h:j<l.length),j<k→p l[j]=false)∧
  Fr 19 [] [(0,.slice a l.length c),(1,fv),(7,.int .i64 l.length),(8,.int .i64 k)] a') l.length (fun a' ha=>⟨0,g,rfl,hs,G.le.refl g,Nat.zero_le _,rfl,by simp,ha.keep (by(repeat (first|exact trivial|refine⟨rfl,?_⟩)))⟩) ?_
 clear hs;rintro m a' _ ⟨k,g',rfl,hs,aq,hk,rfl,dx,eF⟩;revert a';apply cI;refine aY rfl ?_;apply aD;by_cases bC:k<l.length
 ·refine aM (b:=decide ((k:Int)<(l.length:Int))) (by simp;omega) rfl ?_;apply aF;apply ar;apply aD;apply aG;refine aY rfl ?_;refine cN 3 rfl ?_;refine ak rfl rfl (aW T.ok rfl (hl.mono aq) (y:=l[k]) (by simp[dS,bC]) rfl rfl rfl rfl rfl rfl ?_);rintro b q ys aL rfl;refine Wm 1 [.e aL 0] (St.start _) rfl ?_;skip;refine ak rfl rfl (eE rfl rfl rfl rfl rfl rfl (hp _ _ (List.getElem_mem bC) aq) ?_);rintro g1 _ aP rfl;replace hs:=hs.call aP;have ah:=aP.le;replace aq:=G.le.trans aq ah;apply bW;cases xL:p l[k]with
  |true=>
   refine aM rfl rfl ?_;refine aY rfl ?_;exact aI (aX rfl rfl (hs.ret (by rw[tz bC xL dx])))
  |false=>
   refine aV rfl rfl ?_;apply aF;apply bR;apply ar;apply aA;refine Wp 2 rfl ?_;apply aE;refine fun a ha=>⟨l.length-(k+1),by omega,k+1,_,rfl,hs,aq,by omega,rfl,?_,ha.keep ⟨rfl,rfl,rfl,kI rfl (by rw[wr (by omega) (by omega)];omega),trivial⟩⟩
   intro j hj Ci;by_cases e:j=k
   ·subst e;exact xL
   exact dx j hj (by omega)
 refine aV (b:=decide ((k:Int)<(l.length:Int))) (by simp;omega) rfl ?_;apply bF;apply bG;apply bG;apply c_;apply ar;refine aY rfl ?_;obtain rfl:k=l.length:=by omega
 exact aI (aX rfl rfl (hs.ret (by rw[tA fun j h=>dx j h h])))
theorem vF(v fv:Value)(l:List Int)(p:Int→Bool)(g:G)(hl:Rs g v l)
  (hp: ∀(g':G) (x:Int),x∈l→g.le g'→iE Tryz.prog fv [.int .i64 x] g'.w (cF g' fun _ r=>r= .bool (p x))):
  CallsIn Wd 0 Tryz.prog 229 #[v,fv] g.w (cF g fun _ r=>r= .bool (l.any p)):=by
 have hs:=St.start g;refine enter Tryz.func229 rfl Tryz.ntmps229 rfl ?_;refine aY rfl ?_;refine cN 2 rfl ?_;refine ak rfl rfl (au JB aJ rfl rfl rfl rfl rfl (uC _ _ l p g hl hp) ?_);rintro g1 _ aP rfl;replace hs:=hs.call aP;have ah:=aP.le;skip;refine bj rfl ?_;exact aI (aX rfl rfl (hs.ret (by rw[←nX])))
end Go.Proofs.YtgehbndkogohpaaGreatDoor
namespace Go.Proofs.YtgehbndkogohpaaGreatDoor
def oM(f:bQ)(n:Int):Bool:=decide (n<0)||decide ((f.steps.length:Int)≤n)
def given(f:bQ)(l:List Int):Bool:=valid f&& !l.any (oM f)
def eU:Int→List Int→List Int
 |back,[]=>if 0≤back then [back]else []
 |back,n::r=>(if 0≤back∧back<n then [back]else [])++n::eU (if back≤n then -1 else back) r
def gA(s:Step):List Int:=eU s.back s.next
def zo(s:Step):Bool:=(s.next.length:Int)==0
def cn(f:bQ)(n:Int):Step:=f.steps.getD n.toNat ⟨0,[],0,0,[],0,0⟩
theorem mH{f:bQ}(h:valid f=true){n:Int}(h0:0≤n)(h1:n<f.steps.length):bT (cn f n) f.steps.length=true:=by unfold valid at h;simp only[Bool.and_eq_true,List.all_eq_true]at h;refine h.1.2 _ ?_;unfold cn;rw[List.getD_eq_getElem?_getD,List.getElem?_eq_getElem (by omega)];exact List.getElem_mem _
theorem tZ{s:Step}{n:Int}(h:bT s n=true):s.next.length≤4:=by unfold bT at h;simp only[Bool.and_eq_true,decide_eq_true_eq]at h;omega
end Go.Proofs.YtgehbndkogohpaaGreatDoor
namespace Go.Proofs.YtgehbndkogohpaaGreatDoor
open Go Go.K
set_option maxRecDepth 10000
attribute [local irreducible] W WL cD bc bK bd bg bh cq ck
set_option maxHeartbeats 1000000
theorem H9(v:Value)(s:Step)(g:G)(Bk:fV g v s):
  CallsIn Wd 0 Tryz.prog 132 #[v] g.w (cF g fun _ r=>r= .bool (zo s)):=by
 obtain⟨cs,rfl,a1,n1,c1,a2,n2,c2,rfl,aH,aU⟩:=Bk;obtain⟨_,_,e⟩:=aU.isSlice;obtain⟨rfl,rfl,rfl⟩:=Value.slice.inj e;clear e;have hs:=St.start g;refine enter Tryz.func132 rfl Tryz.ntmps132 rfl ?_;apply cM;refine ak rfl rfl (aO rfl hs rfl rfl ?_);clear hs;rintro b1 g1 hs ah;refine bj rfl ?_;refine l_ [.o 0] hs rfl ?_;exact aI (aX rfl rfl (hs.ret rfl))
def rV(g:G)(cs:List Value)(f:bQ):Prop:=
 ∃a1 n1 c1 a2 n2 c2,cs=[.int .i64 f.bB,.int .i64 f.bU,.slice a1 n1 c1,.slice a2 n2 c2]∧Rs g (.slice a1 n1 c1) f.steps∧Rs g (.slice a2 n2 c2) f.windows
theorem rV.mono{g g':G}{cs:List Value}{f:bQ}(h:rV g cs f)(hle:g.le g'):rV g' cs f:=by obtain⟨a1,n1,c1,a2,n2,c2,e,h1,h2⟩:=h;exact⟨a1,n1,c1,a2,n2,c2,e,h1.mono hle,h2.mono hle⟩
theorem FM(n:Int)(f:bQ)(b:Nat)(cs:List Value)(g:G)(aC:EP g b 0 cs)(hc:rV g cs f):
  CallsIn Wd 0 Tryz.prog 230 #[.int .i64 n,.pointer (some ⟨b,0,none⟩)] g.w (cF g fun _ r=>r= .bool (oM f n)):=by
 obtain⟨a1,n1,c1,a2,n2,c2,rfl,aH,aU⟩:=hc;obtain⟨_,_,e⟩:=aH.isSlice;obtain⟨rfl,rfl,rfl⟩:=Value.slice.inj e;clear e;have hs:=St.start g;refine enter Tryz.func230 rfl Tryz.ntmps230 rfl ?_;refine aY rfl ?_;refine cN 3 rfl ?_;refine cp (want:=false) (x:=decide ((f.steps.length:Int)≤n)) 5 aJ rfl rfl rfl rfl (.inr ⟨rfl,rfl,rfl⟩) rfl rfl rfl rfl (fun hb Q' eG=>?_) (fun g' hf=>?_)
 ·refine Wm 5 [.z aC] (St.start _) rfl ?_;apply aE;exact fun a ha=>eG _ a (a_.refl _) (ha.keep (by(repeat (first|exact trivial|refine⟨rfl,?_⟩))))
 replace hs:=hs.call hf;have ah:=hf.le;refine bj rfl ?_;exact aI (aX rfl rfl (hs.ret rfl))
theorem xY(v lv:Value)(f:bQ)(l:List Int)(g:G)(dj:ff g v f)(bS:Rs g lv l):
  CallsIn Wd 0 Tryz.prog 129 #[v,lv] g.w (cF g fun _ r=>r= .bool (given f l)):=by
 obtain⟨a1,n1,c1,a2,n2,c2,rfl,aH,aU⟩:=id dj;have hs:=St.start g;refine enter Tryz.func129 rfl Tryz.ntmps129 rfl ?_;apply cM;refine ak rfl rfl (aO rfl hs rfl rfl ?_);clear hs;rintro b1 g1 hs ah;obtain⟨aH,aU,bS,dj⟩:=eS ah aH aU bS dj;obtain⟨g2,bL,aT,ah,aL⟩:=hs.ba (i:=0) rfl;replace hs:=aT;clear aT;rw[←bL];obtain⟨aH,aU,bS,dj⟩:=eS ah aH aU bS dj;have aC:=aL;refine bj rfl ?_;refine dz 1 [.z aC] (St.start _) rfl ?_;refine ak rfl rfl (au Kx aJ rfl rfl rfl rfl rfl (xZ _ f _ dj) ?_);rintro g1 _ aP rfl;replace hs:=hs.call aP;have ah:=aP.le;obtain⟨aC,aH,aU,bS⟩:=eS ah aC aH aU bS;refine Wp 1 rfl ?_;refine cp (want:=true) (x:=!l.any (oM f)) 4 aJ rfl rfl rfl rfl (.inl ⟨rfl,rfl,rfl⟩) rfl rfl rfl rfl (fun hb Q' eG=>?_) (fun g' hf=>?_)
 ·refine Wp 2 rfl ?_;refine ak rfl rfl (au Og aJ rfl rfl rfl rfl rfl (vF _ _ l (oM f) _ bS (fun g' x _ hle=>cW Oh rfl (FM x f _ _ g' (aC.mono hle) ⟨_,_,_,_,_,_,rfl,aH.mono hle,aU.mono hle⟩))) ?_);rintro g1 _ aP rfl;replace hs:=hs.call aP;have ah:=aP.le;refine Wp 1 rfl ?_;apply aE;exact fun a ha=>eG _ a aP (ha.keep (by(repeat (first|exact trivial|refine⟨rfl,?_⟩))))
 replace hs:=hs.call hf;have ah:=hf.le;refine bj rfl ?_;exact aI (aX rfl rfl (hs.ret rfl))
end Go.Proofs.YtgehbndkogohpaaGreatDoor
namespace Go.Proofs.YtgehbndkogohpaaGreatDoor
open Go Go.K
set_option maxRecDepth 10000
attribute [local irreducible] W WL cD bc bK bd bg bh cq ck
set_option maxHeartbeats 1000000
theorem FY(s:Step)(b:Nat)(cs:List Value)(g:G)(ep:EP g b 0 cs)(hc:qD g cs s):
  tT Tryz.prog 232 #[.pointer (some ⟨b,0,none⟩)] (fun n:Int=>[.int .i64 n]) (gA s) g:=by
 obtain⟨a1,n1,c1,a2,n2,c2,rfl,aH,aU⟩:=hc;obtain⟨_,_,e⟩:=aU.isSlice;obtain⟨rfl,rfl,rfl⟩:=Value.slice.inj e;clear e;intro g1 hle yv J Jx hJ SE hy AX;have hlen:=aU.dJ;unfold maxLen at hlen;have aq:=G.le.refl g1;have QW:=ep.mono hle;have JO:=aU.mono hle;have aC:=QW;refine enter Tryz.func232 rfl Tryz.ntmps232 rfl ?_;refine l_ [.z aC] (St.start _) rfl ?_;apply aD;refine l_ [.z aC] (St.start _) rfl ?_;apply aG;refine bM (fun m a' w=> ∃(k:Nat) (pre:List Int) (back:Int) (g':G),w=g'.w∧G.le g1 g'∧k≤s.next.length∧m=s.next.length-k∧J pre g'∧gA s=pre++eU back (s.next.drop k)∧
  Fr 41 [] [(0,yv),(1,.pointer (some ⟨b,0,none⟩)),(3,.int .i64 back),(9,.slice a2 s.next.length c2),(10,.int .i64 s.next.length),(11,.int .i64 k)] a') s.next.length
  (fun a' ha=>⟨0,[],s.back,g1,rfl,aq,Nat.zero_le _,rfl,AX,rfl,ha.keep (by(repeat (first|exact trivial|refine⟨rfl,?_⟩)))⟩) ?_
 clear aC aq;rintro m a' _ ⟨k,pre,back,g',rfl,aq,hk,rfl,qu,hx,eF⟩;have aC:=QW.mono aq;have aU:=JO.mono aq;revert a';apply cI;refine aY rfl ?_;apply aD;by_cases bC:k<s.next.length
 ·refine aM (b:=decide ((k:Int)<(s.next.length:Int))) (by simp;omega) rfl ?_;apply aF;apply ar;apply aD;apply aG;apply cM;refine ak rfl rfl (aW T.ok rfl aU (y:=s.next[k]) (by simp[dS,bC]) rfl rfl rfl rfl rfl rfl ?_);rintro b p ys aL rfl;refine Wm 1 [.e aL 0] (St.start _) rfl ?_;refine bj rfl ?_;apply aD;refine cN 3 rfl ?_;rw[List.drop_eq_getElem_cons bC,eU]at hx;refine cp (want:=true) (x:=decide (back<s.next[k])) 3 aJ rfl rfl rfl rfl (.inl ⟨rfl,rfl,rfl⟩) rfl rfl rfl rfl (fun hb Q' eG=>?_) (fun g' hf=>?_)
  ·refine Wp 3 rfl ?_;apply aE;exact fun a ha=>eG _ a (a_.refl _) (ha.keep (by(repeat (first|exact trivial|refine⟨rfl,?_⟩))))
  have ah:=hf.le;replace qu:=hJ _ _ _ hf qu;replace aq:=G.le.trans aq ah;refine Wp 1 rfl ?_;by_cases hc:0≤back∧back<s.next[k]
  ·refine kz (t:=22) (.bool true) rfl (by simp[hc]) ?_;rw[if_pos hc,if_pos (by omega:back≤s.next[k])]at hx;refine Wp 2 rfl ?_;refine ak rfl rfl (eo rfl rfl rfl rfl rfl rfl ((hy pre back (s.next[k]::eU (-1) (s.next.drop (k+1))) _ (by rw[hx];rfl) aq qu).mono ?_));rintro _ _ ⟨g3,bb,rfl,rfl,ah,ht,hf⟩;refine⟨_,rfl,?_⟩;replace aq:=G.le.trans aq ah;cases bb with
   |false=>
    refine bj rfl ?_;refine aM rfl rfl ?_;skip;refine aI ?_;apply eD;apply hQ;apply eD;apply eD;apply hQ;apply eD;refine s3 rfl ?_;exact⟨g3,_,rfl,rfl,aq,.inr ⟨_,⟨s.next[k]::eU (-1) (s.next.drop (k+1)),by rw[hx];simp⟩,hf rfl⟩⟩
   |true=>
    refine bj rfl ?_;refine aV rfl rfl ?_;apply aF;apply ar;apply aD;refine aY rfl ?_;refine aM (b:=decide (back≤s.next[k])) (by simp;omega) rfl ?_;apply aA;refine bj rfl ?_;refine cN 2 rfl ?_;have A2:gA s=(pre++[back])++s.next[k]::eU (-1) (s.next.drop (k+1)):=by rw[hx];simp
    refine ak rfl rfl (eo rfl rfl rfl rfl rfl rfl ((hy ((pre++[back])) s.next[k] (eU (-1) (s.next.drop (k+1))) _ (A2) aq (ht rfl)).mono ?_));rintro _ _ ⟨g4,bb,rfl,rfl,ah,ht,hf⟩;refine⟨_,rfl,?_⟩;replace aq:=G.le.trans aq ah;cases bb with
    |false=>
     refine bj rfl ?_;refine aM rfl rfl ?_;skip;refine aI ?_;apply hQ;apply eD;apply eD;apply hQ;apply eD;refine s3 rfl ?_;exact⟨g4,_,rfl,rfl,aq,.inr ⟨_,⟨eU (-1) (s.next.drop (k+1)),by rw[A2];simp⟩,hf rfl⟩⟩
    |true=>
     refine bj rfl ?_;refine aV rfl rfl ?_;apply aF;apply bR;apply ar;apply aA;refine Wp 2 rfl ?_;apply aE;exact fun a ha=>⟨s.next.length-(k+1),by omega,k+1,(pre++[back])++[s.next[k]],-1,_,rfl,aq,by omega,rfl,ht rfl,by rw[A2];simp,ha.keep ⟨rfl,rfl,rfl,rfl,rfl,kI rfl (by rw[wr (by omega) (by omega)];omega),trivial⟩⟩
  refine kz (t:=22) (.bool false) rfl (congrArg Value.bool (by simp only[cond_true,Bool.and_eq_false_iff,decide_eq_false_iff_not];omega)) ?_;refine bj rfl ?_;refine aV rfl rfl ?_;rw[if_neg hc]at hx;apply aF;apply ar;apply aD;refine aY rfl ?_;by_cases Q8:back≤s.next[k]
  ·refine aM (b:=decide (back≤s.next[k])) (by simp;omega) rfl ?_;rw[if_pos Q8]at hx;apply aA;refine bj rfl ?_;refine cN 2 rfl ?_;have A2:gA s=pre++s.next[k]::eU (-1) (s.next.drop (k+1)):=by rw[hx];simp
   refine ak rfl rfl (eo rfl rfl rfl rfl rfl rfl ((hy (pre) s.next[k] (eU (-1) (s.next.drop (k+1))) _ (A2) aq (qu)).mono ?_));rintro _ _ ⟨g4,bb,rfl,rfl,ah,ht,hf⟩;refine⟨_,rfl,?_⟩;replace aq:=G.le.trans aq ah;cases bb with
   |false=>
    refine bj rfl ?_;refine aM rfl rfl ?_;skip;refine aI ?_;apply hQ;apply eD;apply eD;apply hQ;apply eD;refine s3 rfl ?_;exact⟨g4,_,rfl,rfl,aq,.inr ⟨_,⟨eU (-1) (s.next.drop (k+1)),by rw[A2];simp⟩,hf rfl⟩⟩
   |true=>
    refine bj rfl ?_;refine aV rfl rfl ?_;apply aF;apply bR;apply ar;apply aA;refine Wp 2 rfl ?_;apply aE;exact fun a ha=>⟨s.next.length-(k+1),by omega,k+1,pre++[s.next[k]],-1,_,rfl,aq,by omega,rfl,ht rfl,by rw[A2];simp,ha.keep ⟨rfl,rfl,rfl,rfl,rfl,kI rfl (by rw[wr (by omega) (by omega)];omega),trivial⟩⟩
  refine aV (b:=decide (back≤s.next[k])) (by simp;omega) rfl ?_;rw[if_neg Q8]at hx;apply aF;apply ar;refine cN 2 rfl ?_;have A2:gA s=pre++s.next[k]::eU back (s.next.drop (k+1)):=by rw[hx];simp
  refine ak rfl rfl (eo rfl rfl rfl rfl rfl rfl ((hy (pre) s.next[k] (eU (back) (s.next.drop (k+1))) _ (A2) aq (qu)).mono ?_));rintro _ _ ⟨g4,bb,rfl,rfl,ah,ht,hf⟩;refine⟨_,rfl,?_⟩;replace aq:=G.le.trans aq ah;cases bb with
  |false=>
   refine bj rfl ?_;refine aM rfl rfl ?_;skip;refine aI ?_;apply hQ;apply eD;apply eD;apply hQ;apply eD;refine s3 rfl ?_;exact⟨g4,_,rfl,rfl,aq,.inr ⟨_,⟨eU (back) (s.next.drop (k+1)),by rw[A2];simp⟩,hf rfl⟩⟩
  |true=>
   refine bj rfl ?_;refine aV rfl rfl ?_;apply aF;apply bR;apply ar;apply aA;refine Wp 2 rfl ?_;apply aE;exact fun a ha=>⟨s.next.length-(k+1),by omega,k+1,pre++[s.next[k]],back,_,rfl,aq,by omega,rfl,ht rfl,by rw[A2];simp,ha.keep ⟨rfl,rfl,rfl,rfl,rfl,kI rfl (by rw[wr (by omega) (by omega)];omega),trivial⟩⟩
 refine aV (b:=decide ((k:Int)<(s.next.length:Int))) (by simp;omega) rfl ?_;apply bF;apply bG;apply bG;apply c_;apply ar;refine aY rfl ?_;obtain rfl:k=s.next.length:=by omega
 rw[List.drop_length,eU]at hx;by_cases hb:0≤back
 ·refine aM (b:=decide (0≤back)) (by simp;omega) rfl ?_;rw[if_pos hb]at hx;apply aA;refine Wp 2 rfl ?_;refine ak rfl rfl (eo rfl rfl rfl rfl rfl rfl ((hy pre back [] _ hx aq qu).mono ?_));rintro _ _ ⟨g3,bb,rfl,rfl,ah,ht,hf⟩;refine⟨_,rfl,?_⟩;replace aq:=G.le.trans aq ah;apply aE;refine kD rfl ?_;cases bb with
  |true=>exact⟨g3,_,rfl,rfl,aq,.inl (by rw[hx];exact ht rfl)⟩
  |false=>exact⟨g3,_,rfl,rfl,aq,.inr ⟨_,⟨[],by rw[hx];simp⟩,hf rfl⟩⟩
 refine aV (b:=decide (0≤back)) (by simp;omega) rfl ?_;rw[if_neg hb,List.append_nil]at hx;apply aF;refine kD rfl ?_;exact⟨_,_,rfl,rfl,aq,.inl (by rw[hx];exact qu)⟩
end Go.Proofs.YtgehbndkogohpaaGreatDoor
namespace Go.Proofs.YtgehbndkogohpaaGreatDoor
open Go Go.K
set_option maxRecDepth 10000
attribute [local irreducible] W WL cD bc bK bd bg bh cq ck
set_option maxHeartbeats 1000000
def AY(g:G)(v:Value)(xs:List Int):Prop:=
 ∃jW eI,v= .func (.func jW) #[] eI∧ag Tryz.prog jW∧tT Tryz.prog jW eI (fun n:Int=>[.int .i64 n]) xs g
theorem AY.mono{g g':G}{v:Value}{xs:List Int}(h:AY g v xs)(hle:g.le g'):AY g' v xs:=by obtain⟨jW,eI,e,h1,h2⟩:=h;exact⟨jW,eI,e,h1,h2.mono hle⟩
theorem Cw(v:Value)(s:Step)(g:G)(Bk:fV g v s):
  CallsIn Wd 0 Tryz.prog 134 #[v] g.w (cF g fun g' r=>AY g' r (gA s)):=by
 obtain⟨cs,rfl,a1,n1,c1,a2,n2,c2,rfl,aH,aU⟩:=Bk;have hs:=St.start g;refine enter Tryz.func134 rfl Tryz.ntmps134 rfl ?_;apply cM;refine ak rfl rfl (aO rfl hs rfl rfl ?_);clear hs;rintro b1 g1 hs ah;obtain⟨aH,aU⟩:=cf ah aH aU;refine bj rfl ?_;refine aY rfl ?_;obtain⟨g2,bL,aT,ah,aL⟩:=hs.ba (i:=0) rfl;replace hs:=aT;clear aT;rw[←bL];obtain⟨aH,aU⟩:=cf ah aH aU;skip;exact aI (aX rfl rfl (hs.ret ⟨232,_,rfl,Oi,FY s _ _ _ aL ⟨_,_,_,_,_,_,rfl,aH,aU⟩⟩))
end Go.Proofs.YtgehbndkogohpaaGreatDoor
namespace Go.Proofs.YtgehbndkogohpaaGreatDoor
open Go Go.K
set_option maxRecDepth 10000
attribute [local irreducible] W WL cD bc bK bd bg bh cq ck
set_option maxHeartbeats 4000000
def zh(b:Nat)(xs:List UInt8)(Lw:List cS):Prop:=∃p v Lr,(p= .pointer none∨p= .pointer (some ⟨b,0,none⟩))∧ma 5 v xs Lr∧Lw= .obj b (.cells [p,v].toArray 150 (0,0))::Lr
def jt(l:List Int):List UInt8:=l.flatMap eT
theorem kM: ∀l:List Int,(jt l).length≤10*l.length
 |[]=>by simp[jt]
 |n::l=>by have:=kM l;have h:=lr n;unfold jt at this⊢;simp only[List.flatMap_cons,List.length_append,List.length_cons];omega
theorem AU{b:Nat}{xs:List UInt8}{Lw L:List cS}{sv:Value}(l:List Int){g0 g:G}(hw:zh b xs Lw)(hl: ∀n∈l,qm n)(hlen:xs.length+10*l.length≤1000000)(aH:Rs g sv l)(hs:St g0 g (Lw++L)):
  CallsIn Wd 0 Tryz.prog 69 #[.pointer (some ⟨b,0,none⟩),sv] g.w (ek g fun g' r=>r= .tuple #[]∧ ∃AV,zh b (xs++jt l) AV∧St g0 g' (AV++L)):=by
 obtain⟨a,c,rfl⟩:=aH.isSlice;have aq:=G.le.refl g;refine enter Tryz.func69 rfl Tryz.ntmps69 rfl ?_;refine aY rfl ?_;apply aG;have nL:=aH;refine bM (fun m a' w=> ∃(k:Nat) (AV:List cS) (g':G),w=g'.w∧zh b (xs++jt (l.take k)) AV∧St g0 g' (AV++L)∧G.le g g'∧k≤l.length∧m=l.length-k∧
   Fr 25 [] [(0,.pointer (some ⟨b,0,none⟩)),(8,.slice a l.length c),(9,.int .i64 l.length),(10,.int .i64 k)] a') l.length
  (fun a' ha=>⟨0,Lw,g,rfl,by simpa [jt]using hw,hs,aq,Nat.zero_le _,rfl,ha.keep (by(repeat (first|exact trivial|refine⟨rfl,?_⟩)))⟩) ?_
 clear hs aq aH hw;rintro m a' _ ⟨k,AV,g',rfl,⟨p,v,Lr,hp,hb,rfl⟩,hs,aq,hk,rfl,eF⟩;have aH:=nL.mono aq;revert a';apply cI;refine aY rfl ?_;apply aD;by_cases bC:k<l.length
 ·refine aM (b:=decide ((k:Int)<(l.length:Int))) (by simp;omega) rfl ?_;apply aF;apply ar;apply aD;apply aG;apply cM;refine ak rfl rfl (aW T.ok rfl aH (y:=l[k]) (cZ rfl bC) rfl rfl rfl rfl rfl rfl ?_);rintro b1 p1 ys aL rfl;refine Wm 1 [.e aL 0] (St.start _) rfl ?_;refine bj rfl ?_;refine cN 1 rfl ?_;refine ak rfl rfl (au Ju aJ rfl rfl rfl rfl rfl (zi l[k] _ (hl _ (List.getElem_mem bC))) ?_);rintro g1 _ aP rfl;replace hs:=hs.call aP;have ah:=aP.le;obtain⟨aq,aH⟩:=cf ah aq aH;refine bj rfl ?_;apply aA;refine Wp 4 rfl ?_;have wi:=kM (l.take k);have OT:=lr l[k];rw[List.length_take]at wi;refine ak rfl rfl (du MZ aJ rfl rfl rfl rfl rfl (EL hp hb (eT l[k]) (by rw[List.length_append];omega) EM hs) ?_);clear hs;rintro g5 _ ah ⟨v',vt,sZ,hs⟩;obtain⟨aq,aH⟩:=cf ah aq aH;apply aE;apply bR;apply ar;apply aA;refine Wp 2 rfl ?_;apply aE;refine fun a ha=>⟨l.length-(k+1),by omega,k+1,_,_,rfl,⟨_,v',vt,.inr rfl,?_,rfl⟩,hs,aq,by omega,rfl,ha.keep ⟨rfl,rfl,rfl,kI rfl (by have:=aH.dJ;unfold maxLen at this;rw[wr (by omega) (by omega)];omega),trivial⟩⟩
  rw[List.take_succ_eq_append_getElem bC];unfold jt at sZ⊢;rw[List.flatMap_append];simpa using sZ
 refine aV (b:=decide ((k:Int)<(l.length:Int))) (by simp;omega) rfl ?_;apply bF;apply bG;apply bG;apply c_;refine kD rfl (ek.intro aq ⟨rfl,_,⟨p,v,Lr,hp,?_,rfl⟩,hs⟩);rw[List.take_of_length_le (by omega)]at hb;exact hb
theorem AW(f:bH)(fs:List jQ)(OS: ∀x∈fs,ll x.at_)(bl bf:Nat)(u:Value)(g:G)(Wf:EP g bl 0 [u])(rs:Rs g u fs)(OU:EP g bf 0 (cg f)):
  tT Tryz.prog 159 #[.pointer (some ⟨bl,0,none⟩),.pointer (some ⟨bf,0,none⟩)] (fun n:Int=>[.int .i64 n]) (fs.map fun x=>f.num x.at_) g:=by
 obtain⟨a,c,rfl⟩:=rs.isSlice;intro g1 hle yv J Jx hJ SE hy AX;have hlen:=rs.dJ;unfold maxLen at hlen;have aq:=G.le.refl g1;have pK:=Wf.mono hle;have JO:=rs.mono hle;have KJ:=OU.mono hle;have aC:=pK;refine enter Tryz.func159 rfl Tryz.ntmps159 rfl ?_;refine l_ [.z aC] (St.start _) rfl ?_;apply aG;refine bM (fun m a' w=> ∃(k:Nat) (g':G),w=g'.w∧G.le g1 g'∧k≤fs.length∧m=fs.length-k∧J ((fs.map fun x=>f.num x.at_).take k) g'∧
   Fr 21 [] [(0,yv),(1,.pointer (some ⟨bl,0,none⟩)),(2,.pointer (some ⟨bf,0,none⟩)),(6,.slice a fs.length c),(7,.int .i64 fs.length),(8,.int .i64 k)] a') fs.length
  (fun a' ha=>⟨0,g1,rfl,aq,Nat.zero_le _,rfl,AX,ha.keep (by(repeat (first|exact trivial|refine⟨rfl,?_⟩)))⟩) ?_
 clear aC aq;rintro m a' _ ⟨k,g',rfl,aq,hk,rfl,qu,eF⟩;have aC:=KJ.mono aq;have eh:=JO.mono aq;have hs:=St.start g';revert a';apply cI;refine aY rfl ?_;apply aD;by_cases bC:k<fs.length
 ·refine aM (b:=decide ((k:Int)<(fs.length:Int))) (by simp;omega) rfl ?_;have tS:=OS _ (List.getElem_mem bC);have jG:=cZ (n:=((k:Nat):Int)) rfl bC;have rp:(fs.map fun x=>f.num x.at_)=(fs.map fun x=>f.num x.at_).take k++f.num fs[k].at_::(fs.map fun x=>f.num x.at_).drop (k+1):=by
   conv=>lhs;rw[←List.take_append_drop k (fs.map fun x=>f.num x.at_)]
   rw[List.drop_eq_getElem_cons (by simpa using bC)];simp
  have fP:(fs.map fun x=>f.num x.at_).take (k+1)=(fs.map fun x=>f.num x.at_).take k++[f.num fs[k].at_]:=by rw[List.take_succ_eq_append_getElem (by simpa using bC)];simp
  generalize fs[k]=x at*;apply aF;apply ar;apply aD;apply aG;apply cM;refine ak rfl rfl (aW T.ok rfl eh (y:=x) jG rfl rfl rfl rfl rfl rfl ?_);rintro bq pq ys aL rfl;refine Wm 1 [.e aL 0] (St.start _) rfl ?_;skip;refine ak rfl rfl (aK T.ok rfl hs rfl rfl ?_);clear hs;rintro bx g1 hs ah;obtain⟨aq,aC⟩:=cf ah aq aC;skip;refine bA rfl (az T.ok 0 rfl hs rfl rfl rfl rfl rfl rfl rfl rfl rfl ?_);replace hs:=hs;rintro g1 hs ah;obtain⟨aq,aC⟩:=cf ah aq aC;apply bW;refine dz 3 [.o 0] hs rfl ?_;refine ak rfl rfl (eE rfl rfl rfl rfl rfl rfl (cW (first:=#[]) (captured:=#[]) (args:=[.pointer (some ⟨bf,0,none⟩)]) (EE tS) rfl (JK tS bf _)) ?_);rintro g4 _ ki rfl;replace hs:=hs.call ki;have ah:=ki.le;obtain⟨aq,aC⟩:=cf ah aq aC;refine Wp 1 rfl ?_;refine ak rfl rfl (tU T.ok rfl aC rfl (xA tS f) ?_);skip;have He:=hJ _ _ _ hs.nC qu;refine ak rfl rfl (eo rfl rfl rfl rfl rfl rfl ((hy _ _ _ _ rp aq He).mono ?_));rintro _ _ ⟨g5,bb,rfl,rfl,ah,ht,hf⟩;refine⟨_,rfl,?_⟩;clear hs He;replace aq:=G.le.trans aq ah;cases bb with
  |false=>
   refine bj rfl ?_;refine aM rfl rfl ?_;skip;refine aI ?_;apply hQ;apply eD;apply eD;apply hQ;refine s3 rfl ?_;exact⟨g5,_,rfl,rfl,aq,.inr ⟨_,⟨_,by rw[List.append_assoc];exact rp.symm⟩,hf rfl⟩⟩
  |true=>
   refine bj rfl ?_;refine aV rfl rfl ?_;apply aF;apply bR;apply ar;apply aA;refine Wp 2 rfl ?_;apply aE;exact fun a ha=>⟨fs.length-(k+1),by omega,k+1,_,rfl,aq,by omega,rfl,fP▸ht rfl,ha.keep ⟨rfl,rfl,rfl,rfl,rfl,kI rfl (by rw[wr (by omega) (by omega)];omega),trivial⟩⟩
 refine aV (b:=decide ((k:Int)<(fs.length:Int))) (by simp;omega) rfl ?_;apply bF;apply bG;apply bG;apply c_;refine kD rfl ⟨g',_,rfl,rfl,aq,.inl ?_⟩;rw[List.take_of_length_le (by simp;omega)]at qu;exact qu
theorem wj(f:bH)(fs:List jQ)(OS: ∀x∈fs,ll x.at_)(u:Value)(g:G)(aH:Rs g u fs):
  CallsIn Wd 0 Tryz.prog 71 #[fv f,u] g.w (cF g fun g' r=>AY g' r (fs.map fun x=>f.num x.at_)):=by
 obtain⟨a,c,rfl⟩:=aH.isSlice;have hs:=St.start g;refine enter Tryz.func71 rfl Tryz.ntmps71 rfl ?_;apply cM;refine ak rfl rfl (aO rfl hs rfl rfl ?_);clear hs;rintro bf g1 hs ah;replace aH:=aH.mono ah;refine ak rfl rfl (aO rfl hs rfl rfl ?_);clear hs;rintro bl g1 hs ah;replace aH:=aH.mono ah;obtain⟨g2,bL,aT,ah,aL⟩:=hs.ba (i:=0) rfl;replace hs:=aT;clear aT;rw[←bL];replace aH:=aH.mono ah;have aC:=aL;clear aL;obtain⟨g2,bL,aT,ah,aL⟩:=hs.ba (i:=0) rfl;replace hs:=aT;clear aT;rw[←bL];obtain⟨aC,aH⟩:=cf ah aC aH;have aR:=aL;clear aL;refine bj rfl ?_;refine aY rfl ?_;exact aI (aX rfl rfl (hs.ret ⟨159,_,rfl,NA,AW f fs OS _ _ _ _ aC aH aR⟩))
end Go.Proofs.YtgehbndkogohpaaGreatDoor
namespace Go.Proofs.YtgehbndkogohpaaGreatDoor
open Go Go.K
set_option maxRecDepth 10000
attribute [local irreducible] W WL cD bc bK bd bg bh cq ck
set_option maxHeartbeats 4000000
theorem JP{α:Type}{a b:α}{A C:List α}:List.Perm (a::b::(A++C)) (A++(a::b::C)):=(List.perm_middle.symm.cons a).trans List.perm_middle.symm
theorem wk{b:Nat}{xs:List UInt8}{Lw L:List cS}{Uu:Value}(l:List Int){g0 g:G}(hw:zh b xs Lw)(hl: ∀n∈l,qm n)(hlen:xs.length+10*l.length≤1000000)(hx:AY g Uu l)(hs:St g0 g (Lw++L)):
  CallsIn Wd 0 Tryz.prog 70 #[.pointer (some ⟨b,0,none⟩),Uu] g.w (ek g fun g' r=>r= .tuple #[]∧ ∃AV,zh b (xs++jt l) AV∧St g0 g' (AV++L)):=by
 obtain⟨jW,eI,rfl,fr,rE⟩:=hx;have aq:=G.le.refl g;refine pL Tryz.func70 rfl Tryz.ntmps70 rfl ?_;apply cM;refine ak rfl rfl (aO rfl hs rfl rfl ?_);clear hs;rintro bx g1 hs ah;replace aq:=G.le.trans aq ah;obtain⟨g2,bL,aT,ah,aL⟩:=hs.ba (i:=0) rfl;replace hs:=aT;clear aT;rw[←bL];replace aq:=G.le.trans aq ah;have aC:=aL;clear aL;have hs:St g0 g2 (Lw++L):=hs;apply bW;refine aY rfl ?_;apply aG;refine xB (N:=11) hs rfl fr (rE.mono aq) rfl (fun _=>rfl)
  (fun pre L' g'=>EP g' bx 0 [.pointer (some ⟨b,0,none⟩)]∧G.le g g'∧ ∃AV,L'=AV++L∧zh b (xs++jt pre) AV) (fun _ _ _ _=>False)
  (fun _ _ _ _ hle h=>⟨h.1.mono hle,h.2.1.trans hle,h.2.2⟩) (fun _ _ _ _ _ _ h=>h) ⟨aC,aq,Lw,rfl,by simpa [jt]using hw⟩ (fun n=>[(4,.int .i64 n),(2,.pointer (some ⟨bx,0,none⟩))]) ?_ ?_ ?_ ?_
 ·intro x ro w;apply aA;refine Wp 1 rfl ?_;apply aE;exact fun a ha=>⟨rfl,ha.keep (by(repeat (first|exact trivial|refine⟨rfl,?_⟩)))⟩
 ·rintro lp D ro pre x rest gr Lr jf hle hs ⟨aC,HC,AV,rfl,hw⟩;have cC:=G.le.refl gr;have wi:=kM pre;have OT:pre.length+1≤l.length:=by rw[jf];simp
  have lX:x∈l:=by rw[jf];simp
  apply aG;apply aA;refine Wm 2 [.z aC] (St.start _) rfl ?_;refine ak rfl rfl (bD T.ok rfl hs (vs:=[(0,.int .i64 (x))]) (cells:=[.int .i64 (x)]) rfl rfl rfl rfl rfl rfl (by decide) (by decide) (by kernel_rfl) rfl ?_);rintro bl gl hs ah;obtain⟨cC,HC,aC⟩:=dy ah cC HC aC;obtain⟨gz,iQ,cP,jq,Eh⟩:=hs.cK (α:=Int) (xs:=[x]) (i:=0) rfl (cG.ints _ [x]);clear ah;have ah:=jq;rw[←iQ];replace hs:=cP;clear cP;obtain⟨cC,HC,aC⟩:=dy ah cC HC aC;have aT:=hs.perm JP;refine ak rfl rfl (du KA (fun _=>trivial) rfl rfl rfl rfl rfl (CallsIn.kT rfl rfl rfl (AU [x] hw (by simpa using hl x lX) (by rw[List.length_append];simp only[List.length_cons,List.length_nil];omega) Eh aT)) ?_);clear hs aT;rintro g5 _ ah ⟨rfl,SF,bL,hs⟩;obtain⟨cC,HC,aC⟩:=dy ah cC HC aC;replace hs:=hs.perm JP.symm;apply aE;apply bR;refine fun a ha=>⟨_,_,rfl,hs,cC,aC,HC,SF,rfl,?_⟩
  unfold jt at bL⊢;rw[List.flatMap_append,←List.append_assoc];exact bL
 ·rintro lp D o Lr ge hle hs ⟨aC,HC,AV,rfl,hw⟩;apply bR;refine EN 1 rfl hs rfl (fun g' jo fw=>?_);exact ek.intro (HC.trans fw) ⟨rfl,AV,hw,jo.drop 0⟩
 rintro c lp D o pre Lr ge _ _ _ h;exact h.elim
end Go.Proofs.YtgehbndkogohpaaGreatDoor
namespace Go.Proofs.YtgehbndkogohpaaGreatDoor
open Go Go.K
set_option maxRecDepth 10000
attribute [local irreducible] W WL cD bc bK bd bg bh cq ck
set_option maxHeartbeats 8000000
def SG(xs:List Int):Fact:=⟨fun v g=>AY g v xs,fun _ _ _ hf h=>h.mono hf.le⟩
def qw(f:bH)(l:List jQ):List Int:=l.map fun x=>f.num x.at_
theorem rG(f:bH)(l:List jQ):jt (qw f l)=tK f l:=by unfold jt qw tK;rw[List.flatMap_map]
theorem pM(n:Int):eT n≠[]:=by unfold eT lu;simp
theorem EO(f:bH)(g:G):CallsIn Wd 0 Tryz.prog 25 #[fv f] g.w (cF g fun _ r=>r= .string (bs (eP f))):=by
 have hs:=St.start g;have aq:=G.le.refl g;refine enter Tryz.func25 rfl Tryz.ntmps25 rfl ?_;apply cM;refine ak rfl rfl (aO rfl hs rfl rfl ?_);clear hs;rintro bf g1 hs ah;obtain⟨g2,bL,aT,ah,aL⟩:=hs.ba (i:=0) rfl;replace hs:=aT;clear aT;rw[←bL];have aC:=aL;clear aL;refine bj rfl ?_;apply aD;refine dz 1 [.z aC] (St.start _) rfl ?_;refine ak rfl rfl (au M5 aJ rfl rfl rfl rfl rfl (ze f _) ?_);rintro g1 _ aP rfl;replace hs:=hs.call aP;have ah:=aP.le;replace aC:=aC.mono ah;refine bj rfl ?_;cases hv:eC f with
 |false=>
  refine aM rfl rfl ?_;refine aY rfl ?_;refine aI ?_;apply eD;refine aX rfl rfl (hs.ret ?_);unfold eP;rw[hv];rfl
 |true=>
  refine aV rfl rfl ?_;obtain⟨s,nN,SH,Uv,ER,_⟩:=ln hv;obtain⟨_,_,_,lg,AH,_,o_,SI⟩:=nH nN;apply aF;apply ar;apply cM;refine ak rfl rfl (aQ T.ok rfl (vs:=[]) (cells:=[.pointer none,.slice none 0 0]) rfl rfl rfl rfl [(0,2)] rfl (by kernel_rfl) ?_);refine ak rfl rfl (aO rfl hs rfl rfl ?_);clear hs;rintro bw g1 hs ah;replace aC:=aC.mono ah;have hw:zh bw [] [.obj bw (.cells [.pointer none,.slice none 0 0].toArray 150 (0,0))]:=⟨_,_,[],.inl rfl,.inl ⟨rfl,rfl,rfl⟩,rfl⟩
  refine bj rfl ?_;refine dz 3 [.z aC] (St.start _) rfl ?_;refine ak rfl rfl (bD T.ok rfl hs (vs:=[(0,.int .i64 (f.kind))]) (cells:=[.int .i64 (f.kind)]) rfl rfl rfl rfl rfl rfl (by decide) (by decide) (by kernel_rfl) rfl ?_);rintro bl gl hs ah;replace aC:=aC.mono ah;obtain⟨gz,iQ,cP,jq,Eh⟩:=hs.cK (α:=Int) (xs:=[f.kind]) (i:=0) rfl (cG.ints _ [f.kind]);clear ah;have ah:=jq;rw[←iQ];replace hs:=cP;clear cP;replace aC:=aC.mono ah;refine ak rfl rfl (du KA aJ rfl rfl rfl rfl rfl (AU (L:=[]) [f.kind] hw (by intro n hn;obtain rfl:n=f.kind:=(by simpa using hn);unfold qm;omega) (by simp) Eh hs) ?_);clear hs hw Eh;rintro g5 _ ah ⟨rfl,SF,hw,hs⟩;replace aC:=aC.mono ah;apply bW;apply aD;apply ea (eQ (.f HA::eQ (.f (De (dQ f.kind) id):: .f (Fact.rs s.key):: .f (SG (qw f s.key))::[]))) 8 [(0,14),(7,21)] (by kernel_rfl)
  ·refine Dm [[],[]] [.z aC] hs (by kernel_rfl) rfl ?_;refine ay (an (js:=[]) (by kernel_rfl) fun gd hf=>aj (aB rfl (au KB aJ rfl rfl rfl rfl rfl (tR gd) fun g' v hf ⟨b,cu,e,h1,h2⟩=>⟨g',rfl,hf,b,cu,e,h1,h2⟩))) ?_;refine Dm [[],[3]] [.z aC] hs (by kernel_rfl) rfl ?_;refine ay (an (js:=[(2,16),(4,18)]) (by kernel_rfl) fun gd hf=>aZ fun v2 h2=>ai rfl (aj ?_)) ?_
   ·obtain⟨b,cu,rfl,h1,h2⟩:=h2;exact aB rfl (xz rfl h1 h2 rfl rfl fun cs h=>⟨gd,rfl,a_.refl _,cs,rfl,h⟩)
   refine ay (an (js:=[(5,19)]) (by kernel_rfl) fun gd hf=>aZ fun v5 h5=>aj ?_) ?_
   ·obtain⟨cs,rfl,h⟩:=h5;rw[nN]at h;obtain⟨a,b,rfl,h1,h2⟩:=h;exact aB rfl (aN _ T.ok rfl ⟨gd,rfl,a_.refl _,h2⟩)
   refine ay (an (js:=[(1,15),(6,20)]) (by kernel_rfl) fun gd hf=>ai rfl (aZ fun v6 h6=>aj (aB rfl (au M7 aJ rfl rfl rfl rfl rfl (wj f s.key (mB nN).2 v6 gd h6) fun g' v hf hv=>⟨g',rfl,hf,hv⟩)))) ?_;exact fD
  intro g1 aP;refine ai rfl (aZ fun v7 h7=>aj ?_);replace hs:=hs.dr.call aP;have ah:=(G.bu _).trans aP.le;skip;refine ak rfl rfl (du M6 aJ rfl rfl rfl rfl rfl (wk (L:=[]) (qw f s.key) hw (by intro n hn;obtain⟨x,hx,rfl⟩:=List.mem_map.1 hn;exact ER x hx) (by have:=kM [f.kind];simp only[List.nil_append,qw,List.length_map,List.length_cons,List.length_nil]at this⊢;omega) h7 hs) ?_);clear hs hw h7;rintro g5 _ ah ⟨rfl,Wg,⟨p,v,Lr,hp,hb,rfl⟩,hs⟩;apply bW;refine cN 3 rfl ?_;refine ak rfl rfl (du Ky aJ rfl rfl rfl rfl rfl (AZ (L:=[]) (by simp[jt,pM]) hb hs) ?_);clear hs hb;rintro g6 _ ah ⟨rfl,hs⟩;refine bj rfl ?_;refine aI (aX rfl rfl (hs.ret ?_));rw[rG];unfold eP;rw[hv,nN];simp[jt]
end Go.Proofs.YtgehbndkogohpaaGreatDoor
namespace Go.Proofs.YtgehbndkogohpaaGreatDoor
open Go Go.K
set_option maxRecDepth 10000
attribute [local irreducible] W WL cD bc bK bd bg bh cq ck
set_option maxHeartbeats 8000000
theorem zj(f:bH)(g:G):CallsIn Wd 0 Tryz.prog 73 #[fv f] g.w (cF g fun _ r=>r= .tuple #[.string (bs (lJ f).1),.int .i64 (lJ f).2]):=by
 have hs:=St.start g;have aq:=G.le.refl g;refine enter Tryz.func73 rfl Tryz.ntmps73 rfl ?_;apply cM;refine ak rfl rfl (aO rfl hs rfl rfl ?_);clear hs;rintro bf g1 hs ah;obtain⟨g2,bL,aT,ah,aL⟩:=hs.ba (i:=0) rfl;replace hs:=aT;clear aT;rw[←bL];have aC:=aL;clear aL;refine bj rfl ?_;apply aD;refine dz 1 [.z aC] (St.start _) rfl ?_;refine ak rfl rfl (au M5 aJ rfl rfl rfl rfl rfl (ze f _) ?_);rintro g1 _ aP rfl;replace hs:=hs.call aP;have ah:=aP.le;replace aC:=aC.mono ah;refine bj rfl ?_;cases hv:eC f with
 |false=>
  refine aM rfl rfl ?_;refine aY rfl ?_;refine aI ?_;apply eD;refine rH rfl rfl rfl (hs.ret ?_);unfold lJ;rw[hv];rfl
 |true=>
  refine aV rfl rfl ?_;obtain⟨s,nN,SH,Uv,ER,SJ,Uw,YP,Wh,YQ,_⟩:=ln hv;obtain⟨_,_,_,lg,AH,yS,o_,SI⟩:=nH nN;apply aF;apply ar;apply aD;apply nO (.f HA::(eQ (.f (De (dQ f.kind) id)::(.f Fact.any:: .f Fact.any::[])))) 6 [(4,4)] [4,5] [[],[4]] (AF g [] 156 EJ (pJ (dQ f.kind)) 4 5) (zf pJ.mono) (JN hs.dr) (by kernel_rfl) ⟨we,oI _ _,dk,dk,trivial⟩
  ·refine bI (cL (js:=[]) (by kernel_rfl) rfl fun _ g2 _ _ _ _=>bE (aB rfl (au KB aJ rfl rfl rfl rfl rfl (tR g2) fun g' v hf ⟨b,cu,e,h1,h2⟩=>⟨g',rfl,hf,b,cu,e,h1,h2⟩))) ?_;refine Um [[],[1]] [.z aC] (by kernel_rfl) rfl ?_;refine bI (cL (js:=[(0,11),(2,13)]) (by kernel_rfl) rfl fun _ g2 _ _ _ _=>cQ fun v0 h0=>cT rfl (bE ?_)) ?_
   ·obtain⟨b,cu,rfl,h1,h2⟩:=h0;exact aB rfl (xz rfl h1 h2 rfl rfl fun cs h=>⟨g2,rfl,a_.refl _,cs,rfl,h⟩)
   refine bI (jr (js:=[]) (by kernel_rfl) rfl fun ρ g2 h1 _ h3 _ hJ=>bE ⟨rfl,wg rfl h3 (h1 1 [4] 5 rfl rfl (by simp)) hJ rfl rfl rfl⟩) ?_;refine bI (jr (js:=[(4,4),(3,14),(3,14),(4,4)]) (by kernel_rfl) rfl fun ρ g2 _ _ h3 _ hJ=>cQ fun _ _=>cQ fun _ _=>cQ fun v5 h5=>gv rfl fun v7 _ r7=>bE ⟨rfl,?_⟩) ?_
   ·obtain⟨cs,rfl,h⟩:=h5;exact wh pJ.mono rfl r7 h3 hJ rfl rfl rfl rfl cs rfl h.len.1 rfl h.len.2 h
   exact zd
  intro ρ g3 hle hJ cR;refine gv rfl fun v7 _ r7=>bE ?_;obtain⟨b3,cs,rfl,hs,hO⟩:=Cb r7 (cR 5 rfl) hJ;clear hJ cR r7;have ah:=(G.bu _).trans hle;replace aC:=aC.mono ah;clear hle ρ;rw[nN]at hO;obtain⟨ka,kb,rfl,eh,ku⟩:=hO;obtain⟨g2,bL,aT,ah,aL⟩:=hs.ba (i:=0) rfl;replace hs:=aT;clear aT;rw[←bL];obtain⟨aC,eh⟩:=cf ah aC eh;have aR:=aL;clear aL;apply bW;apply cM;refine ak rfl rfl (aQ T.ok rfl (vs:=[]) (cells:=[.pointer none,.slice none 0 0]) rfl rfl rfl rfl [(0,2)] rfl (by kernel_rfl) ?_);refine ak rfl rfl (aO rfl hs rfl rfl ?_);clear hs;rintro bw g1 hs ah;obtain⟨aC,aR,eh⟩:=dy ah aC aR eh;have hw:zh bw [] [.obj bw (.cells [.pointer none,.slice none 0 0].toArray 150 (0,0))]:=⟨_,_,[],.inl rfl,.inl ⟨rfl,rfl,rfl⟩,rfl⟩
  refine bj rfl ?_;apply aD;have Wi:nF f.gone=0∨nF f.gone=1:=by unfold nF;split<;>simp
  apply ea (eO (eQ (.f (Fact.rs [f.kind,f.ver,f.day,nF f.gone])::[]))) 11 [(0,17),(10,27)] (by kernel_rfl)
  ·refine Dm [[],[],[1],[],[3],[],[5],[],[7],[8]] [.z aC,.z aC,.z aC,.z aC,.c NQ fun g _=>KE f.gone g] hs (by kernel_rfl) rfl ?_;refine ay (an (js:=[(2,19),(4,21),(6,23),(9,26)]) (by kernel_rfl) fun gd hf=>ai rfl (ai rfl (ai rfl (ai rfl (aj (aB rfl (bD T.ok rfl (St.start gd) (vs:=[(0,.int .i64 f.kind),(1,.int .i64 f.ver),(2,.int .i64 f.day),(3,.int .i64 (nF f.gone))]) (cells:=[f.kind,f.ver,f.day,nF f.gone].map (Value.int .i64)) rfl rfl rfl rfl rfl rfl (by decide) (by decide) (by kernel_rfl) rfl fun b g' jo _=>?_))))))) ?_
   ·obtain⟨g2,e1,e2,e3⟩:=pI (α:=Int) jo (cG.ints g' [f.kind,f.ver,f.day,nF f.gone]);exact⟨g2,e1,e2,e3⟩
   exact fD
  intro g1 aP;refine ai rfl (aZ fun v10 AT=>aj ?_);replace hs:=hs.dr.call aP;have ah:=(G.bu _).trans aP.le;obtain⟨aC,aR,eh⟩:=dy ah aC aR eh;skip;refine ak rfl rfl (du KA aJ rfl rfl rfl rfl rfl (AU (L:=[]) [f.kind,f.ver,f.day,nF f.gone] hw (by intro n hn;simp only[List.mem_cons,List.not_mem_nil,or_false]at hn;unfold qm;rcases hn with rfl|rfl|rfl|rfl<;>omega) (by simp) AT hs) ?_);clear hs hw AT;rintro g5 _ ah ⟨rfl,SF,hw,hs⟩;obtain⟨aC,aR,eh⟩:=dy ah aC aR eh;apply bW;refine dz 4 [.z aC,.z aR] (St.start _) rfl ?_;refine ak rfl rfl (au M7 aJ rfl rfl rfl rfl rfl (wj f s.fields (mB nN).1 ka _ eh) ?_);rintro g1 v9 aP h9;replace hs:=hs.call aP;have ah:=aP.le;obtain⟨aC,aR⟩:=cf ah aC aR;skip;have wi:=kM [f.kind,f.ver,f.day,nF f.gone];have Wj:=kM (qw f s.fields);have HD:(qw f s.fields).length≤11:=by unfold qw;simpa using yS
  simp only[List.length_cons,List.length_nil]at wi;refine ak rfl rfl (du M6 aJ rfl rfl rfl rfl rfl (wk (L:=[]) (qw f s.fields) hw (by intro n hn;obtain⟨x,hx,rfl⟩:=List.mem_map.1 hn;exact Uv x hx) (by simp only[List.nil_append];omega) h9 hs) ?_);clear hs hw h9;rintro g5 _ ah ⟨rfl,Wg,⟨p,v,Lr,hp,hb,rfl⟩,hs⟩;obtain⟨aC,aR⟩:=cf ah aC aR;apply bW;apply aD;refine l_ [.z aR] (St.start _) rfl ?_;cases ht:s.ji with
  |true=>
   refine aM rfl rfl ?_;refine dz 2 [.z aC] (St.start _) rfl ?_;refine ak rfl rfl (au NR aJ rfl rfl rfl rfl rfl (ES f.text _ (by omega)) ?_);rintro g1 _ aP rfl;replace hs:=hs.call aP;have ah:=aP.le;refine bj rfl ?_;apply aA;refine Wp 4 rfl ?_;have lL:(mA f.text).1.length≤f.text.length+10:=by
    unfold mA;split
    ·simp
    have:=lr f.text.length;simp only[List.length_append];omega
   refine ak rfl rfl (du MZ aJ rfl rfl rfl rfl rfl (EL (L:=[]) hp hb (mA f.text).1 (by simp only[List.nil_append,List.length_append];omega) EM hs) ?_);clear hs hp;rintro g5 _ ah ⟨v',vt,hb,hs⟩;apply bW;refine cN 3 rfl ?_;refine ak rfl rfl (du Ky aJ rfl rfl rfl rfl rfl (AZ (L:=[]) (by simp[jt,pM]) hb hs) ?_);clear hs hb;rintro g6 _ ah ⟨rfl,hs⟩;refine bj rfl ?_;refine aI (rH rfl rfl rfl (hs.ret ?_));rw[rG];unfold lJ;rw[hv,nN];simp[jt,ht]
  |false=>
   refine aV rfl rfl ?_;apply aF;apply ar;refine cN 3 rfl ?_;refine ak rfl rfl (du Ky aJ rfl rfl rfl rfl rfl (AZ (L:=[]) (by simp[jt,pM]) hb hs) ?_);clear hs hb;rintro g6 _ ah ⟨rfl,hs⟩;refine bj rfl ?_;refine aI (rH rfl rfl rfl (hs.ret ?_));rw[rG];unfold lJ;rw[hv,nN];simp[jt,ht]
end Go.Proofs.YtgehbndkogohpaaGreatDoor
namespace Go.Proofs.YtgehbndkogohpaaGreatDoor
open Go Go.K
set_option maxRecDepth 10000
attribute [local irreducible] W WL cD bc bK bd bg bh cq ck
set_option maxHeartbeats 8000000
theorem Df(x y:List UInt8)(g:G):CallsIn Wd 0 Tryz.prog 74 #[.string (bs x),.string (bs y)] g.w (cF g fun _ r=>r= .int .i64 (Lib.compareBytes x y)):=by refine kE ((Tryz.strings_Compare (bs x) (bs y) g.w).mono ?_) fun _ _=>rfl;rintro e w' ⟨rfl,rfl⟩;exact⟨rfl,RowKit.Below.refl _ _⟩
theorem A0(f h:bH)(g:G):CallsIn Wd 0 Tryz.prog 26 #[fv f,fv h] g.w (cF g fun _ r=>r= .bool (o8 f h)):=by
 have hs:=St.start g;have aq:=G.le.refl g;refine enter Tryz.func26 rfl Tryz.ntmps26 rfl ?_;apply cM;refine ak rfl rfl (aO rfl hs rfl rfl ?_);clear hs;rintro b1 g1 hs ah;refine ak rfl rfl (aO rfl hs rfl rfl ?_);clear hs;rintro b2 g1 hs ah;obtain⟨g2,bL,aT,ah,aL⟩:=hs.ba (i:=0) rfl;replace hs:=aT;clear aT;rw[←bL];have aR:=aL;clear aL;obtain⟨g2,bL,aT,ah,aL⟩:=hs.ba (i:=0) rfl;replace hs:=aT;clear aT;rw[←bL];replace aR:=aR.mono ah;have aC:=aL;clear aL;refine bj rfl ?_;refine dz 1 [.z aC] (St.start _) rfl ?_;refine ak rfl rfl (au M8 aJ rfl rfl rfl rfl rfl (zj f _) ?_);rintro g1 _ aP rfl;replace hs:=hs.call aP;have ah:=aP.le;obtain⟨aC,aR⟩:=cf ah aC aR;refine bj rfl ?_;refine dz 1 [.z aR] (St.start _) rfl ?_;refine ak rfl rfl (au M8 aJ rfl rfl rfl rfl rfl (zj h _) ?_);rintro g1 _ aP rfl;replace hs:=hs.call aP;have ah:=aP.le;obtain⟨aC,aR⟩:=cf ah aC aR;refine bj rfl ?_;apply aD;apply aG;apply aD;refine aY rfl ?_;by_cases h1:(lJ f).2=0
 ·refine aV (b:=(lJ f).2 !=0) (by simp[h1]) rfl ?_;refine aY rfl ?_;by_cases h2:(lJ h).2=0
  ·refine aV (b:=(lJ h).2 !=0) (by simp[h2]) rfl ?_;apply bP hs (iY (fe [])) 5 [(4,28)] (by kernel_rfl) rfl
   ·exact Dz [[],[0],[],[2],[1,3]] [.z aC,.c Kt fun g _=>EO f g,.z aR,.c Kt fun g _=>EO h g] hs (by kernel_rfl) rfl
   clear hs;intro g5 hs ah;obtain⟨aC,aR⟩:=cf ah aC aR;refine bj rfl ?_;by_cases h3:eP f=eP h
   ·refine aV (b:=!((bs (eP f)).toList==(bs (eP h)).toList)) (by rw[h3];simp) rfl ?_;have hp:o8 f h=if f.ver≠h.ver then decide (h.ver<f.ver)else decide (0<Lib.compareBytes (lJ f).1 (lJ h).1):=by unfold o8;rw[if_neg (by simp[h1,h2,h3])]
    refine l_ [.z aC,.z aR] (St.start _) rfl ?_;by_cases h4:f.ver=h.ver
    ·refine aV (b:=f.ver !=h.ver) (by simp[h4]) rfl ?_;apply aF;apply bR;apply ar;refine cN 2 rfl ?_;refine ak rfl rfl (au R2 aJ rfl rfl rfl rfl rfl (Df (lJ f).1 (lJ h).1 _) ?_);rintro g1 _ aP rfl;replace hs:=hs.call aP;have ah:=aP.le;obtain⟨aC,aR⟩:=cf ah aC aR;refine bj rfl ?_;refine aI (aX rfl rfl (hs.ret ?_));rw[hp,if_neg (by simp[h4])]
    refine aM (b:=f.ver !=h.ver) (by simp[h4]) rfl ?_;refine l_ [.z aC,.z aR] (St.start _) rfl ?_;refine aI ?_;apply hQ;apply eD;refine aX rfl rfl (hs.ret ?_);rw[hp,if_pos h4]
   refine aM (b:=!((bs (eP f)).toList==(bs (eP h)).toList)) (by rw[cB,cB];simp[h3]) rfl ?_;refine aY rfl ?_;refine aI ?_;apply hQ;apply eD;refine aX rfl rfl (hs.ret ?_);unfold o8;rw[if_pos (by simp[h3])]
  refine aM (b:=(lJ h).2 !=0) (by simp[h2]) rfl ?_;apply aF;apply ar;refine aM (b:=(lJ h).2 !=0) (by simp[h2]) rfl ?_;refine aY rfl ?_;refine aI ?_;apply hQ;apply eD;refine aX rfl rfl (hs.ret ?_);unfold o8;rw[if_pos (by simp[h2])]
 refine aM (b:=(lJ f).2 !=0) (by simp[h1]) rfl ?_;apply aF;apply ar;refine aM (b:=(lJ f).2 !=0) (by simp[h1]) rfl ?_;refine aY rfl ?_;refine aI ?_;apply hQ;apply eD;refine aX rfl rfl (hs.ret ?_);unfold o8;rw[if_pos (by simp[h1])]
end Go.Proofs.YtgehbndkogohpaaGreatDoor
