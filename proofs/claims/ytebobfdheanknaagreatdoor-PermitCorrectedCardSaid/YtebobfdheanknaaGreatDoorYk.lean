/- Parts of the proof, from: The walks through package graph: cycle. -/
import Derived.Test.YtebobfdheanknaaGreatDoorYj
import Derived.Test.YtebobfdheanknaaGreatDoorYi
import Derived.Test.YtebobfdheanknaaGreatDoorYg
import Derived.Test.YtebobfdheanknaaGreatDoorYc
namespace Go.Proofs.YtebobfdheanknaaGreatDoor
open Go Go.K
set_option maxRecDepth 10000
attribute [local irreducible] W WL cT bu bX bA bB bD cW cG
set_option maxHeartbeats 2000000
def GV(v:Value)(n:Nat)(cells:List Value):cV:=.row 23 1 v n cells
def Bi(off:Nat)(s:Step):Fact:=
 ⟨fun v g=> ∃b p ys,v= .pointer (some ⟨b,p+off,none⟩)∧EP g b p ys∧pB g ys s,fun _ _ _ hf ⟨b,p,ys,e,h1,h2⟩=>⟨b,p,ys,e,h1.mono hf.le,El.mono (α:=Step) hf.le h2⟩⟩
def JD(n:Int):Fact:=
 ⟨fun v g=> ∃b p,v= .pointer (some ⟨b,p,none⟩)∧EP g b p [.int .i64 n],fun _ _ _ hf ⟨b,p,e,h1⟩=>⟨b,p,e,h1.mono hf.le⟩⟩
theorem GQ(v lv:Value)(f:bV)(live:List Bool)(first:Int)(g:G)(fk:fA g v f)(bT:Rs g lv live)(iG:valid f=true)(x_:live.length=f.steps.length)(h0:0≤first)(h1:first<f.steps.length):
  CallsIn Wd 0 Tryz.prog 70 #[v,lv,.int .i64 first] g.w (cR g fun g' r=>Rs g' r (pA f live first)):=by
 obtain⟨a1,n1,c1,a2,n2,c2,rfl,aH,aT⟩:=id fk
 obtain⟨_,_,e⟩:=aH.isSlice;obtain⟨rfl,rfl,rfl⟩:=Value.slice.inj e;clear e
 obtain⟨a3,c3,rfl⟩:=bT.isSlice
 have QR:=nQ iG
 have hs:=St.start g
 have aq:=G.le.refl g
 refine enter Tryz.func70 rfl Tryz.ntmps70 rfl ?_
 apply c_
 refine an rfl rfl (aR rfl hs rfl rfl ?_);clear hs;rintro bf g1 hs ah;obtain⟨aH,aT,bT⟩:=ef ah aH aT bT
 obtain⟨g2,bR,aU,ah,aL⟩:=hs.a_ (i:=0) rfl;replace hs:=aU;clear aU;rw[←bR];obtain⟨aH,aT,bT⟩:=ef ah aH aT bT
 have aC:=aL;clear aL
 refine ba rfl ?_;refine cP 1 rfl ?_
 refine an rfl rfl (bj T.ok rfl hs (vs:=[(0,.int .i64 first)]) (cells:=[.int .i64 first]) rfl rfl rfl rfl rfl rfl (by decide) (by decide) (by kernel_rfl) rfl ?_);rintro b2 g2 hs ah;obtain⟨aC,aH,aT,bT⟩:=dE ah aC aH aT bT
 obtain⟨g3,sq,Bh,yq,pP⟩:=hs.cL (α:=Int) (xs:=[first]) (i:=0) rfl (cO.ints _ [first])
 clear ah;have ah:=yq;rw[←sq];replace hs:=Bh;obtain⟨aC,aH,aT,bT⟩:=dE ah aC aH aT bT
 skip
 refine an rfl rfl (bj T.ok rfl hs (vs:=[(0,.slice (some ⟨b2,0,none⟩) 1 1)]) (cells:=[.slice (some ⟨b2,0,none⟩) 1 1]) rfl rfl rfl rfl rfl rfl (by decide) (by decide) (by kernel_rfl) rfl ?_);rintro b3 g4 hs ah;obtain⟨aC,aH,aT,bT⟩:=dE ah aC aH aT bT
 replace pP:=pP.mono ah
 refine ba rfl ?_;refine dx 3 [.z aC] (St.start _) rfl ?_
 refine an rfl rfl (yr T.ok rfl hs rfl rfl rfl rfl rfl rfl (by decide) rfl (by show 1*f.steps.length≤_;omega) (by unfold maxLen;omega) ?_);rintro ob g1 hs ah;obtain⟨aC,aH,aT,bT⟩:=dE ah aC aH aT bT
 replace pP:=pP.mono ah
 refine ba rfl ?_;apply aB;apply aG
 have xR:(List.replicate f.steps.length [Value.bool false]).flatten=(List.replicate f.steps.length false).map Value.bool:=by simp
 have dm:St g g1 [tG ob f.steps.length (List.replicate f.steps.length false),GV (.slice (some ⟨b3,0,none⟩) 1 1) 1 [.slice (some ⟨b2,0,none⟩) 1 1]]:=by
  unfold tG GV;rw[←xR];exact hs
 clear hs
 have qE:=aC;have qz:=aH;have Jw:=bT;have cN:=G.le.refl g1
 refine bS (fun m a' w=> ∃(q:List (List Int)) (cells:List Value) (seen:List Bool) (qv:Value) (g':G),w=g'.w∧St g g' [tG ob f.steps.length seen,GV qv q.length cells]∧G.le g1 g'∧cO g' cells q∧
   m=q.length+seen.count false∧seen.length=f.steps.length∧(∀l∈q,l≠[]∧0≤iO l∧iO l<f.steps.length∧l.length+m≤f.steps.length+2)∧
   x5 f live first m q seen=pA f live first∧
   Fr 75 [] [(1,.slice a3 live.length c3),(2,.int .i64 first),(3,.pointer (some ⟨bf,0,none⟩)),(7,qv),(8,.slice (some ⟨ob,0,none⟩) f.steps.length f.steps.length)] a') (1+f.steps.length)
  (fun a' ha=>⟨[[first]],_,_,_,g1,rfl,dm,cN,⟨[_],[],rfl,⟨_,rfl,pP⟩,rfl⟩,by simp,by simp,by intro l hl;simp at hl;subst hl;refine⟨by simp,h0,h1,by simp;omega⟩,rfl,ha.keep (by(repeat (first|exact trivial|refine⟨rfl,?_⟩)))⟩) ?_
 clear dm aq cN
 rintro m a' _ ⟨q,cells,seen,qv,g',rfl,hs,cN,eK,rfl,jr,hq,dy,eI⟩
 have aC:=qE.mono cN;have aH:=qz.mono cN;have bT:=Jw.mono cN
 obtain⟨qa,qc,rfl⟩:=(hs.own 1 _ rfl).1.form
 revert a'
 apply cQ;apply aB;refine aX rfl ?_
 cases q with
 |nil=>
  refine aS (b:=decide ((0:Int)<([]:List (List Int)).length)) (by simp) rfl ?_
  apply bE;apply bK;apply bK;apply dc;apply au;refine aX rfl ?_
  refine aF (aV rfl rfl (hs.ret ?_))
  rw[←dy,x5]
  exact Rs.nil _
 |cons l rest=>
  refine aJ (b:=decide ((0:Int)<(l::rest).length)) (by simp) rfl ?_
  obtain⟨_,JE,rfl,⟨vl,rfl,pP⟩,Bj⟩:=eK
  obtain⟨C2,MR,sP,O5⟩:=hq l List.mem_cons_self
  have SW:0<l.length:=List.length_pos_iff.2 C2
  have Kr:(l::rest).length+seen.count false=(rest.length+seen.count false)+1:=by simp;omega
  rw[Kr]at dy O5
  rw[x5]at dy
  have UG:=(hs.own 1 _ rfl).1
  have qP:(l::rest).length≤qc:=by
   rcases UG.2 with⟨h,_⟩|⟨b,p,cap,cur,e1,_,_,h2,_⟩
   ·simp at h
   ·simp only[Value.slice.injEq]at e1;omega
  apply aE;apply au;apply aG;refine cP 1 rfl ?_
  refine an rfl rfl (iy T.ok rfl (hs.own 1 _ rfl).1 (by decide) (by simp) rfl rfl rfl rfl rfl rfl ?_)
  rintro bq pq rfl
  refine an rfl rfl (iP T.ok (Int.toNat 0*1) rfl (hs.own 1 _ rfl).1 rfl (v:=vl) rfl ?_)
  refine ba rfl ?_;refine cP 1 rfl ?_
  refine an rfl rfl (j2 T.ok rfl rfl rfl rfl rfl (a:=1) (b:=(l::rest).length) ⟨_,rfl⟩ rfl (by simp) qP ?_)
  replace hs:=hs.cutFrom (i:=1) (a:=1) rfl (by simp)
  refine ba rfl ?_;apply aB
  obtain⟨al,cl,rfl⟩:=pP.isSlice
  have QX:=pP.dU
  unfold maxLen at QX
  have NW:dA l (IntKind.i64.wrap ((l.length:Int)-1))=some (iO l):=by
   rw[cU (j:=l.length-1) (by rw[wr (by omega) (by omega)];omega) (by omega)]
   unfold iO
   rw[List.getLastD_eq_getLast?,List.getLast?_eq_getElem?,List.getElem?_eq_getElem (by omega)];rfl
  apply ed (gE (eJ (.f (JD (iO l))::(fe (.f (Bi 0 (dG f (iO l)))::(.f (Bi 4 (dG f (iO l)))::(.f (Fact.rs (dG f (iO l)).next)::(eJ [])))))))) 13 [(10,37),(11,38),(12,39),(2,29)] (by kernel_rfl)
  ·refine Dm [[],[0],[],[],[3],[4]] [.e aC 2] (St.start _) (by kernel_rfl) rfl ?_
   refine aw (ak (js:=[(2,29),(5,32)]) (by kernel_rfl) fun gd hf=> ?_) ?_
   ·have eH:=(G.bJ _).trans hf.le
    refine ai rfl ?_;refine ai rfl ?_
    apply aj
    refine az rfl ?_
    refine aW T.ok rfl (pP.mono eH) (y:=iO l) NW rfl rfl rfl rfl rfl rfl ?_
    intro b p ys aL eK
    exact⟨_,rfl,aZ.refl _,b,p,rfl,by rw[←show ys=[Value.int .i64 (iO l)]from eK];exact aL⟩
   refine aw (ak (js:=[(6,33)]) (by kernel_rfl) fun gd hf=> ?_) ?_
   ·skip
    refine aY fun v6 h6=> ?_
    apply aj
    obtain⟨b,p,rfl,aL⟩:=h6
    refine az rfl ?_
    refine cp T.ok 0 rfl aL rfl rfl ?_
    refine⟨_,rfl,aZ.refl _,?_⟩
    exact rfl
   refine aw (ak (js:=[(1,28),(7,34)]) (by kernel_rfl) fun gd hf=> ?_) ?_
   ·have eH:=(G.bJ _).trans hf.le
    refine ai rfl ?_;refine ai rfl ?_
    apply aj
    refine az rfl ?_
    refine aW T.ok rfl (aH.mono eH) (y:=dG f (iO l)) (by unfold dG;rw[cU (j:=(iO l).toNat) (by omega) (by omega)];simp[List.getD_eq_getElem?_getD,show(iO l).toNat<f.steps.length from by omega]) rfl rfl rfl rfl rfl rfl ?_
    intro b p ys aL eK
    exact⟨_,rfl,aZ.refl _,b,p,ys,rfl,aL,eK⟩
   refine aw (ak (js:=[(8,35)]) (by kernel_rfl) fun gd hf=> ?_) ?_
   ·skip
    refine aY fun v8 h8=> ?_
    apply aj
    obtain⟨b,p,ys,rfl,aL,eK⟩:=h8
    refine az rfl ?_
    refine aM _ T.ok rfl ?_
    exact⟨_,rfl,aZ.refl _,b,p,ys,rfl,aL,eK⟩
   refine aw (ak (js:=[(9,36)]) (by kernel_rfl) fun gd hf=> ?_) ?_
   ·skip
    refine aY fun v9 h9=> ?_
    apply aj
    obtain⟨b,p,ys,rfl,aL,eK⟩:=h9
    obtain⟨b1,b2,b3,b4,b5,b6,rfl,A0,UH⟩:=eK
    refine az rfl ?_
    refine cp T.ok 4 rfl aL rfl rfl ?_
    exact⟨_,rfl,aZ.refl _,UH⟩
   refine aw (ak (js:=[(10,37)]) (by kernel_rfl) fun gd hf=> ?_) ?_
   ·skip
    refine aY fun v10 uH=> ?_
    apply aj
    obtain⟨a5,c5,rfl⟩:=Rs.isSlice uH
    refine az rfl ?_
    refine aM _ T.ok rfl ?_
    refine⟨_,rfl,aZ.refl _,?_⟩
    exact rfl
   exact Dy [[]] (by kernel_rfl) rfl
  intro g1 aN;refine aY fun v10 uH=> ?_;refine ai rfl ?_;refine ai rfl ?_;refine ai rfl ?_;apply aj
  replace hs:=hs.dr.call aN;have ah:=(G.bJ _).trans aN.le;obtain⟨cN,aC,aH,bT⟩:=dE ah cN aC aH bT
  replace pP:=pP.mono ah
  replace Bj:=Bj.mono ah
  have bN:Rs g1 v10 (dG f (iO l)).next:=uH
  obtain⟨a5,c5,rfl⟩:=bN.isSlice
  have jn:=sX (oH iG MR sP)
  have UI:=sU (oH iG MR sP)
  generalize UJ:(dG f (iO l)).next=nx at*
  have QY:=pP;have QZ:=aH;have EB:=bT;have Jy:=bN;have wV:=aC
  have ie:=G.le.refl g1
  apply cf;apply aG
  refine bS (fun m a' w=> ∃(k:Nat) (q':List (List Int)) (oO:List Value) (g_:List Bool) (Q0:Value) (g':G),w=g'.w∧St g g' [tG ob f.steps.length g_,GV Q0 q'.length oO]∧G.le g1 g'∧cO g' oO q'∧
    k≤nx.length∧m=nx.length-k∧g_.length=f.steps.length∧q'.length+g_.count false=rest.length+seen.count false∧
    (∀l'∈q',l'≠[]∧0≤iO l'∧iO l'<f.steps.length∧l'.length+(rest.length+seen.count false)≤f.steps.length+2)∧
    ma live first l (nx.drop k) q' g_=ma live first l nx rest seen∧
    Fr 75 [] [(1,.slice a3 live.length c3),(2,.int .i64 first),(3,.pointer (some ⟨bf,0,none⟩)),(7,Q0),(8,.slice (some ⟨ob,0,none⟩) f.steps.length f.steps.length),(9,.slice al l.length cl),(37,.slice a5 nx.length c5),(38,.int .i64 nx.length),(39,.int .i64 k)] a') nx.length
   (fun a' ha=>⟨0,rest,JE,seen,_,g1,rfl,hs,ie,Bj,Nat.zero_le _,rfl,jr,rfl,fun l' CV=> ?_,by rw[List.drop_zero],ha.keep (by(repeat (first|exact trivial|refine⟨rfl,?_⟩)))⟩) ?_
  ·obtain⟨x1,x2,x3,x4⟩:=hq l' (List.mem_cons_of_mem _ CV)
   exact⟨x1,x2,x3,by rw[Kr]at x4;omega⟩
  clear hs ie Bj pP aH bT bN aC
  rintro m a' _ ⟨k,q',oO,g_,Q0,g',rfl,hs,ie,lz,hk,rfl,JF,NX,Q1,Bk,eI⟩
  have aC:=wV.mono ie;have aH:=QZ.mono ie;have bT:=EB.mono ie;have bN:=Jy.mono ie;have aT:=QY.mono ie
  obtain⟨Wx,Wy,rfl⟩:=(hs.own 1 _ rfl).1.form
  revert a'
  apply cQ;refine aX rfl ?_;apply aB
  by_cases bh:k<nx.length
  ·refine aJ (b:=decide ((k:Int)<(nx.length:Int))) (by simp;omega) rfl ?_
   rw[List.drop_eq_getElem_cons bh,ma]at Bk
   obtain⟨KE,C1⟩:=jn nx[k] (List.getElem_mem bh)
   apply aE;apply au;apply aB;apply aG;apply c_
   refine an rfl rfl (aW T.ok rfl bN (y:=nx[k]) (by simp[dA,bh]) rfl rfl rfl rfl rfl rfl ?_)
   rintro b p ys aL rfl
   refine Wm 1 [.e aL 0] (St.start _) rfl ?_
   refine ba rfl ?_;apply aB;refine aX rfl ?_
   by_cases CY:nx[k]=first
   ·refine aJ (b:=nx[k]==first) (by simp[CY]) rfl ?_
    rw[if_pos CY]at Bk
    refine aX rfl ?_
    refine aF (aV rfl rfl (hs.ret ?_))
    rw[←Bk]at dy
    rw[←dy]
    exact aT
   ·refine aS (b:=nx[k]==first) (by simp[CY]) rfl ?_
    rw[if_neg CY]at Bk
    have FJ:nx[k].toNat<live.length:=by omega
    have GW:nx[k].toNat<g_.length:=by omega
    have UK:live.getD nx[k].toNat false=live[nx[k].toNat]:=by rw[List.getD_eq_getElem?_getD,List.getElem?_eq_getElem FJ];rfl
    have UL:g_.getD nx[k].toNat true=g_[nx[k].toNat]:=by rw[List.getD_eq_getElem?_getD,List.getElem?_eq_getElem GW];rfl
    rw[UK,UL]at Bk
    apply aE;apply au;refine cP 4 rfl ?_
    refine cw (want:=true) (x:=live[nx[k].toNat]) 4 aI rfl rfl rfl rfl (.inl ⟨rfl,rfl,rfl⟩) rfl rfl rfl rfl (fun hb Q' eE=> ?_) (fun g' hf=> ?_)
    ·refine Wp 2 rfl ?_
     refine an rfl rfl (aW T.ok rfl bT (y:=live[nx[k].toNat]) (cU (by omega) FJ) rfl rfl rfl rfl rfl rfl ?_)
     rintro b p ys aL rfl
     refine Wm 1 [.e aL 0] (St.start _) rfl ?_
     apply aD
     exact fun a ha=>eE _ a (aZ.refl _) (ha.keep (by(repeat (first|exact trivial|refine⟨rfl,?_⟩))))
    replace hs:=hs.call hf;have ah:=hf.le;replace aT:=aT.mono ah
    replace lz:=lz.mono ah;replace ie:=ie.trans ah
    refine Wp 1 rfl ?_
    refine cw (want:=true) (x:=!g_[nx[k].toNat]) 5 aI rfl rfl rfl rfl (.inl ⟨rfl,rfl,rfl⟩) rfl rfl rfl rfl (fun hb Q' eE=> ?_) (fun g' hf=> ?_)
    ·refine Wp 2 rfl ?_
     refine an rfl rfl (iy T.ok rfl (hs.own 0 _ rfl).1 KE (by omega) rfl rfl rfl rfl rfl rfl ?_)
     rintro b p hh;obtain⟨rfl,rfl⟩:ob=b∧0=p:=by simpa using hh
     refine an rfl rfl (iP T.ok (nx[k].toNat*1) rfl (hs.own 0 _ rfl).1 rfl (v:=.bool (g_[nx[k].toNat])) (by show(List.map Value.bool _)[nx[k].toNat*1]? =_;rw[Nat.mul_one,List.getElem?_map,List.getElem?_eq_getElem GW];rfl) ?_)
     refine Wp 1 rfl ?_;apply aD
     exact fun a ha=>eE _ a (aZ.refl _) (ha.keep (by(repeat (first|exact trivial|refine⟨rfl,?_⟩))))
    replace hs:=hs.call hf;have ah:=hf.le;replace aT:=aT.mono ah
    replace lz:=lz.mono ah;replace ie:=ie.trans ah
    apply cf
    by_cases tA:first<nx[k]∧live[nx[k].toNat]=true∧g_[nx[k].toNat]=false
    ·refine aJ (b:=(decide (first<nx[k])&&live[nx[k].toNat])&& !g_[nx[k].toNat]) (by simp[tA]) rfl ?_
     rw[if_pos tA]at Bk
     have UM:=O5
     refine cP 2 rfl ?_
     refine an rfl rfl (iy T.ok rfl (hs.own 0 _ rfl).1 KE (by omega) rfl rfl rfl rfl rfl rfl ?_)
     rintro b p hh;obtain⟨rfl,rfl⟩:ob=b∧0=p:=by simpa using hh
     refine bg rfl (kD T.ok 0 (nx[k].toNat*1) (us:=[.bool true]) rfl hs rfl rfl rfl rfl rfl rfl rfl (by decide) (by simp;omega) (xs':=(g_.set nx[k].toNat true).map Value.bool) ?_ ?_)
     ·rw[Nat.mul_one,List.map_set]
      unfold lF
      rw[List.set_eq_take_append_cons_drop]
      simp[GW]
     rintro g5 hs ah;replace aT:=aT.mono ah
     replace lz:=lz.mono ah;replace ie:=ie.trans ah
     apply cf;apply ar;refine Wp 2 rfl ?_
     refine an rfl rfl (ay HD aI rfl rfl rfl rfl rfl (Bb _ l _ aT (by omega)) ?_);rintro g6 v mY ⟨Q2,UN,NY⟩
     replace hs:=hs.gJ mY UN
     have ah:=mY.le
     replace lz:=lz.mono ah;replace ie:=ie.trans ah
     obtain⟨ca,cc,rfl⟩:=(hs.own 0 _ rfl).1.form
     refine Wp 1 rfl ?_
     refine an rfl rfl (bj T.ok rfl hs (vs:=[(0,.int .i64 nx[k])]) (cells:=[.int .i64 nx[k]]) rfl rfl rfl rfl rfl rfl (by decide) (by decide) (by kernel_rfl) rfl ?_);rintro b2 g7 hs ah
     replace lz:=lz.mono ah;replace ie:=ie.trans ah;replace NY:=NY.mono ah
     skip
     refine an rfl rfl (b_ T.ok 1 rfl hs rfl rfl rfl rfl rfl rfl rfl (by decide) rfl (Src.gK (hs.own 0 _ rfl).1).2 (by simp[Value.oneCell']) (by show(l.length+1)*8≤_;omega) (by unfold maxLen;omega) ?_);rintro a' c' g8 hs ah
     replace lz:=lz.mono ah;replace ie:=ie.trans ah;replace NY:=NY.mono ah
     obtain⟨g9,OY,FL,Q3,CW⟩:=hs.cL (α:=Int) (xs:=l++[nx[k]]) (i:=1) rfl (cO.app (cO.ints _ [nx[k]]) NY)
     clear ah;have ah:=Q3;rw[←OY];replace hs:=FL
     replace lz:=lz.mono ah;replace ie:=ie.trans ah
     skip
     refine an rfl rfl (bj T.ok rfl hs (vs:=[(0,.slice a' (l.length+1) c')]) (cells:=[.slice a' (l.length+1) c']) rfl rfl rfl rfl rfl rfl (by decide) (by decide) (by kernel_rfl) rfl ?_);rintro b3 g10 hs ah
     replace lz:=lz.mono ah;replace ie:=ie.trans ah;replace CW:=CW.mono ah
     skip
     have mG:g_.count false≤g_.length:=List.count_le_length
     refine an rfl rfl (b_ T.ok 3 rfl hs rfl rfl rfl rfl rfl rfl rfl (by decide) rfl (Src.gK (hs.own 0 _ rfl).1).2 (by simp[Value.oneCell']) (by show(q'.length+1)*24≤_;omega) (by unfold maxLen;omega) ?_);rintro a9 c9 g11 hs ah
     replace lz:=lz.mono ah;replace ie:=ie.trans ah;replace CW:=CW.mono ah
     refine Wp 1 rfl ?_;apply aD;apply bU;apply au;apply ar;refine Wp 2 rfl ?_;apply aD
     have UO:cO g11 (oO++[Value.slice a' (l.length+1) c']) (q'++[l++[nx[k]]]):=cO.app (α:=List Int) (ys:=[l++[nx[k]]]) (ds:=[Value.slice a' (l.length+1) c']) ⟨[Value.slice a' (l.length+1) c'],[],rfl,(show ∃v,[Value.slice a' (l.length+1) c']=[v]∧Rs g11 v (l++[nx[k]])from⟨_,rfl,CW⟩),rfl⟩ lz
     refine fun a ha=>⟨nx.length-(k+1),by omega,k+1,q'++[l++[nx[k]]],oO++[.slice a' (l.length+1) c'],g_.set nx[k].toNat true,.slice a9 (q'.length+1) c9,_,rfl,?_,ie,
      UO,by omega,rfl,by simp[JF],?_,?_,Bk,ha.keep ⟨rfl,rfl,rfl,rfl,rfl,rfl,rfl,rfl,kI rfl (by rw[wr (by omega) (by omega)];omega),trivial⟩⟩
     ·have hd:=(hs.drop 0).drop 0
      have:(q'++[l++[nx[k]]]).length=q'.length+1:=by simp
      rw[this]
      exact hd
     ·have:=pz (o:=g_) (i:=nx[k].toNat) (by rw[List.getElem?_eq_getElem GW,tA.2.2])
      simp;omega
     ·intro l' CV
      rcases List.mem_append.1 CV with h|h
      ·exact Q1 l' h
      ·simp at h;subst h
       refine⟨by simp,?_,?_,by simp;omega⟩
       ·simpa [iO]using KE
       ·simpa [iO]using C1
    ·refine aS (b:=(decide (first<nx[k])&&live[nx[k].toNat])&& !g_[nx[k].toNat]) ?_ rfl ?_
     ·rw[Bool.eq_false_iff];intro h;simp only[Bool.and_eq_true,decide_eq_true_eq,Bool.not_eq_true']at h;exact tA ⟨h.1.1,h.1.2,h.2⟩
     rw[if_neg tA]at Bk
     apply aE;apply bU;apply au;apply ar;refine Wp 2 rfl ?_;apply aD
     exact fun a ha=>⟨nx.length-(k+1),by omega,k+1,q',oO,g_,_,_,rfl,hs,ie,lz,by omega,rfl,JF,NX,Q1,Bk,ha.keep ⟨rfl,rfl,rfl,rfl,rfl,rfl,rfl,rfl,kI rfl (by rw[wr (by omega) (by omega)];omega),trivial⟩⟩
  ·refine aS (b:=decide ((k:Int)<(nx.length:Int))) (by simp;omega) rfl ?_
   obtain rfl:k=nx.length:=by omega
   rw[List.drop_length,ma]at Bk
   apply bE;apply bK;apply bK;apply dc;apply bU
   rw[←Bk]at dy
   exact fun a ha=>⟨_,by rw[Kr];exact Nat.lt_succ_self _,q',oO,g_,_,_,rfl,hs,cN.trans ie,lz,NX.symm,JF,Q1,dy,ha.keep (by(repeat (first|exact trivial|refine⟨rfl,?_⟩)))⟩
end Go.Proofs.YtebobfdheanknaaGreatDoor
namespace Go.Proofs.YtebobfdheanknaaGreatDoor
def alive(f:bV)(n:Int):Bool:=(ends f).any fun e=>(ee f n).getD e.toNat false
def vp(f:bV)(l:List Int):Option Int:=l.find? fun n=> !alive f n
def sY(f:bV)(I_:List Int)(n:Int):List Int:=
 if 0<(pA f (ee f 0) n).length∧(I_=[]∨(pA f (ee f 0) n).length<I_.length)then pA f (ee f 0) n else I_
def lN(f:bV)(l:List Int):List Int:=l.foldl (sY f) []
def check(f:bV):Int×List Int:=
 match vp f (reach f 0)with
 |some n=>(1,[n])
 |none=>if lN f (reach f 0)=[]then(0,[])else(2,lN f (reach f 0))
theorem zM(f:bV)(l:List Int)(n:Int):lN f (l++[n])=sY f (lN f l) n:=by
 unfold lN;rw[List.foldl_append];rfl
def E8(o:List Bool)(m:Int):Prop:=o.getD m.toNat false=true
def Jv(f:bV)(m:Int):Prop:=0≤m∧m<f.steps.length
inductive C6(f:bV):Int→Int→Prop where
 |refl (a:Int):C6 f a a
 |step {a b c:Int}:C6 f a b→c∈jy (dG f b)→C6 f a c
theorem C6.trans{f:bV}{a b c:Int}(h:C6 f a b)(r:C6 f b c):C6 f a c:=by
 induction r with
 |refl=>exact h
 |step _ h2 ih=>exact .step ih h2
theorem C6.head{f:bV}{a b c:Int}(h:b∈jy (dG f a))(r:C6 f b c):C6 f a c:=C6.trans (.step (.refl a) h) r
structure WY(f:bV)(src:Int→Prop)(o o':List Bool):Prop where
 len:o'.length=o.length
 mono: ∀m,Jv f m→E8 o m→E8 o' m
 fresh: ∀m,Jv f m→E8 o' m→ ¬E8 o m→(∃b,src b∧C6 f b m)∧ ∀c∈jy (dG f m),E8 o' c
theorem Cj{f:bV}{n:Int}:given f [n]=true↔valid f=true∧Jv f n:=by
 unfold given nN Jv
 simp
end Go.Proofs.YtebobfdheanknaaGreatDoor
namespace Go.Proofs.YtebobfdheanknaaGreatDoor
open Go Go.K
set_option maxRecDepth 10000
attribute [local irreducible] W WL cT bu bX bA bB bD cW cG
set_option maxHeartbeats 4000000
def Bf(g:G)(v:Value)(p:Int×List Int):Prop:=∃a n c,v= .agg #[.int .i64 p.1,.slice a n c]∧Rs g (.slice a n c) p.2
theorem Bf.mono{g g':G}{v:Value}{p:Int×List Int}(hle:g.le g')(h:Bf g v p):Bf g' v p:=by
 obtain⟨a,n,c,e,h1⟩:=h
 exact⟨a,n,c,e,h1.mono hle⟩
def vA(g:G)(v:Value)(l:List Int):Prop:=(l=[]∧v= .slice none 0 0)∨(l≠[]∧ ∃a c,v= .slice (some a) l.length c∧Rs g v l)
theorem vA.mono{g g':G}{v:Value}{l:List Int}(h:vA g v l)(hle:g.le g'):vA g' v l:=by
 rcases h with h|⟨h1,a,c,h2,h3⟩
 ·exact .inl h
 ·exact .inr ⟨h1,a,c,h2,h3.mono hle⟩
theorem vA.of{g:G}{v:Value}{l:List Int}(h:Rs g v l)(h0:l≠[]):vA g v l:=by
 obtain⟨a,n,c,rfl,rfl,_,h3⟩:=id h
 rcases h3 with h3|⟨b,o,cells,rfl,_⟩
 ·exact absurd (List.eq_nil_of_length_eq_zero h3) h0
 ·exact .inr ⟨h0,_,_,rfl,h⟩
theorem A_(v:Value)(f:bV)(g:G)(fk:fA g v f):
  CallsIn Wd 0 Tryz.prog 29 #[v] g.w (cR g fun g' r=>Bf g' r (check f)):=by
 obtain⟨a1,n1,c1,a2,n2,c2,rfl,aH,aT⟩:=id fk
 obtain⟨_,_,e⟩:=aH.isSlice;obtain⟨rfl,rfl,rfl⟩:=Value.slice.inj e;clear e
 have hs:=St.start g
 have aq:=G.le.refl g
 refine enter Tryz.func29 rfl Tryz.ntmps29 rfl ?_
 apply c_
 refine an rfl rfl (aR rfl hs rfl rfl ?_);clear hs;rintro bf g1 hs ah;obtain⟨aT,fk⟩:=cC ah aT fk
 obtain⟨g2,bR,aU,ah,aL⟩:=hs.a_ (i:=0) rfl;replace hs:=aU;clear aU;rw[←bR];obtain⟨aT,fk⟩:=cC ah aT fk
 have aC:=aL;clear aL
 skip
 refine an rfl rfl (aK T.ok rfl hs rfl rfl ?_);clear hs;rintro br g1 hs ah;obtain⟨aC,aT,fk⟩:=ef ah aC aT fk
 apply cf;refine GO ?_;apply aB
 apply ed (fe (.f (Fact.rs (reach f 0))::(fe (.f (Fact.rs (ends f))::(.f (Fact.rs (reach f 0))::(.f (Fact.rs (ends f))::[])))))) 6 [(4,3),(5,4)] (by kernel_rfl)
 ·refine Dm [[]] [.e aC 0] (St.start _) (by kernel_rfl) rfl ?_
  refine aw (ak (js:=[(0,14)]) (by kernel_rfl) fun gd hf=> ?_) ?_
  ·have eH:=(G.bJ _).trans hf.le
   refine ai rfl ?_
   apply aj
   refine az rfl ?_
   refine ay K4 aI rfl rfl rfl rfl rfl (Bg _ f 0 _ (fk.mono eH)) fun g' v h1 h2=> ?_
   obtain⟨g2,e1,e2,e3,e4⟩:=(St.start gd).mZ h1 h2
   exact⟨g2,e1,e2.mS,e4⟩
  refine Dm [[]] [.e aC 0] (St.start _) (by kernel_rfl) rfl ?_
  refine aw (ak (js:=[(2,16)]) (by kernel_rfl) fun gd hf=> ?_) ?_
  ·have eH:=(G.bJ _).trans hf.le
   refine ai rfl ?_
   apply aj
   refine az rfl ?_
   refine ay PN aI rfl rfl rfl rfl rfl (Ju _ f _ (fk.mono eH)) fun g' v h1 h2=> ?_
   obtain⟨g2,e1,e2,e3,e4⟩:=(St.start gd).mZ h1 h2
   exact⟨g2,e1,e2.mS,e4⟩
  refine aw (ak (js:=[(1,15),(1,15)]) (by kernel_rfl) fun gd hf=> ?_) ?_
  ·skip
   refine aY fun v1 h1=> ?_;refine aY fun v1 h1=> ?_
   apply aj
   refine az rfl ?_
   refine aM _ T.ok rfl ?_
   exact⟨_,rfl,aZ.refl _,h1⟩
  refine aw (ak (js:=[(3,17),(3,17)]) (by kernel_rfl) fun gd hf=> ?_) ?_
  ·skip
   refine aY fun v3 h3=> ?_;refine aY fun v3 h3=> ?_
   apply aj
   refine az rfl ?_
   refine aM _ T.ok rfl ?_
   exact⟨_,rfl,aZ.refl _,h3⟩
  exact fJ
 intro g1 aN;refine aY fun v4 h4=> ?_;refine aY fun v5 h5=> ?_;apply aj
 replace hs:=hs.dr.call aN;have ah:=(G.bJ _).trans aN.le;obtain⟨aC,aT,fk⟩:=ef ah aC aT fk
 have bT:Rs g1 v4 (reach f 0):=h4
 have bN:Rs g1 v5 (ends f):=h5
 obtain⟨al,cl,rfl⟩:=bT.isSlice
 obtain⟨ae,ce,rfl⟩:=bN.isSlice
 have x_:=vB f 0
 have KB:(ends f).length≤40:=by unfold ends;exact Nat.le_trans (List.length_filter_le _ _) x_
 have SQ: ∀x∈reach f 0,valid f=true∧Jv f x:=fun x hx=>by
  have h1:=kZ hx
  unfold reach at hx
  split at hx
  ·rename_i hg;exact⟨(Cj.1 hg).1,h1⟩
  ·simp at hx
 have UB: ∀x∈ends f,Jv f x:=fun x hx=>by
  unfold ends at hx
  exact kZ (List.mem_filter.1 hx).1
 clear h4 h5
 apply cf;apply aB;refine GP ?_;apply au;apply aB;refine aX rfl ?_;apply aG
 have QK:=fk;have qE:=aC;have Jw:=bT;have Jy:=bN;have ie:=G.le.refl g1
 refine bS (fun m a' w=> ∃(k:Nat) (g2:G),w=g2.w∧St g g2 [.obj br (.cells [.int .i64 0,.slice none 0 0].toArray 61 (0,0))]∧G.le g1 g2∧k≤(reach f 0).length∧m=(reach f 0).length-k∧vp f ((reach f 0).drop k)=vp f (reach f 0)∧
   Fr 74 [] [(1,.pointer (some ⟨bf,0,none⟩)),(2,.pointer (some ⟨br,0,none⟩)),(3,.slice al (reach f 0).length cl),(4,.slice ae (ends f).length ce),(18,.slice al (reach f 0).length cl),(19,.int .i64 (reach f 0).length),(20,.int .i64 k)] a') (reach f 0).length
  (fun a' ha=>⟨0,g1,rfl,hs,ie,Nat.zero_le _,rfl,by rw[List.drop_zero],ha.keep (by(repeat (first|exact trivial|refine⟨rfl,?_⟩)))⟩) ?_
 clear hs ie aC aH aT bT bN fk
 rintro m a' _ ⟨k,g2,rfl,hs,ie,hk,rfl,dy,eI⟩
 have aC:=qE.mono ie;have fk:=QK.mono ie;have bT:=Jw.mono ie;have bN:=Jy.mono ie
 revert a'
 apply cQ;refine aX rfl ?_;apply aB
 by_cases bh:k<(reach f 0).length
 ·refine aJ (b:=decide ((k:Int)<((reach f 0).length:Int))) (by simp;omega) rfl ?_
  rw[List.drop_eq_getElem_cons bh]at dy
  unfold vp at dy
  rw[List.find?_cons]at dy
  obtain⟨iG,C0⟩:=SQ _ (List.getElem_mem bh)
  generalize fu:(reach f 0)[k]=n at*
  apply aE;apply au;apply aB;apply aG;apply c_
  refine an rfl rfl (aW T.ok rfl bT (y:=n) (by rw[cU (j:=k) rfl bh,fu]) rfl rfl rfl rfl rfl rfl ?_)
  rintro b p ys aL rfl
  refine Wm 1 [.e aL 0] (St.start _) rfl ?_
  refine ba rfl ?_;refine dx 2 [.z aC] (St.start _) rfl ?_
  refine an rfl rfl (ay IX aI rfl rfl rfl rfl rfl (qV _ f n _ fk iG C0.1 C0.2) ?_);rintro g3 v ff dZ
  obtain⟨g4,KC,FT,QL,pP⟩:=hs.mZ ff dZ
  have ah:=ff.le.trans QL;rw[←KC];replace hs:=FT;obtain⟨aC,bT,bN,fk⟩:=dE ah aC bT bN fk
  replace ie:=ie.trans ah
  obtain⟨am,cm,rfl⟩:=pP.isSlice
  rw[gM]at pP
  rw[gM]
  refine ba rfl ?_;apply aB;refine aX rfl ?_;apply aG
  have Jz:=fk;have wV:=aC;have EB:=bT;have QM:=bN;have QN:=pP;have r8:=G.le.refl g4
  refine bS (fun m a' w=> ∃(j:Nat) (g5:G),w=g5.w∧St g g5 [.obj br (.cells [.int .i64 0,.slice none 0 0].toArray 61 (0,0))]∧G.le g4 g5∧j≤(ends f).length∧m=(ends f).length-j∧alive f n=((ends f).drop j).any (fun e=>(ee f n).getD e.toNat false)∧
    Fr 74 [] [(1,.pointer (some ⟨bf,0,none⟩)),(2,.pointer (some ⟨br,0,none⟩)),(3,.slice al (reach f 0).length cl),(4,.slice ae (ends f).length ce),(18,.slice al (reach f 0).length cl),(19,.int .i64 (reach f 0).length),(20,.int .i64 k),
     (6,.int .i64 n),(7,.slice am f.steps.length cm),(27,.slice ae (ends f).length ce),(28,.int .i64 (ends f).length),(29,.int .i64 j)] a') (ends f).length
   (fun a' ha=>⟨0,g4,rfl,hs,r8,Nat.zero_le _,rfl,rfl,ha.keep (by(repeat (first|exact trivial|refine⟨rfl,?_⟩)))⟩) ?_
  clear hs r8 aC bT bN fk pP
  rintro m a' _ ⟨j,g5,rfl,hs,r8,hj,rfl,zI,eI⟩
  have aC:=wV.mono r8;have fk:=Jz.mono r8;have bT:=EB.mono r8;have bN:=QM.mono r8;have aT:=QN.mono r8
  revert a'
  apply cQ;refine aX rfl ?_;apply aB
  by_cases JA:j<(ends f).length
  ·refine aJ (b:=decide ((j:Int)<((ends f).length:Int))) (by simp;omega) rfl ?_
   rw[List.drop_eq_getElem_cons JA,List.any_cons]at zI
   have JB:=UB _ (List.getElem_mem JA)
   generalize Je:(ends f)[j]=e at*
   have NP:e.toNat<(ee f n).length:=by rw[gM];have:=JB.1;have:=JB.2;omega
   have NQ:(ee f n).getD e.toNat false=(ee f n)[e.toNat]:=by rw[List.getD_eq_getElem?_getD,List.getElem?_eq_getElem NP];rfl
   rw[NQ]at zI
   apply aE;apply au;apply aB;apply aG;apply c_
   refine an rfl rfl (aW T.ok rfl bN (y:=e) (by rw[cU (j:=j) rfl JA,Je]) rfl rfl rfl rfl rfl rfl ?_)
   rintro b p ys aL rfl
   refine Wm 1 [.e aL 0] (St.start _) rfl ?_
   refine ba rfl ?_;refine cP 2 rfl ?_
   refine an rfl rfl (aW T.ok rfl aT (y:=(ee f n)[e.toNat]) (cU (by have:=JB.1;omega) NP) rfl rfl rfl rfl rfl rfl ?_)
   rintro b p ys aL rfl
   refine Wm 1 [.e aL 0] (St.start _) rfl ?_
   apply cf
   cases hb:(ee f n)[e.toNat]with
   |true=>
    rw[hb,Bool.true_or]at zI
    refine aJ rfl rfl ?_
    apply bE;((with_reducible refine NR ?_ ?_);exact rfl);apply bK;apply bK;((with_reducible refine NR ?_ ?_);exact rfl);apply bK;apply dc;apply au;apply ar;refine Wp 2 rfl ?_;apply aD
    exact fun a ha=>⟨(reach f 0).length-(k+1),by omega,k+1,_,rfl,hs,ie.trans r8,by omega,rfl,by unfold vp;rw[←dy,zI];rfl,ha.keep ⟨rfl,rfl,rfl,rfl,rfl,rfl,kI rfl (by rw[wr (by omega) (by omega)];omega),trivial⟩⟩
   |false=>
    rw[hb,Bool.false_or]at zI
    refine aS rfl rfl ?_
    apply aE;apply bU;apply au;apply ar;refine Wp 2 rfl ?_;apply aD
    exact fun a ha=>⟨(ends f).length-(j+1),by omega,j+1,_,rfl,hs,r8,by omega,rfl,zI,ha.keep ⟨rfl,rfl,rfl,rfl,rfl,rfl,rfl,rfl,rfl,rfl,rfl,kI rfl (by rw[wr (by omega) (by omega)];omega),trivial⟩⟩
  ·refine aS (b:=decide ((j:Int)<((ends f).length:Int))) (by simp;omega) rfl ?_
   rw[List.drop_of_length_le (by omega)]at zI
   rw[show alive f n=false from zI]at dy
   apply bE;apply bK;apply bK;apply dc;apply au;refine cP 1 rfl ?_
   refine an rfl rfl (bj T.ok rfl hs (vs:=[(0,.int .i64 n)]) (cells:=[.int .i64 n]) rfl rfl rfl rfl rfl rfl (by decide) (by decide) (by kernel_rfl) rfl ?_);rintro b2 g2 hs ah;obtain⟨aC,bT,bN,fk⟩:=dE ah aC bT bN fk
   obtain⟨g3,sq,Bh,yq,CW⟩:=hs.cL (α:=Int) (xs:=[n]) (i:=0) rfl (cO.ints _ [n])
   clear ah;have ah:=yq;rw[←sq];replace hs:=Bh;obtain⟨aC,bT,bN,fk⟩:=dE ah aC bT bN fk
   skip
   refine an rfl rfl (aQ T.ok rfl (vs:=[(0,.int .i64 1),(1,.slice (some ⟨b2,0,none⟩) 1 1)]) (cells:=[.int .i64 1,.slice (some ⟨b2,0,none⟩) 1 1]) rfl rfl rfl rfl [(0,1),(1,1)] rfl (by kernel_rfl) ?_)
   skip
   refine bg rfl (aA T.ok 0 rfl hs rfl rfl rfl rfl rfl rfl rfl rfl rfl ?_);replace hs:=hs;rintro g9 hs ah;obtain⟨aC,bT,bN,fk⟩:=dE ah aC bT bN fk
   replace CW:=CW.mono ah
   apply cf
   refine aF ?_
   apply iq;apply eF;apply eF;apply iq;apply eF;apply JC
   refine kJ T.ok 0 rfl hs rfl rfl rfl (hs.ret ?_)
   have Ba:check f=(1,[n]):=by unfold check vp;rw[←dy];rfl
   rw[Ba]
   exact⟨_,_,_,rfl,CW⟩
 ·refine aS (b:=decide ((k:Int)<((reach f 0).length:Int))) (by simp;omega) rfl ?_
  rw[List.drop_of_length_le (by omega)]at dy
  apply bE;apply bK;apply bK;apply dc;apply au;refine aX rfl ?_;apply aB;refine aX rfl ?_;apply aG
  have Jz:=fk;have wV:=aC;have EB:=bT;have r8:=G.le.refl g2
  refine bS (fun m a' w=> ∃(j:Nat) (bv:Value) (g5:G),w=g5.w∧St g g5 [.obj br (.cells [.int .i64 0,.slice none 0 0].toArray 61 (0,0))]∧G.le g2 g5∧j≤(reach f 0).length∧m=(reach f 0).length-j∧vA g5 bv (lN f ((reach f 0).take j))∧
    Fr 74 [] [(1,.pointer (some ⟨bf,0,none⟩)),(2,.pointer (some ⟨br,0,none⟩)),(10,bv),(42,.slice al (reach f 0).length cl),(43,.int .i64 (reach f 0).length),(44,.int .i64 j)] a') (reach f 0).length
   (fun a' ha=>⟨0,_,g2,rfl,hs,r8,Nat.zero_le _,rfl,.inl ⟨rfl,rfl⟩,ha.keep (by(repeat (first|exact trivial|refine⟨rfl,?_⟩)))⟩) ?_
  clear hs r8 aC bT bN fk
  rintro m a' _ ⟨j,bv,g5,rfl,hs,r8,hj,rfl,vC,eI⟩
  have aC:=wV.mono r8;have fk:=Jz.mono r8;have bT:=EB.mono r8
  revert a'
  apply cQ;refine aX rfl ?_;apply aB
  by_cases JA:j<(reach f 0).length
  ·refine aJ (b:=decide ((j:Int)<((reach f 0).length:Int))) (by simp;omega) rfl ?_
   have xE:=zM f ((reach f 0).take j) (reach f 0)[j]
   rw[←List.take_succ_eq_append_getElem JA]at xE
   obtain⟨iG,C0⟩:=SQ _ (List.getElem_mem JA)
   have SR:Jv f 0:=⟨by omega,by have:=C0.1;have:=C0.2;omega⟩
   generalize fu:(reach f 0)[j]=n at*
   apply aE;apply au;apply aB;apply aG;apply c_
   refine an rfl rfl (aW T.ok rfl bT (y:=n) (by rw[cU (j:=j) rfl JA,fu]) rfl rfl rfl rfl rfl rfl ?_)
   rintro b p ys aL rfl
   refine Wm 1 [.e aL 0] (St.start _) rfl ?_
   refine ba rfl ?_;apply aB
   apply ed (eJ (.f (Fact.rs (ee f 0))::(fe (.f (Fact.rs (pA f (ee f 0) n))::(.f (Fact.rs (pA f (ee f 0) n))::[]))))) 6 [(5,13)] (by kernel_rfl)
   ·refine Dm [[],[]] [.e aC 0,.e aC 0] (St.start _) (by kernel_rfl) rfl ?_
    refine aw (ak (js:=[(1,49)]) (by kernel_rfl) fun gd hf=> ?_) ?_
    ·have eH:=(G.bJ _).trans hf.le
     refine ai rfl ?_
     apply aj
     refine az rfl ?_
     refine ay IX aI rfl rfl rfl rfl rfl (qV _ f 0 _ (fk.mono eH) iG SR.1 SR.2) fun g' v h1 h2=> ?_
     obtain⟨g2,e1,e2,e3,e4⟩:=(St.start gd).mZ h1 h2
     exact⟨g2,e1,e2.mS,e4⟩
    refine Dx [[]] (by kernel_rfl) rfl ?_
    refine aw (ak (js:=[(0,48),(2,50),(3,51),(2,50)]) (by kernel_rfl) fun gd hf=> ?_) ?_
    ·have eH:=(G.bJ _).trans hf.le
     refine ai rfl ?_;refine aY fun v2 h2=> ?_;refine ai rfl ?_;refine aY fun v2 h2=> ?_
     apply aj
     refine az rfl ?_
     refine ay PO aI rfl rfl rfl rfl rfl (GQ _ _ f (ee f 0) n _ (fk.mono eH) h2 iG (gM f 0) C0.1 C0.2) fun g' v h1 h2=> ?_
     exact⟨g',rfl,h1,h2⟩
    refine aw (ak (js:=[(4,52),(4,52),(4,52)]) (by kernel_rfl) fun gd hf=> ?_) ?_
    ·skip
     refine aY fun v4 h4=> ?_;refine aY fun v4 h4=> ?_;refine aY fun v4 h4=> ?_
     apply aj
     refine az rfl ?_
     refine aM _ T.ok rfl ?_
     exact⟨_,rfl,aZ.refl _,h4⟩
    exact fJ
   intro g1 aN;refine aY fun v5 h5=> ?_;apply aj
   replace hs:=hs.dr.call aN;have ah:=(G.bJ _).trans aN.le
   replace r8:=r8.trans ah
   replace vC:=vC.mono ah
   have bN:Rs g1 v5 (pA f (ee f 0) n):=h5
   clear h5
   unfold sY at xE
   generalize Ww:pA f (ee f 0) n=cy at*
   obtain⟨ac,cc,rfl⟩:=bN.isSlice
   apply cf;refine cP 4 rfl ?_
   by_cases Ck:0<cy.length
   ·refine cM 56 (b':=true) (decide_eq_true (by omega)) rfl ?_
    have SS:cy≠[]:=List.length_pos_iff.1 Ck
    rcases vC with⟨Ii,rfl⟩|⟨Ii,ab,cb,rfl,NS⟩
    ·rw[if_pos ⟨Ck,.inl Ii⟩]at xE
     refine Wp 1 rfl ?_
     refine an rfl rfl (fS T.ok (neg:=false) rfl rfl rfl rfl rfl ?_)
     refine ba rfl ?_
     refine aJ rfl rfl ?_
     apply ar;refine Wp 2 rfl ?_;apply aD;apply bU;apply au;apply ar;refine Wp 2 rfl ?_;apply aD
     exact fun a ha=>⟨(reach f 0).length-(j+1),by omega,j+1,_,_,rfl,hs,r8,by omega,rfl,by rw[xE];exact .of bN SS,ha.keep ⟨rfl,rfl,rfl,rfl,rfl,kI rfl (by rw[wr (by omega) (by omega)];omega),trivial⟩⟩
    ·refine Wp 1 rfl ?_
     refine an rfl rfl (fS T.ok (neg:=false) rfl rfl rfl rfl rfl ?_)
     refine ba rfl ?_
     by_cases fY:cy.length<(lN f ((reach f 0).take j)).length
     ·rw[if_pos ⟨Ck,.inr fY⟩]at xE
      refine aJ (b:=decide ((cy.length:Int)<((lN f ((reach f 0).take j)).length:Int))) (by simp;omega) rfl ?_
      apply ar;refine Wp 2 rfl ?_;apply aD;apply bU;apply au;apply ar;refine Wp 2 rfl ?_;apply aD
      exact fun a ha=>⟨(reach f 0).length-(j+1),by omega,j+1,_,_,rfl,hs,r8,by omega,rfl,by rw[xE];exact .of bN SS,ha.keep ⟨rfl,rfl,rfl,rfl,rfl,kI rfl (by rw[wr (by omega) (by omega)];omega),trivial⟩⟩
     ·rw[if_neg (fun h=>h.2.elim Ii fY)]at xE
      refine aS (b:=decide ((cy.length:Int)<((lN f ((reach f 0).take j)).length:Int))) (by simp;omega) rfl ?_
      apply aE;apply bU;apply au;apply ar;refine Wp 2 rfl ?_;apply aD
      exact fun a ha=>⟨(reach f 0).length-(j+1),by omega,j+1,_,_,rfl,hs,r8,by omega,rfl,by rw[xE];exact .inr ⟨Ii,_,_,rfl,NS⟩,ha.keep ⟨rfl,rfl,rfl,rfl,rfl,kI rfl (by rw[wr (by omega) (by omega)];omega),trivial⟩⟩
   ·refine cM 56 (b':=false) (decide_eq_false (by omega)) rfl ?_
    rw[if_neg (fun h=>Ck h.1)]at xE
    refine ba rfl ?_
    refine aS rfl rfl ?_
    apply aE;apply bU;apply au;apply ar;refine Wp 2 rfl ?_;apply aD
    exact fun a ha=>⟨(reach f 0).length-(j+1),by omega,j+1,_,_,rfl,hs,r8,by omega,rfl,by rw[xE];exact vC,ha.keep ⟨rfl,rfl,rfl,rfl,rfl,kI rfl (by rw[wr (by omega) (by omega)];omega),trivial⟩⟩
  ·refine aS (b:=decide ((j:Int)<((reach f 0).length:Int))) (by simp;omega) rfl ?_
   rw[List.take_of_length_le (by omega)]at vC
   apply bE;apply bK;apply bK;apply dc;apply au;apply aB;refine cP 1 rfl ?_
   have Ba:check f=if lN f (reach f 0)=[]then(0,[])else(2,lN f (reach f 0)):=by unfold check;rw[←dy];rfl
   rcases vC with⟨Ii,rfl⟩|⟨Ii,ab,cb,rfl,NS⟩
   ·rw[if_pos Ii]at Ba
    refine an rfl rfl (fS T.ok (neg:=false) rfl rfl rfl rfl rfl ?_)
    apply cf
    refine aJ rfl rfl ?_
    apply c_
    refine an rfl rfl (aQ T.ok rfl (vs:=[]) (cells:=[.int .i64 0,.slice none 0 0]) rfl rfl rfl rfl [(0,1),(1,1)] rfl (by kernel_rfl) ?_)
    skip
    refine bg rfl (aA T.ok 0 rfl hs rfl rfl rfl rfl rfl rfl rfl rfl rfl ?_);replace hs:=hs;rintro g9 hs ah
    apply cf
    refine aF ?_
    apply eF;apply JC
    refine kJ T.ok 0 rfl hs rfl rfl rfl (hs.ret ?_)
    rw[Ba]
    exact⟨_,_,_,rfl,Rs.nil _⟩
   ·rw[if_neg Ii]at Ba
    refine an rfl rfl (fS T.ok (neg:=false) rfl rfl rfl rfl rfl ?_)
    apply cf
    refine aS rfl rfl ?_
    apply aE;apply au;refine cP 1 rfl ?_
    refine an rfl rfl (aQ T.ok rfl (vs:=[(0,.int .i64 2),(1,.slice (some ab) (lN f (reach f 0)).length cb)]) (cells:=[.int .i64 2,.slice (some ab) (lN f (reach f 0)).length cb]) rfl rfl rfl rfl [(0,1),(1,1)] rfl (by kernel_rfl) ?_)
    skip
    refine bg rfl (aA T.ok 0 rfl hs rfl rfl rfl rfl rfl rfl rfl rfl rfl ?_);replace hs:=hs;rintro g9 hs ah
    replace NS:=NS.mono ah
    apply cf
    refine aF ?_
    apply JC
    refine kJ T.ok 0 rfl hs rfl rfl rfl (hs.ret ?_)
    rw[Ba]
    exact⟨_,_,_,rfl,NS⟩
end Go.Proofs.YtebobfdheanknaaGreatDoor
namespace Go.Proofs.YtebobfdheanknaaGreatDoor
open Go Go.K
set_option maxRecDepth 10000
attribute [local irreducible] W WL cT bu bX bA bB bD cW cG
set_option maxHeartbeats 1000000
def tg:bV:=⟨0,0,[],[]⟩
def Kv(g:G)(cs:List Value)(o:Option bV)(h:List bc):Prop:=
 ∃a1 n1 c1 a2 n2 c2 a3 c3,cs=[.int .i64 (o.getD tg).ck,.int .i64 (o.getD tg).cu,.slice a1 n1 c1,.slice a2 n2 c2,.bool o.isSome,.slice a3 h.length c3]∧Rs g (.slice a1 n1 c1) (o.getD tg).steps∧Rs g (.slice a2 n2 c2) (o.getD tg).windows∧Rs g (.slice a3 h.length c3) h
theorem Kv.mono{g g':G}{cs:List Value}{o:Option bV}{h:List bc}(k:Kv g cs o h)(hle:g.le g'):Kv g' cs o h:=by
 obtain⟨a1,n1,c1,a2,n2,c2,a3,c3,e,h1,h2,h3⟩:=k
 exact⟨a1,n1,c1,a2,n2,c2,a3,c3,e,h1.mono hle,h2.mono hle,h3.mono hle⟩
def FM(g:G)(v:Value)(o:Option bV)(h:List bc):Prop:=∃cs,v= .agg cs.toArray∧Kv g cs o h
theorem FM.mono{g g':G}{v:Value}{o:Option bV}{h:List bc}(k:FM g v o h)(hle:g.le g'):FM g' v o h:=by
 obtain⟨cs,e,k⟩:=k;exact⟨cs,e,k.mono hle⟩
def fB(b:fX)(w time:Int):Option bV:=
 if((pG b w time).getD gF).prod=0 then none
 else match b.oc.find? fun f=>f.prod==((pG b w time).getD gF).prod with
  |none=>none
  |some t=>match lx t.text with
   | .inl f=>if(check f).1=0 then some f else none
   | .inr _=>none
def SC(b:fX):Prop:=∀f∈b.oc,f.text.length≤999999
theorem A8(v u:Value)(b:fX)(w time:Int)(h:List bc)(g:G)(bI:iI g v b)(aH:Rs g u h)(hb:SC b)(bM:iw g):CallsIn Wd 0 Tryz.prog 57 #[v,.int .i64 w,.int .i64 time,u] g.w (cR g fun g' r=>FM g' r (fB b w time) h):=by
 have hs:=St.start g
 have aq:=G.le.refl g
 obtain⟨sl,rfl,jr⟩:=bI
 have bI:iI g (.agg ((List.range 11).map sl).toArray) b:=⟨sl,rfl,jr⟩
 obtain⟨a3,c3,rfl⟩:=aH.isSlice
 refine enter Tryz.func57 rfl Tryz.ntmps57 rfl ?_
 apply c_
 refine an rfl rfl (aR rfl hs rfl rfl ?_);clear hs;rintro b4 g1 hs ah;obtain⟨aH,bI,bM⟩:=ef ah aH bI bM
 obtain⟨g2,bR,aU,ah,aL⟩:=hs.a_ (i:=0) rfl;replace hs:=aU;clear aU;rw[←bR];obtain⟨aH,bI,bM⟩:=ef ah aH bI bM
 have aC:=aL;clear aL
 skip
 refine an rfl rfl (aK T.ok rfl hs rfl rfl ?_);clear hs;rintro b8 g1 hs ah;obtain⟨aC,aH,bI,bM⟩:=dE ah aC aH bI bM
 apply cf;refine cP 1 rfl ?_
 refine an rfl rfl (aQ T.ok rfl (vs:=[(2,.slice a3 h.length c3)]) (cells:=[.int .i64 0,.int .i64 0,.slice none 0 0,.slice none 0 0,.bool false,.slice a3 h.length c3]) rfl rfl rfl rfl [(0,4),(4,1),(5,1)] rfl (by kernel_rfl) ?_)
 skip
 refine an rfl rfl (aK T.ok rfl hs rfl rfl ?_);clear hs;rintro b9 g1 hs ah;obtain⟨aC,aH,bI,bM⟩:=dE ah aC aH bI bM
 refine bg rfl (aA T.ok 0 rfl hs rfl rfl rfl rfl rfl rfl rfl rfl rfl ?_);replace hs:=hs;rintro g1 hs ah;obtain⟨aC,aH,bI,bM⟩:=dE ah aC aH bI bM
 apply cf;refine dx 3 [.z aC] (St.start _) rfl ?_
 refine an rfl rfl (ay IP aI rfl rfl rfl rfl rfl (D4 _ b w time _ bI) ?_);rintro g1 _ aN rfl;replace hs:=hs.call aN;have ah:=aN.le;obtain⟨aC,aH,bI,bM⟩:=dE ah aC aH bI bM
 have zn:fB b w time=if((pG b w time).getD gF).prod=0 then none else match b.oc.find? fun f=>f.prod==((pG b w time).getD gF).prod with
  |none=>none
  |some t=>match lx t.text with
   | .inl f=>if(check f).1=0 then some f else none
   | .inr _=>none:=rfl
 generalize((pG b w time).getD gF).prod=pr at zn⊢
 clear aN
 refine ba rfl ?_;apply aB;refine aX rfl ?_
 by_cases Gs:pr=0
 ·rw[if_pos Gs]at zn
  rw[zn]
  refine aJ (b:=pr==0) (by simp[Gs]) rfl ?_
  refine dx 1 [.o 0] hs rfl ?_
  refine bg rfl (aA T.ok 1 rfl hs rfl rfl rfl rfl rfl rfl rfl rfl rfl ?_);replace hs:=hs;rintro g1 hs ah;obtain⟨aC,aH,bI,bM⟩:=dE ah aC aH bI bM
  apply cf
  refine aF (kJ T.ok 1 rfl hs rfl rfl rfl (hs.ret ⟨_,rfl,none,0,0,none,0,0,a3,c3,rfl,Rs.nil _,Rs.nil _,aH⟩))
 rw[if_neg Gs]at zn
 refine aS (b:=pr==0) (by simp[Gs]) rfl ?_
 apply aE;apply au;refine dx 2 [.z aC] (St.start _) rfl ?_
 refine an rfl rfl (ay KR aI rfl rfl rfl rfl rfl (A5 _ b pr _ bI) ?_);rintro g1 _ aN rfl;replace hs:=hs.call aN;have ah:=aN.le;obtain⟨aH,bM⟩:=cC ah aH bM
 clear aN
 cases B2:b.oc.find? (fun f=>f.prod==pr)with
 |none=>
  rw[B2]at zn
  rw[show fB b w time=none from zn]
  refine Wp 3 rfl ?_
  refine an rfl rfl (aK T.ok rfl hs rfl rfl ?_);clear hs;rintro BO g1 hs ah;obtain⟨aH,bM⟩:=cC ah aH bM
  skip
  refine bg rfl (aA T.ok 0 rfl hs rfl rfl rfl rfl rfl rfl rfl rfl rfl ?_);replace hs:=hs;rintro g1 hs ah;obtain⟨aH,bM⟩:=cC ah aH bM
  obtain⟨g2,bR,aU,ah,aL⟩:=hs.a_ (i:=0) rfl;replace hs:=aU;clear aU;rw[←bR];obtain⟨aH,bM⟩:=cC ah aH bM
  clear aL
  refine ba rfl ?_;apply aB;refine aX rfl ?_
  refine aJ rfl rfl ?_
  refine dx 1 [.o 0] hs rfl ?_
  refine bg rfl (aA T.ok 1 rfl hs rfl rfl rfl rfl rfl rfl rfl rfl rfl ?_);replace hs:=hs;rintro g1 hs ah;obtain⟨aH,bM⟩:=cC ah aH bM
  apply cf
  refine aF (kJ T.ok 1 rfl hs rfl rfl rfl (hs.ret ⟨_,rfl,none,0,0,none,0,0,a3,c3,rfl,Rs.nil _,Rs.nil _,aH⟩))
 |some t=>
  rw[B2]at zn
  replace zn:fB b w time=match lx t.text with| .inl f=>if(check f).1=0 then some f else none| .inr _=>none:=zn
  have Ni:=hb t (List.mem_of_find?_eq_some B2)
  refine Wp 3 rfl ?_
  refine an rfl rfl (aK T.ok rfl hs rfl rfl ?_);clear hs;rintro BO g1 hs ah;obtain⟨aH,bM⟩:=cC ah aH bM
  skip
  refine bg rfl (aA T.ok 0 rfl hs rfl rfl rfl rfl rfl rfl rfl rfl rfl ?_);replace hs:=hs;rintro g1 hs ah;obtain⟨aH,bM⟩:=cC ah aH bM
  obtain⟨g2,bR,aU,ah,aL⟩:=hs.a_ (i:=0) rfl;replace hs:=aU;clear aU;rw[←bR];obtain⟨aH,bM⟩:=cC ah aH bM
  have aP:=aL;clear aL
  refine ba rfl ?_;apply aB;refine aX rfl ?_
  refine aS rfl rfl ?_
  apply aE;apply au;refine dx 2 [.z aP] (St.start _) rfl ?_
  refine an rfl rfl (ay KS aI rfl rfl rfl rfl rfl (A9 t.text _ Ni bM) ?_)
  rintro g6 v6 mY h6
  replace hs:=hs.call mY;have ah:=mY.le;replace aH:=aH.mono ah
  unfold ke at h6
  cases rX:lx t.text with
  |inr k=>
   rw[rX]at h6 zn
   rw[show fB b w time=none from zn]
   obtain rfl:=h6
   refine Wp 4 rfl ?_
   refine an rfl rfl (aK T.ok rfl hs rfl rfl ?_);clear hs;rintro Pq g1 hs ah;replace aH:=aH.mono ah
   skip
   refine bg rfl (aA T.ok 0 rfl hs rfl rfl rfl rfl rfl rfl rfl rfl rfl ?_);replace hs:=hs;rintro g1 hs ah;replace aH:=aH.mono ah
   obtain⟨g2,bR,aU,ah,aL⟩:=hs.a_ (i:=0) rfl;replace hs:=aU;clear aU;rw[←bR];replace aH:=aH.mono ah
   clear aL
   refine ba rfl ?_;apply aB;refine aX rfl ?_
   refine aS rfl rfl ?_
   apply aE;apply au;refine dx 1 [.o 0] hs rfl ?_
   refine bg rfl (aA T.ok 1 rfl hs rfl rfl rfl rfl rfl rfl rfl rfl rfl ?_);replace hs:=hs;rintro g1 hs ah;replace aH:=aH.mono ah
   apply cf
   refine aF (kJ T.ok 1 rfl hs rfl rfl rfl (hs.ret ⟨_,rfl,none,0,0,none,0,0,a3,c3,rfl,Rs.nil _,Rs.nil _,aH⟩))
  |inl f=>
   rw[rX]at h6 zn
   replace zn:fB b w time=if(check f).1=0 then some f else none:=zn
   obtain⟨v7,rfl,a1,n1,c1,a2,n2,c2,rfl,aT,bT⟩:=h6
   refine Wp 4 rfl ?_
   refine an rfl rfl (aK T.ok rfl hs rfl rfl ?_);clear hs;rintro Pq g1 hs ah;obtain⟨aH,aT,bT⟩:=ef ah aH aT bT
   skip
   refine bg rfl (aA T.ok 0 rfl hs rfl rfl rfl rfl rfl rfl rfl rfl rfl ?_);replace hs:=hs;rintro g1 hs ah;obtain⟨aH,aT,bT⟩:=ef ah aH aT bT
   obtain⟨g2,bR,aU,ah,aL⟩:=hs.a_ (i:=0) rfl;replace hs:=aU;clear aU;rw[←bR];obtain⟨aH,aT,bT⟩:=ef ah aH aT bT
   have dO:=aL;clear aL
   refine ba rfl ?_;apply aB;refine dx 4 [.z dO] (St.start _) rfl ?_
   clear mY
   refine an rfl rfl (ay KT aI rfl rfl rfl rfl rfl (A_ _ f _ ⟨a1,n1,c1,a2,n2,c2,rfl,aT,bT⟩) ?_)
   rintro g8 v8 D5 ⟨a6,n6,c6,rfl,_⟩
   replace hs:=hs.call D5;have ah:=D5.le;obtain⟨dO,aH,aT,bT⟩:=dE ah dO aH aT bT
   refine ba rfl ?_
   by_cases Ba:(check f).1=0
   ·refine aJ (b:=(check f).1==0) (by simp[Ba]) rfl ?_
    apply ar;refine Wm 2 [.z dO] (St.start _) rfl ?_
    refine bg rfl (aA T.ok 0 rfl hs rfl rfl rfl rfl rfl rfl rfl rfl rfl ?_);replace hs:=hs;rintro g1 hs ah;obtain⟨aH,aT,bT⟩:=ef ah aH aT bT
    refine Wp 1 rfl ?_
    refine bg rfl (aA T.ok 0 rfl hs rfl rfl rfl rfl rfl rfl rfl rfl rfl ?_);replace hs:=hs;rintro g1 hs ah;obtain⟨aH,aT,bT⟩:=ef ah aH aT bT
    apply cf;refine dx 1 [.o 0] hs rfl ?_
    refine bg rfl (aA T.ok 1 rfl hs rfl rfl rfl rfl rfl rfl rfl rfl rfl ?_);replace hs:=hs;rintro g1 hs ah;obtain⟨aH,aT,bT⟩:=ef ah aH aT bT
    apply cf
    refine aF (kJ T.ok 1 rfl hs rfl rfl rfl (hs.ret ?_))
    rw[zn,if_pos Ba]
    exact⟨_,rfl,a1,n1,c1,a2,n2,c2,a3,c3,rfl,aT,bT,aH⟩
   ·refine aS (b:=(check f).1==0) (by simp[Ba]) rfl ?_
    apply aE;apply au;refine dx 1 [.o 0] hs rfl ?_
    refine bg rfl (aA T.ok 1 rfl hs rfl rfl rfl rfl rfl rfl rfl rfl rfl ?_);replace hs:=hs;rintro g1 hs ah;replace aH:=aH.mono ah
    apply cf
    refine aF (kJ T.ok 1 rfl hs rfl rfl rfl (hs.ret ?_))
    rw[zn,if_neg Ba]
    exact⟨_,rfl,none,0,0,none,0,0,a3,c3,rfl,Rs.nil _,Rs.nil _,aH⟩
end Go.Proofs.YtebobfdheanknaaGreatDoor
namespace Go.K
open Go Go.RowKit
variable {F:Fence} {P:Program} {N:Nat} {ds:List Deferred} {l:Env} {w:World} {Q:Exit→Act→World→Prop} {o:Oper} {g:G} {K:Value→World→Prop}
theorem Rs.at{α:Type}[El α]{ad:Option Addr}{n c i:Nat}{xs:List α}{x:α}(h:Rs g (.slice ad n c) xs)(hx:xs[i]? =some x): ∃b p ys,ad=some ⟨b,p,none⟩∧EP g b (p+i*El.k α) ys∧El.rc g ys x:=by
 obtain⟨a,m,c',e,hn,_,hr⟩:=h
 obtain⟨rfl,rfl,rfl⟩:=Value.slice.inj e
 have bh:=(List.getElem?_eq_some_iff.1 hx).1
 rcases hr with h0|⟨b,p,cells,rfl,oS,eK,hc⟩
 ·omega
 ·obtain⟨ys,h1,h2,_⟩:=eK.at hx
  exact⟨b,p,ys,rfl,⟨oS,fun j y hy=>by rw[Nat.add_assoc];exact hc _ _ (h2 j y hy)⟩,h1⟩
theorem fT{tb:Tb}(dn:tb.ok P){t e:Nat}{i j:TI}{x ix:Operand}{kk:IntKind}{z:Int}{b p n c:Nat}(ho:o.op= .indexAddr t x ix)(hx:ev l x=some (.slice (some ⟨b,p,none⟩) n c))(G_:ev l ix=some (.int kk z))(h0:0≤z)(bh:z.toNat<n)(hi:tl tb t=some i)(hd:i.desc= .slice e)(hj:tl tb e=some j)
  (k:K (.pointer (some ⟨b,p+z.toNat*j.size,none⟩)) w):cT F P N ds o l w Q K:=by
 refine bG (fun c=>⟨by rw[ho];simp,by rw[ho];simp⟩) (fun a ha=> ?_) k
 simp only[execOp,ho,ha.ev hx,ha.ev G_,Sem.run_bind,nv dn hi hd hj h0 bh];rfl
end Go.K
namespace Go.Proofs.YtebobfdheanknaaGreatDoor
open Go Go.K
set_option maxRecDepth 10000
attribute [local irreducible] W WL cT bu bX bA bB bD cW cG
set_option maxHeartbeats 1000000
def jW:Step:=⟨0,[],0,0,[],0,0⟩
def gR(o:Option bV)(n:Int):Option Step:=o.bind fun f=>dA f.steps n
theorem D6(v:Value)(o:Option bV)(h:List bc)(n:Int)(g:G)(kn:FM g v o h):CallsIn Wd 0 Tryz.prog 130 #[v,.int .i64 n] g.w (cR g fun g' r=> ∃cs,r= .tuple #[.agg cs.toArray,.bool (gR o n).isSome]∧pB g' cs ((gR o n).getD jW)):=by
 have hs:=St.start g
 have aq:=G.le.refl g
 obtain⟨_,rfl,a1,n1,c1,a2,n2,c2,a3,c3,rfl,aT,bT,bN⟩:=kn
 refine enter Tryz.func130 rfl Tryz.ntmps130 rfl ?_
 apply c_
 refine an rfl rfl (aR rfl hs rfl rfl ?_);clear hs;rintro b2 g1 hs ah;replace aT:=aT.mono ah
 obtain⟨g2,bR,aU,ah,aL⟩:=hs.a_ (i:=0) rfl;replace hs:=aU;clear aU;rw[←bR];replace aT:=aT.mono ah
 have aC:=aL;clear aL
 skip
 refine an rfl rfl (aK T.ok rfl hs rfl rfl ?_);clear hs;rintro b4 g1 hs ah;obtain⟨aC,aT⟩:=cC ah aC aT
 refine ba rfl ?_;apply aB;refine dx 4 [.z aC] (St.start _) rfl ?_
 cases o with
 |none=>
  refine ba rfl ?_
  refine aJ rfl rfl ?_
  apply c_
  refine an rfl rfl (aQ T.ok rfl (vs:=[]) (cells:=[.int .i64 0,.slice none 0 0,.int .i64 0,.int .i64 0,.slice none 0 0,.int .i64 0,.int .i64 0]) rfl rfl rfl rfl [(0,1),(1,1),(2,1),(3,1),(4,1),(5,1),(6,1)] rfl (by kernel_rfl) ?_)
  refine bg rfl (aA T.ok 0 rfl hs rfl rfl rfl rfl rfl rfl rfl rfl rfl ?_);replace hs:=hs;rintro g1 hs ah;obtain⟨aC,aT⟩:=cC ah aC aT
  refine ba rfl ?_
  rw[show gR none n=none from rfl]
  exact aF (s7 T.ok 0 rfl hs rfl rfl rfl rfl (hs.ret ⟨_,rfl,none,0,0,none,0,0,rfl,Rs.nil _,Rs.nil _⟩))
 |some f=>
  obtain⟨_,_,e⟩:=aT.isSlice;obtain⟨rfl,rfl,rfl⟩:=Value.slice.inj e;clear e
  refine Wp 4 rfl ?_
  cases h1:decide (n<0)with
  |true=>
   have e:gR (some f) n=none:=if_pos (of_decide_eq_true h1)
   refine ba rfl ?_
   refine aJ rfl rfl ?_
   apply c_
   refine an rfl rfl (aQ T.ok rfl (vs:=[]) (cells:=[.int .i64 0,.slice none 0 0,.int .i64 0,.int .i64 0,.slice none 0 0,.int .i64 0,.int .i64 0]) rfl rfl rfl rfl [(0,1),(1,1),(2,1),(3,1),(4,1),(5,1),(6,1)] rfl (by kernel_rfl) ?_)
   refine bg rfl (aA T.ok 0 rfl hs rfl rfl rfl rfl rfl rfl rfl rfl rfl ?_);replace hs:=hs;rintro g1 hs ah;obtain⟨aC,aT⟩:=cC ah aC aT
   refine ba rfl ?_
   rw[e]
   exact aF (s7 T.ok 0 rfl hs rfl rfl rfl rfl (hs.ret ⟨_,rfl,none,0,0,none,0,0,rfl,Rs.nil _,Rs.nil _⟩))
  |false=>
   have h1:=of_decide_eq_false h1
   refine A3 [.z aC] (St.start _) rfl ?_
   by_cases h2:(f.steps.length:Int)≤n
   ·have e:gR (some f) n=none:=(if_neg h1).trans (List.getElem?_eq_none (by omega))
    refine aJ (b:=decide ((f.steps.length:Int)≤n)) (decide_eq_true h2) rfl ?_
    apply c_
    refine an rfl rfl (aQ T.ok rfl (vs:=[]) (cells:=[.int .i64 0,.slice none 0 0,.int .i64 0,.int .i64 0,.slice none 0 0,.int .i64 0,.int .i64 0]) rfl rfl rfl rfl [(0,1),(1,1),(2,1),(3,1),(4,1),(5,1),(6,1)] rfl (by kernel_rfl) ?_)
    refine bg rfl (aA T.ok 0 rfl hs rfl rfl rfl rfl rfl rfl rfl rfl rfl ?_);replace hs:=hs;rintro g1 hs ah;obtain⟨aC,aT⟩:=cC ah aC aT
    refine ba rfl ?_
    rw[e]
    exact aF (s7 T.ok 0 rfl hs rfl rfl rfl rfl (hs.ret ⟨_,rfl,none,0,0,none,0,0,rfl,Rs.nil _,Rs.nil _⟩))
   ·have bh:n.toNat<f.steps.length:=by omega
    have e:gR (some f) n=some f.steps[n.toNat]:=(if_neg h1).trans (List.getElem?_eq_getElem bh)
    refine aS (b:=decide ((f.steps.length:Int)≤n)) (decide_eq_false h2) rfl ?_
    rw[e]
    apply aE;apply au;refine dx 4 [.z aC] (St.start _) rfl ?_
    refine an rfl rfl (aW T.ok rfl aT (y:=f.steps[n.toNat]) e rfl rfl rfl rfl rfl rfl ?_)
    rintro b6 q6 ys aL eK
    obtain⟨a7,n7,c7,a8,n8,c8,rfl,h7,h8⟩:=eK
    have aP:=aL;clear aL
    refine Wm 1 [.e aP 0] (St.start _) rfl ?_
    refine bg rfl (aA T.ok 0 rfl hs rfl rfl rfl rfl rfl rfl rfl rfl rfl ?_);replace hs:=hs;rintro g1 hs ah
    replace h7:=h7.mono ah;replace h8:=h8.mono ah
    refine ba rfl ?_
    exact aF (s7 T.ok 0 rfl hs rfl rfl rfl rfl (hs.ret ⟨_,rfl,a7,n7,c7,a8,n8,c8,rfl,h7,h8⟩))
theorem D7(v:Value)(l:List Int)(n:Int)(g:G)(aH:Rs g v l):CallsIn Wd 0 Tryz.prog 265 #[v,.int .i64 n] g.w (cR g fun _ r=> ∃z:Int,r= .int .i64 z∧(decide (0≤z))=l.contains n):=by
 have hs:=St.start g
 obtain⟨a,c,rfl⟩:=aH.isSlice
 have hlen:=aH.dU
 unfold maxLen at hlen
 refine enter Tryz.func265 rfl Tryz.ntmps265 rfl ?_
 refine aX rfl ?_;apply aB;refine aX rfl ?_;apply aG
 refine bS (fun m a' w=> ∃(i:Nat),w=g.w∧i≤l.length∧(l.take i).contains n=false∧m=l.length-i∧
   Fr 19 [] [(0,.slice a l.length c),(1,.int .i64 n),(7,.int .i64 (l.length:Nat)),(8,.int .i64 (i:Nat))] a') l.length
  (fun a' ha=>⟨0,rfl,Nat.zero_le _,by simp,rfl,ha.keep (by(repeat (first|exact trivial|refine⟨rfl,?_⟩)))⟩) ?_
 rintro m a' _ ⟨i,rfl,hi,dy,rfl,eI⟩
 revert a'
 apply cQ;refine aX rfl ?_;apply aB
 by_cases bh:i<l.length
 ·refine aJ (b:=decide ((i:Int)<(l.length:Int))) (decide_eq_true (by omega)) rfl ?_
  have ic:dA l (i:Int)=some l[i]:=cU rfl bh
  have fw:l.take (i+1)=l.take i++[l[i]]:=by rw[List.take_add_one,List.getElem?_eq_getElem bh];rfl
  have qQ:l[i]∈l:=List.getElem_mem bh
  generalize l[i]=x at*
  apply aE;apply au;apply aB;apply aG;refine aX rfl ?_;refine cP 3 rfl ?_
  refine an rfl rfl (aW T.ok rfl aH (y:=x) ic rfl rfl rfl rfl rfl rfl ?_)
  rintro b p ys aL eK
  obtain rfl:ys=[.int .i64 x]:=eK
  have aC:=aL
  refine A3 [.e aC 0] (St.start _) rfl ?_
  by_cases hx:n=x
  ·subst hx
   refine aJ (b:=n==n) (by simp) rfl ?_
   refine aX rfl ?_
   exact aF (aV rfl rfl (hs.ret ⟨_,rfl,by simp[qQ]⟩))
  ·refine aS (b:=n==x) (by simp[hx]) rfl ?_
   apply aE;apply bU;apply au;apply ar;refine Wp 2 rfl ?_;apply aD
   exact fun a ha=>⟨l.length-(i+1),by omega,i+1,rfl,by omega,by rw[fw];simp at dy⊢;exact⟨dy,hx⟩,rfl,ha.keep ⟨rfl,rfl,rfl,kI rfl (by rw[wr (by omega) (by omega)];omega),trivial⟩⟩
 ·refine aS (b:=decide ((i:Int)<(l.length:Int))) (decide_eq_false (by omega)) rfl ?_
  rw[List.take_of_length_le (by omega)]at dy
  apply bE;apply bK;apply bK;apply dc;apply au;refine aX rfl ?_
  exact aF (aV rfl rfl (hs.ret ⟨-1,rfl,dy.symm⟩))
theorem nb(v:Value)(l:List Int)(n:Int)(g:G)(aH:Rs g v l):CallsIn Wd 0 Tryz.prog 206 #[v,.int .i64 n] g.w (cR g fun _ r=>r= .bool (l.contains n)):=by
 have hs:=St.start g
 refine enter Tryz.func206 rfl Tryz.ntmps206 rfl ?_
 refine aX rfl ?_;refine cP 2 rfl ?_
 refine an rfl rfl (ay MF aI rfl rfl rfl rfl rfl (D7 _ l n _ aH) ?_);rintro g1 _ aN ⟨z,rfl,hz⟩;replace hs:=hs.call aN;have ah:=aN.le
 refine ba rfl ?_
 exact aF (aV rfl rfl (hs.ret (congrArg Value.bool hz)))
def FN(h:List bc)(n back:Int)(i:Nat):Bool:=(h.getD i gF).step==n&&(h.getD (i+1) gF).step==back
def uQ(o:Option bV)(h:List bc)(n:Int):Int:=
 if((gR o n).getD jW).next.contains ((gR o n).getD jW).back then 0 else(((List.range (h.length-1)).filter (FN h n ((gR o n).getD jW).back)).length:Nat)
theorem Nj(v:Value)(o:Option bV)(h:List bc)(n:Int)(g:G)(kn:FM g v o h)(hl:h.length≤1000000):CallsIn Wd 0 Tryz.prog 132 #[v,.int .i64 n] g.w (cR g fun _ r=>r= .int .i64 (uQ o h n)):=by
 have hs:=St.start g
 have aq:=G.le.refl g
 obtain⟨_,rfl,a1,n1,c1,a2,n2,c2,a3,c3,rfl,aT,bT,bN⟩:=kn
 refine enter Tryz.func132 rfl Tryz.ntmps132 rfl ?_
 apply c_
 refine an rfl rfl (aR rfl hs rfl rfl ?_);clear hs;rintro b2 g1 hs ah;obtain⟨aq,aT,bT,bN⟩:=dE ah aq aT bT bN
 obtain⟨g2,bR,aU,ah,aL⟩:=hs.a_ (i:=0) rfl;replace hs:=aU;clear aU;rw[←bR];obtain⟨aq,aT,bT,bN⟩:=dE ah aq aT bT bN
 have aC:=aL;clear aL
 refine ba rfl ?_;refine aX rfl ?_;refine dx 2 [.z aC] (St.start _) rfl ?_
 refine an rfl rfl (ay De aI rfl rfl rfl rfl rfl (D6 _ o h n _ ⟨_,rfl,a1,n1,c1,a2,n2,c2,a3,c3,rfl,aT,bT,bN⟩) ?_)
 rintro g6 _ mY ⟨cs,rfl,dm⟩
 replace hs:=hs.call mY;have ah:=mY.le;obtain⟨aq,aC,bN⟩:=ef ah aq aC bN
 unfold uQ
 generalize(gR o n).getD jW=s at*
 obtain⟨a7,n7,c7,a8,n8,c8,rfl,eg,fq⟩:=dm
 clear aT bT mY
 refine Wp 3 rfl ?_
 refine an rfl rfl (aK T.ok rfl hs rfl rfl ?_);clear hs;rintro b6 g1 hs ah;obtain⟨aq,aC,bN,fq⟩:=dE ah aq aC bN fq
 skip
 refine bg rfl (aA T.ok 0 rfl hs rfl rfl rfl rfl rfl rfl rfl rfl rfl ?_);replace hs:=hs;rintro g1 hs ah;obtain⟨aq,aC,bN,fq⟩:=dE ah aq aC bN fq
 obtain⟨g2,bR,aU,ah,aL⟩:=hs.a_ (i:=0) rfl;replace hs:=aU;clear aU;rw[←bR];obtain⟨aq,aC,bN,fq⟩:=dE ah aq aC bN fq
 have aP:=aL;clear aL
 refine ba rfl ?_;apply aB;refine dx 4 [.z aP,.z aP] (St.start _) rfl ?_
 refine an rfl rfl (ay Dg aI rfl rfl rfl rfl rfl (nb _ s.next s.back _ fq) ?_);rintro g1 _ aN rfl;replace hs:=hs.call aN;have ah:=aN.le;obtain⟨aq,aC,aP,bN⟩:=dE ah aq aC aP bN
 clear aN eg fq
 apply cf
 cases s.next.contains s.back with
 |true=>
  refine aJ rfl rfl ?_
  refine aX rfl ?_
  exact aF (aV rfl rfl (hs.ret rfl))
 |false=>
  refine aS rfl rfl ?_
  apply aE;apply au;apply aB;refine aX rfl ?_;apply aG
  refine bS (fun m a' w=> ∃(k q:Nat) (g':G),w=g'.w∧St g g' []∧G.le g g'∧Rs g' (.slice a3 h.length c3) h∧EP g' b2 0 [.int .i64 (o.getD tg).ck,.int .i64 (o.getD tg).cu,.slice a1 n1 c1,.slice a2 n2 c2,.bool o.isSome,.slice a3 h.length c3]∧EP g' b6 0 [.int .i64 s.dD,.slice a7 n7 c7,.int .i64 s.min,.int .i64 s.max,.slice a8 n8 c8,.int .i64 s.back,.int .i64 s.dF]∧(k+1≤h.length∨k=0)∧q=((List.range k).filter (FN h n s.back)).length∧m=h.length-k∧
    Fr 50 [] [(1,.int .i64 n),(2,.pointer (some ⟨b2,0,none⟩)),(5,.int .i64 (q:Nat)),(6,.pointer (some ⟨b6,0,none⟩)),(8,.int .i64 (k+1:Nat))] a') h.length
   (fun a' ha=>⟨0,0,_,rfl,hs,aq,bN,aC,aP,.inr rfl,rfl,rfl,ha.keep (by(repeat (first|exact trivial|refine⟨rfl,?_⟩)))⟩) ?_
  (repeat clear hs);(repeat clear bN);(repeat clear aq);(repeat clear aC);(repeat clear aP)
  rintro m a' _ ⟨k,q,g',rfl,hs,aq,bN,aC,aP,hk,hq,rfl,eI⟩
  have Ue:q≤k:=by rw[hq];exact Nat.le_trans (List.length_filter_le ..) (by rw[List.length_range];omega)
  revert a'
  apply cQ;apply aB;refine nK [.z aC] (St.start _) rfl ?_
  by_cases bh:k+1<h.length
  ·refine aJ (b:=decide (((k+1:Nat):Int)<(h.length:Int))) (by simp;omega) rfl ?_
   apply aE;apply au;apply aB;apply aG;apply aB
   obtain⟨b0,p0,ys,rfl,SD,hx⟩:=bN.at (i:=k) (List.getElem?_eq_getElem (by omega))
   obtain⟨Qy,Qz,Kw,e,Uf,hy⟩:=bN.at (i:=k+1) (List.getElem?_eq_getElem bh)
   obtain⟨rfl,rfl⟩:b0=Qy∧p0=Qz:=by simpa using e
   clear e
   have jn:((List.range (k+1)).filter (FN h n s.back)).length=q+(if h[k].step==n&&h[k+1].step==s.back then 1 else 0):=by
    rw[List.range_succ,List.filter_append,List.length_append,←hq]
    congr 1
    have e:FN h n s.back k=(h[k].step==n&&h[k+1].step==s.back):=by
     unfold FN
     rw[List.getD_eq_getElem?_getD,List.getD_eq_getElem?_getD,List.getElem?_eq_getElem (by omega),List.getElem?_eq_getElem bh];rfl
    rw[List.filter_cons,e]
    split<;>rfl
   generalize h[k]=x at hx jn
   generalize h[k+1]=y at hy jn
   obtain rfl:ys=bW x:=hx
   obtain rfl:Kw=bW y:=hy
   clear hq
   cases h1:x.step==n with
   |false=>
    rw[h1]at jn
    apply bO hs (eJ (fe (.e (.int .i64 (k:Nat))::gE (.e (.bool false)::fj (eJ (fe [])))))) 20 [(19,46)] (by kernel_rfl) rfl
    ·refine Dm [[],[0],[]] [.z aC] hs (by kernel_rfl) rfl ?_
     refine aw (ak (js:=[(2,29)]) (by kernel_rfl) fun gd hf=>ai rfl (aj (az rfl (aM _ T.ok rfl ⟨gd,rfl,aZ.refl _,congrArg (Value.int .i64) (by rw[wr (by omega) (by omega)];omega)⟩)))) ?_
     refine aw (ak (js:=[(1,28),(3,30)]) (by kernel_rfl) fun gd hf=>ai rfl (ai rfl (aj (az rfl (fT T.ok rfl rfl rfl (by omega) (by omega) rfl rfl rfl ⟨gd,rfl,aZ.refl _,rfl⟩))))) ?_
     refine Dm [[4],[5],[]] [.e SD 13] hs (by kernel_rfl) rfl ?_
     refine aw (ak (js:=[(6,33),(7,34)]) (by kernel_rfl) fun gd hf=>ai rfl (ai rfl (aj (az rfl (aM _ T.ok rfl ⟨gd,rfl,aZ.refl _,congrArg Value.bool h1⟩))))) ?_
     exact Dz [[8],[9],[10,9],[9],[11,12,9],[13,9],[14,9],[9],[16,9],[15,17,9],[9,18]] [] hs (by kernel_rfl) rfl
    clear hs;intro g6 hs ah;obtain⟨aq,aC,aP,bN⟩:=dE ah aq aC aP bN
    apply cf
    refine aS rfl rfl ?_
    apply aE;apply bU;apply au;apply ar;refine Wp 3 rfl ?_;apply aD
    exact fun a ha=>⟨h.length-(k+1),by omega,k+1,q,_,rfl,hs,aq,bN,aC,aP,.inl (by omega),jn.symm,rfl,ha.keep ⟨rfl,rfl,rfl,rfl,kI rfl (by rw[wr (by omega) (by omega)];omega),trivial⟩⟩
   |true=>
    rw[h1]at jn
    apply bO hs (eJ (fe (.e (.int .i64 (k:Nat))::gE (.e (.bool true)::fj (eJ (fe [])))))) 20 [(19,46)] (by kernel_rfl) rfl
    ·refine Dm [[],[0],[]] [.z aC] hs (by kernel_rfl) rfl ?_
     refine aw (ak (js:=[(2,29)]) (by kernel_rfl) fun gd hf=>ai rfl (aj (az rfl (aM _ T.ok rfl ⟨gd,rfl,aZ.refl _,congrArg (Value.int .i64) (by rw[wr (by omega) (by omega)];omega)⟩)))) ?_
     refine aw (ak (js:=[(1,28),(3,30)]) (by kernel_rfl) fun gd hf=>ai rfl (ai rfl (aj (az rfl (fT T.ok rfl rfl rfl (by omega) (by omega) rfl rfl rfl ⟨gd,rfl,aZ.refl _,rfl⟩))))) ?_
     refine Dm [[4],[5],[]] [.e SD 13] hs (by kernel_rfl) rfl ?_
     refine aw (ak (js:=[(6,33),(7,34)]) (by kernel_rfl) fun gd hf=>ai rfl (ai rfl (aj (az rfl (aM _ T.ok rfl ⟨gd,rfl,aZ.refl _,congrArg Value.bool h1⟩))))) ?_
     refine Dm [[8],[9],[10,9],[9]] [.z aC] hs (by kernel_rfl) rfl ?_
     refine aw (ak (js:=[(11,38),(12,39),(9,36)]) (by kernel_rfl) fun gd hf=>ai rfl (ai rfl (ai rfl (aj (az rfl (fT T.ok rfl rfl rfl (by omega) (by omega) rfl rfl rfl ⟨gd,rfl,aZ.refl _,rfl⟩)))))) ?_
     exact Dz [[13,9],[14,9],[9],[16,9],[15,17,9],[9,18]] [.e Uf 13,.z aP] hs (by kernel_rfl) rfl
    clear hs;intro g6 hs ah;obtain⟨aq,aC,aP,bN⟩:=dE ah aq aC aP bN
    apply cf
    cases h2:y.step==s.back with
    |false=>
     rw[h2]at jn
     refine aS rfl rfl ?_
     apply aE;apply bU;apply au;apply ar;refine Wp 3 rfl ?_;apply aD
     exact fun a ha=>⟨h.length-(k+1),by omega,k+1,q,_,rfl,hs,aq,bN,aC,aP,.inl (by omega),jn.symm,rfl,ha.keep ⟨rfl,rfl,rfl,rfl,kI rfl (by rw[wr (by omega) (by omega)];omega),trivial⟩⟩
    |true=>
     rw[h2]at jn
     refine aJ rfl rfl ?_
     apply ar;refine Wp 3 rfl ?_;apply aD;apply bU;apply au;apply ar;refine Wp 3 rfl ?_;apply aD
     exact fun a ha=>⟨h.length-(k+1),by omega,k+1,q+1,_,rfl,hs,aq,bN,aC,aP,.inl (by omega),jn.symm,rfl,ha.keep ⟨rfl,rfl,kI rfl (by rw[wr (by omega) (by omega)];omega),rfl,kI rfl (by rw[wr (by omega) (by omega)];omega),trivial⟩⟩
  ·refine aS (b:=decide (((k+1:Nat):Int)<(h.length:Int))) (by simp;omega) rfl ?_
   apply bE;apply bK;apply bK;apply dc;apply au;refine aX rfl ?_
   refine aF (aV rfl rfl (hs.ret ?_))
   rw[hq,show k=h.length-1 from by omega];rfl
end Go.Proofs.YtebobfdheanknaaGreatDoor
namespace Go.Proofs.YtebobfdheanknaaGreatDoor
open Go Go.K
set_option maxRecDepth 10000
attribute [local irreducible] W WL cT bu bX bA bB bD cW cG
set_option maxHeartbeats 1000000
theorem nO{ad:Option Addr}{n c:Nat}{zs:List Int}{g0 g:G}{L:List cV}(hs:St g0 g (.row 3 1 (.slice ad n c) n (eB zs)::L)):
  CallsIn Wd 0 Tryz.prog 50 #[.slice ad n c] g.w
   (eu g fun g' r=>r= .slice ad (Lib.compact zs).length c∧St g0 g' (.row 3 1 (.slice ad (Lib.compact zs).length c) (Lib.compact zs).length (eB (Lib.compact zs))::L)):=by
 have hr:=hs.own 0 _ rfl
 by_cases h0:n=0
 ·subst h0
  have hz:zs=[]:=by
   have:=hr.1.1
   rw[lO,Nat.zero_mul]at this
   exact List.eq_nil_of_length_eq_zero this
  subst hz
  refine callsIn_wide.2 ((Tryz.slices_Compact_int_empty ad c g.w).mono ?_)
  rintro e w' ⟨rfl,rfl⟩
  exact⟨g,_,rfl,rfl,G.le.refl g,rfl,hs⟩
 ·obtain⟨bk,off,rfl⟩:=hr.1.pos h0
  obtain⟨hH,zQ,rfl,nd,oJ⟩:=hr.1.D8 h0
  unfold maxLen at oJ
  have fY:=Lib.compact_length_le zs
  refine callsIn_wide.2 ((Tryz.slices_Compact_int bk off c zs g.w hH (by omega) nd).mono ?_)
  rintro e w' ⟨rfl,q,rfl⟩
  obtain⟨g2,bR,aU,ah⟩:=hs.putRow (i:=0) (q:=q) (os:=#[]) (d:=Lib.compact zs++List.replicate (zs.length-(Lib.compact zs).length) 0) rfl h0 (by simp;omega)
  have tf:=aU.x9 (i:=0) (a:=(Lib.compact zs).length) rfl fY
  rw[if_neg (by omega),Option.map_some,Addr.add_lit,Nat.zero_mul,Nat.add_zero,Nat.sub_zero,Nat.sub_zero]at tf
  refine⟨g2,_,bR,rfl,ah,rfl,?_⟩
  have e:(eB (Lib.compact zs++List.replicate (zs.length-(Lib.compact zs).length) 0)).take ((Lib.compact zs).length*1)=eB (Lib.compact zs):=by
   unfold eB
   rw[Nat.mul_one,List.map_append,show(Lib.compact zs).length=((Lib.compact zs).map (Value.int .i64)).length from by simp,List.take_left]
  rw[←e]
  exact tf
def uR(o:Option bV)(h:List bc)(n:Int)(s:Step):List Int:=
 Lib.compact (if 0≤s.back∧uQ o h n<s.dF then jJ (s.next++[s.back])else s.next)
def wH(o:Option bV)(h:List bc):List Int:=
 if o.isSome=false then []else if h=[]then [0]else match gR o (h.getLast?.getD gF).step with
  |none=>[]
  |some s=>uR o h (h.getLast?.getD gF).step s
def OV(o:Option bV):Prop:=∀f,o=some f→ ∀s∈f.steps,s.next.length≤100000
theorem D9(v:Value)(o:Option bV)(h:List bc)(g:G)(kn:FM g v o h)(hl:h.length≤1000000)(ho:OV o):CallsIn Wd 0 Tryz.prog 58 #[v] g.w (cR g fun g' r=>Rs g' r (wH o h)):=by
 have hs:=St.start g
 have aq:=G.le.refl g
 have lP:=kn
 obtain⟨_,rfl,a1,n1,c1,a2,n2,c2,a3,c3,rfl,aT,bT,bN⟩:=kn
 refine enter Tryz.func58 rfl Tryz.ntmps58 rfl ?_
 apply c_
 refine an rfl rfl (aR rfl hs rfl rfl ?_);clear hs;rintro b1 g1 hs ah;obtain⟨aq,bN⟩:=cC ah aq bN
 obtain⟨g2,bR,aU,ah,aL⟩:=hs.a_ (i:=0) rfl;replace hs:=aU;clear aU;rw[←bR];obtain⟨aq,bN⟩:=cC ah aq bN
 have aC:=aL;clear aL
 replace lP:=lP.mono aq
 refine ba rfl ?_;apply aB;apply aG;refine nK [.z aC] (St.start _) rfl ?_
 unfold wH
 cases Nk:o.isSome with
 |false=>
  rw[if_pos rfl]
  refine aJ rfl rfl ?_
  refine aX rfl ?_
  exact aF (aV rfl rfl (hs.ret (Rs.nil _)))
 |true=>
  rw[if_neg (by simp)]
  rw[Nk]at aC lP
  refine aS rfl rfl ?_
  refine nK [.z aC] (St.start _) rfl ?_
  rcases List.eq_nil_or_concat h with rfl|⟨hi,x,rfl⟩
  ·rw[if_pos rfl]
   refine aJ (b:=(([]:List bc).length:Int)==0) rfl rfl ?_
   apply c_
   refine an rfl rfl (bj T.ok rfl hs (vs:=[(0,.int .i64 ((0:Int)))]) (cells:=[.int .i64 ((0:Int))]) rfl rfl rfl rfl rfl rfl (by decide) (by decide) (by kernel_rfl) rfl ?_);rintro bl gl hs ah;obtain⟨aC,bN⟩:=cC ah aC bN;obtain⟨gz,ik,cS,iT,eg⟩:=hs.cL (α:=Int) (xs:=[(0:Int)]) (i:=0) rfl (cO.ints _ [(0:Int)]);clear ah;have ah:=iT;rw[←ik];replace hs:=cS;clear cS;obtain⟨aC,bN⟩:=cC ah aC bN
   refine ba rfl ?_
   exact aF (aV rfl rfl (hs.ret eg))
  ·rw[List.concat_eq_append]at*
   rw[if_neg (by simp),List.getLast?_concat]
   show W _ _ _ _ _ _ _ _
   refine aS (b:=((hi++[x]).length:Int)==0) (by simp;omega) rfl ?_
   have x_:(hi++[x]).length=hi.length+1:=by simp
   have ic:dA (hi++[x]) (IntKind.i64.wrap (((hi++[x]).length:Nat)-1))=some x:=by
    rw[wr (by omega) (by omega),x_,show((hi.length+1:Nat):Int)-1=(hi.length:Nat)from by omega]
    unfold dA;rw[if_neg (by omega)];simp
   apply aE;apply bU;apply au;refine dx 6 [.z aC,.z aC] (St.start _) rfl ?_
   refine an rfl rfl (aW T.ok rfl bN (y:=x) ic rfl rfl rfl rfl rfl rfl ?_)
   rintro b9 q9 ys aL rfl
   refine Wp 1 rfl ?_
   refine Wm 1 [.e aL 13] (St.start _) rfl ?_
   clear aL
   refine ba rfl ?_;refine dx 2 [.z aC] (St.start _) rfl ?_
   refine an rfl rfl (ay De aI rfl rfl rfl rfl rfl (D6 _ o (hi++[x]) x.step _ lP) ?_)
   rintro g6 _ mY ⟨cs,rfl,dm⟩
   replace hs:=hs.call mY;have ah:=mY.le;replace aC:=aC.mono ah
   replace lP:=lP.mono ah
   show WL _ _ _ _ _ _ _ _ _
   simp only[Option.getD_some]
   cases QB:gR o x.step with
   |none=>
    rw[QB]at dm
    obtain⟨a7,n7,c7,a8,n8,c8,rfl,eg,fq⟩:=dm
    refine Wp 3 rfl ?_
    refine an rfl rfl (aK T.ok rfl hs rfl rfl ?_);clear hs;rintro b4 g1 hs ah;obtain⟨aC,eg,fq⟩:=ef ah aC eg fq
    skip
    refine bg rfl (aA T.ok 0 rfl hs rfl rfl rfl rfl rfl rfl rfl rfl rfl ?_);replace hs:=hs;rintro g1 hs ah;obtain⟨aC,eg,fq⟩:=ef ah aC eg fq
    refine ba rfl ?_;apply aB;refine aX rfl ?_
    refine aJ rfl rfl ?_
    refine aX rfl ?_
    exact aF (aV rfl rfl (hs.ret (Rs.nil _)))
   |some s=>
    rw[QB]at dm
    replace dm:pB g6 cs s:=dm
    obtain⟨a7,n7,c7,a8,n8,c8,rfl,eg,fq⟩:=dm
    have FJ:s.next.length≤100000:=by
     cases o with
     |none=>cases Nk
     |some f=>exact ho f rfl s (List.mem_of_getElem? (qS QB).2.2)
    refine Wp 3 rfl ?_
    refine an rfl rfl (aK T.ok rfl hs rfl rfl ?_);clear hs;rintro b4 g1 hs ah;obtain⟨aC,fq⟩:=cC ah aC fq
    replace lP:=lP.mono ah
    skip
    refine bg rfl (aA T.ok 0 rfl hs rfl rfl rfl rfl rfl rfl rfl rfl rfl ?_);replace hs:=hs;rintro g1 hs ah;obtain⟨aC,fq⟩:=cC ah aC fq
    replace lP:=lP.mono ah
    obtain⟨g2,bR,aU,ah,aL⟩:=hs.a_ (i:=0) rfl;replace hs:=aU;clear aU;rw[←bR];obtain⟨aC,fq⟩:=cC ah aC fq
    replace lP:=lP.mono ah
    have aP:=aL;clear aL
    refine ba rfl ?_;apply aB;refine aX rfl ?_
    refine aS rfl rfl ?_
    apply aE;apply au;refine dx 2 [.z aP] (St.start _) rfl ?_
    clear mY
    refine an rfl rfl (ay HD aI rfl rfl rfl rfl rfl (Bb _ s.next _ fq (by omega)) ?_)
    rintro g7 v7 uM ⟨cells,hh,hr⟩
    obtain rfl:cells=eB s.next:=cO.pH hr
    obtain⟨a5,c5,rfl⟩:=hh.1.form
    replace hs:=hs.gJ uM hh;have ah:=uM.le;obtain⟨aC,aP⟩:=cC ah aC aP
    replace lP:=lP.mono ah
    clear hr hh uM
    replace hs:St g g7 [.row 3 1 (.slice a5 s.next.length c5) s.next.length (eB s.next)]:=hs
    clear eg fq aT bT bN ic
    refine ba rfl ?_;apply aB;apply aB
    cases Bc:decide (0≤s.back)with
    |false=>
     have Je:uR o (hi++[x]) x.step s=Lib.compact s.next:=by unfold uR;rw[if_neg (fun e=>(of_decide_eq_false Bc) e.1)]
     apply bO hs (eJ (.e (.bool false)::fj [])) 11 [(10,47)] (by kernel_rfl) rfl
     ·refine Dm [[],[0]] [.z aP] hs (by kernel_rfl) rfl ?_
      refine aw (ak (js:=[(1,38)]) (by kernel_rfl) fun gd hf=>ai rfl (aj (az rfl (aM _ T.ok rfl ⟨gd,rfl,aZ.refl _,congrArg Value.bool Bc⟩)))) ?_
      exact Dz [[2],[3],[3],[4,5,3,3],[3],[7,3],[6,8,3],[3,9]] [] hs (by kernel_rfl) rfl
     clear hs;intro g8 hs ah;obtain⟨aC,aP⟩:=cC ah aC aP
     apply cf
     refine aS rfl rfl ?_
     apply aE;apply au;refine cP 1 rfl ?_
     refine an rfl rfl (dv SI aI rfl rfl rfl rfl rfl (nO (zs:=s.next) hs) ?_)
     (repeat clear hs)
     rintro g12 _ ah ⟨rfl,hs⟩;obtain⟨aC,aP⟩:=cC ah aC aP
     obtain⟨g13,pI,pJ,ah,py⟩:=hs.cL (α:=Int) (i:=0) rfl (cO.ints _ _)
     rw[←pI];(repeat clear hs);have hs:=pJ;clear pJ;obtain⟨aC,aP⟩:=cC ah aC aP;clear pI
     refine ba rfl ?_
     exact aF (aV rfl rfl (hs.ret (show Rs _ _ (uR o (hi++[x]) x.step s)from by rw[Je];exact py)))
    |true=>
     apply bO hs (eJ (.e (.bool true)::fj [])) 11 [(10,47)] (by kernel_rfl) rfl
     ·refine Dm [[],[0]] [.z aP] hs (by kernel_rfl) rfl ?_
      refine aw (ak (js:=[(1,38)]) (by kernel_rfl) fun gd hf=>ai rfl (aj (az rfl (aM _ T.ok rfl ⟨gd,rfl,aZ.refl _,congrArg Value.bool Bc⟩)))) ?_
      exact Dz [[2],[3],[3],[4,5,3,3],[3],[7,3],[6,8,3],[3,9]] [.z aC,.c Lu fun g' h=>Nj _ o (hi++[x]) x.step g' (lP.mono h) hl,.z aP] hs (by kernel_rfl) rfl
     clear hs;intro g8 hs ah;replace aP:=aP.mono ah
     apply cf
     cases Ia:decide (uQ o (hi++[x]) x.step<s.dF)with
     |false=>
      have Je:uR o (hi++[x]) x.step s=Lib.compact s.next:=by unfold uR;rw[if_neg (fun e=>(of_decide_eq_false Ia) e.2)]
      refine aS rfl rfl ?_
      apply aE;apply au;refine cP 1 rfl ?_
      refine an rfl rfl (dv SI aI rfl rfl rfl rfl rfl (nO (zs:=s.next) hs) ?_)
      (repeat clear hs)
      rintro g12 _ ah ⟨rfl,hs⟩;replace aP:=aP.mono ah
      obtain⟨g13,pI,pJ,ah,py⟩:=hs.cL (α:=Int) (i:=0) rfl (cO.ints _ _)
      rw[←pI];(repeat clear hs);have hs:=pJ;clear pJ;replace aP:=aP.mono ah;clear pI
      refine ba rfl ?_
      exact aF (aV rfl rfl (hs.ret (show Rs _ _ (uR o (hi++[x]) x.step s)from by rw[Je];exact py)))
     |true=>
      have Je:uR o (hi++[x]) x.step s=Lib.compact (jJ (s.next++[s.back])):=by unfold uR;rw[if_pos ⟨of_decide_eq_true Bc,of_decide_eq_true Ia⟩]
      refine aJ rfl rfl ?_
      refine dx 3 [.z aP] (St.start _) rfl ?_
      refine an rfl rfl (bj T.ok rfl hs (vs:=[(0,.int .i64 s.back)]) (cells:=[.int .i64 s.back]) rfl rfl rfl rfl rfl rfl (by decide) (by decide) (by kernel_rfl) rfl ?_);rintro b6 g9 hs ah
      skip
      refine an rfl rfl (b_ T.ok 1 rfl hs rfl rfl rfl rfl rfl rfl rfl (by decide) rfl (Src.gK (hs.own 0 _ rfl).1).2 (by simp[Value.oneCell']) (by show(s.next.length+1)*8≤_;omega) (by unfold maxLen;omega) ?_);rintro a6 c6 g10 hs ah
      replace hs:St g g10 [.row 3 1 (.slice a6 (s.next.length+1) c6) (s.next.length+1) (eB (s.next++[s.back]))]:=by
       have:=hs.drop 0
       have e:eB (s.next++[s.back])=eB s.next++[.int .i64 s.back]:=by simp[eB]
       rw[e];exact this
      refine ba rfl ?_;apply ar;refine Wp 1 rfl ?_
      refine an rfl rfl (dv IU aI rfl rfl rfl rfl rfl (zR (zs:=s.next++[s.back]) (by simp;omega) hs) ?_)
      (repeat clear hs)
      rintro g11 _ ah ⟨rfl,hs⟩
      apply cf;refine cP 1 rfl ?_
      refine an rfl rfl (dv SI aI rfl rfl rfl rfl rfl (nO (zs:=jJ (s.next++[s.back])) hs) ?_)
      (repeat clear hs)
      rintro g12 _ ah ⟨rfl,hs⟩
      obtain⟨g13,pI,pJ,ah,py⟩:=hs.cL (α:=Int) (i:=0) rfl (cO.ints _ _)
      rw[←pI];(repeat clear hs);have hs:=pJ;clear pJ;clear pI
      refine ba rfl ?_
      exact aF (aV rfl rfl (hs.ret (show Rs _ _ (uR o (hi++[x]) x.step s)from by rw[Je];exact py)))
end Go.Proofs.YtebobfdheanknaaGreatDoor
namespace Go.Proofs.YtebobfdheanknaaGreatDoor
open Go Go.K
set_option maxRecDepth 10000
attribute [local irreducible] W WL cT bu bX bA bB bD cW cG
set_option maxHeartbeats 1000000
theorem Nl(b5:Nat)(kc:List Value)(o:Option bV)(h:List bc)(g:G)(aC:EP g b5 0 kc)(kn:Kv g kc o h):CallsIn Wd 0 Tryz.prog 204 #[.pointer (some ⟨b5,0,none⟩)] g.w (cR g fun _ r=>r= .bool (!o.isSome)):=by
 have hs:=St.start g
 obtain⟨a1,n1,c1,a2,n2,c2,a3,c3,rfl,aT,bT,bN⟩:=kn
 refine enter Tryz.func204 rfl Tryz.ntmps204 rfl ?_
 refine aX rfl ?_;refine nK [.z aC] (St.start _) rfl ?_
 exact aF (aV rfl rfl (hs.ret rfl))
theorem Nn(b5 b4:Nat)(kc:List Value)(o:Option bV)(h:List bc)(a:fD)(g:G)(aC:EP g b5 0 kc)(aP:EP g b4 0 (pE a))(kn:Kv g kc o h)(hl:h.length≤1000000)(ho:OV o):
  CallsIn Wd 0 Tryz.prog 205 #[.pointer (some ⟨b5,0,none⟩),.pointer (some ⟨b4,0,none⟩)] g.w (cR g fun _ r=>r= .bool (o.isSome&& !(wH o h).contains a.step)):=by
 have hs:=St.start g
 have aq:=G.le.refl g
 have lP:FM g (.agg kc.toArray) o h:=⟨kc,rfl,kn⟩
 obtain⟨a1,n1,c1,a2,n2,c2,a3,c3,rfl,aT,bT,bN⟩:=kn
 refine enter Tryz.func205 rfl Tryz.ntmps205 rfl ?_
 refine aX rfl ?_;apply aB
 cases Nk:o.isSome with
 |false=>
  rw[Nk]at aC lP
  apply bO hs (fj (eJ [])) 10 [(9,12)] (by kernel_rfl) rfl
  ·exact Dz [[],[0],[1],[2],[3,2,2],[2],[5,2],[4,6,4,2],[7,2],[2,8]] [.z aC] hs (by kernel_rfl) rfl
  clear hs;intro g6 hs ah;obtain⟨aC,aP⟩:=cC ah aC aP
  refine ba rfl ?_
  exact aF (aV rfl rfl (hs.ret rfl))
 |true=>
  rw[Nk]at aC lP
  apply bO hs (gE (.f (Fact.rs (wH o h))::gE (fe []))) 10 [(9,12)] (by kernel_rfl) rfl
  ·refine Dm [[],[0],[1],[2]] [.z aC,.z aC] hs (by kernel_rfl) rfl ?_
   refine aw (ak (js:=[(3,6),(2,5),(2,5)]) (by kernel_rfl) fun gd hf=>ai rfl (ai rfl (ai rfl (aj (az rfl (ay K0 aI rfl rfl rfl rfl rfl (D9 _ o h gd (lP.mono ((G.bJ _).trans hf.le)) hl ho) fun g' v h1 h2=>⟨g',rfl,h1,h2⟩)))))) ?_
   refine Dm [[2],[5,2]] [.z aP] hs (by kernel_rfl) rfl ?_
   refine aw (ak (js:=[(4,7),(6,9),(4,7),(2,5)]) (by kernel_rfl) fun gd hf=>aY fun _ _=>ai rfl (aY fun v4 h4=>ai rfl (aj (az rfl (ay Dg aI rfl rfl rfl rfl rfl (nb v4 (wH o h) a.step gd h4) fun g' v h1 h2=>⟨g',rfl,h1,h2⟩))))) ?_
   exact Dz [[7,2],[2,8]] [] hs (by kernel_rfl) rfl
  clear hs;intro g6 hs ah
  refine ba rfl ?_
  exact aF (aV rfl rfl (hs.ret rfl))
theorem No(b8 b7 b4:Nat)(is:Bool)(cs:List Value)(s:Step)(a:fD)(g:G)(aC:EP g b8 0 [.bool is])(aP:EP g b7 0 cs)(dO:EP g b4 0 (pE a))(dm:pB g cs s):
  CallsIn Wd 0 Tryz.prog 207 #[.pointer (some ⟨b8,0,none⟩),.pointer (some ⟨b7,0,none⟩),.pointer (some ⟨b4,0,none⟩)] g.w (cR g fun _ r=>r= .bool (is&& !s.dB.contains a.tool)):=by
 have hs:=St.start g
 have aq:=G.le.refl g
 obtain⟨a7,n7,c7,a8,n8,c8,rfl,eg,fq⟩:=dm
 refine enter Tryz.func207 rfl Tryz.ntmps207 rfl ?_
 cases is with
 |false=>
  refine aX rfl ?_;refine nK [.z aC] (St.start _) rfl ?_
  exact aF (aV rfl rfl (hs.ret rfl))
 |true=>
  refine aX rfl ?_;refine dx 6 [.z aC,.z aP,.z dO] (St.start _) rfl ?_
  refine an rfl rfl (ay Dg aI rfl rfl rfl rfl rfl (nb _ s.dB a.tool _ eg) ?_);rintro g1 _ aN rfl;replace hs:=hs.call aN;have ah:=aN.le
  refine ba rfl ?_
  exact aF (aV rfl rfl (hs.ret rfl))
theorem Np(b8 b7 b4:Nat)(is:Bool)(cs:List Value)(s:Step)(a:fD)(g:G)(aC:EP g b8 0 [.bool is])(aP:EP g b7 0 cs)(dO:EP g b4 0 (pE a))(dm:pB g cs s):
  CallsIn Wd 0 Tryz.prog 208 #[.pointer (some ⟨b8,0,none⟩),.pointer (some ⟨b7,0,none⟩),.pointer (some ⟨b4,0,none⟩)] g.w (cR g fun _ r=>r= .bool (is&&s.dD !=a.rcp)):=by
 have hs:=St.start g
 have aq:=G.le.refl g
 obtain⟨a7,n7,c7,a8,n8,c8,rfl,eg,fq⟩:=dm
 refine enter Tryz.func208 rfl Tryz.ntmps208 rfl ?_
 cases is with
 |false=>
  refine aX rfl ?_;refine nK [.z aC] (St.start _) rfl ?_
  exact aF (aV rfl rfl (hs.ret rfl))
 |true=>
  refine aX rfl ?_;refine nK [.z aC,.z aP,.z dO] (St.start _) rfl ?_
  exact aF (aV rfl rfl (hs.ret rfl))
theorem Nq(b3 b4:Nat)(sl:Nat→Value)(b:fX)(a:fD)(g:G)(aC:EP g b3 0 ((List.range 11).map sl))(aP:EP g b4 0 (pE a))(bI:iI g (.agg ((List.range 11).map sl).toArray) b):
  CallsIn Wd 0 Tryz.prog 209 #[.pointer (some ⟨b3,0,none⟩),.pointer (some ⟨b4,0,none⟩)] g.w (cR g fun _ r=>r= .bool (!b.sE.any (pD a.tool a.cham a.rcp a.rvn a.time))):=by
 have hs:=St.start g
 have aq:=G.le.refl g
 refine enter Tryz.func209 rfl Tryz.ntmps209 rfl ?_
 refine aX rfl ?_;refine dx 11 [.z aC,.z aP,.z aP,.z aP,.z aP,.z aP] (St.start _) rfl ?_
 refine an rfl rfl (ay KV aI rfl rfl rfl rfl rfl (DW _ b a.tool a.cham a.rcp a.rvn a.time _ bI) ?_);rintro g1 _ aN rfl;replace hs:=hs.call aN;have ah:=aN.le
 refine ba rfl ?_
 exact aF (aV rfl rfl (hs.ret rfl))
theorem Nr(b3 b4:Nat)(sl:Nat→Value)(b:fX)(a:fD)(g:G)(aC:EP g b3 0 ((List.range 11).map sl))(aP:EP g b4 0 (pE a))(bI:iI g (.agg ((List.range 11).map sl).toArray) b)(hb:DX b):
  CallsIn Wd 0 Tryz.prog 210 #[.pointer (some ⟨b3,0,none⟩),.pointer (some ⟨b4,0,none⟩)] g.w (cR g fun _ r=>r= .bool (decide ((0:Int)<((oI b a).length:Nat)))):=by
 have hs:=St.start g
 have aq:=G.le.refl g
 refine enter Tryz.func210 rfl Tryz.ntmps210 rfl ?_
 refine aX rfl ?_;refine dx 2 [.z aC,.z aP] (St.start _) rfl ?_
 refine an rfl rfl (ay KW aI rfl rfl rfl rfl rfl (A7 _ b a _ bI hb) ?_);rintro g1 _ aN hr;replace hs:=hs.call aN;have ah:=aN.le
 obtain⟨a9,c9,rfl⟩:=hr.isSlice
 refine ba rfl ?_
 exact aF (aV rfl rfl (hs.ret rfl))
end Go.Proofs.YtebobfdheanknaaGreatDoor
namespace Go.Proofs.YtebobfdheanknaaGreatDoor
open Go Go.K
set_option maxRecDepth 10000
attribute [local irreducible] W WL cT bu bX bA bB bD cW cG
set_option maxHeartbeats 1000000
structure OW where
 num:Int
 fn:Value
 ok:Bool
instance:El OW where
 k:=2
 pos:=by omega
 rc g cs r:=cs=[.int .i64 r.num,r.fn]∧r.fn.oneCell'=true∧ ∀g',g.le g'→ir Tryz.prog r.fn [] g'.w (cR g' fun _ v=>v= .bool r.ok)
 len h:=by rw[h.1];rfl
 mono hle h:=⟨h.1,h.2.1,fun g' h'=>h.2.2 g' (hle.trans h')⟩
 one h:=by
  rw[h.1];intro c hc
  rcases List.mem_cons.1 hc with rfl|hc
  ·rfl
  ·rw[List.mem_singleton.1 hc];exact h.2.1
def me(l:List OW):List Int:=(l.filter (·.ok)).map (·.num)
theorem Ns(b9:Nat)(v:Value)(l:List OW)(g:G)(Nt:EP g b9 0 [v])(Jf:Rs g v l):
  sM Tryz.prog 211 #[.pointer (some ⟨b9,0,none⟩)] (fun n:Int=>[.int .i64 n]) (me l) g:=by
 obtain⟨a,c,rfl⟩:=Jf.isSlice
 intro g1 hle yv J Jx hJ Qf hy zC
 have hlen:=Jf.dU
 unfold maxLen at hlen
 have aq:=G.le.refl g1
 have aC:=Nt.mono hle;have HY:=Jf.mono hle
 refine enter Tryz.func211 rfl Tryz.ntmps211 rfl ?_
 refine nK [.z aC] (St.start _) rfl ?_;apply aG
 refine bS (fun m a' w=> ∃(k:Nat) (g':G),w=g'.w∧G.le g1 g'∧k≤l.length∧m=l.length-k∧J (me (l.take k)) g'∧
   Fr 22 [] [(0,yv),(1,.pointer (some ⟨b9,0,none⟩)),(5,.slice a l.length c),(6,.int .i64 (l.length:Nat)),(7,.int .i64 (k:Nat))] a') l.length
  (fun a' ha=>⟨0,g1,rfl,aq,Nat.zero_le _,rfl,zC,ha.keep (by(repeat (first|exact trivial|refine⟨rfl,?_⟩)))⟩) ?_
 clear aC aq
 rintro m a' _ ⟨k,g',rfl,aq,hk,rfl,pj,eI⟩
 have eg:=HY.mono aq
 have hs:=St.start g'
 revert a'
 apply cQ;refine aX rfl ?_;apply aB
 by_cases bh:k<l.length
 ·refine aJ (b:=decide ((k:Int)<(l.length:Int))) (by simp;omega) rfl ?_
  have ic:=cU (n:=((k:Nat):Int)) rfl bh
  have qF:me l=me (l.take k)++(me [l[k]]++me (l.drop (k+1))):=by
   conv=>lhs;rw[←List.take_append_drop k l,List.drop_eq_getElem_cons bh]
   unfold me
   rw[List.filter_append,←List.singleton_append,List.filter_append,List.map_append,List.map_append]
  have fw:me (l.take (k+1))=me (l.take k)++me [l[k]]:=by
   unfold me
   rw[List.take_succ_eq_append_getElem bh,List.filter_append,List.map_append]
  generalize l[k]=x at ic qF fw
  apply aE;apply au;apply aB;apply aG;apply c_
  refine an rfl rfl (aW T.ok rfl eg (y:=x) ic rfl rfl rfl rfl rfl rfl ?_)
  rintro bq pq ys aL ⟨rfl,pK,Gt⟩
  have aP:=aL;clear aL
  refine Wm 1 [.e aP 0] (St.start _) rfl ?_
  refine an rfl rfl (aK T.ok rfl hs rfl rfl ?_);clear hs;rintro bx g1 hs ah;obtain⟨aq,aP⟩:=cC ah aq aP
  skip
  refine bg rfl (aA T.ok 0 rfl hs rfl rfl rfl rfl rfl rfl (by show(true&&(x.fn.oneCell'&&true))=true;rw[pK];rfl) rfl rfl ?_);replace hs:=hs;rintro g2 hs ah;obtain⟨aq,aP⟩:=cC ah aq aP
  obtain⟨g2,bR,aU,ah,aL⟩:=hs.a_ (i:=0) rfl;replace hs:=aU;clear aU;rw[←bR];obtain⟨aq,aP⟩:=cC ah aq aP
  (repeat clear aP)
  have aP:=aL;clear aL
  apply cf;refine dx 2 [.z aP] (St.start _) rfl ?_
  refine an rfl rfl (eA rfl rfl rfl rfl rfl rfl (Gt _ ((G.le.refl g').trans hs.le)) ?_);rintro g4 _ kL rfl;replace hs:=hs.call kL;have ah:=kL.le;obtain⟨aq,aP⟩:=cC ah aq aP
  cases lH:x.ok with
  |false=>
   have e:me [x]=[]:=by unfold me;rw[List.filter_cons,lH];rfl
   rw[e,List.append_nil]at fw
   refine ba rfl ?_
   refine aS rfl rfl ?_
   apply aE;apply bU;apply au;apply ar;refine Wp 2 rfl ?_;apply aD
   exact fun a ha=>⟨l.length-(k+1),by omega,k+1,_,rfl,aq,by omega,rfl,by rw[fw];exact hJ _ _ _ hs.mS pj,ha.keep ⟨rfl,rfl,rfl,rfl,kI rfl (by rw[wr (by omega) (by omega)];omega),trivial⟩⟩
  |true=>
   have e:me [x]=[x.num]:=by unfold me;rw[List.filter_cons,lH];rfl
   rw[e]at fw qF
   refine Wm 4 [.z aP] (St.start _) rfl ?_
   have FI:=hJ _ _ _ hs.mS pj
   refine an rfl rfl (eT rfl rfl rfl rfl rfl rfl ((hy _ x.num _ _ qF aq FI).mono ?_))
   rintro _ _ ⟨g5,bv,rfl,rfl,ah,ht,hf⟩
   refine⟨_,rfl,?_⟩
   (repeat clear hs)
   replace aq:=G.le.trans aq ah
   cases bv with
   |false=>
    refine ba rfl ?_
    refine aJ rfl rfl ?_
    skip
    refine aF ?_;apply iq;apply eF;apply eF;apply iq;refine rR rfl ?_
    exact⟨g5,_,rfl,rfl,aq,.inr ⟨_,⟨me (l.drop (k+1)),by rw[List.append_assoc];exact qF.symm⟩,hf rfl⟩⟩
   |true=>
    refine ba rfl ?_
    refine aS rfl rfl ?_
    apply aE;apply bU;apply au;apply ar;refine Wp 2 rfl ?_;apply aD
    exact fun a ha=>⟨l.length-(k+1),by omega,k+1,_,rfl,aq,by omega,rfl,by rw[fw];exact ht rfl,ha.keep ⟨rfl,rfl,rfl,rfl,kI rfl (by rw[wr (by omega) (by omega)];omega),trivial⟩⟩
 ·refine aS (b:=decide ((k:Int)<(l.length:Int))) (by simp;omega) rfl ?_
  apply bE;apply bK;apply bK;apply dc
  refine k5 rfl ⟨g',_,rfl,rfl,aq,.inl ?_⟩
  rw[List.take_of_length_le (by omega)]at pj
  exact pj
def B5(b:fX)(a:fD)(o:Option bV)(h:List bc):List Bool:=
 [!o.isSome,o.isSome&& !(wH o h).contains a.step,(gR o a.step).isSome&& !((gR o a.step).getD jW).dB.contains a.tool,(gR o a.step).isSome&&((gR o a.step).getD jW).dD !=a.rcp,
  !b.sE.any (pD a.tool a.cham a.rcp a.rvn a.time),decide ((0:Int)<((oI b a).length:Nat))]
def B6(l:List Bool):List Int:=(([1,2,4,8,16,32]:List Int).zip l).filterMap fun p=>if p.2 then some p.1 else none
theorem Jg(f1 f2 f3 f4 f5 f6:Value)(c1 c2 c3 c4 c5 c6:Bool):me [⟨1,f1,c1⟩,⟨2,f2,c2⟩,⟨4,f3,c3⟩,⟨8,f4,c4⟩,⟨16,f5,c5⟩,⟨32,f6,c6⟩]=B6 [c1,c2,c3,c4,c5,c6]:=by
 cases c1<;>cases c2<;>cases c3<;>cases c4<;>cases c5<;>cases c6<;>rfl
theorem B7(v u:Value)(b:fX)(a:fD)(o:Option bV)(h:List bc)(g:G)(bI:iI g v b)(kn:FM g u o h)(hb:DX b)(hl:h.length≤1000000)(ho:OV o):CallsIn Wd 0 Tryz.prog 118 #[v,Gl a,u] g.w (cR g fun g' r=> ∃b9 sv l,r= .func (.func 211) #[] #[.pointer (some ⟨b9,0,none⟩)]∧EP g' b9 0 [sv]∧Rs g' sv l∧me l=B6 (B5 b a o h)∧l.length=6):=by
 have hs:=St.start g
 have aq:=G.le.refl g
 obtain⟨sl,rfl,jr⟩:=bI
 have bI:iI g (.agg ((List.range 11).map sl).toArray) b:=⟨sl,rfl,jr⟩
 obtain⟨kc,rfl,kn⟩:=kn
 have lP:=kn
 obtain⟨a1,n1,c1,a2,n2,c2,a3,c3,rfl,aT,bT,bN⟩:=kn
 refine enter Tryz.func118 rfl Tryz.ntmps118 rfl ?_
 apply c_
 refine an rfl rfl (aR rfl hs rfl rfl ?_);clear hs;rintro b3 g1 hs ah;obtain⟨aq,bI⟩:=cC ah aq bI
 obtain⟨g2,bR,aU,ah,aL⟩:=hs.a_ (i:=0) rfl;replace hs:=aU;clear aU;rw[←bR];obtain⟨aq,bI⟩:=cC ah aq bI
 have dL:=aL;clear aL
 skip
 refine an rfl rfl (aR rfl hs rfl rfl ?_);clear hs;rintro b4 g1 hs ah;obtain⟨aq,dL,bI⟩:=ef ah aq dL bI
 obtain⟨g2,bR,aU,ah,aL⟩:=hs.a_ (i:=0) rfl;replace hs:=aU;clear aU;rw[←bR];obtain⟨aq,dL,bI⟩:=ef ah aq dL bI
 have aP:=aL;clear aL
 skip
 refine an rfl rfl (aR rfl hs rfl rfl ?_);clear hs;rintro b5 g1 hs ah;obtain⟨aq,aP,dL,bI⟩:=dE ah aq aP dL bI
 obtain⟨g2,bR,aU,ah,aL⟩:=hs.a_ (i:=0) rfl;replace hs:=aU;clear aU;rw[←bR];obtain⟨aq,aP,dL,bI⟩:=dE ah aq aP dL bI
 have dO:=aL;clear aL
 replace lP:=lP.mono aq
 refine ba rfl ?_;refine dx 3 [.z dO,.z aP] (St.start _) rfl ?_
 refine an rfl rfl (ay De aI rfl rfl rfl rfl rfl (D6 _ o h a.step _ ⟨_,rfl,lP⟩) ?_)
 rintro g6 _ mY ⟨cs,rfl,dm⟩
 replace hs:=hs.call mY;have ah:=mY.le;obtain⟨aP,dO,dL,bI⟩:=dE ah aP dO dL bI
 replace lP:=lP.mono ah
 unfold B5
 generalize(gR o a.step).isSome=is at*
 generalize(gR o a.step).getD jW=s at*
 obtain⟨a7,n7,c7,a8,n8,c8,rfl,eg,fq⟩:=dm
 clear aT bT bN mY
 refine Wp 3 rfl ?_
 refine an rfl rfl (aK T.ok rfl hs rfl rfl ?_);clear hs;rintro b7 g1 hs ah;obtain⟨aP,dO,eg,fq,dL,bI⟩:=iu ah aP dO eg fq dL bI
 replace lP:=lP.mono ah
 refine an rfl rfl (aK T.ok rfl hs rfl rfl ?_);clear hs;rintro b8 g1 hs ah;obtain⟨aP,dO,eg,fq,dL,bI⟩:=iu ah aP dO eg fq dL bI
 replace lP:=lP.mono ah
 refine bg rfl (aA T.ok 1 rfl hs rfl rfl rfl rfl rfl rfl rfl rfl rfl ?_);replace hs:=hs;rintro g1 hs ah;obtain⟨aP,dO,eg,fq,dL,bI⟩:=iu ah aP dO eg fq dL bI
 replace lP:=lP.mono ah
 refine bg rfl (aA T.ok 0 rfl hs rfl rfl rfl rfl rfl rfl rfl rfl rfl ?_);replace hs:=hs;rintro g1 hs ah;obtain⟨aP,dO,eg,fq,dL,bI⟩:=iu ah aP dO eg fq dL bI
 replace lP:=lP.mono ah
 obtain⟨g2,bR,aU,ah,aL⟩:=hs.a_ (i:=0) rfl;replace hs:=aU;clear aU;rw[←bR];obtain⟨aP,dO,eg,fq,dL,bI⟩:=iu ah aP dO eg fq dL bI
 have Kx:=aL;clear aL
 replace lP:=lP.mono ah
 obtain⟨g2,bR,aU,ah,aL⟩:=hs.a_ (i:=0) rfl;replace hs:=aU;clear aU;rw[←bR];obtain⟨aP,dO,eg,fq,dL,Kx⟩:=iu ah aP dO eg fq dL Kx;replace bI:=bI.mono ah
 have OX:=aL;clear aL
 replace lP:=lP.mono ah
 apply cf;refine cP 1 rfl ?_
 refine an rfl rfl (aQ T.ok rfl (vs:=[(0,.int .i64 1),(1,(.func (.func 204) #[] #[.pointer (some ⟨b5,0,none⟩)]))]) (cells:=[.int .i64 1,(.func (.func 204) #[] #[.pointer (some ⟨b5,0,none⟩)])]) rfl rfl rfl rfl [(0,1),(1,1)] rfl (by kernel_rfl) ?_)
 refine Wp 1 rfl ?_
 refine an rfl rfl (aQ T.ok rfl (vs:=[(0,.int .i64 2),(1,(.func (.func 205) #[] #[.pointer (some ⟨b5,0,none⟩),.pointer (some ⟨b4,0,none⟩)]))]) (cells:=[.int .i64 2,(.func (.func 205) #[] #[.pointer (some ⟨b5,0,none⟩),.pointer (some ⟨b4,0,none⟩)])]) rfl rfl rfl rfl [(0,1),(1,1)] rfl (by kernel_rfl) ?_)
 refine Wp 1 rfl ?_
 refine an rfl rfl (aQ T.ok rfl (vs:=[(0,.int .i64 4),(1,(.func (.func 207) #[] #[.pointer (some ⟨b8,0,none⟩),.pointer (some ⟨b7,0,none⟩),.pointer (some ⟨b4,0,none⟩)]))]) (cells:=[.int .i64 4,(.func (.func 207) #[] #[.pointer (some ⟨b8,0,none⟩),.pointer (some ⟨b7,0,none⟩),.pointer (some ⟨b4,0,none⟩)])]) rfl rfl rfl rfl [(0,1),(1,1)] rfl (by kernel_rfl) ?_)
 refine Wp 1 rfl ?_
 refine an rfl rfl (aQ T.ok rfl (vs:=[(0,.int .i64 8),(1,(.func (.func 208) #[] #[.pointer (some ⟨b8,0,none⟩),.pointer (some ⟨b7,0,none⟩),.pointer (some ⟨b4,0,none⟩)]))]) (cells:=[.int .i64 8,(.func (.func 208) #[] #[.pointer (some ⟨b8,0,none⟩),.pointer (some ⟨b7,0,none⟩),.pointer (some ⟨b4,0,none⟩)])]) rfl rfl rfl rfl [(0,1),(1,1)] rfl (by kernel_rfl) ?_)
 refine Wp 1 rfl ?_
 refine an rfl rfl (aQ T.ok rfl (vs:=[(0,.int .i64 16),(1,(.func (.func 209) #[] #[.pointer (some ⟨b3,0,none⟩),.pointer (some ⟨b4,0,none⟩)]))]) (cells:=[.int .i64 16,(.func (.func 209) #[] #[.pointer (some ⟨b3,0,none⟩),.pointer (some ⟨b4,0,none⟩)])]) rfl rfl rfl rfl [(0,1),(1,1)] rfl (by kernel_rfl) ?_)
 refine Wp 1 rfl ?_
 refine an rfl rfl (aQ T.ok rfl (vs:=[(0,.int .i64 32),(1,(.func (.func 210) #[] #[.pointer (some ⟨b3,0,none⟩),.pointer (some ⟨b4,0,none⟩)]))]) (cells:=[.int .i64 32,(.func (.func 210) #[] #[.pointer (some ⟨b3,0,none⟩),.pointer (some ⟨b4,0,none⟩)])]) rfl rfl rfl rfl [(0,1),(1,1)] rfl (by kernel_rfl) ?_)
 skip
 refine an rfl rfl (bj T.ok rfl hs (vs:=[(0,.agg #[.int .i64 1,(.func (.func 204) #[] #[.pointer (some ⟨b5,0,none⟩)])]),(1,.agg #[.int .i64 2,(.func (.func 205) #[] #[.pointer (some ⟨b5,0,none⟩),.pointer (some ⟨b4,0,none⟩)])]),(2,.agg #[.int .i64 4,(.func (.func 207) #[] #[.pointer (some ⟨b8,0,none⟩),.pointer (some ⟨b7,0,none⟩),.pointer (some ⟨b4,0,none⟩)])]),(3,.agg #[.int .i64 8,(.func (.func 208) #[] #[.pointer (some ⟨b8,0,none⟩),.pointer (some ⟨b7,0,none⟩),.pointer (some ⟨b4,0,none⟩)])]),(4,.agg #[.int .i64 16,(.func (.func 209) #[] #[.pointer (some ⟨b3,0,none⟩),.pointer (some ⟨b4,0,none⟩)])]),(5,.agg #[.int .i64 32,(.func (.func 210) #[] #[.pointer (some ⟨b3,0,none⟩),.pointer (some ⟨b4,0,none⟩)])])]) (cells:=[.int .i64 1,(.func (.func 204) #[] #[.pointer (some ⟨b5,0,none⟩)]),.int .i64 2,(.func (.func 205) #[] #[.pointer (some ⟨b5,0,none⟩),.pointer (some ⟨b4,0,none⟩)]),.int .i64 4,(.func (.func 207) #[] #[.pointer (some ⟨b8,0,none⟩),.pointer (some ⟨b7,0,none⟩),.pointer (some ⟨b4,0,none⟩)]),.int .i64 8,(.func (.func 208) #[] #[.pointer (some ⟨b8,0,none⟩),.pointer (some ⟨b7,0,none⟩),.pointer (some ⟨b4,0,none⟩)]),.int .i64 16,(.func (.func 209) #[] #[.pointer (some ⟨b3,0,none⟩),.pointer (some ⟨b4,0,none⟩)]),.int .i64 32,(.func (.func 210) #[] #[.pointer (some ⟨b3,0,none⟩),.pointer (some ⟨b4,0,none⟩)])]) rfl rfl rfl rfl rfl rfl (by decide) (by decide) (by kernel_rfl) rfl ?_)
 clear hs;rintro bl gl hs ah;obtain⟨aP,dO,eg,fq,dL,Kx⟩:=iu ah aP dO eg fq dL Kx;obtain⟨OX,bI⟩:=cC ah OX bI
 replace lP:=lP.mono ah
 obtain⟨gz,ik,cS,ah,B8⟩:=hs.cL (α:=OW) (xs:=[⟨1,(.func (.func 204) #[] #[.pointer (some ⟨b5,0,none⟩)]),(!o.isSome)⟩,⟨2,(.func (.func 205) #[] #[.pointer (some ⟨b5,0,none⟩),.pointer (some ⟨b4,0,none⟩)]),(o.isSome&& !(wH o h).contains a.step)⟩,⟨4,(.func (.func 207) #[] #[.pointer (some ⟨b8,0,none⟩),.pointer (some ⟨b7,0,none⟩),.pointer (some ⟨b4,0,none⟩)]),(is&& !s.dB.contains a.tool)⟩,⟨8,(.func (.func 208) #[] #[.pointer (some ⟨b8,0,none⟩),.pointer (some ⟨b7,0,none⟩),.pointer (some ⟨b4,0,none⟩)]),(is&&s.dD !=a.rcp)⟩,⟨16,(.func (.func 209) #[] #[.pointer (some ⟨b3,0,none⟩),.pointer (some ⟨b4,0,none⟩)]),(!b.sE.any (pD a.tool a.cham a.rcp a.rvn a.time))⟩,⟨32,(.func (.func 210) #[] #[.pointer (some ⟨b3,0,none⟩),.pointer (some ⟨b4,0,none⟩)]),(decide ((0:Int)<((oI b a).length:Nat)))⟩]) (i:=0) rfl (⟨[.int .i64 1,(.func (.func 204) #[] #[.pointer (some ⟨b5,0,none⟩)])],_,rfl,⟨rfl,rfl,fun g' h'=>de (first:=#[]) (args:=[]) (captured:=#[.pointer (some ⟨b5,0,none⟩)]) Mh rfl (Nl b5 _ o h g' (dO.mono h') (lP.mono h'))⟩,⟨[.int .i64 2,(.func (.func 205) #[] #[.pointer (some ⟨b5,0,none⟩),.pointer (some ⟨b4,0,none⟩)])],_,rfl,⟨rfl,rfl,fun g' h'=>de (first:=#[]) (args:=[]) (captured:=#[.pointer (some ⟨b5,0,none⟩),.pointer (some ⟨b4,0,none⟩)]) Mi rfl (Nn b5 b4 _ o h a g' (dO.mono h') (aP.mono h') (lP.mono h') hl ho)⟩,⟨[.int .i64 4,(.func (.func 207) #[] #[.pointer (some ⟨b8,0,none⟩),.pointer (some ⟨b7,0,none⟩),.pointer (some ⟨b4,0,none⟩)])],_,rfl,⟨rfl,rfl,fun g' h'=>de (first:=#[]) (args:=[]) (captured:=#[.pointer (some ⟨b8,0,none⟩),.pointer (some ⟨b7,0,none⟩),.pointer (some ⟨b4,0,none⟩)]) Mj rfl (No b8 b7 b4 is _ s a g' (Kx.mono h') (OX.mono h') (aP.mono h') ⟨a7,n7,c7,a8,n8,c8,rfl,eg.mono h',fq.mono h'⟩)⟩,⟨[.int .i64 8,(.func (.func 208) #[] #[.pointer (some ⟨b8,0,none⟩),.pointer (some ⟨b7,0,none⟩),.pointer (some ⟨b4,0,none⟩)])],_,rfl,⟨rfl,rfl,fun g' h'=>de (first:=#[]) (args:=[]) (captured:=#[.pointer (some ⟨b8,0,none⟩),.pointer (some ⟨b7,0,none⟩),.pointer (some ⟨b4,0,none⟩)]) Mk rfl (Np b8 b7 b4 is _ s a g' (Kx.mono h') (OX.mono h') (aP.mono h') ⟨a7,n7,c7,a8,n8,c8,rfl,eg.mono h',fq.mono h'⟩)⟩,⟨[.int .i64 16,(.func (.func 209) #[] #[.pointer (some ⟨b3,0,none⟩),.pointer (some ⟨b4,0,none⟩)])],_,rfl,⟨rfl,rfl,fun g' h'=>de (first:=#[]) (args:=[]) (captured:=#[.pointer (some ⟨b3,0,none⟩),.pointer (some ⟨b4,0,none⟩)]) Ml rfl (Nq b3 b4 sl b a g' (dL.mono h') (aP.mono h') (bI.mono h'))⟩,⟨[.int .i64 32,(.func (.func 210) #[] #[.pointer (some ⟨b3,0,none⟩),.pointer (some ⟨b4,0,none⟩)])],_,rfl,⟨rfl,rfl,fun g' h'=>de (first:=#[]) (args:=[]) (captured:=#[.pointer (some ⟨b3,0,none⟩),.pointer (some ⟨b4,0,none⟩)]) Mm rfl (Nr b3 b4 sl b a g' (dL.mono h') (aP.mono h') (bI.mono h') hb)⟩,rfl⟩⟩⟩⟩⟩⟩)
 rw[←ik];clear hs;replace hs:=cS;clear cS
 skip
 refine an rfl rfl (aK T.ok rfl hs rfl rfl ?_);clear hs;rintro b9 g1 hs ah;skip
 replace B8:=B8.mono ah
 refine bg rfl (aA T.ok 0 rfl hs rfl rfl rfl rfl rfl rfl rfl rfl rfl ?_);replace hs:=hs;rintro g1 hs ah;skip
 replace B8:=B8.mono ah
 obtain⟨g2,bR,aU,ah,aL⟩:=hs.a_ (i:=0) rfl;replace hs:=aU;clear aU;rw[←bR];skip
 replace B8:=B8.mono ah
 apply cf;refine aX rfl ?_
 exact aF (aV rfl rfl (hs.ret ⟨b9,_,_,rfl,aL,B8,Jg _ _ _ _ _ _ _ _ _ _ _ _,rfl⟩))
end Go.Proofs.YtebobfdheanknaaGreatDoor
