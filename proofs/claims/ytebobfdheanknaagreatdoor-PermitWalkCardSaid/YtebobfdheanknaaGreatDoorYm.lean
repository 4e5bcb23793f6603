/- Parts of the proof, from: pick, after, and what Make is made of. -/
import Derived.Test.YtebobfdheanknaaGreatDoorYg
import Derived.Test.YtebobfdheanknaaGreatDoorYl
namespace Go.Proofs.YtebobfdheanknaaGreatDoor
open Go Go.K
set_option maxRecDepth 10000
attribute [local irreducible] W WL cT cn bX bA bB bD cW cG
set_option maxHeartbeats 4000000
theorem iK(c n:Int)(g:G)(hc:mH c)(hn:n≠0):CallsIn Wd 0 Tryz.prog 79 #[.int .i64 c,.int .i64 n] g.w (cR g fun _ r=>r= .int .i64 (aO c n)):=by
 have hs:=St.start g
 refine enter Tryz.func79 rfl Tryz.ntmps79 rfl ?_
 unfold mH at hc
 refine aX rfl ?_;apply aB;refine aX rfl ?_
 by_cases uD:c<0
 ·refine aJ (b:=decide (c<0)) (by simp[uD]) rfl ?_
  apply ar;refine ba rfl ?_;refine cP 2 rfl ?_
  refine an rfl rfl (nR rfl rfl rfl hn ?_)
  refine ba rfl ?_
  refine aF (aV rfl rfl (hs.ret ?_))
  unfold aO
  rw[if_pos uD,wr (n:=c+1) (by omega) (by omega),wr (by omega) (by omega),Int.zero_sub]
 ·refine aS (b:=decide (c<0)) (by simp;omega) rfl ?_
  apply aE;apply au;refine cP 2 rfl ?_
  refine an rfl rfl (nR rfl rfl rfl hn ?_)
  refine ba rfl ?_
  refine aF (aV rfl rfl (hs.ret ?_))
  unfold aO
  rw[if_neg uD]
theorem Jl(c n:Int)(g:G)(hc:mH c)(hn:n≠0):CallsIn Wd 0 Tryz.prog 33 #[.int .i64 c,.int .i64 n] g.w (cR g fun _ r=>r= .int .i64 (aO c n)):=by
 have hs:=St.start g
 refine enter Tryz.func33 rfl Tryz.ntmps33 rfl ?_
 unfold mH at hc
 refine aX rfl ?_;apply aB;refine aX rfl ?_
 by_cases uD:c<0
 ·refine aJ (b:=decide (c<0)) (by simp[uD]) rfl ?_
  apply ar;refine ba rfl ?_;refine cP 2 rfl ?_
  refine an rfl rfl (nR rfl rfl rfl hn ?_)
  refine ba rfl ?_
  refine aF (aV rfl rfl (hs.ret ?_))
  unfold aO
  rw[if_pos uD,wr (n:=c+1) (by omega) (by omega),wr (by omega) (by omega),Int.zero_sub]
 ·refine aS (b:=decide (c<0)) (by simp;omega) rfl ?_
  apply aE;apply au;refine cP 2 rfl ?_
  refine an rfl rfl (nR rfl rfl rfl hn ?_)
  refine ba rfl ?_
  refine aF (aV rfl rfl (hs.ret ?_))
  unfold aO
  rw[if_neg uD]
theorem qk(v w:cj)(g:G):CallsIn Wd 0 Tryz.prog 80 #[.agg (kO v).toArray,.agg (kO w).toArray] g.w (cR g fun _ r=>r= .bool (kW v w)):=by
 have hs:=St.start g
 have aq:=G.le.refl g
 unfold kO
 refine enter Tryz.func80 rfl Tryz.ntmps80 rfl ?_
 apply c_
 refine an rfl rfl (aR rfl hs rfl rfl ?_);clear hs;rintro bx g1 hs ah
 obtain⟨g2,bR,aU,ah,aL⟩:=hs.a_ (i:=0) rfl;replace hs:=aU;clear aU;rw[←bR]
 have aC:=aL
 clear aL bR ah
 skip
 refine an rfl rfl (aR rfl hs rfl rfl ?_);clear hs;rintro W5 g1 hs ah;replace aC:=aC.mono ah
 obtain⟨g2,bR,aU,ah,aL⟩:=hs.a_ (i:=0) rfl;replace hs:=aU;clear aU;rw[←bR];replace aC:=aC.mono ah
 have aP:=aL
 clear aL bR ah
 refine ba rfl ?_;refine dx 6 [.z aC,.z aP] (St.start _) rfl ?_
 unfold kW
 cases h1:decide (v.src<w.src)with
 |true=>
  refine ba rfl ?_
  refine aF ?_
  skip
  refine aV rfl rfl (hs.ret ?_)
  rfl
 |false=>
  refine Wm 6 [.z aC,.z aP] (St.start _) rfl ?_
  cases h2:v.src==w.src with
  |false=>
   refine ba rfl ?_
   refine aF ?_
   skip
   refine aV rfl rfl (hs.ret ?_)
   rfl
  |true=>
   refine A3 [.z aC,.z aP] (St.start _) rfl ?_
   refine aF ?_
   skip
   refine aV rfl rfl (hs.ret ?_)
   rfl
def R2(z:Y3):Fact:=
 ⟨fun v g=> ∃b p,v= .pointer (some ⟨b,p,none⟩)∧EP g b p [.int .i64 z.z0,.int .i64 z.z1,.int .i64 z.z2],fun _ _ _ hf ⟨b,p,e,h1⟩=>⟨b,p,e,h1.mono hf.le⟩⟩
def jF(n:Int):Fact:=⟨fun v g=> ∃b p,v= .pointer (some ⟨b,p,none⟩)∧EP g b p [.int .i64 n],fun _ _ _ hf ⟨b,p,e,h1⟩=>⟨b,p,e,h1.mono hf.le⟩⟩
instance:El Y6 where
 k:=6
 pos:=by omega
 rc _ cs y:=cs=[.int .i64 y.y0,.int .i64 y.y1,.int .i64 y.y2,.int .i64 y.y3,.int .i64 y.y4,.int .i64 y.y5]
 len h:=by rw[h];rfl
 mono _ h:=h
 one h:=by rw[h];simp[Value.oneCell']
instance:El Y3 where
 k:=3
 pos:=by omega
 rc _ cs y:=cs=[.int .i64 y.z0,.int .i64 y.z1,.int .i64 y.z2]
 len h:=by rw[h];rfl
 mono _ h:=h
 one h:=by rw[h];simp[Value.oneCell']
theorem qn: ∀(l:List cj) (w:cj),j7 (l++[w])=j7 l++kO w
 |[],w=>by simp[j7]
 |v::l,w=>by rw[List.cons_append];simp only[j7];rw[qn l w,List.append_assoc]
theorem CU{l:List cj}{v:cj}(h:l.getLast? =some v):ve T 141 (j7 l) ((l.length-1)*3)=some (.agg (kO v).toArray):=by
 obtain⟨r,rfl⟩: ∃r,l=r++[v]:=by
  rcases List.eq_nil_or_concat l with rfl|⟨r,x,rfl⟩
  ·cases h
  ·rw[List.concat_eq_append]at h⊢
   rw[List.getLast?_append]at h
   simp at h
   exact⟨r,by rw[h]⟩
 rw[qn,List.length_append]
 have hl:=uC r
 show(bif Nat.ble ((r.length+1-1)*3+3) (j7 r++kO v).length then some (Value.agg (((j7 r++kO v).drop ((r.length+1-1)*3)).take 3).toArray)else none)=_
 rw[Nat.add_sub_cancel,Nat.ble_eq_true_of_le (by rw[List.length_append,hl];exact Nat.le_refl _),←hl,List.drop_left]
 rfl
end Go.Proofs.YtebobfdheanknaaGreatDoor
namespace Go.Proofs.YtebobfdheanknaaGreatDoor
open Go Go.K
set_option maxRecDepth 10000
attribute [local irreducible] W WL cT cn bX bA bB bD cW cG
set_option maxHeartbeats 8000000
theorem Fu{B e k q m c:Nat}{ad:Option Addr}{xs:List Value}{w:World}(h:Row B e k (.slice ad m c) q xs w)(hm:m≠0): ∃b p,ad=some ⟨b,p,none⟩:=by
 rcases h.2 with⟨_,a',hv⟩|⟨b,p,cap,cur,hv,_⟩
 ·simp only[Value.slice.injEq]at hv;omega
 ·simp only[Value.slice.injEq]at hv
  exact⟨b,p,hv.1⟩
theorem Jr(v u:Value)(x:List Y6)(zs:List Y3)(g:G)(aH:Rs g v x)(aT:Rs g u zs)(hx: ∀y∈x,y.fit)(hz: ∀z∈zs,z.fit):
  CallsIn Wd 0 Tryz.prog 36 #[v,u] g.w (cR g fun g' r=>fA g' r (mk x zs)):=by
 obtain⟨a,c,rfl⟩:=aH.isSlice
 obtain⟨a2,c2,rfl⟩:=aT.isSlice
 have hlen:=aH.dU
 have Fv:=aT.dU
 unfold maxLen at hlen Fv
 have hs:=St.start g
 have aq:=G.le.refl g
 have hn:=vx x
 refine enter Tryz.func36 rfl Tryz.ntmps36 rfl ?_
 apply c_
 refine an rfl rfl (aK T.ok rfl hs rfl rfl ?_);clear hs;rintro br g1 hs ah;obtain⟨aH,aT⟩:=cC ah aH aT
 apply cf;refine aX rfl ?_;apply c_
 have hN:(if(1:Int)<(if(8:Int)<(x.length:Int)then 8 else(x.length:Int))then(if(8:Int)<(x.length:Int)then 8 else(x.length:Int))else 1)=(eM x:Int):=by
  unfold eM
  split<;>split<;>omega
 refine kC (.int .i64 (eM x)) (t:=5) rfl (congrArg (Value.int .i64) hN) ?_
 refine an rfl rfl (aQ T.ok rfl (vs:=[(0,.int .i64 2),(1,.int .i64 5)]) (cells:=[.int .i64 2,.int .i64 5,.slice none 0 0,.slice none 0 0]) rfl rfl rfl rfl [(0,1),(1,1),(2,1),(3,1)] rfl (by kernel_rfl) ?_)
 skip
 refine an rfl rfl (aK T.ok rfl hs rfl rfl ?_);clear hs;rintro bf g1 hs ah;obtain⟨aH,aT⟩:=cC ah aH aT
 skip
 refine bg rfl (aA T.ok 0 rfl hs rfl rfl rfl rfl rfl rfl rfl rfl rfl ?_);replace hs:=hs;rintro g1 hs ah;obtain⟨aH,aT⟩:=cC ah aH aT
 apply cf;apply aB;refine aX rfl ?_;apply aG
 have qz:=aH;have xx:=aT;have ie:=G.le.refl g1
 replace hs:=hs.gI 65 7 none
 refine bS (fun m a' w=> ∃(k:Nat) (sv:Value) (cells:List Value) (g3:G),w=g3.w∧St g g3 [.row 65 7 sv k cells,.obj bf (.cells [.int .i64 2,.int .i64 5,sv,.slice none 0 0].toArray 30 (0,0)),.obj br (.cells [.int .i64 0,.int .i64 0,.slice none 0 0,.slice none 0 0].toArray 30 (0,0))]∧G.le g1 g3∧k≤eM x∧m=eM x-k∧cO g3 cells (j6 x k)∧
   Fr 193 [] [(0,.slice a x.length c),(1,.slice a2 zs.length c2),(4,.pointer (some ⟨br,0,none⟩)),(5,.int .i64 (eM x)),(6,.pointer (some ⟨bf,0,none⟩)),(7,.int .i64 k)] a') (eM x)
  (fun a' ha=>⟨0,_,[],g1,rfl,hs,ie,Nat.zero_le _,rfl,rfl,ha.keep (by(repeat (first|exact trivial|refine⟨rfl,?_⟩)))⟩) ?_
 clear hs ie aH aT
 rintro m a' _ ⟨k,sv,cells,g3,rfl,hs,ie,hk,rfl,eK,eI⟩
 have aH:=qz.mono ie
 obtain⟨sa,sc,rfl⟩:=(hs.own 0 _ rfl).1.form
 revert a'
 apply cQ;apply aB;refine aX rfl ?_
 by_cases bh:k<eM x
 ·refine aJ (b:=decide ((k:Int)<(eM x:Int))) (by simp;omega) rfl ?_
  have dm:=xw x k
  have R3:=eK;have r8:=ie
  have cN:=G.le.refl g3
  apply aE;apply au;apply aB;apply aG;apply c_
  refine an rfl rfl (aK T.ok rfl hs rfl rfl ?_);clear hs;rintro bY g1 hs ah;obtain⟨cN,aH⟩:=cC ah cN aH
  apply cf;apply aB;refine aX rfl ?_
  refine lL (fun a' w=> ∃(g4:G),w=g4.w∧G.le g3 g4∧(x.getD k yj).fit∧EP g4 bY 0 [.int .i64 (x.getD k yj).y0,.int .i64 (x.getD k yj).y1,.int .i64 (x.getD k yj).y2,.int .i64 (x.getD k yj).y3,.int .i64 (x.getD k yj).y4,.int .i64 (x.getD k yj).y5]∧
   St g g4 [.row 65 7 (.slice sa k sc) k cells,.obj bf (.cells [.int .i64 2,.int .i64 5,.slice sa k sc,.slice none 0 0].toArray 30 (0,0)),.obj br (.cells [.int .i64 0,.int .i64 0,.slice none 0 0,.slice none 0 0].toArray 30 (0,0))]∧
   Fr 193 [] [(0,.slice a x.length c),(1,.slice a2 zs.length c2),(4,.pointer (some ⟨br,0,none⟩)),(5,.int .i64 (eM x)),(6,.pointer (some ⟨bf,0,none⟩)),(7,.int .i64 k),(8,.pointer (some ⟨bY,0,none⟩))] a') ?_ ?_
  ·by_cases R4:k<x.length
   ·refine aJ (b:=decide ((k:Int)<(x.length:Int))) (by simp;omega) rfl ?_
    have jo:=hx _ (List.getElem_mem R4)
    have NQ:x.getD k yj=x[k]:=by rw[List.getD_eq_getElem?_getD,List.getElem?_eq_getElem R4];rfl
    have ic:dA x (k:Int)=some x[k]:=by simp[dA,R4]
    rw[NQ]
    generalize x[k]=y at*
    apply ar;refine Wp 2 rfl ?_
    refine an rfl rfl (aW T.ok rfl aH (y:=y) ic rfl rfl rfl rfl rfl rfl ?_)
    rintro b p ys aL rfl
    refine Wm 1 [.e aL 0] (St.start _) rfl ?_
    skip
    refine bg rfl (aA T.ok 0 rfl hs rfl rfl rfl rfl rfl rfl rfl rfl rfl ?_);replace hs:=hs;rintro g1 hs ah;replace cN:=G.le.trans cN ah
    obtain⟨g2,bR,aU,ah,aL⟩:=hs.a_ (i:=0) rfl;replace hs:=aU;clear aU;rw[←bR];replace cN:=G.le.trans cN ah
    apply aD
    exact fun a ha=>⟨_,rfl,cN,jo,aL,hs,ha.keep (by(repeat (first|exact trivial|refine⟨rfl,?_⟩)))⟩
   ·refine aS (b:=decide ((k:Int)<(x.length:Int))) (by simp;omega) rfl ?_
    have NQ:x.getD k yj=yj:=by rw[List.getD_eq_getElem?_getD,List.getElem?_eq_none (by omega)];rfl
    rw[NQ]
    obtain⟨g2,bR,aU,ah,aL⟩:=hs.a_ (i:=0) rfl;replace hs:=aU;clear aU;rw[←bR];replace cN:=G.le.trans cN ah
    apply aE
    exact fun a ha=>⟨_,rfl,cN,Hj,aL,hs,ha.keep (by(repeat (first|exact trivial|refine⟨rfl,?_⟩)))⟩
  clear hs cN aH eK ie
  rintro a' _ ⟨g4,rfl,cN,jo,aC,hs,eI⟩
  have VJ:oM (x.getD k yj) (eM x) k=oM (x.getD k yj) (eM x) k:=rfl
  generalize hy:x.getD k yj=y at*
  clear VJ
  revert a'
  have p0:=dq (c:=y.y0) (n:=5) (by omega)
  have p1:=dq (c:=y.y1) (n:=30) (by omega)
  have p2:=dq (c:=y.y1.tdiv 30) (n:=20) (by omega)
  have p3:=dq (c:=y.y2) (n:=6) (by omega)
  have p4:=dq (c:=y.y2.tdiv 12) (n:=3) (by omega)
  have p5:=dq (c:=y.y3.tdiv 12) (n:=3) (by omega)
  have p6:=dq (c:=y.y4.tdiv 4) (n:=(k:Int)+1) (by omega)
  have p7:=dq (c:=y.y5) (n:=3) (by omega)
  have q1:=lS (n:=30) jo.h1 (by omega)
  have q2:=lS (n:=6) jo.h2 (by omega)
  have q3:=lS (n:=12) jo.h2 (by omega)
  have q4:=lS (n:=12) jo.h3 (by omega)
  have q5:=lS (n:=36) jo.h3 (by omega)
  have q6:=lS (n:=4) jo.h4 (by omega)
  apply cQ;apply aB
  have oh:=hs
  apply ed (fj (fe (.f (B_ g4.dr.w.heap.size [.int .i64 0,.slice none 0 0,.int .i64 0,.int .i64 0,.slice none 0 0,.int .i64 0,.int .i64 0] 65)::[]))) 10 [(8,41),(9,9)] (by kernel_rfl)
  ·refine aw (ak (js:=[]) (by kernel_rfl) fun gd hf=>?_) ?_
   ·skip
    apply aj
    (refine az rfl ?_;refine df T.ok (q:=0) rfl rfl rfl rfl rfl rfl (by decide) ?_;refine⟨_,rfl,aZ.refl _,?_⟩;exact rfl)
   refine Dm [[0]] [.e aC 0] (St.start _) (by kernel_rfl) rfl ?_
   refine aw (ak (js:=[(1,34)]) (by kernel_rfl) fun gd hf=>?_) ?_
   ·skip
    refine ai rfl ?_
    apply aj
    refine az rfl ?_
    refine ay oy aI rfl rfl rfl rfl rfl (iK (y.y0) (5) _ (jo.h0) (by decide)) fun g' v h1 h2=>⟨g',rfl,h1,?_⟩
    exact h2
   refine aw (ak (js:=[(2,35)]) (by kernel_rfl) fun gd hf=>?_) ?_
   ·skip
    refine ai rfl ?_
    apply aj
    refine az rfl ?_
    refine aM _ T.ok rfl ?_
    refine⟨_,rfl,aZ.refl _,?_⟩
    exact congrArg (Value.int .i64) (show _=1+aO y.y0 5 from wr (by omega) (by omega))
   refine aw (ak (js:=[]) (by kernel_rfl) fun gd hf=>?_) ?_
   ·skip
    apply aj
    (refine az rfl ?_;refine df T.ok (q:=1) rfl rfl rfl rfl rfl rfl (by decide) ?_;refine⟨_,rfl,aZ.refl _,?_⟩;exact rfl)
   refine Dm [[4]] [.e aC 1] (St.start _) (by kernel_rfl) rfl ?_
   refine aw (ak (js:=[(5,38)]) (by kernel_rfl) fun gd hf=>?_) ?_
   ·skip
    refine ai rfl ?_
    apply aj
    refine az rfl ?_
    refine ay oy aI rfl rfl rfl rfl rfl (iK (y.y1) (30) _ (jo.h1) (by decide)) fun g' v h1 h2=>⟨g',rfl,h1,?_⟩
    exact h2
   refine aw (ak (js:=[(6,39)]) (by kernel_rfl) fun gd hf=>?_) ?_
   ·skip
    refine ai rfl ?_
    apply aj
    refine az rfl ?_
    refine aM _ T.ok rfl ?_
    refine⟨_,rfl,aZ.refl _,?_⟩
    exact congrArg (Value.int .i64) (show _=1+aO y.y1 30 from wr (by omega) (by omega))
   refine aw (ak (js:=[(3,36),(7,40)]) (by kernel_rfl) fun gd hf=>?_) ?_
   ·skip
    refine ai rfl ?_;refine ai rfl ?_
    apply aj
    refine az rfl ?_
    refine aQ T.ok rfl (vs:=[(0,.int .i64 (1+aO y.y0 5)),(2,.int .i64 (1+aO y.y1 30)),(5,.int .i64 (-1))]) (cells:=[.int .i64 (1+aO y.y0 5),.slice none 0 0,.int .i64 (1+aO y.y1 30),.int .i64 0,.slice none 0 0,.int .i64 (-1),.int .i64 0]) rfl rfl rfl rfl [(0,1),(1,1),(2,1),(3,1),(4,1),(5,1),(6,1)] rfl (by kernel_rfl) ?_
    exact⟨_,rfl,aZ.refl _,rfl⟩
   refine aw (ak (js:=[]) (by kernel_rfl) fun gd hf=>?_) ?_
   ·skip
    apply aj
    refine az rfl ?_
    refine aK T.ok rfl (St.start gd) rfl rfl ?_
    intro b g' iS hle
    have ho:=iS.own 0 _ rfl
    exact⟨g',rfl,iS.mS,b,rfl,Nat.le_trans hf.below.size ho.1,ho.2⟩
   exact fJ
  intro g1 aN;refine ai rfl ?_;refine aY fun v9 h9=>?_;apply aj
  replace hs:=hs.dr.call aN;have ah:=(G.bJ _).trans aN.le;obtain⟨cN,aC⟩:=cC ah cN aC
  obtain⟨bs,rfl,uS⟩:=h9
  replace hs:=oh.dr.gJ aN uS;clear oh
  skip
  refine bg rfl (aA T.ok 0 rfl hs rfl rfl rfl rfl rfl rfl rfl rfl rfl ?_);replace hs:=hs;rintro g1 hs ah;obtain⟨cN,aC⟩:=cC ah cN aC
  apply cf;apply aB
  apply bO hs (gE (eJ (fe []))) 7 [(6,48)] (by kernel_rfl) rfl
  ·refine Dm [[],[0]] [.o 0] hs (by kernel_rfl) rfl ?_
   refine aw (ak (js:=[]) (by kernel_rfl) fun gd hf=>?_) ?_
   ·skip
    apply aj
    (refine az rfl ?_;refine df T.ok (q:=1) rfl rfl rfl rfl rfl rfl (by decide) ?_;refine⟨_,rfl,aZ.refl _,?_⟩;exact rfl)
   refine Dm [[2]] [.e aC 1] (St.start _) (by kernel_rfl) rfl ?_
   refine aw (ak (js:=[(3,45)]) (by kernel_rfl) fun gd hf=>?_) ?_
   ·skip
    refine ai rfl ?_
    apply aj
    refine az rfl ?_
    refine aM _ T.ok rfl ?_
    refine⟨_,rfl,aZ.refl _,?_⟩
    exact congrArg (Value.int .i64) (show _=y.y1.tdiv 30 from wr q1.1 q1.2)
   refine aw (ak (js:=[(4,46)]) (by kernel_rfl) fun gd hf=>?_) ?_
   ·skip
    refine ai rfl ?_
    apply aj
    refine az rfl ?_
    refine ay oy aI rfl rfl rfl rfl rfl (iK (y.y1.tdiv 30) (20) _ (q1) (by decide)) fun g' v h1 h2=>⟨g',rfl,h1,?_⟩
    exact h2
   refine aw (ak (js:=[(1,43),(5,47)]) (by kernel_rfl) fun gd hf=>?_) ?_
   ·skip
    refine ai rfl ?_;refine ai rfl ?_
    apply aj
    refine az rfl ?_
    refine aM _ T.ok rfl ?_
    refine⟨_,rfl,aZ.refl _,?_⟩
    exact congrArg (Value.int .i64) (show _=1+aO y.y1 30+aO (y.y1.tdiv 30) 20 from wr (by omega) (by omega))
   exact fJ
  clear hs;intro g1 hs ah;obtain⟨cN,aC⟩:=cC ah cN aC
  refine Wp 1 rfl ?_
  refine bg rfl (aA T.ok 0 rfl hs rfl rfl rfl rfl rfl rfl rfl rfl rfl ?_);replace hs:=hs;rintro g1 hs ah;obtain⟨cN,aC⟩:=cC ah cN aC
  apply cf;apply c_
  refine an rfl rfl (df T.ok (q:=2) rfl rfl rfl rfl rfl rfl (by decide) ?_)
  refine Wm 1 [.z aC] (St.start _) rfl ?_
  refine an rfl rfl (ay oy aI rfl rfl rfl rfl rfl (iK y.y2 6 _ jo.h2 (by decide)) ?_);rintro g1 _ aN rfl;replace hs:=hs.call aN;have ah:=aN.le;obtain⟨cN,aC⟩:=cC ah cN aC
  refine ba rfl ?_;refine cP 1 rfl ?_
  refine an rfl rfl (bj T.ok rfl hs (vs:=[(0,.int .i64 (aO y.y2 6))]) (cells:=[.int .i64 (aO y.y2 6)]) rfl rfl rfl rfl rfl rfl (by decide) (by decide) (by kernel_rfl) rfl ?_)
  clear hs
  rintro bt gl hs ah;obtain⟨cN,aC⟩:=cC ah cN aC
  obtain⟨gz,ik,cS,iT,bT⟩:=hs.cL (α:=Int) (xs:=[aO y.y2 6]) (i:=0) rfl (cO.ints _ [aO y.y2 6])
  have ah:=iT;rw[←ik];replace hs:=cS;clear cS;obtain⟨cN,aC⟩:=cC ah cN aC
  refine Wp 1 rfl ?_
  refine bg rfl (aA T.ok 0 rfl hs rfl rfl rfl rfl rfl rfl rfl rfl rfl ?_);replace hs:=hs;rintro g1 hs ah;obtain⟨cN,aC,bT⟩:=ef ah cN aC bT
  apply cf;apply aB;apply c_
  refine an rfl rfl (df T.ok (q:=2) rfl rfl rfl rfl rfl rfl (by decide) ?_)
  refine Wm 2 [.z aC] (St.start _) rfl ?_
  refine kC (.int .i64 (y.y2.tdiv 6)) (t:=58) rfl (congrArg (Value.int .i64) (wr q2.1 q2.2)) ?_
  refine an rfl rfl (ay oy aI rfl rfl rfl rfl rfl (iK (y.y2.tdiv 6) 2 _ q2 (by decide)) ?_);rintro g1 _ aN rfl;replace hs:=hs.call aN;have ah:=aN.le;obtain⟨cN,aC,bT⟩:=ef ah cN aC bT
  refine ba rfl ?_
  have fy:=G.le.refl g1
  refine lL (fun a' w=> ∃(ta:Option Addr) (tc:Nat) (g5:G),w=g5.w∧g1.le g5∧Rs g5 (.slice ta (fP y).length tc) (fP y)∧St g g5 [.obj bs (.cells [.int .i64 (1+aO y.y0 5),.slice ta (fP y).length tc,.int .i64 (1+aO y.y1 30),.int .i64 (1+aO y.y1 30+aO (y.y1.tdiv 30) 20),.slice none 0 0,.int .i64 (-1),.int .i64 (0)].toArray 65 (0,0)),.row 65 7 (.slice sa k sc) k cells,.obj bf (.cells [.int .i64 2,.int .i64 5,.slice sa k sc,.slice none 0 0].toArray 30 (0,0)),.obj br (.cells [.int .i64 0,.int .i64 0,.slice none 0 0,.slice none 0 0].toArray 30 (0,0))]∧
   Fr 193 [] [(0,.slice a x.length c),(1,.slice a2 zs.length c2),(4,.pointer (some ⟨br,0,none⟩)),(5,.int .i64 (eM x)),(6,.pointer (some ⟨bf,0,none⟩)),(7,.int .i64 k),(8,.pointer (some ⟨bY,0,none⟩)),(9,.pointer (some ⟨bs,0,none⟩))] a') ?_ ?_
  ·by_cases ht:aO (y.y2.tdiv 6) 2=0
   ·have Pm:fP y=[aO y.y2 6]++[aO y.y2 6+1+aO (y.y2.tdiv 12) 3]:=by unfold fP;rw[if_pos ht];rfl
    refine aJ (b:=_) ?_ rfl ?_
    ·simp[ht]
    skip
    apply ed (fj (fe (.f (Fact.rs [aO y.y2 6+1+aO (y.y2.tdiv 12) 3])::(.f (Fact.rs ([aO y.y2 6]++[aO y.y2 6+1+aO (y.y2.tdiv 12) 3]))::[])))) 11 [(10,71)] (by kernel_rfl)
    ·refine Dm [[],[0],[]] [.o 0] hs (by kernel_rfl) rfl ?_
     refine aw (ak (js:=[(2,63)]) (by kernel_rfl) fun gd hf=>?_) ?_
     ·skip
      refine ai rfl ?_
      apply aj
      refine az rfl ?_
      refine aM _ T.ok rfl ?_
      refine⟨_,rfl,aZ.refl _,?_⟩
      exact congrArg (Value.int .i64) (show _=aO y.y2 6+1 from wr (by omega) (by omega))
     refine aw (ak (js:=[]) (by kernel_rfl) fun gd hf=>?_) ?_
     ·skip
      apply aj
      (refine az rfl ?_;refine df T.ok (q:=2) rfl rfl rfl rfl rfl rfl (by decide) ?_;refine⟨_,rfl,aZ.refl _,?_⟩;exact rfl)
     refine Dm [[4]] [.e aC 2] (St.start _) (by kernel_rfl) rfl ?_
     refine aw (ak (js:=[(5,66)]) (by kernel_rfl) fun gd hf=>?_) ?_
     ·skip
      refine ai rfl ?_
      apply aj
      refine az rfl ?_
      refine aM _ T.ok rfl ?_
      refine⟨_,rfl,aZ.refl _,?_⟩
      exact congrArg (Value.int .i64) (show _=y.y2.tdiv 12 from wr q3.1 q3.2)
     refine aw (ak (js:=[(6,67)]) (by kernel_rfl) fun gd hf=>?_) ?_
     ·skip
      refine ai rfl ?_
      apply aj
      refine az rfl ?_
      refine ay oy aI rfl rfl rfl rfl rfl (iK (y.y2.tdiv 12) (3) _ (q3) (by decide)) fun g' v h1 h2=>⟨g',rfl,h1,?_⟩
      exact h2
     refine aw (ak (js:=[(3,64),(7,68)]) (by kernel_rfl) fun gd hf=>?_) ?_
     ·skip
      refine ai rfl ?_;refine ai rfl ?_
      apply aj
      refine az rfl ?_
      refine aM _ T.ok rfl ?_
      refine⟨_,rfl,aZ.refl _,?_⟩
      exact congrArg (Value.int .i64) (show _=aO y.y2 6+1+aO (y.y2.tdiv 12) 3 from wr (by omega) (by omega))
     refine aw (ak (js:=[(8,69)]) (by kernel_rfl) fun gd hf=>?_) ?_
     ·skip
      refine ai rfl ?_
      apply aj
      refine az rfl ?_
      refine bj T.ok rfl (St.start gd) (vs:=[(0,.int .i64 (aO y.y2 6+1+aO (y.y2.tdiv 12) 3))]) (cells:=[.int .i64 (aO y.y2 6+1+aO (y.y2.tdiv 12) 3)]) rfl rfl rfl rfl rfl rfl (by decide) (by decide) (by kernel_rfl) rfl ?_
      intro b2 g2 mK Ht
      obtain⟨g3,sq,Bh,yq,pP⟩:=mK.cL (α:=Int) (xs:=[aO y.y2 6+1+aO (y.y2.tdiv 12) 3]) (i:=0) rfl (cO.ints _ [aO y.y2 6+1+aO (y.y2.tdiv 12) 3])
      exact⟨g3,sq,Bh.mS,pP⟩
     refine aw (ak (js:=[(1,62),(9,70)]) (by kernel_rfl) fun gd hf=>?_) ?_
     ·have eH:=(G.bJ _).trans hf.le
      refine ai rfl ?_;refine aY fun v9 h9=>?_
      apply aj
      obtain⟨ua,uc,rfl⟩:=Rs.isSlice h9
      refine az rfl ?_
      exact nu T.ok rfl rfl rfl (bT.mono eH) h9 (by decide) (by simp) rfl rfl rfl rfl rfl (by show(1+1)*8≤_;decide) (by show 1+1≤_;decide) fun v g' eO hr=>⟨g',rfl,eO,hr⟩
     exact fJ
    intro g1 aN;refine aY fun v10 uH=>?_;apply aj
    replace hs:=hs.dr.call aN;have ah:=(G.bJ _).trans aN.le;obtain⟨fy,cN,aC,bT⟩:=dE ah fy cN aC bT
    have bN:Rs g1 v10 (fP y):=by rw[Pm];exact uH
    clear uH
    obtain⟨ta,tc,rfl⟩:=bN.isSlice
    refine Wp 1 rfl ?_
    refine bg rfl (aA T.ok 0 rfl hs rfl rfl rfl rfl rfl rfl rfl rfl rfl ?_);replace hs:=hs;rintro g6 hs ah;obtain⟨fy,cN,aC,bT,bN⟩:=kN ah fy cN aC bT bN
    apply aD
    exact fun a ha=>⟨ta,tc,g6,rfl,fy,bN,hs,ha.keep (by(repeat (first|exact trivial|refine⟨rfl,?_⟩)))⟩
   ·have Pm:fP y=[aO y.y2 6]:=by unfold fP;rw[if_neg ht]
    refine aS (b:=_) ?_ rfl ?_
    ·simp[ht]
    apply aE
    exact fun a ha=>⟨some ⟨bt,0,none⟩,1,g1,rfl,fy,by rw[Pm];exact bT,by rw[Pm];exact hs,ha.keep (by(repeat (first|exact trivial|refine⟨rfl,?_⟩)))⟩
  clear hs bT
  rintro a' _ ⟨ta,tc,g5,rfl,ah,bT,hs,eI⟩
  obtain⟨fy,cN,aC⟩:=ef ah fy cN aC
  clear fy
  revert a'
  have fy:=G.le.refl g5
  apply cQ
  apply aB
  have DI:gL y (eM x) k=if(k:Int)<eM x-1∧0<aO y.y3 12 then((k:Int)+1)::(if(k:Int)+2+aO (y.y3.tdiv 12) 3<eM x∧aO (y.y3.tdiv 36) 3=0 then [(k:Int)+2+aO (y.y3.tdiv 12) 3]else [])else []:=rfl
  refine lL (fun a' w=> ∃(na:Option Addr) (nc:Nat) (g6:G),w=g6.w∧g5.le g6∧Rs g6 (.slice na (gL y (eM x) k).length nc) (gL y (eM x) k)∧St g g6 [.obj bs (.cells [.int .i64 (1+aO y.y0 5),.slice ta (fP y).length tc,.int .i64 (1+aO y.y1 30),.int .i64 (1+aO y.y1 30+aO (y.y1.tdiv 30) 20),.slice na (gL y (eM x) k).length nc,.int .i64 (-1),.int .i64 (0)].toArray 65 (0,0)),.row 65 7 (.slice sa k sc) k cells,.obj bf (.cells [.int .i64 2,.int .i64 5,.slice sa k sc,.slice none 0 0].toArray 30 (0,0)),.obj br (.cells [.int .i64 0,.int .i64 0,.slice none 0 0,.slice none 0 0].toArray 30 (0,0))]∧
   Fr 193 [] [(0,.slice a x.length c),(1,.slice a2 zs.length c2),(4,.pointer (some ⟨br,0,none⟩)),(5,.int .i64 (eM x)),(6,.pointer (some ⟨bf,0,none⟩)),(7,.int .i64 k),(8,.pointer (some ⟨bY,0,none⟩)),(9,.pointer (some ⟨bs,0,none⟩))] a') ?_ ?_
  ·by_cases d1:(k:Int)<eM x-1
   ·refine cP 5 rfl ?_
    refine cM 77 (b':=true) (by rw[wr (by omega) (by omega)];exact decide_eq_true d1) rfl ?_
    refine an rfl rfl (df T.ok (q:=3) rfl rfl rfl rfl rfl rfl (by decide) ?_)
    refine Wm 1 [.z aC] (St.start _) rfl ?_
    refine an rfl rfl (ay oy aI rfl rfl rfl rfl rfl (iK y.y3 12 _ jo.h3 (by decide)) ?_);rintro g1 _ aN rfl;replace hs:=hs.call aN;have ah:=aN.le;obtain⟨fy,cN,aC,bT⟩:=dE ah fy cN aC bT
    refine ba rfl ?_
    by_cases d2:0<aO y.y3 12
    ·rw[if_pos ⟨d1,d2⟩]at DI
     refine aJ (b:=_) ?_ rfl ?_
     ·simp[d2]
     refine cP 2 rfl ?_
     refine kC (.int .i64 ((k:Int)+1)) (t:=84) rfl (congrArg (Value.int .i64) (wr (by omega) (by omega))) ?_
     refine an rfl rfl (bj T.ok rfl hs (vs:=[(0,.int .i64 ((k:Int)+1))]) (cells:=[.int .i64 ((k:Int)+1)]) rfl rfl rfl rfl rfl rfl (by decide) (by decide) (by kernel_rfl) rfl ?_)
     clear hs
     rintro bn gl hs ah;obtain⟨fy,cN,aC,bT⟩:=dE ah fy cN aC bT
     obtain⟨gz,ik,cS,iT,bN⟩:=hs.cL (α:=Int) (xs:=[(k:Int)+1]) (i:=0) rfl (cO.ints _ [(k:Int)+1])
     have ah:=iT;rw[←ik];replace hs:=cS;clear cS;obtain⟨fy,cN,aC,bT⟩:=dE ah fy cN aC bT
     refine Wp 1 rfl ?_
     refine bg rfl (aA T.ok 0 rfl hs rfl rfl rfl rfl rfl rfl rfl rfl rfl ?_);replace hs:=hs;rintro g1 hs ah;obtain⟨fy,cN,aC,bT,bN⟩:=kN ah fy cN aC bT bN
     apply cf;refine cP 2 rfl ?_
     refine kC (.int .i64 ((k:Int)+2)) (t:=88) rfl (congrArg (Value.int .i64) (wr (by omega) (by omega))) ?_
     refine an rfl rfl (df T.ok (q:=3) rfl rfl rfl rfl rfl rfl (by decide) ?_)
     refine Wm 2 [.z aC] (St.start _) rfl ?_
     refine kC (.int .i64 (y.y3.tdiv 12)) (t:=91) rfl (congrArg (Value.int .i64) (wr q4.1 q4.2)) ?_
     refine an rfl rfl (ay oy aI rfl rfl rfl rfl rfl (iK (y.y3.tdiv 12) 3 _ q4 (by decide)) ?_);rintro g1 _ aN rfl;replace hs:=hs.call aN;have ah:=aN.le;obtain⟨fy,cN,aC,bT,bN⟩:=kN ah fy cN aC bT bN
     refine ba rfl ?_;refine cP 4 rfl ?_
     by_cases d3:(k:Int)+2+aO (y.y3.tdiv 12) 3<eM x
     ·refine cM 97 (b':=true) (by rw[wr (by omega) (by omega)];exact decide_eq_true d3) rfl ?_
      refine an rfl rfl (df T.ok (q:=3) rfl rfl rfl rfl rfl rfl (by decide) ?_)
      refine Wm 2 [.z aC] (St.start _) rfl ?_
      refine kC (.int .i64 (y.y3.tdiv 36)) (t:=100) rfl (congrArg (Value.int .i64) (wr q5.1 q5.2)) ?_
      refine an rfl rfl (ay oy aI rfl rfl rfl rfl rfl (iK (y.y3.tdiv 36) 3 _ q5 (by decide)) ?_);rintro g1 _ aN rfl;replace hs:=hs.call aN;have ah:=aN.le;obtain⟨fy,cN,aC,bT,bN⟩:=kN ah fy cN aC bT bN
      refine ba rfl ?_
      by_cases d4:aO (y.y3.tdiv 36) 3=0
      ·have R5:gL y (eM x) k=[(k:Int)+1]++[(k:Int)+2+aO (y.y3.tdiv 12) 3]:=by rw[DI,if_pos ⟨d3,d4⟩];rfl
       refine aJ (b:=_) ?_ rfl ?_
       ·simp[d4]
       apply ar;refine Wm 3 [.o 0] hs rfl ?_
       refine kC (.int .i64 ((k:Int)+2+aO (y.y3.tdiv 12) 3)) (t:=106) rfl (congrArg (Value.int .i64) (wr (by omega) (by omega))) ?_
       refine an rfl rfl (bj T.ok rfl hs (vs:=[(0,.int .i64 ((k:Int)+2+aO (y.y3.tdiv 12) 3))]) (cells:=[.int .i64 ((k:Int)+2+aO (y.y3.tdiv 12) 3)]) rfl rfl rfl rfl rfl rfl (by decide) (by decide) (by kernel_rfl) rfl ?_)
       clear hs
       rintro W6 gl hs ah;obtain⟨fy,cN,aC,bT,bN⟩:=kN ah fy cN aC bT bN
       obtain⟨gz,ik,cS,iT,dz⟩:=hs.cL (α:=Int) (xs:=[(k:Int)+2+aO (y.y3.tdiv 12) 3]) (i:=0) rfl (cO.ints _ [(k:Int)+2+aO (y.y3.tdiv 12) 3])
       have ah:=iT;rw[←ik];replace hs:=cS;clear cS;obtain⟨fy,cN,aC,bT,bN⟩:=kN ah fy cN aC bT bN
       refine an rfl rfl (nu T.ok rfl rfl rfl bN dz (by decide) (by simp) rfl rfl rfl rfl rfl (by show(1+1)*8≤_;decide) (by show 1+1≤_;decide) ?_)
       rintro v g9 H9 dj
       rw[←R5]at dj
       obtain⟨na,nc,rfl⟩:=dj.isSlice
       replace hs:=hs.call H9
       have ah:=H9.le;obtain⟨fy,cN,aC,bT,bN⟩:=kN ah fy cN aC bT bN
       refine Wp 1 rfl ?_
       refine bg rfl (aA T.ok 0 rfl hs rfl rfl rfl rfl rfl rfl rfl rfl rfl ?_);replace hs:=hs;rintro g6 hs ah;obtain⟨fy,cN,aC,bT,bN,dj⟩:=iu ah fy cN aC bT bN dj
       apply aD
       exact fun a ha=>⟨na,nc,g6,rfl,fy,dj,hs,ha.keep (by(repeat (first|exact trivial|refine⟨rfl,?_⟩)))⟩
      ·have pK:gL y (eM x) k=[(k:Int)+1]:=by rw[DI,if_neg fun h=>d4 h.2]
       refine aS (b:=_) ?_ rfl ?_
       ·simp[d4]
       apply aE
       exact fun a ha=>⟨some ⟨bn,0,none⟩,1,_,rfl,fy,by rw[pK];exact bN,by rw[pK];exact hs,ha.keep (by(repeat (first|exact trivial|refine⟨rfl,?_⟩)))⟩
     ·have pK:gL y (eM x) k=[(k:Int)+1]:=by rw[DI,if_neg fun h=>d3 h.1]
      refine cM 97 (b':=false) (by rw[wr (by omega) (by omega)];exact decide_eq_false d3) rfl ?_
      refine ba rfl ?_
      refine aS rfl rfl ?_
      apply aE
      exact fun a ha=>⟨some ⟨bn,0,none⟩,1,_,rfl,fy,by rw[pK];exact bN,by rw[pK];exact hs,ha.keep (by(repeat (first|exact trivial|refine⟨rfl,?_⟩)))⟩
    ·have Fw:gL y (eM x) k=[]:=by rw[DI,if_neg fun h=>d2 h.2]
     refine aS (b:=_) ?_ rfl ?_
     ·simp;omega
     apply aE
     exact fun a ha=>⟨none,0,_,rfl,fy,by rw[Fw];exact Rs.nil _,by rw[Fw];exact hs,ha.keep (by(repeat (first|exact trivial|refine⟨rfl,?_⟩)))⟩
   ·have Fw:gL y (eM x) k=[]:=by rw[DI,if_neg fun h=>d1 h.1]
    refine cP 5 rfl ?_
    refine cM 77 (b':=false) (by rw[wr (by omega) (by omega)];exact decide_eq_false d1) rfl ?_
    refine ba rfl ?_
    refine aS rfl rfl ?_
    apply aE
    exact fun a ha=>⟨none,0,_,rfl,fy,by rw[Fw];exact Rs.nil _,by rw[Fw];exact hs,ha.keep (by(repeat (first|exact trivial|refine⟨rfl,?_⟩)))⟩
  clear hs
  rintro a' _ ⟨na,nc,g6,rfl,ah,bN,hs,eI⟩
  obtain⟨fy,cN,aC,bT⟩:=dE ah fy cN aC bT
  clear fy
  revert a'
  have fy:=G.le.refl g6
  apply cQ
  apply aB
  refine lL (fun a' w=> ∃(g7:G),w=g7.w∧g6.le g7∧St g g7 [.obj bs (.cells [.int .i64 (1+aO y.y0 5),.slice ta (fP y).length tc,.int .i64 (1+aO y.y1 30),.int .i64 (1+aO y.y1 30+aO (y.y1.tdiv 30) 20),.slice na (gL y (eM x) k).length nc,.int .i64 (if aO y.y4 4=0 then aO (y.y4.tdiv 4) (k+1)else -1),.int .i64 (if aO y.y4 4=0 then 1+aO y.y5 3 else 0)].toArray 65 (0,0)),.row 65 7 (.slice sa k sc) k cells,.obj bf (.cells [.int .i64 2,.int .i64 5,.slice sa k sc,.slice none 0 0].toArray 30 (0,0)),.obj br (.cells [.int .i64 0,.int .i64 0,.slice none 0 0,.slice none 0 0].toArray 30 (0,0))]∧
   Fr 193 [] [(0,.slice a x.length c),(1,.slice a2 zs.length c2),(4,.pointer (some ⟨br,0,none⟩)),(5,.int .i64 (eM x)),(6,.pointer (some ⟨bf,0,none⟩)),(7,.int .i64 k),(8,.pointer (some ⟨bY,0,none⟩)),(9,.pointer (some ⟨bs,0,none⟩))] a') ?_ ?_
  ·apply c_
   refine an rfl rfl (df T.ok (q:=4) rfl rfl rfl rfl rfl rfl (by decide) ?_)
   refine Wm 1 [.z aC] (St.start _) rfl ?_
   refine an rfl rfl (ay oy aI rfl rfl rfl rfl rfl (iK y.y4 4 _ jo.h4 (by decide)) ?_);rintro g1 _ aN rfl;replace hs:=hs.call aN;have ah:=aN.le;obtain⟨fy,cN,aC,bT,bN⟩:=kN ah fy cN aC bT bN
   refine ba rfl ?_
   by_cases d5:aO y.y4 4=0
   ·rw[if_pos d5,if_pos d5]
    refine aJ (b:=_) ?_ rfl ?_
    ·simp[d5]
    apply c_
    refine an rfl rfl (df T.ok (q:=4) rfl rfl rfl rfl rfl rfl (by decide) ?_)
    refine Wm 4 [.z aC] (St.start _) rfl ?_
    refine kC (.int .i64 (y.y4.tdiv 4)) (t:=116) rfl (congrArg (Value.int .i64) (wr q6.1 q6.2)) ?_
    refine kC (.int .i64 ((k:Int)+1)) (t:=118) rfl (congrArg (Value.int .i64) (wr (by omega) (by omega))) ?_
    refine an rfl rfl (ay oy aI rfl rfl rfl rfl rfl (iK (y.y4.tdiv 4) ((k:Int)+1) _ q6 (by omega)) ?_);rintro g1 _ aN rfl;replace hs:=hs.call aN;have ah:=aN.le;obtain⟨fy,cN,aC,bT,bN⟩:=kN ah fy cN aC bT bN
    refine Wp 1 rfl ?_
    refine bg rfl (aA T.ok 0 rfl hs rfl rfl rfl rfl rfl rfl rfl rfl rfl ?_);replace hs:=hs;rintro g1 hs ah;obtain⟨fy,cN,aC,bT,bN⟩:=kN ah fy cN aC bT bN
    apply cf;apply ar
    refine an rfl rfl (df T.ok (q:=5) rfl rfl rfl rfl rfl rfl (by decide) ?_)
    refine Wm 1 [.z aC] (St.start _) rfl ?_
    refine an rfl rfl (ay oy aI rfl rfl rfl rfl rfl (iK y.y5 3 _ jo.h5 (by decide)) ?_);rintro g1 _ aN rfl;replace hs:=hs.call aN;have ah:=aN.le;obtain⟨fy,cN,bT,bN⟩:=dE ah fy cN bT bN
    refine Wp 2 rfl ?_
    rw[wr (n:=1+aO y.y5 3) (by omega) (by omega)]
    refine bg rfl (aA T.ok 0 rfl hs rfl rfl rfl rfl rfl rfl rfl rfl rfl ?_);replace hs:=hs;rintro g1 hs ah;obtain⟨fy,cN,bT,bN⟩:=dE ah fy cN bT bN
    apply aD
    exact fun a ha=>⟨_,rfl,fy,hs,ha.keep (by(repeat (first|exact trivial|refine⟨rfl,?_⟩)))⟩
   ·rw[if_neg d5,if_neg d5]
    refine aS (b:=_) ?_ rfl ?_
    ·simp[d5]
    apply aE
    exact fun a ha=>⟨_,rfl,fy,hs,ha.keep (by(repeat (first|exact trivial|refine⟨rfl,?_⟩)))⟩
  clear hs
  rintro a' _ ⟨g7,rfl,ah,hs,eI⟩
  obtain⟨fy,cN,bT,bN⟩:=dE ah fy cN bT bN
  clear fy
  revert a'
  have eK:=R3.mono cN
  replace ie:=r8.trans cN
  clear aq cN
  apply cQ;apply ar;refine Wm 3 [.o 2,.o 0] hs rfl ?_
  refine an rfl rfl (bj T.ok rfl hs (vs:=[(0,.agg #[.int .i64 (1+aO y.y0 5),.slice ta (fP y).length tc,.int .i64 (1+aO y.y1 30),.int .i64 (1+aO y.y1 30+aO (y.y1.tdiv 30) 20),.slice na (gL y (eM x) k).length nc,.int .i64 (if aO y.y4 4=0 then aO (y.y4.tdiv 4) (k+1)else -1),.int .i64 (if aO y.y4 4=0 then 1+aO y.y5 3 else 0)])]) (cells:=[.int .i64 (1+aO y.y0 5),.slice ta (fP y).length tc,.int .i64 (1+aO y.y1 30),.int .i64 (1+aO y.y1 30+aO (y.y1.tdiv 30) 20),.slice na (gL y (eM x) k).length nc,.int .i64 (if aO y.y4 4=0 then aO (y.y4.tdiv 4) (k+1)else -1),.int .i64 (if aO y.y4 4=0 then 1+aO y.y5 3 else 0)]) rfl rfl rfl rfl rfl rfl (by decide) (by decide) (by kernel_rfl) rfl ?_)
  clear hs
  rintro b2 g4 hs ah;obtain⟨bT,bN⟩:=cC ah bT bN
  replace ie:=ie.trans ah;replace eK:=eK.mono ah
  skip
  refine an rfl rfl (b_ T.ok 2 rfl hs rfl rfl rfl rfl rfl rfl rfl (by decide) rfl (Src.gK (hs.own 0 _ rfl).1).2 (by simp[Value.oneCell']) (by show(k+1)*88≤_;omega) (by unfold maxLen;show k+1≤_;omega) ?_)
  clear hs
  rintro a9 c9 g8 hs ah;obtain⟨bT,bN⟩:=cC ah bT bN
  replace ie:=ie.trans ah;replace eK:=eK.mono ah
  refine Wp 1 rfl ?_
  refine bg rfl (aA T.ok 3 rfl hs rfl rfl rfl rfl rfl rfl rfl rfl rfl ?_);replace hs:=hs;rintro g1 hs ah;obtain⟨bT,bN⟩:=cC ah bT bN
  replace ie:=ie.trans ah;replace eK:=eK.mono ah
  have aU:St g _ [.row 65 7 (.slice a9 (k+1) c9) (k+1) (cells++[.int .i64 (1+aO y.y0 5),.slice ta (fP y).length tc,.int .i64 (1+aO y.y1 30),.int .i64 (1+aO y.y1 30+aO (y.y1.tdiv 30) 20),.slice na (gL y (eM x) k).length nc,.int .i64 (if aO y.y4 4=0 then aO (y.y4.tdiv 4) (k+1)else -1),.int .i64 (if aO y.y4 4=0 then 1+aO y.y5 3 else 0)]),.obj bf (.cells [.int .i64 2,.int .i64 5,.slice a9 (k+1) c9,.slice none 0 0].toArray 30 (0,0)),.obj br (.cells [.int .i64 0,.int .i64 0,.slice none 0 0,.slice none 0 0].toArray 30 (0,0))]:=hs.re [2,3,4] (by decide) rfl
  apply aD;apply bU;apply au;apply ar;refine Wp 3 rfl ?_;apply aD
  refine fun a ha=>⟨eM x-(k+1),by omega,k+1,_,_,_,rfl,aU,ie,by omega,rfl,?_,ha.keep ⟨rfl,rfl,rfl,rfl,rfl,kI rfl (by rw[wr (by omega) (by omega)];omega),trivial⟩⟩
  rw[dm]
  exact cO.app (α:=Step) (ys:=[oM y (eM x) k]) ⟨_,[],(List.append_nil _).symm,(show pB _ _ _ from⟨_,_,_,_,_,_,rfl,bT,bN⟩),rfl⟩ eK
 ·refine aS (b:=decide ((k:Int)<(eM x:Int))) (by simp;omega) rfl ?_
  obtain rfl:k=eM x:=by omega
  apply bE;apply bK;apply bK;apply dc;apply au;apply aB;refine aX rfl ?_;apply aG
  have aT:=xx.mono ie
  have OM:=eK;have Fx:=aT;have VK:=ie
  have aU:St g g3 [.row 141 3 (.slice none (gO (eM x) zs 0).length 0) (gO (eM x) zs 0).length (j7 (gO (eM x) zs 0)),.row 65 7 (.slice sa (eM x) sc) (eM x) cells,.obj bf (.cells [.int .i64 2,.int .i64 5,.slice sa (eM x) sc,.slice none (gO (eM x) zs 0).length 0].toArray 30 (0,0)),.obj br (.cells [.int .i64 0,.int .i64 0,.slice none 0 0,.slice none 0 0].toArray 30 (0,0))]:=hs.gI 141 3 none
  replace hs:=aU
  clear aU
  refine bS (fun m a' w=> ∃(k:Nat) (wa:Option Addr) (wc:Nat) (g4:G),w=g4.w∧St g g4 [.row 141 3 (.slice wa (gO (eM x) zs k).length wc) (gO (eM x) zs k).length (j7 (gO (eM x) zs k)),.row 65 7 (.slice sa (eM x) sc) (eM x) cells,.obj bf (.cells [.int .i64 2,.int .i64 5,.slice sa (eM x) sc,.slice wa (gO (eM x) zs k).length wc].toArray 30 (0,0)),.obj br (.cells [.int .i64 0,.int .i64 0,.slice none 0 0,.slice none 0 0].toArray 30 (0,0))]∧G.le g3 g4∧k≤min zs.length 4∧m=min zs.length 4-k∧
    Fr 193 [] [(1,.slice a2 zs.length c2),(4,.pointer (some ⟨br,0,none⟩)),(5,.int .i64 (eM x)),(6,.pointer (some ⟨bf,0,none⟩)),(12,.int .i64 k)] a') (min zs.length 4)
   (fun a' ha=>⟨0,none,0,g3,rfl,hs,G.le.refl _,Nat.zero_le _,rfl,ha.keep (by(repeat (first|exact trivial|refine⟨rfl,?_⟩)))⟩) ?_
  clear hs eK aH aT aq
  rintro m a' _ ⟨k,wa,wc,g4,rfl,hs,fy,hk,rfl,eI⟩
  have aT:=Fx.mono fy
  have RW:=uy (eM x) zs k (by omega)
  revert a'
  by_cases bh:k<min zs.length 4
  ·apply cQ;apply aB;refine cP 5 rfl ?_
   refine cM 136 (b':=true) (by simp;omega) rfl ?_
   refine ba rfl ?_
   refine aJ (b:=_) ?_ rfl ?_
   ·simp;omega
   have R6:k<zs.length:=by omega
   have dm:=rD (eM x) zs k R6
   have jo:=hz _ (List.getElem_mem R6)
   have ic:dA zs (k:Int)=some zs[k]:=by simp[dA,R6]
   generalize zs[k]=z at*
   generalize gO (eM x) zs k=wl at*
   have p0:=dq (c:=z.z0) (n:=eM x) (by omega)
   have p1:=dq (c:=z.z1) (n:=eM x) (by omega)
   have p2:=dq (c:=z.z2) (n:=150) (by omega)
   have KE:(eM x:Int)≠0:=by omega
   have Kg:vW (eM x) z=⟨aO z.z0 (eM x),aO z.z1 (eM x),10+aO z.z2 150⟩:=rfl
   generalize hw:vW (eM x) z=w0 at*
   apply aE;apply au;apply aB;apply aG;apply aB
   have oh:=hs
   apply ed (eJ (.f (R2 z)::(.f (jF (z.z0))::(gE (fe (.f (R2 z)::(.f (jF (z.z1))::(gE (fe (.f (R2 z)::(.f (jF (z.z2))::(gE (.f (B_ g4.dr.w.heap.size [.int .i64 0,.int .i64 0,.int .i64 0] 141)::[]))))))))))))) 23 [(21,163),(22,13)] (by kernel_rfl)
   ·refine Dx [[],[]] (by kernel_rfl) rfl ?_
    refine aw (ak (js:=[(0,142),(1,143)]) (by kernel_rfl) fun gd hf=>?_) ?_
    ·have eH:=(G.bJ _).trans hf.le
     refine ai rfl ?_;refine ai rfl ?_
     apply aj
     refine az rfl ?_
     refine aW T.ok rfl (aT.mono eH) (y:=z) ic rfl rfl rfl rfl rfl rfl ?_
     intro b p ys aL eK
     exact⟨_,rfl,aZ.refl _,b,p,rfl,eK▸aL⟩
    refine aw (ak (js:=[(2,144)]) (by kernel_rfl) fun gd hf=>?_) ?_
    ·skip
     refine aY fun v2 h2=>?_
     apply aj
     obtain⟨b,p,rfl,aL⟩:=h2
     refine az rfl ?_
     refine df T.ok (q:=0) rfl rfl rfl rfl rfl rfl (by decide) ?_
     exact⟨_,rfl,aZ.refl _,b,_,rfl,aL.sub 0 rfl⟩
    refine aw (ak (js:=[(3,145)]) (by kernel_rfl) fun gd hf=>?_) ?_
    ·skip
     refine aY fun v3 h3=>?_
     apply aj
     obtain⟨b,p,rfl,aL⟩:=h3
     refine az rfl ?_
     refine cp T.ok 0 rfl aL rfl rfl ?_
     refine⟨_,rfl,aZ.refl _,?_⟩
     exact rfl
    refine Dx [[]] (by kernel_rfl) rfl ?_
    refine aw (ak (js:=[(4,146),(5,147)]) (by kernel_rfl) fun gd hf=>?_) ?_
    ·skip
     refine ai rfl ?_;refine ai rfl ?_
     apply aj
     refine az rfl ?_
     refine ay oy aI rfl rfl rfl rfl rfl (iK z.z0 (eM x) _ jo.h0 KE) fun g' v h1 h2=>⟨g',rfl,h1,?_⟩
     exact h2
    refine Dx [[],[]] (by kernel_rfl) rfl ?_
    refine aw (ak (js:=[(7,149),(8,150)]) (by kernel_rfl) fun gd hf=>?_) ?_
    ·have eH:=(G.bJ _).trans hf.le
     refine ai rfl ?_;refine ai rfl ?_
     apply aj
     refine az rfl ?_
     refine aW T.ok rfl (aT.mono eH) (y:=z) ic rfl rfl rfl rfl rfl rfl ?_
     intro b p ys aL eK
     exact⟨_,rfl,aZ.refl _,b,p,rfl,eK▸aL⟩
    refine aw (ak (js:=[(9,151)]) (by kernel_rfl) fun gd hf=>?_) ?_
    ·skip
     refine aY fun v9 h9=>?_
     apply aj
     obtain⟨b,p,rfl,aL⟩:=h9
     refine az rfl ?_
     refine df T.ok (q:=1) rfl rfl rfl rfl rfl rfl (by decide) ?_
     exact⟨_,rfl,aZ.refl _,b,_,rfl,aL.sub 1 rfl⟩
    refine aw (ak (js:=[(10,152)]) (by kernel_rfl) fun gd hf=>?_) ?_
    ·skip
     refine aY fun v10 uH=>?_
     apply aj
     obtain⟨b,p,rfl,aL⟩:=uH
     refine az rfl ?_
     refine cp T.ok 0 rfl aL rfl rfl ?_
     refine⟨_,rfl,aZ.refl _,?_⟩
     exact rfl
    refine Dx [[]] (by kernel_rfl) rfl ?_
    refine aw (ak (js:=[(11,153),(12,154)]) (by kernel_rfl) fun gd hf=>?_) ?_
    ·skip
     refine ai rfl ?_;refine ai rfl ?_
     apply aj
     refine az rfl ?_
     refine ay oy aI rfl rfl rfl rfl rfl (iK z.z1 (eM x) _ jo.h1 KE) fun g' v h1 h2=>⟨g',rfl,h1,?_⟩
     exact h2
    refine Dx [[],[]] (by kernel_rfl) rfl ?_
    refine aw (ak (js:=[(14,156),(15,157)]) (by kernel_rfl) fun gd hf=>?_) ?_
    ·have eH:=(G.bJ _).trans hf.le
     refine ai rfl ?_;refine ai rfl ?_
     apply aj
     refine az rfl ?_
     refine aW T.ok rfl (aT.mono eH) (y:=z) ic rfl rfl rfl rfl rfl rfl ?_
     intro b p ys aL eK
     exact⟨_,rfl,aZ.refl _,b,p,rfl,eK▸aL⟩
    refine aw (ak (js:=[(16,158)]) (by kernel_rfl) fun gd hf=>?_) ?_
    ·skip
     refine aY fun S' Il=>?_
     apply aj
     obtain⟨b,p,rfl,aL⟩:=Il
     refine az rfl ?_
     refine df T.ok (q:=2) rfl rfl rfl rfl rfl rfl (by decide) ?_
     exact⟨_,rfl,aZ.refl _,b,_,rfl,aL.sub 2 rfl⟩
    refine aw (ak (js:=[(17,159)]) (by kernel_rfl) fun gd hf=>?_) ?_
    ·skip
     refine aY fun W7 O7=>?_
     apply aj
     obtain⟨b,p,rfl,aL⟩:=O7
     refine az rfl ?_
     refine cp T.ok 0 rfl aL rfl rfl ?_
     refine⟨_,rfl,aZ.refl _,?_⟩
     exact rfl
    refine aw (ak (js:=[(18,160)]) (by kernel_rfl) fun gd hf=>?_) ?_
    ·skip
     refine ai rfl ?_
     apply aj
     refine az rfl ?_
     refine ay oy aI rfl rfl rfl rfl rfl (iK (z.z2) (150) _ (jo.h2) (by decide)) fun g' v h1 h2=>⟨g',rfl,h1,?_⟩
     exact h2
    refine aw (ak (js:=[(19,161)]) (by kernel_rfl) fun gd hf=>?_) ?_
    ·skip
     refine ai rfl ?_
     apply aj
     refine az rfl ?_
     refine aM _ T.ok rfl ?_
     refine⟨_,rfl,aZ.refl _,?_⟩
     exact congrArg (Value.int .i64) (show _=10+aO z.z2 150 from wr (by omega) (by omega))
    refine aw (ak (js:=[(6,148),(13,155),(20,162)]) (by kernel_rfl) fun gd hf=>?_) ?_
    ·skip
     refine ai rfl ?_;refine ai rfl ?_;refine ai rfl ?_
     apply aj
     refine az rfl ?_
     refine aQ T.ok rfl (vs:=[(0,.int .i64 (aO z.z0 (eM x))),(1,.int .i64 (aO z.z1 (eM x))),(2,.int .i64 (10+aO z.z2 150))]) (cells:=[.int .i64 (aO z.z0 (eM x)),.int .i64 (aO z.z1 (eM x)),.int .i64 (10+aO z.z2 150)]) rfl rfl rfl rfl [(0,1),(1,1),(2,1)] rfl (by kernel_rfl) ?_
     exact⟨_,rfl,aZ.refl _,rfl⟩
    refine aw (ak (js:=[]) (by kernel_rfl) fun gd hf=>?_) ?_
    ·skip
     apply aj
     refine az rfl ?_
     refine aK T.ok rfl (St.start gd) rfl rfl ?_
     intro b g' iS hle
     have ho:=iS.own 0 _ rfl
     exact⟨g',rfl,iS.mS,b,rfl,Nat.le_trans hf.below.size ho.1,ho.2⟩
    exact fJ
   intro g1 aN;refine ai rfl ?_;refine aY fun v22 VL=>?_;apply aj
   replace hs:=hs.dr.call aN;have ah:=(G.bJ _).trans aN.le;replace fy:=G.le.trans fy ah
   obtain⟨bw,rfl,uS⟩:=VL
   replace hs:=oh.dr.gJ aN uS;clear oh
   skip
   refine bg rfl (aA T.ok 0 rfl hs rfl rfl rfl rfl rfl rfl rfl rfl rfl ?_);replace hs:=hs;rintro g1 hs ah;replace fy:=G.le.trans fy ah
   apply cf;refine nK [.o 3] hs rfl ?_;apply aB
   have ON:ux (eM x) wl z=if w0.src≠w0.dst∧follows wl w0=true then wl++[w0]else wl:=by unfold ux;rw[hw]
   rw[ON]at dm
   clear ON
   have gn:w0.src=aO z.z0 (eM x):=by rw[Kg]
   have R7:w0.dst=aO z.z1 (eM x):=by rw[Kg]
   have R8:w0.dF=10+aO z.z2 150:=by rw[Kg]
   rw[←gn,←R7,←R8]at hs
   replace hs:St g g1 [.obj bw (.cells [.int .i64 w0.src,.int .i64 w0.dst,.int .i64 w0.dF].toArray 141 (0,0)),.row 141 3 (.slice wa (wl).length wc) (wl).length (j7 (wl)),.row 65 7 (.slice sa (eM x) sc) (eM x) cells,.obj bf (.cells [.int .i64 2,.int .i64 5,.slice sa (eM x) sc,.slice wa (wl).length wc].toArray 30 (0,0)),.obj br (.cells [.int .i64 0,.int .i64 0,.slice none 0 0,.slice none 0 0].toArray 30 (0,0))]:=hs
   cases e1:(w0.src !=w0.dst)with
   |false=>
    have Pn: ¬(w0.src≠w0.dst):=by simpa using e1
    rw[if_neg fun h=>Pn h.1]at dm
    apply bO hs (fj (fj (eJ (fe [])))) 19 [(18,185)] (by kernel_rfl) rfl
    ·refine Dm [[],[0],[],[2]] [.o 0,.o 0] hs (by kernel_rfl) rfl ?_
     refine aw (ak (js:=[(1,168),(3,170)]) (by kernel_rfl) fun gd hf=>?_) ?_
     ·skip
      refine ai rfl ?_;refine ai rfl ?_
      apply aj
      refine az rfl ?_
      refine aM _ T.ok rfl ?_
      exact⟨_,rfl,aZ.refl _,congrArg Value.bool e1⟩
     exact Dy [[4],[5],[6,5],[7,5,5],[8],[9,8],[8],[11,8],[10,12,8],[13,8],[8],[14,15,8,8],[8,16,5],[5,17]] (by kernel_rfl) rfl
    clear hs;intro g1 hs ah;replace fy:=G.le.trans fy ah
    apply cf
    refine aS rfl rfl ?_
    apply aE;apply bU;apply au;apply ar;refine Wp 3 rfl ?_;apply aD
    refine fun a ha=>⟨min zs.length 4-(k+1),by omega,k+1,wa,wc,_,rfl,?_,fy,by omega,rfl,ha.keep ⟨rfl,rfl,rfl,rfl,kI rfl (by rw[wr (by omega) (by omega)];omega),trivial⟩⟩
    rw[dm];exact hs.drop 0
   |true=>
    have Pn:w0.src≠w0.dst:=by simpa using e1
    cases e2:((wl.length:Int)==0)with
    |true=>
     have MR:(wl.length:Int)=0:=by simpa using e2
     have C2:wl=[]:=List.eq_nil_of_length_eq_zero (by omega)
     rw[if_pos ⟨Pn,by rw[C2];rfl⟩]at dm
     apply bO hs (fj (fj (eJ (fe [])))) 19 [(18,185)] (by kernel_rfl) rfl
     ·refine Dm [[],[0],[],[2]] [.o 0,.o 0] hs (by kernel_rfl) rfl ?_
      refine aw (ak (js:=[(1,168),(3,170)]) (by kernel_rfl) fun gd hf=>?_) ?_
      ·skip
       refine ai rfl ?_;refine ai rfl ?_
       apply aj
       refine az rfl ?_
       refine aM _ T.ok rfl ?_
       exact⟨_,rfl,aZ.refl _,congrArg Value.bool e1⟩
      refine Dx [[4],[5]] (by kernel_rfl) rfl ?_
      refine aw (ak (js:=[(6,173),(5,172)]) (by kernel_rfl) fun gd hf=>?_) ?_
      ·skip
       refine ai rfl ?_;refine ai rfl ?_
       apply aj
       refine az rfl ?_
       refine aM _ T.ok rfl ?_
       exact⟨_,rfl,aZ.refl _,congrArg Value.bool e2⟩
      exact Dy [[7,5,5],[8],[9,8],[8],[11,8],[10,12,8],[13,8],[8],[14,15,8,8],[8,16,5],[5,17]] (by kernel_rfl) rfl
     clear hs;intro g1 hs ah;replace fy:=G.le.trans fy ah
     apply cf
     refine aJ rfl rfl ?_
     apply ar;refine Wm 3 [.o 3,.o 0] hs rfl ?_
     refine an rfl rfl (bj T.ok rfl hs (vs:=[(0,.agg (kO w0).toArray)]) (cells:=kO w0) rfl rfl rfl rfl rfl rfl (by decide) (by decide) (by kernel_rfl) rfl ?_)
     clear hs
     rintro b2 g9 hs ah;replace fy:=G.le.trans fy ah
     skip
     refine an rfl rfl (b_ T.ok 2 rfl hs rfl rfl rfl rfl rfl rfl rfl (by decide) rfl (Src.gK (hs.own 0 _ rfl).1).2 (by simp[kO,Value.oneCell']) (by show(wl.length+1)*24≤_;omega) (by unfold maxLen;show wl.length+1≤_;omega) ?_)
     clear hs
     rintro a9 c9 g8 hs ah;replace fy:=G.le.trans fy ah
     refine Wp 1 rfl ?_
     refine bg rfl (aA T.ok 4 rfl hs rfl rfl rfl rfl rfl rfl rfl rfl rfl ?_);replace hs:=hs;rintro g1 hs ah;replace fy:=G.le.trans fy ah
     apply aD;apply bU;apply au;apply ar;refine Wp 3 rfl ?_;apply aD
     refine fun a ha=>⟨min zs.length 4-(k+1),by omega,k+1,a9,c9,_,rfl,?_,fy,by omega,rfl,ha.keep ⟨rfl,rfl,rfl,rfl,kI rfl (by rw[wr (by omega) (by omega)];omega),trivial⟩⟩
     have aU:=hs.re [2,3,4,5] (by decide) (L':=[.row 141 3 (.slice a9 (wl++[w0]).length c9) (wl++[w0]).length (j7 (wl++[w0])),.row 65 7 (.slice sa (eM x) sc) (eM x) cells,.obj bf (.cells [.int .i64 2,.int .i64 5,.slice sa (eM x) sc,.slice a9 (wl++[w0]).length c9].toArray 30 (0,0)),.obj br (.cells [.int .i64 0,.int .i64 0,.slice none 0 0,.slice none 0 0].toArray 30 (0,0))]) (by rw[qn,List.length_append];rfl)
     rw[dm];exact aU
    |false=>
     have C2:wl.length≠0:=by
      intro h;rw[h]at e2;cases e2
     obtain⟨lw,Tq⟩: ∃v,wl.getLast? =some v:=by
      cases hg:wl.getLast? with
      |none=>rw[List.getLast?_eq_none_iff]at hg;rw[hg]at C2;exact absurd rfl C2
      |some v=>exact⟨v,rfl⟩
     have xR:follows wl w0=kW lw w0:=by unfold follows;rw[Tq]
     have Iy:=CU Tq
     obtain⟨wb,wp,rfl⟩:=Fu (hs.own 1 _ rfl).1 C2
     have C1:((wl.length:Int)-1).toNat=wl.length-1:=by omega
     rw[←C1]at Iy
     rw[xR]at dm
     cases e3:kW lw w0 with
     |true=>
      rw[if_pos ⟨Pn,e3⟩]at dm
      apply bO hs (fj (fj (eJ (fe [])))) 19 [(18,185)] (by kernel_rfl) rfl
      ·refine Dm [[],[0],[],[2]] [.o 0,.o 0] hs (by kernel_rfl) rfl ?_
       refine aw (ak (js:=[(1,168),(3,170)]) (by kernel_rfl) fun gd hf=>?_) ?_
       ·skip
        refine ai rfl ?_;refine ai rfl ?_
        apply aj
        refine az rfl ?_
        refine aM _ T.ok rfl ?_
        exact⟨_,rfl,aZ.refl _,congrArg Value.bool e1⟩
       refine Dx [[4],[5]] (by kernel_rfl) rfl ?_
       refine aw (ak (js:=[(6,173),(5,172)]) (by kernel_rfl) fun gd hf=>?_) ?_
       ·skip
        refine ai rfl ?_;refine ai rfl ?_
        apply aj
        refine az rfl ?_
        refine aM _ T.ok rfl ?_
        exact⟨_,rfl,aZ.refl _,congrArg Value.bool e2⟩
       refine Dm [[7,5,5],[8],[9,8],[8]] [.o 3] hs (by kernel_rfl) rfl ?_
       refine aw (ak (js:=[(11,178),(8,175)]) (by kernel_rfl) fun gd hf=>?_) ?_
       ·skip
        refine ai rfl ?_;refine ai rfl ?_
        apply aj
        refine az rfl ?_
        refine aM _ T.ok rfl ?_
        refine⟨_,rfl,aZ.refl _,?_⟩
        exact congrArg (Value.int .i64) (show _=(wl.length:Int)-1 from wr (by omega) (by omega))
       refine aw (ak (js:=[(10,177),(12,179),(8,175)]) (by kernel_rfl) fun gd hf=>?_) ?_
       ·have ib:=hs.dr.call hf
        refine ai rfl ?_;refine ai rfl ?_;refine ai rfl ?_
        apply aj
        refine az rfl ?_
        refine iy T.ok (n:=(wl.length:Int)-1) rfl (ib.own 1 _ rfl).1 (by omega) (by omega) rfl rfl rfl rfl rfl rfl ?_
        rintro b p hh;obtain⟨rfl,rfl⟩:wb=b∧wp=p:=by simpa using hh
        exact⟨_,rfl,aZ.refl _,rfl⟩
       refine aw (ak (js:=[(13,180),(8,175)]) (by kernel_rfl) fun gd hf=>?_) ?_
       ·have ib:=hs.dr.call hf
        refine ai rfl ?_;refine ai rfl ?_
        apply aj
        refine az rfl ?_
        refine iP T.ok (((wl.length:Int)-1).toNat*3) rfl (ib.own 1 _ rfl).1 rfl (v:=.agg (kO lw).toArray) Iy ?_
        exact⟨_,rfl,aZ.refl _,rfl⟩
       refine Dm [[8]] [.o 0] hs (by kernel_rfl) rfl ?_
       refine aw (ak (js:=[(14,181),(15,182),(8,175),(8,175)]) (by kernel_rfl) fun gd hf=>?_) ?_
       ·skip
        refine ai rfl ?_;refine ai rfl ?_;refine ai rfl ?_;refine ai rfl ?_
        apply aj
        refine az rfl ?_
        refine ay F3 aI rfl rfl rfl rfl rfl (qk lw w0 _) fun g' v h1 h2=>⟨g',rfl,h1,?_⟩
        rw[h2];exact congrArg Value.bool e3
       exact Dy [[8,16,5],[5,17]] (by kernel_rfl) rfl
      clear hs;intro g1 hs ah;replace fy:=G.le.trans fy ah
      apply cf
      refine aJ rfl rfl ?_
      apply ar;refine Wm 3 [.o 3,.o 0] hs rfl ?_
      refine an rfl rfl (bj T.ok rfl hs (vs:=[(0,.agg (kO w0).toArray)]) (cells:=kO w0) rfl rfl rfl rfl rfl rfl (by decide) (by decide) (by kernel_rfl) rfl ?_)
      clear hs
      rintro b2 g9 hs ah;replace fy:=G.le.trans fy ah
      skip
      refine an rfl rfl (b_ T.ok 2 rfl hs rfl rfl rfl rfl rfl rfl rfl (by decide) rfl (Src.gK (hs.own 0 _ rfl).1).2 (by simp[kO,Value.oneCell']) (by show(wl.length+1)*24≤_;omega) (by unfold maxLen;show wl.length+1≤_;omega) ?_)
      clear hs
      rintro a9 c9 g8 hs ah;replace fy:=G.le.trans fy ah
      refine Wp 1 rfl ?_
      refine bg rfl (aA T.ok 4 rfl hs rfl rfl rfl rfl rfl rfl rfl rfl rfl ?_);replace hs:=hs;rintro g1 hs ah;replace fy:=G.le.trans fy ah
      apply aD;apply bU;apply au;apply ar;refine Wp 3 rfl ?_;apply aD
      refine fun a ha=>⟨min zs.length 4-(k+1),by omega,k+1,a9,c9,_,rfl,?_,fy,by omega,rfl,ha.keep ⟨rfl,rfl,rfl,rfl,kI rfl (by rw[wr (by omega) (by omega)];omega),trivial⟩⟩
      have aU:=hs.re [2,3,4,5] (by decide) (L':=[.row 141 3 (.slice a9 (wl++[w0]).length c9) (wl++[w0]).length (j7 (wl++[w0])),.row 65 7 (.slice sa (eM x) sc) (eM x) cells,.obj bf (.cells [.int .i64 2,.int .i64 5,.slice sa (eM x) sc,.slice a9 (wl++[w0]).length c9].toArray 30 (0,0)),.obj br (.cells [.int .i64 0,.int .i64 0,.slice none 0 0,.slice none 0 0].toArray 30 (0,0))]) (by rw[qn,List.length_append];rfl)
      rw[dm];exact aU
     |false=>
      rw[if_neg fun h=>by rw[e3]at h;cases h.2]at dm
      apply bO hs (fj (fj (eJ (fe [])))) 19 [(18,185)] (by kernel_rfl) rfl
      ·refine Dm [[],[0],[],[2]] [.o 0,.o 0] hs (by kernel_rfl) rfl ?_
       refine aw (ak (js:=[(1,168),(3,170)]) (by kernel_rfl) fun gd hf=>?_) ?_
       ·skip
        refine ai rfl ?_;refine ai rfl ?_
        apply aj
        refine az rfl ?_
        refine aM _ T.ok rfl ?_
        exact⟨_,rfl,aZ.refl _,congrArg Value.bool e1⟩
       refine Dx [[4],[5]] (by kernel_rfl) rfl ?_
       refine aw (ak (js:=[(6,173),(5,172)]) (by kernel_rfl) fun gd hf=>?_) ?_
       ·skip
        refine ai rfl ?_;refine ai rfl ?_
        apply aj
        refine az rfl ?_
        refine aM _ T.ok rfl ?_
        exact⟨_,rfl,aZ.refl _,congrArg Value.bool e2⟩
       refine Dm [[7,5,5],[8],[9,8],[8]] [.o 3] hs (by kernel_rfl) rfl ?_
       refine aw (ak (js:=[(11,178),(8,175)]) (by kernel_rfl) fun gd hf=>?_) ?_
       ·skip
        refine ai rfl ?_;refine ai rfl ?_
        apply aj
        refine az rfl ?_
        refine aM _ T.ok rfl ?_
        refine⟨_,rfl,aZ.refl _,?_⟩
        exact congrArg (Value.int .i64) (show _=(wl.length:Int)-1 from wr (by omega) (by omega))
       refine aw (ak (js:=[(10,177),(12,179),(8,175)]) (by kernel_rfl) fun gd hf=>?_) ?_
       ·have ib:=hs.dr.call hf
        refine ai rfl ?_;refine ai rfl ?_;refine ai rfl ?_
        apply aj
        refine az rfl ?_
        refine iy T.ok (n:=(wl.length:Int)-1) rfl (ib.own 1 _ rfl).1 (by omega) (by omega) rfl rfl rfl rfl rfl rfl ?_
        rintro b p hh;obtain⟨rfl,rfl⟩:wb=b∧wp=p:=by simpa using hh
        exact⟨_,rfl,aZ.refl _,rfl⟩
       refine aw (ak (js:=[(13,180),(8,175)]) (by kernel_rfl) fun gd hf=>?_) ?_
       ·have ib:=hs.dr.call hf
        refine ai rfl ?_;refine ai rfl ?_
        apply aj
        refine az rfl ?_
        refine iP T.ok (((wl.length:Int)-1).toNat*3) rfl (ib.own 1 _ rfl).1 rfl (v:=.agg (kO lw).toArray) Iy ?_
        exact⟨_,rfl,aZ.refl _,rfl⟩
       refine Dm [[8]] [.o 0] hs (by kernel_rfl) rfl ?_
       refine aw (ak (js:=[(14,181),(15,182),(8,175),(8,175)]) (by kernel_rfl) fun gd hf=>?_) ?_
       ·skip
        refine ai rfl ?_;refine ai rfl ?_;refine ai rfl ?_;refine ai rfl ?_
        apply aj
        refine az rfl ?_
        refine ay F3 aI rfl rfl rfl rfl rfl (qk lw w0 _) fun g' v h1 h2=>⟨g',rfl,h1,?_⟩
        rw[h2];exact congrArg Value.bool e3
       exact Dy [[8,16,5],[5,17]] (by kernel_rfl) rfl
      clear hs;intro g1 hs ah;replace fy:=G.le.trans fy ah
      apply cf
      refine aS rfl rfl ?_
      apply aE;apply bU;apply au;apply ar;refine Wp 3 rfl ?_;apply aD
      refine fun a ha=>⟨min zs.length 4-(k+1),by omega,k+1,some ⟨wb,wp,none⟩,wc,_,rfl,?_,fy,by omega,rfl,ha.keep ⟨rfl,rfl,rfl,rfl,kI rfl (by rw[wr (by omega) (by omega)];omega),trivial⟩⟩
      rw[dm];exact hs.drop 0
  ·obtain rfl:k=min zs.length 4:=by omega
   apply cQ;apply aB;refine cP 5 rfl ?_
   by_cases W8:min zs.length 4<zs.length
   ·refine cM 136 (b':=true) (by simp;omega) rfl ?_
    refine ba rfl ?_
    refine aS (b:=_) ?_ rfl ?_
    ·simp;omega
    obtain⟨gx,R9,mK,R_,dj⟩:=hs.cL (α:=cj) (xs:=gO (eM x) zs (min zs.length 4)) (i:=0) rfl (cO.win _ _)
    obtain⟨gy,OO,aU,Po,pk⟩:=mK.cL (α:=Step) (xs:=j6 x (eM x)) (i:=0) rfl (OM.mono (fy.trans R_))
    replace dj:=dj.mono Po
    rw[←R9,←OO]
    replace hs:=aU
    clear mK aU
    apply bE;apply bK;apply bK;apply dc;apply au;refine dx 1 [.o 0] hs rfl ?_
    refine bg rfl (aA T.ok 1 rfl hs rfl rfl rfl rfl rfl rfl rfl rfl rfl ?_);replace hs:=hs;rintro g1 hs ah;obtain⟨dj,pk⟩:=cC ah dj pk
    apply cf
    refine aF ?_
    skip
    exact kJ T.ok 1 rfl hs rfl rfl rfl (hs.ret ⟨_,_,_,_,_,_,rfl,pk,dj⟩)
   ·refine cM 136 (b':=false) (by simp;omega) rfl ?_
    refine ba rfl ?_
    refine aS rfl rfl ?_
    obtain⟨gx,R9,mK,R_,dj⟩:=hs.cL (α:=cj) (xs:=gO (eM x) zs (min zs.length 4)) (i:=0) rfl (cO.win _ _)
    obtain⟨gy,OO,aU,Po,pk⟩:=mK.cL (α:=Step) (xs:=j6 x (eM x)) (i:=0) rfl (OM.mono (fy.trans R_))
    replace dj:=dj.mono Po
    rw[←R9,←OO]
    replace hs:=aU
    clear mK aU
    apply bE;apply bK;apply bK;apply dc;apply au;refine dx 1 [.o 0] hs rfl ?_
    refine bg rfl (aA T.ok 1 rfl hs rfl rfl rfl rfl rfl rfl rfl rfl rfl ?_);replace hs:=hs;rintro g1 hs ah;obtain⟨dj,pk⟩:=cC ah dj pk
    apply cf
    refine aF ?_
    skip
    exact kJ T.ok 1 rfl hs rfl rfl rfl (hs.ret ⟨_,_,_,_,_,_,rfl,pk,dj⟩)
end Go.Proofs.YtebobfdheanknaaGreatDoor
namespace Go.Proofs.YtebobfdheanknaaGreatDoor
open Go Go.K
set_option maxRecDepth 10000
attribute [local irreducible] W WL cT cn bX bA bB bD cW cG
set_option maxHeartbeats 4000000
theorem fV(n lo hi:Int)(g:G):CallsIn Wd 0 Tryz.prog 163 #[.int .i64 n,.int .i64 lo,.int .i64 hi] g.w (cR g fun _ v=>v= .bool (within n lo hi)):=by
 have hs:=St.start g
 refine enter Tryz.func163 rfl Tryz.ntmps163 rfl ?_
 refine aX rfl ?_;refine cP 4 rfl ?_
 refine cw (want:=true) (x:=decide (n≤hi)) 3 aI rfl rfl rfl rfl (.inl ⟨rfl,rfl,rfl⟩) rfl rfl rfl rfl (fun hb Q' eE=>?_) (fun g' hf=>?_)
 ·refine Wp 3 rfl ?_;apply aD
  exact fun a ha=>eE _ a (aZ.refl _) (ha.keep (by(repeat (first|exact trivial|refine⟨rfl,?_⟩))))
 replace hs:=hs.call hf
 refine ba rfl ?_
 exact aF (aV rfl rfl (hs.ret rfl))
theorem Fe(a b:Int)(g:G):CallsIn Wd 0 Tryz.prog 162 #[.int .i64 a,.int .i64 b] g.w (cR g fun _ v=>v= .bool (eh ⟨a,b,[],[]⟩)):=by
 have hs:=St.start g
 refine enter Tryz.func162 rfl Tryz.ntmps162 rfl ?_
 refine aX rfl ?_;refine cP 3 rfl ?_
 refine cw (want:=true) (x:=decide (a≤b)) 3 aI rfl rfl rfl rfl (.inl ⟨rfl,rfl,rfl⟩) rfl rfl rfl rfl (fun hb Q' eE=>?_) (fun g' hf=>?_)
 ·refine Wp 3 rfl ?_;apply aD
  exact fun a ha=>eE _ a (aZ.refl _) (ha.keep (by(repeat (first|exact trivial|refine⟨rfl,?_⟩))))
 replace hs:=hs.call hf
 refine Wp 1 rfl ?_
 refine cw (want:=true) (x:=decide (b≤10000)) 2 aI rfl rfl rfl rfl (.inl ⟨rfl,rfl,rfl⟩) rfl rfl rfl rfl (fun hb Q' eE=>?_) (fun g' hf=>?_)
 ·refine Wp 2 rfl ?_;apply aD
  exact fun a ha=>eE _ a (aZ.refl _) (ha.keep (by(repeat (first|exact trivial|refine⟨rfl,?_⟩))))
 replace hs:=hs.call hf
 refine ba rfl ?_
 exact aF (aV rfl rfl (hs.ret rfl))
theorem qj(v:Value)(l:List Int)(lo hi:Int)(g:G)(hl:Rs g v l):
  CallsIn Wd 0 Tryz.prog 256 #[v,.int .i64 lo,.int .i64 hi] g.w (cR g fun _ r=>r= .bool (ascending l lo hi)):=by
 obtain⟨a,c,rfl⟩:=hl.isSlice
 have hlen:=hl.dU
 unfold maxLen at hlen
 have hs:=St.start g
 refine enter Tryz.func256 rfl Tryz.ntmps256 rfl ?_
 refine aX rfl ?_;apply aB;refine aX rfl ?_;apply aG
 refine bS (fun m a' w=> ∃(k:Nat) (g':G),w=g'.w∧St g g' []∧G.le g g'∧k≤l.length∧m=l.length-k∧((if k=0 then ascending l lo hi else kU lo hi (l.getD (k-1) 0) (l.drop k))=ascending l lo hi)∧
  Fr 38 [] [(0,.slice a l.length c),(1,.int .i64 lo),(2,.int .i64 hi),(7,.int .i64 k)] a') l.length (fun a' ha=>⟨0,g,rfl,hs,G.le.refl g,Nat.zero_le _,rfl,by simp,ha.keep (by(repeat (first|exact trivial|refine⟨rfl,?_⟩)))⟩) ?_
 clear hs
 rintro m a' _ ⟨k,g',rfl,hs,aq,hk,rfl,dy,eI⟩
 have aH:=hl.mono aq
 revert a'
 apply cQ;apply aB;refine aX rfl ?_
 by_cases bh:k<l.length
 ·refine aJ (b:=decide ((k:Int)<(l.length:Int))) (by simp;omega) rfl ?_
  rw[vX l lo hi k bh]at dy
  have ic:dA l (k:Int)=some l[k]:=by simp[dA,bh]
  have jn:l.getD (k+1-1) 0=l[k]:=by simp[List.getD_eq_getElem?_getD,bh]
  have FX: ∀(h:0<k),dA l ((k-1:Nat):Int)=some (l.getD (k-1) 0):=by
   intro h
   have h1:k-1<l.length:=by omega
   rw[cU (n:=((k-1:Nat):Int)) rfl h1,List.getD_eq_getElem?_getD,List.getElem?_eq_getElem h1];rfl
  generalize l.getD (k-1) 0=y at*
  generalize l[k]=x at*
  cases e1:within x lo hi with
  |false=>
   rw[e1,Bool.false_and,Bool.false_and]at dy
   apply aE;apply au;apply aB;apply aG;apply aB
   apply bO hs (eJ (.f (jF (x))::(fj (fj (gE (fe [])))))) 24 [(23,37)] (by kernel_rfl) rfl
   ·refine Dx [[],[]] (by kernel_rfl) rfl ?_
    refine aw (ak (js:=[(0,14),(1,15)]) (by kernel_rfl) fun gd hf=>?_) ?_
    ·have eH:=(G.bJ _).trans hf.le
     refine ai rfl ?_;refine ai rfl ?_
     apply aj
     refine az rfl ?_
     refine aW T.ok rfl (aH.mono eH) (y:=x) ic rfl rfl rfl rfl rfl rfl ?_
     rintro b p ys aL rfl
     exact⟨_,rfl,aZ.refl _,b,p,rfl,aL⟩
    refine aw (ak (js:=[(2,16)]) (by kernel_rfl) fun gd hf=>?_) ?_
    ·skip
     refine aY fun v2 h2=>?_
     apply aj
     obtain⟨b,p,rfl,aL⟩:=h2
     refine az rfl ?_
     refine cp T.ok 0 rfl aL rfl rfl ?_
     refine⟨_,rfl,aZ.refl _,?_⟩
     exact rfl
    refine Dx [[],[]] (by kernel_rfl) rfl ?_
    refine aw (ak (js:=[(3,17),(4,18),(5,19)]) (by kernel_rfl) fun gd hf=>?_) ?_
    ·skip
     refine ai rfl ?_;refine ai rfl ?_;refine ai rfl ?_
     apply aj
     refine az rfl ?_
     refine ay mQ aI rfl rfl rfl rfl rfl (fV x lo hi _) fun g' v h1 h2=>⟨g',rfl,h1,?_⟩
     rw[h2];exact congrArg Value.bool e1
    exact Dy [[6],[7],[8],[9,8],[10,8,8],[11],[11],[12,13,11],[14,11],[11],[11],[17,11],[16,18,11],[19,11],[15,20,11],[11,21,8],[8,22]] (by kernel_rfl) rfl
   clear hs;intro g1 hs ah;obtain⟨aq,aH⟩:=cC ah aq aH
   apply cf
   refine aJ rfl rfl ?_
   refine aX rfl ?_
   refine aF (aV rfl rfl (hs.ret ?_))
   rw[←dy]
  |true=>
   rw[e1,Bool.true_and]at dy
   cases e2:decide (0<(k:Int))with
   |false=>
    have e3:decide (k=0)=true:=by simp at e2⊢;omega
    rw[e3,Bool.true_or,Bool.true_and]at dy
    apply aE;apply au;apply aB;apply aG;apply aB
    apply bO hs (eJ (.f (jF (x))::(fj (fj (gE (fe [])))))) 24 [(23,37)] (by kernel_rfl) rfl
    ·refine Dx [[],[]] (by kernel_rfl) rfl ?_
     refine aw (ak (js:=[(0,14),(1,15)]) (by kernel_rfl) fun gd hf=>?_) ?_
     ·have eH:=(G.bJ _).trans hf.le
      refine ai rfl ?_;refine ai rfl ?_
      apply aj
      refine az rfl ?_
      refine aW T.ok rfl (aH.mono eH) (y:=x) ic rfl rfl rfl rfl rfl rfl ?_
      rintro b p ys aL rfl
      exact⟨_,rfl,aZ.refl _,b,p,rfl,aL⟩
     refine aw (ak (js:=[(2,16)]) (by kernel_rfl) fun gd hf=>?_) ?_
     ·skip
      refine aY fun v2 h2=>?_
      apply aj
      obtain⟨b,p,rfl,aL⟩:=h2
      refine az rfl ?_
      refine cp T.ok 0 rfl aL rfl rfl ?_
      refine⟨_,rfl,aZ.refl _,?_⟩
      exact rfl
     refine Dx [[],[]] (by kernel_rfl) rfl ?_
     refine aw (ak (js:=[(3,17),(4,18),(5,19)]) (by kernel_rfl) fun gd hf=>?_) ?_
     ·skip
      refine ai rfl ?_;refine ai rfl ?_;refine ai rfl ?_
      apply aj
      refine az rfl ?_
      refine ay mQ aI rfl rfl rfl rfl rfl (fV x lo hi _) fun g' v h1 h2=>⟨g',rfl,h1,?_⟩
      rw[h2];exact congrArg Value.bool e1
     refine Dx [[6],[7],[8]] (by kernel_rfl) rfl ?_
     refine aw (ak (js:=[(9,23),(8,22)]) (by kernel_rfl) fun gd hf=>?_) ?_
     ·skip
      refine ai rfl ?_;refine ai rfl ?_
      apply aj
      refine az rfl ?_
      refine aM _ T.ok rfl ?_
      exact⟨_,rfl,aZ.refl _,congrArg Value.bool e2⟩
     exact Dy [[10,8,8],[11],[11],[12,13,11],[14,11],[11],[11],[17,11],[16,18,11],[19,11],[15,20,11],[11,21,8],[8,22]] (by kernel_rfl) rfl
    clear hs;intro g1 hs ah;obtain⟨aq,aH⟩:=cC ah aq aH
    apply cf
    refine aS rfl rfl ?_
    apply aE;apply bU;apply au;apply ar;refine Wp 3 rfl ?_;apply aD
    refine fun a ha=>⟨l.length-(k+1),by omega,k+1,_,rfl,hs,aq,by omega,rfl,?_,ha.keep ⟨rfl,rfl,rfl,kI rfl (by rw[wr (by omega) (by omega)];omega),trivial⟩⟩
    rw[←dy,if_neg (by omega),jn]
   |true=>
    have zl:0<k:=by simpa using e2
    have e3:decide (k=0)=false:=by simp;omega
    rw[e3,Bool.false_or]at dy
    have FX:=FX zl
    apply aE;apply au;apply aB;apply aG;apply aB
    apply bO hs (eJ (.f (jF (x))::(fj (eJ (fe (.f (jF (x))::(gE (.f (jF (y))::(gE []))))))))) 24 [(23,37)] (by kernel_rfl) rfl
    ·refine Dx [[],[]] (by kernel_rfl) rfl ?_
     refine aw (ak (js:=[(0,14),(1,15)]) (by kernel_rfl) fun gd hf=>?_) ?_
     ·have eH:=(G.bJ _).trans hf.le
      refine ai rfl ?_;refine ai rfl ?_
      apply aj
      refine az rfl ?_
      refine aW T.ok rfl (aH.mono eH) (y:=x) ic rfl rfl rfl rfl rfl rfl ?_
      rintro b p ys aL rfl
      exact⟨_,rfl,aZ.refl _,b,p,rfl,aL⟩
     refine aw (ak (js:=[(2,16)]) (by kernel_rfl) fun gd hf=>?_) ?_
     ·skip
      refine aY fun v2 h2=>?_
      apply aj
      obtain⟨b,p,rfl,aL⟩:=h2
      refine az rfl ?_
      refine cp T.ok 0 rfl aL rfl rfl ?_
      refine⟨_,rfl,aZ.refl _,?_⟩
      exact rfl
     refine Dx [[],[]] (by kernel_rfl) rfl ?_
     refine aw (ak (js:=[(3,17),(4,18),(5,19)]) (by kernel_rfl) fun gd hf=>?_) ?_
     ·skip
      refine ai rfl ?_;refine ai rfl ?_;refine ai rfl ?_
      apply aj
      refine az rfl ?_
      refine ay mQ aI rfl rfl rfl rfl rfl (fV x lo hi _) fun g' v h1 h2=>⟨g',rfl,h1,?_⟩
      rw[h2];exact congrArg Value.bool e1
     refine Dx [[6],[7],[8]] (by kernel_rfl) rfl ?_
     refine aw (ak (js:=[(9,23),(8,22)]) (by kernel_rfl) fun gd hf=>?_) ?_
     ·skip
      refine ai rfl ?_;refine ai rfl ?_
      apply aj
      refine az rfl ?_
      refine aM _ T.ok rfl ?_
      exact⟨_,rfl,aZ.refl _,congrArg Value.bool e2⟩
     refine Dx [[10,8,8],[11],[11]] (by kernel_rfl) rfl ?_
     refine aw (ak (js:=[(12,26),(13,27),(11,25)]) (by kernel_rfl) fun gd hf=>?_) ?_
     ·have eH:=(G.bJ _).trans hf.le
      refine ai rfl ?_;refine ai rfl ?_;refine ai rfl ?_
      apply aj
      refine az rfl ?_
      refine aW T.ok rfl (aH.mono eH) (y:=x) ic rfl rfl rfl rfl rfl rfl ?_
      rintro b p ys aL rfl
      exact⟨_,rfl,aZ.refl _,b,p,rfl,aL⟩
     refine aw (ak (js:=[(14,28),(11,25)]) (by kernel_rfl) fun gd hf=>?_) ?_
     ·skip
      refine aY fun Ts Ko=>?_;refine ai rfl ?_
      apply aj
      obtain⟨b,p,rfl,aL⟩:=Ko
      refine az rfl ?_
      refine cp T.ok 0 rfl aL rfl rfl ?_
      refine⟨_,rfl,aZ.refl _,?_⟩
      exact rfl
     refine Dx [[11],[11]] (by kernel_rfl) rfl ?_
     refine aw (ak (js:=[(17,31),(11,25)]) (by kernel_rfl) fun gd hf=>?_) ?_
     ·skip
      refine ai rfl ?_;refine ai rfl ?_
      apply aj
      refine az rfl ?_
      refine aM _ T.ok rfl ?_
      refine⟨_,rfl,aZ.refl _,?_⟩
      exact congrArg (Value.int .i64) (show _=((k-1:Nat):Int)from by rw[wr (by omega) (by omega)];omega)
     refine aw (ak (js:=[(16,30),(18,32),(11,25)]) (by kernel_rfl) fun gd hf=>?_) ?_
     ·have eH:=(G.bJ _).trans hf.le
      refine ai rfl ?_;refine ai rfl ?_;refine ai rfl ?_
      apply aj
      refine az rfl ?_
      refine aW T.ok rfl (aH.mono eH) (y:=y) FX rfl rfl rfl rfl rfl rfl ?_
      rintro b p ys aL rfl
      exact⟨_,rfl,aZ.refl _,b,p,rfl,aL⟩
     refine aw (ak (js:=[(19,33),(11,25)]) (by kernel_rfl) fun gd hf=>?_) ?_
     ·skip
      refine aY fun W1 P8=>?_;refine ai rfl ?_
      apply aj
      obtain⟨b,p,rfl,aL⟩:=P8
      refine az rfl ?_
      refine cp T.ok 0 rfl aL rfl rfl ?_
      refine⟨_,rfl,aZ.refl _,?_⟩
      exact rfl
     exact Dy [[15,20,11],[11,21,8],[8,22]] (by kernel_rfl) rfl
    clear hs;intro g1 hs ah;replace aq:=G.le.trans aq ah
    by_cases Kl:x≤y
    ·have e4:decide (y<x)=false:=by simp;omega
     rw[e4,Bool.false_and]at dy
     apply cf
     refine aJ (by simp[Kl]) rfl ?_
     refine aX rfl ?_
     refine aF (aV rfl rfl (hs.ret ?_))
     rw[←dy]
    ·have e4:decide (y<x)=true:=by simp;omega
     rw[e4,Bool.true_and]at dy
     apply cf
     refine aS (b:=_) ?_ rfl ?_
     ·simp;omega
     apply aE;apply bU;apply au;apply ar;refine Wp 3 rfl ?_;apply aD
     refine fun a ha=>⟨l.length-(k+1),by omega,k+1,_,rfl,hs,aq,by omega,rfl,?_,ha.keep ⟨rfl,rfl,rfl,kI rfl (by rw[wr (by omega) (by omega)];omega),trivial⟩⟩
     rw[←dy,if_neg (by omega),jn]
 ·refine aS (b:=decide ((k:Int)<(l.length:Int))) (by simp;omega) rfl ?_
  apply bE;apply bK;apply bK;apply dc;apply au;refine aX rfl ?_
  obtain rfl:k=l.length:=by omega
  refine aF (aV rfl rfl (hs.ret ?_))
  rw[←dy]
  by_cases h0:l.length=0
  ·rw[if_pos h0,List.eq_nil_of_length_eq_zero h0];rfl
  ·rw[if_neg h0];simp[kU]
theorem Hk(v:Value)(s:Step)(n:Int)(g:G)(hv:ja g v s)(h1:0≤n)(h2:n≤9223372036854775807):
  CallsIn Wd 0 Tryz.prog 164 #[v,.int .i64 n] g.w (cR g fun _ r=>r= .bool (cg s n)):=by
 obtain⟨cs,rfl,a1,n1,c1,a2,n2,c2,rfl,se,xF⟩:=hv
 obtain⟨_,_,e⟩:=se.isSlice;obtain⟨rfl,rfl,rfl⟩:=Value.slice.inj e;clear e
 obtain⟨_,_,e⟩:=xF.isSlice;obtain⟨rfl,rfl,rfl⟩:=Value.slice.inj e;clear e
 have hs:=St.start g
 have aq:=G.le.refl g
 have hn:IntKind.i64.wrap (n-1)=n-1:=wr (by omega) (by omega)
 refine enter Tryz.func164 rfl Tryz.ntmps164 rfl ?_
 apply c_
 refine an rfl rfl (aR rfl hs rfl rfl ?_);clear hs;rintro b1 g1 hs ah;replace aq:=G.le.trans aq ah
 refine ba rfl ?_;refine dx 2 [.o 0] hs rfl ?_
 refine an rfl rfl (ay HS aI rfl rfl rfl rfl rfl (qj _ s.dB 0 59 _ (se.mono aq)) ?_);rintro g1 _ aN rfl;replace hs:=hs.call aN;have ah:=aN.le;replace aq:=G.le.trans aq ah
 refine ba rfl ?_;refine dx 4 [.o 0] hs rfl ?_
 rw[hn]
 refine an rfl rfl (ay HS aI rfl rfl rfl rfl rfl (qj _ s.next 0 (n-1) _ (xF.mono aq)) ?_);rintro g1 _ aN rfl;replace hs:=hs.call aN;have ah:=aN.le
 refine ba rfl ?_;refine dx 4 [.o 0] hs rfl ?_
 refine cw (want:=true) (x:=s.dF==0) 3 aI rfl rfl rfl rfl (.inl ⟨rfl,rfl,rfl⟩) rfl rfl rfl rfl (fun hb Q' eE=>?_) (fun g' hf=>?_)
 ·refine Wm 3 [.o 0] hs rfl ?_;apply aD
  exact fun a ha=>eE _ a (aZ.refl _) (ha.keep (by(repeat (first|exact trivial|refine⟨rfl,?_⟩))))
 replace hs:=hs.call hf;have ah:=hf.le
 refine Wp 1 rfl ?_
 refine cw (want:=false) (x:=within s.back 0 (n-1)&&within s.dF 1 9) 10 aI rfl rfl rfl rfl (.inr ⟨rfl,rfl,rfl⟩) rfl rfl rfl rfl (fun hb Q' eE=>?_) (fun g' hf=>?_)
 ·refine Wm 4 [.o 0] hs rfl ?_
  rw[hn]
  refine an rfl rfl (ay mQ aI rfl rfl rfl rfl rfl (fV _ _ _ _) ?_);rintro g1 _ aN rfl;replace hs:=hs.call aN;have ah:=aN.le
  refine Wp 1 rfl ?_
  refine cw (want:=true) (x:=within s.dF 1 9) 3 aI rfl rfl rfl rfl (.inl ⟨rfl,rfl,rfl⟩) rfl rfl rfl rfl (fun hb Q' eE=>?_) (fun g' hf=>?_)
  ·refine Wm 2 [.o 0] hs rfl ?_
   refine an rfl rfl (ay mQ aI rfl rfl rfl rfl rfl (fV _ _ _ _) ?_);rintro g1 _ aN rfl;replace hs:=hs.call aN;have ah:=aN.le
   apply aD
   exact fun a ha=>eE _ a aN (ha.keep (by(repeat (first|exact trivial|refine⟨rfl,?_⟩))))
  exact aD fun a ha=>eE _ a (aN.trans hf) (ha.keep (by(repeat (first|exact trivial|refine⟨rfl,?_⟩))))
 replace hs:=hs.call hf;have ah:=hf.le
 refine ba rfl ?_;refine cP 2 rfl ?_
 refine cw (want:=true) (x:=ascending s.next 0 (n-1)) 1 aI rfl rfl rfl rfl (.inl ⟨rfl,rfl,rfl⟩) rfl rfl rfl rfl (fun hb Q' eE=>?_) (fun g' hf=>?_)
 ·refine Wp 1 rfl ?_;apply aD
  exact fun a ha=>eE _ a (aZ.refl _) (ha.keep (by(repeat (first|exact trivial|refine⟨rfl,?_⟩))))
 replace hs:=hs.call hf;have ah:=hf.le
 refine Wp 1 rfl ?_
 refine cw (want:=true) (x:=(s.back== -1&&s.dF==0)||(within s.back 0 (n-1)&&within s.dF 1 9)) 1 aI rfl rfl rfl rfl (.inl ⟨rfl,rfl,rfl⟩) rfl rfl rfl rfl (fun hb Q' eE=>?_) (fun g' hf=>?_)
 ·refine Wp 1 rfl ?_;apply aD
  exact fun a ha=>eE _ a (aZ.refl _) (ha.keep (by(repeat (first|exact trivial|refine⟨rfl,?_⟩))))
 replace hs:=hs.call hf;have ah:=hf.le
 refine Wp 1 rfl ?_
 refine cw (want:=true) (x:=within s.dD 1 1000000) 3 aI rfl rfl rfl rfl (.inl ⟨rfl,rfl,rfl⟩) rfl rfl rfl rfl (fun hb Q' eE=>?_) (fun g' hf=>?_)
 ·refine Wm 2 [.o 0] hs rfl ?_
  refine an rfl rfl (ay mQ aI rfl rfl rfl rfl rfl (fV _ _ _ _) ?_);rintro g1 _ aN rfl;replace hs:=hs.call aN;have ah:=aN.le
  apply aD
  exact fun a ha=>eE _ a aN (ha.keep (by(repeat (first|exact trivial|refine⟨rfl,?_⟩))))
 replace hs:=hs.call hf;have ah:=hf.le
 refine Wp 1 rfl ?_
 refine cw (want:=true) (x:=within (↑s.dB.length) 1 8) 4 aI rfl rfl rfl rfl (.inl ⟨rfl,rfl,rfl⟩) rfl rfl rfl rfl (fun hb Q' eE=>?_) (fun g' hf=>?_)
 ·refine Wm 3 [.o 0] hs rfl ?_
  refine an rfl rfl (ay mQ aI rfl rfl rfl rfl rfl (fV _ _ _ _) ?_);rintro g1 _ aN rfl;replace hs:=hs.call aN;have ah:=aN.le
  apply aD
  exact fun a ha=>eE _ a aN (ha.keep (by(repeat (first|exact trivial|refine⟨rfl,?_⟩))))
 replace hs:=hs.call hf;have ah:=hf.le
 refine Wp 1 rfl ?_
 refine cw (want:=true) (x:=decide ((s.next.length:Int)≤4)) 4 aI rfl rfl rfl rfl (.inl ⟨rfl,rfl,rfl⟩) rfl rfl rfl rfl (fun hb Q' eE=>?_) (fun g' hf=>?_)
 ·refine Wm 4 [.o 0] hs rfl ?_;apply aD
  exact fun a ha=>eE _ a (aZ.refl _) (ha.keep (by(repeat (first|exact trivial|refine⟨rfl,?_⟩))))
 replace hs:=hs.call hf;have ah:=hf.le
 refine Wp 1 rfl ?_
 refine cw (want:=true) (x:=decide (1≤s.min)) 3 aI rfl rfl rfl rfl (.inl ⟨rfl,rfl,rfl⟩) rfl rfl rfl rfl (fun hb Q' eE=>?_) (fun g' hf=>?_)
 ·refine Wm 3 [.o 0] hs rfl ?_;apply aD
  exact fun a ha=>eE _ a (aZ.refl _) (ha.keep (by(repeat (first|exact trivial|refine⟨rfl,?_⟩))))
 replace hs:=hs.call hf;have ah:=hf.le
 refine Wp 1 rfl ?_
 refine cw (want:=true) (x:=decide (s.min≤s.max)) 5 aI rfl rfl rfl rfl (.inl ⟨rfl,rfl,rfl⟩) rfl rfl rfl rfl (fun hb Q' eE=>?_) (fun g' hf=>?_)
 ·refine Wm 5 [.o 0,.o 0] hs rfl ?_;apply aD
  exact fun a ha=>eE _ a (aZ.refl _) (ha.keep (by(repeat (first|exact trivial|refine⟨rfl,?_⟩))))
 replace hs:=hs.call hf;have ah:=hf.le
 refine Wp 1 rfl ?_
 refine cw (want:=true) (x:=decide (s.max≤10000)) 3 aI rfl rfl rfl rfl (.inl ⟨rfl,rfl,rfl⟩) rfl rfl rfl rfl (fun hb Q' eE=>?_) (fun g' hf=>?_)
 ·refine Wm 3 [.o 0] hs rfl ?_;apply aD
  exact fun a ha=>eE _ a (aZ.refl _) (ha.keep (by(repeat (first|exact trivial|refine⟨rfl,?_⟩))))
 replace hs:=hs.call hf;have ah:=hf.le
 refine ba rfl ?_
 refine aF (aV rfl rfl (hs.ret ?_))
 unfold cg
 refine congrArg Value.bool ?_
 simp only[cond_true]
 ac_rfl
theorem nX(w:cj)(n:Int)(g:G)(h1:0≤n)(h2:n≤9223372036854775807):
  CallsIn Wd 0 Tryz.prog 165 #[.agg #[.int .i64 w.src,.int .i64 w.dst,.int .i64 w.dF],.int .i64 n] g.w (cR g fun _ r=>r= .bool (dS w n)):=by
 have hs:=St.start g
 have hn:IntKind.i64.wrap (n-1)=n-1:=wr (by omega) (by omega)
 refine enter Tryz.func165 rfl Tryz.ntmps165 rfl ?_
 apply c_
 refine an rfl rfl (aR rfl hs rfl rfl ?_);clear hs;rintro b1 g1 hs ah;skip
 refine ba rfl ?_;refine dx 4 [.o 0] hs rfl ?_
 rw[hn]
 refine an rfl rfl (ay mQ aI rfl rfl rfl rfl rfl (fV _ _ _ _) ?_);rintro g1 _ aN rfl;replace hs:=hs.call aN;have ah:=aN.le;skip
 refine Wp 1 rfl ?_
 refine cw (want:=true) (x:=within w.dst 0 (n-1)) 5 aI rfl rfl rfl rfl (.inl ⟨rfl,rfl,rfl⟩) rfl rfl rfl rfl (fun hb Q' eE=>?_) (fun g' hf=>?_)
 ·refine Wm 4 [.o 0] hs rfl ?_
  rw[hn]
  refine an rfl rfl (ay mQ aI rfl rfl rfl rfl rfl (fV _ _ _ _) ?_);rintro g1 _ aN rfl;replace hs:=hs.call aN;have ah:=aN.le;skip
  apply aD
  exact fun a ha=>eE _ a aN (ha.keep (by(repeat (first|exact trivial|refine⟨rfl,?_⟩))))
 replace hs:=hs.call hf
 refine Wp 1 rfl ?_
 refine cw (want:=true) (x:=w.src !=w.dst) 5 aI rfl rfl rfl rfl (.inl ⟨rfl,rfl,rfl⟩) rfl rfl rfl rfl (fun hb Q' eE=>?_) (fun g' hf=>?_)
 ·refine Wm 5 [.o 0,.o 0] hs rfl ?_;apply aD
  exact fun a ha=>eE _ a (aZ.refl _) (ha.keep (by(repeat (first|exact trivial|refine⟨rfl,?_⟩))))
 replace hs:=hs.call hf
 refine Wp 1 rfl ?_
 refine cw (want:=true) (x:=within w.dF 0 1000000) 3 aI rfl rfl rfl rfl (.inl ⟨rfl,rfl,rfl⟩) rfl rfl rfl rfl (fun hb Q' eE=>?_) (fun g' hf=>?_)
 ·refine Wm 2 [.o 0] hs rfl ?_
  refine an rfl rfl (ay mQ aI rfl rfl rfl rfl rfl (fV _ _ _ _) ?_);rintro g1 _ aN rfl;replace hs:=hs.call aN;have ah:=aN.le;skip
  apply aD
  exact fun a ha=>eE _ a aN (ha.keep (by(repeat (first|exact trivial|refine⟨rfl,?_⟩))))
 replace hs:=hs.call hf
 refine ba rfl ?_
 exact aF (aV rfl rfl (hs.ret rfl))
end Go.Proofs.YtebobfdheanknaaGreatDoor
namespace Go.Proofs.YtebobfdheanknaaGreatDoor
open Go Go.K
set_option maxRecDepth 10000
attribute [local irreducible] W WL cT cn bX bA bB bD cW cG
set_option maxHeartbeats 8000000
theorem uA{n:Int}: ∀(a pre b:List cj),ek n pre (a++b)=(ek n pre a&&ek n (pre++a) b)
 |[],pre,b=>by simp[ek]
 |w::a,pre,b=>by
  rw[List.cons_append,ek,ek,uA a,List.append_assoc]
  simp only[Bool.and_assoc,List.singleton_append]
theorem CI{ws:List cj}{k:Nat}(hk:k<ws.length)(h0:0<k):(ws.take k).getLast? =some (ws[k-1]'(by omega)):=by
 rw[List.getLast?_eq_getElem?,List.length_take,Nat.min_eq_left (by omega),List.getElem?_take_of_lt (by omega),List.getElem?_eq_getElem (by omega)]
theorem yW{n:Int}{ws:List cj}{k:Nat}(hk:k<ws.length)(h:ek n [] (ws.take k)=true):
  ek n [] (ws.take (k+1))=(dS ws[k] n&&(decide (k=0)||(k≠0&&kW (ws[k-1]'(by omega)) ws[k]))):=by
 rw[List.take_succ_eq_append_getElem hk,rE,h,Bool.true_and,List.nil_append]
 congr 1
 by_cases h0:k=0
 ·subst h0;rfl
 ·unfold follows
  rw[CI hk (by omega)]
  simp[h0]
theorem Aw{n:Int}{ws:List cj}{k:Nat}(h:ek n [] (ws.take k)=false):ek n [] ws=false:=by
 conv=>lhs;rw[←List.take_append_drop k ws]
 rw[uA,h,Bool.false_and]
theorem Hl{ss:List Step}{n:Int}{k:Nat}(hk:k<ss.length)(h:cg ss[k] n=false):(ss.all fun s=>cg s n)=false:=by
 rw[List.all_eq_false]
 exact⟨ss[k],List.getElem_mem hk,by rw[h];decide⟩
def yX(w:cj):Fact:=⟨fun v g=> ∃b p,v= .pointer (some ⟨b,p,none⟩)∧EP g b p (kO w),fun _ _ _ hf ⟨b,p,e,h⟩=>⟨b,p,e,h.mono hf.le⟩⟩
theorem Ff(v:Value)(f:bV)(g:G)(fk:fA g v f):CallsIn Wd 0 Tryz.prog 81 #[v] g.w (cR g fun _ r=>r= .bool (valid f)):=by
 obtain⟨a1,n1,c1,a2,n2,c2,rfl,aH,aT⟩:=id fk
 obtain⟨_,_,e⟩:=aH.isSlice;obtain⟨rfl,rfl,rfl⟩:=Value.slice.inj e;clear e
 obtain⟨_,_,e⟩:=aT.isSlice;obtain⟨rfl,rfl,rfl⟩:=Value.slice.inj e;clear e
 clear fk
 have qP:=aH.dU;have OD:=aT.dU
 unfold maxLen at qP OD
 have hs:=St.start g
 have aq:=G.le.refl g
 refine enter Tryz.func81 rfl Tryz.ntmps81 rfl ?_
 apply c_
 refine an rfl rfl (aR rfl hs rfl rfl ?_);clear hs;rintro bx g1 hs ah;obtain⟨aq,aH,aT⟩:=ef ah aq aH aT
 obtain⟨g2,bR,aU,ah,aL⟩:=hs.a_ (i:=0) rfl;replace hs:=aU;clear aU;rw[←bR];obtain⟨aq,aH,aT⟩:=ef ah aq aH aT
 have aC:=aL
 clear aL bR ah
 refine ba rfl ?_;refine nK [.z aC] (St.start _) rfl ?_;apply aB;refine dx 4 [.z aC,.z aC] (St.start _) rfl ?_
 refine an rfl rfl (ay LM aI rfl rfl rfl rfl rfl (Fe f.ck f.cu _) ?_);rintro g1 _ aN rfl;replace hs:=hs.call aN;have ah:=aN.le;obtain⟨aq,aC,aH,aT⟩:=dE ah aq aC aH aT
 refine Wp 2 rfl ?_
 have zr:eh ⟨f.ck,f.cu,[],[]⟩=eh f:=rfl
 rw[zr]
 refine cw (want:=false) (x:=!within f.steps.length 1 40) 3 aI rfl rfl rfl rfl (.inr ⟨rfl,rfl,rfl⟩) rfl rfl rfl rfl (fun hb Q' eE=>?_) (fun g' hf=>?_)
 ·refine Wp 1 rfl ?_
  refine an rfl rfl (ay mQ aI rfl rfl rfl rfl rfl (fV _ _ _ _) ?_);rintro g1 _ aN rfl;replace hs:=hs.call aN;have ah:=aN.le;obtain⟨aq,aC,aH,aT⟩:=dE ah aq aC aH aT
  refine Wp 1 rfl ?_;apply aD
  exact fun a ha=>eE _ a aN (ha.keep (by(repeat (first|exact trivial|refine⟨rfl,?_⟩))))
 replace hs:=hs.call hf;have ah:=hf.le;obtain⟨aq,aC,aH,aT⟩:=dE ah aq aC aH aT
 refine Wp 1 rfl ?_
 refine cw (want:=false) (x:=decide (20<(f.windows.length:Int))) 4 aI rfl rfl rfl rfl (.inr ⟨rfl,rfl,rfl⟩) rfl rfl rfl rfl (fun hb Q' eE=>?_) (fun g' hf=>?_)
 ·refine Wm 4 [.z aC] (St.start _) rfl ?_;apply aD
  exact fun a ha=>eE _ a (aZ.refl _) (ha.keep (by(repeat (first|exact trivial|refine⟨rfl,?_⟩))))
 replace hs:=hs.call hf;have ah:=hf.le;obtain⟨aq,aC,aH,aT⟩:=dE ah aq aC aH aT
 apply cf
 have hvalid:valid f=(eh f&&within f.steps.length 1 40&&decide ((f.windows.length:Int)≤20)&&f.steps.all (fun s=>cg s f.steps.length)&&ek f.steps.length [] f.windows):=rfl
 by_cases hc:(!eh f|| !within f.steps.length 1 40||decide (20<(f.windows.length:Int)))=true
 ·refine aJ hc rfl ?_
  refine aX rfl ?_
  refine aF (aV rfl rfl (hs.ret ?_))
  rw[hvalid]
  simp only[Bool.or_eq_true,Bool.not_eq_true',decide_eq_true_eq]at hc
  rcases hc with(h|h)|h
  ·rw[h];simp
  ·rw[h];simp
  ·have e:decide ((f.windows.length:Int)≤20)=false:=by simp;omega
   rw[e];simp
 ·refine aS (Bool.eq_false_iff.2 hc) rfl ?_
  simp only[Bool.not_eq_true,Bool.or_eq_false_iff,Bool.not_eq_false',decide_eq_false_iff_not]at hc
  obtain⟨⟨hm,hw⟩,P9⟩:=hc
  have VA:decide ((f.windows.length:Int)≤20)=true:=by simp;omega
  rw[hm,hw,VA,Bool.true_and,Bool.true_and,Bool.true_and]at hvalid
  apply aE;apply au;apply aB;refine aX rfl ?_;apply aG
  have qz:=aH;have xx:=aT;have qE:=aC;have Qq:=aq
  refine bS (fun m a' w=> ∃(k:Nat) (g4:G),w=g4.w∧St g g4 []∧G.le g' g4∧k≤f.steps.length∧m=f.steps.length-k∧(∀j (h:j<f.steps.length),j<k→cg f.steps[j] f.steps.length=true)∧
   Fr 73 [] [(1,.pointer (some ⟨bx,0,none⟩)),(3,.int .i64 f.steps.length),(4,.int .i64 k)] a') f.steps.length (fun a' ha=>⟨0,g',rfl,hs,G.le.refl _,Nat.zero_le _,rfl,fun _ _ h=>by omega,ha.keep (by(repeat (first|exact trivial|refine⟨rfl,?_⟩)))⟩) ?_
  clear hs aq aH aT aC
  rintro m a' _ ⟨k,g4,rfl,hs,j_,hk,rfl,dy,eI⟩
  have aH:=qz.mono j_
  have aT:=xx.mono j_
  have aC:=qE.mono j_
  revert a'
  apply cQ;apply aB;refine aX rfl ?_
  by_cases bh:k<f.steps.length
  ·refine aJ (b:=_) ?_ rfl ?_
   ·simp;omega
   have ic:dA f.steps (k:Int)=some f.steps[k]:=by simp[dA,bh]
   have nH:=Hl (ss:=f.steps) (n:=f.steps.length) bh
   have jn:cg f.steps[k] f.steps.length=true→ ∀j (h:j<f.steps.length),j<k+1→cg f.steps[j] f.steps.length=true:=by
    intro h1 j h h2
    by_cases hj:j=k
    ·subst hj;exact h1
    ·exact dy j h (by omega)
   generalize f.steps[k]=s at*
   apply aE;apply au;apply aB;apply aG;refine dx 3 [.z aC] (St.start _) rfl ?_
   refine an rfl rfl (aW T.ok rfl aH (y:=s) ic rfl rfl rfl rfl rfl rfl ?_)
   rintro bq pq ys aL ⟨ta,tn,tc,na,nn,nc,rfl,bT,bN⟩
   refine Wm 1 [.e aL 0] (St.start _) rfl ?_
   refine Wp 1 rfl ?_
   refine an rfl rfl (ay LN aI rfl rfl rfl rfl rfl (Hk _ s f.steps.length _ ⟨_,rfl,_,_,_,_,_,_,rfl,bT,bN⟩ (by omega) (by omega)) ?_);rintro g1 _ aN rfl;replace hs:=hs.call aN;have ah:=aN.le;obtain⟨j_,aC,aT⟩:=ef ah j_ aC aT
   refine ba rfl ?_
   cases e1:cg s f.steps.length with
   |false=>
    refine aJ rfl rfl ?_
    refine aX rfl ?_
    refine aF (aV rfl rfl (hs.ret ?_))
    rw[hvalid,nH e1,Bool.false_and]
   |true=>
    refine aS rfl rfl ?_
    apply aE;apply bU;apply au;apply ar;refine Wp 3 rfl ?_;apply aD
    exact fun a ha=>⟨f.steps.length-(k+1),by omega,k+1,_,rfl,hs,j_,by omega,rfl,jn e1,ha.keep ⟨rfl,rfl,kI rfl (by rw[wr (by omega) (by omega)];omega),trivial⟩⟩
  ·refine aS (b:=_) ?_ rfl ?_
   ·simp;omega
   have dh:(f.steps.all fun s=>cg s f.steps.length)=true:=by
    rw[List.all_eq_true]
    intro s hs
    obtain⟨j,hj,rfl⟩:=List.getElem_of_mem hs
    exact dy j hj (by omega)
   rw[dh,Bool.true_and]at hvalid
   clear dy dh
   apply bE;apply bK;apply bK;apply dc;apply au;apply aB;refine aX rfl ?_;apply aG
   have J_:=aT;have wV:=aC
   have oh:=hs
   refine bS (fun m a' w=> ∃(k:Nat) (g5:G),w=g5.w∧St g g5 []∧G.le g4 g5∧k≤f.windows.length∧m=f.windows.length-k∧ek f.steps.length [] (f.windows.take k)=true∧
    Fr 73 [] [(1,.pointer (some ⟨bx,0,none⟩)),(3,.int .i64 f.steps.length),(5,.int .i64 k)] a') f.windows.length (fun a' ha=>⟨0,g4,rfl,hs,G.le.refl _,Nat.zero_le _,rfl,rfl,ha.keep (by(repeat (first|exact trivial|refine⟨rfl,?_⟩)))⟩) ?_
   clear hs oh aH aT aC j_ bh hk
   rintro m a' _ ⟨k,g5,rfl,hs,j_,hk,rfl,dy,eI⟩
   have aT:=J_.mono j_
   have aC:=wV.mono j_
   revert a'
   apply cQ;apply aB;refine nK [.z aC] (St.start _) rfl ?_
   by_cases bh:k<f.windows.length
   ·refine aJ (b:=_) ?_ rfl ?_
    ·simp;omega
    have ic:dA f.windows (k:Int)=some f.windows[k]:=by simp[dA,bh]
    have Fg:=yW (n:=f.steps.length) bh dy
    have Ic:=fun h=>Aw (n:=f.steps.length) (ws:=f.windows) (k:=k+1) h
    have FX:0<k→dA f.windows ((k-1:Nat):Int)=some (f.windows[k-1]'(by omega)):=fun h=>cU rfl (by omega)
    generalize f.windows[k-1]'(by omega)=wp at*
    generalize f.windows[k]=w0 at*
    cases e1:dS w0 f.steps.length with
    |false=>
     rw[e1,Bool.false_and]at Fg
     have RP:valid f=false:=by rw[hvalid,Ic Fg]
     apply aE;apply au;apply aB;apply aG;apply aB
     apply bO hs (eJ (fe (.f (yX (w0))::(fj (fj (gE (eJ (fe [])))))))) 27 [(26,72)] (by kernel_rfl) rfl
     ·refine Dm [[],[0],[]] [.e aC 3] (St.start _) (by kernel_rfl) rfl ?_
      refine aw (ak (js:=[(1,47),(2,48)]) (by kernel_rfl) fun gd hf=>?_) ?_
      ·have eH:=(G.bJ _).trans hf.le
       refine ai rfl ?_;refine ai rfl ?_
       apply aj
       refine az rfl ?_
       refine aW T.ok rfl (aT.mono eH) (y:=w0) ic rfl rfl rfl rfl rfl rfl ?_
       rintro b p ys aL rfl
       exact⟨_,rfl,aZ.refl _,b,p,rfl,aL⟩
      refine aw (ak (js:=[(3,49)]) (by kernel_rfl) fun gd hf=>?_) ?_
      ·skip
       refine aY fun v3 h3=>?_
       apply aj
       obtain⟨b,p,rfl,aL⟩:=h3
       refine az rfl ?_
       refine cp T.ok 0 rfl aL rfl rfl ?_
       refine⟨_,rfl,aZ.refl _,?_⟩
       exact rfl
      refine Dx [[]] (by kernel_rfl) rfl ?_
      refine aw (ak (js:=[(4,50),(5,51)]) (by kernel_rfl) fun gd hf=>?_) ?_
      ·skip
       refine ai rfl ?_;refine ai rfl ?_
       apply aj
       refine az rfl ?_
       refine ay AQ aI rfl rfl rfl rfl rfl (nX w0 f.steps.length _ (by omega) (by omega)) fun g' v h1 h2=>⟨g',rfl,h1,?_⟩
       rw[h2];exact congrArg Value.bool e1
      exact Dy [[6],[7],[8],[9,8],[10,8,8],[11],[12,11],[11],[14,11],[13,15,11],[16,11],[11],[18,11],[11],[19,20,11],[21,11],[17,22,11,11],[23,11],[11,24,8],[8,25]] (by kernel_rfl) rfl
     clear hs;intro g1 hs ah;obtain⟨j_,aC,aT⟩:=ef ah j_ aC aT
     apply cf
     refine aJ rfl rfl ?_
     refine aX rfl ?_
     refine aF (aV rfl rfl (hs.ret ?_))
     rw[RP]
    |true=>
     rw[e1,Bool.true_and]at Fg
     cases e2:decide (0<(k:Int))with
     |false=>
      have zl:k=0:=by simpa using e2
      have jn:ek f.steps.length [] (f.windows.take (k+1))=true:=by rw[Fg];simp[zl]
      apply aE;apply au;apply aB;apply aG;apply aB
      apply bO hs (eJ (fe (.f (yX (w0))::(fj (fj (gE (eJ (fe [])))))))) 27 [(26,72)] (by kernel_rfl) rfl
      ·refine Dm [[],[0],[]] [.e aC 3] (St.start _) (by kernel_rfl) rfl ?_
       refine aw (ak (js:=[(1,47),(2,48)]) (by kernel_rfl) fun gd hf=>?_) ?_
       ·have eH:=(G.bJ _).trans hf.le
        refine ai rfl ?_;refine ai rfl ?_
        apply aj
        refine az rfl ?_
        refine aW T.ok rfl (aT.mono eH) (y:=w0) ic rfl rfl rfl rfl rfl rfl ?_
        rintro b p ys aL rfl
        exact⟨_,rfl,aZ.refl _,b,p,rfl,aL⟩
       refine aw (ak (js:=[(3,49)]) (by kernel_rfl) fun gd hf=>?_) ?_
       ·skip
        refine aY fun v3 h3=>?_
        apply aj
        obtain⟨b,p,rfl,aL⟩:=h3
        refine az rfl ?_
        refine cp T.ok 0 rfl aL rfl rfl ?_
        refine⟨_,rfl,aZ.refl _,?_⟩
        exact rfl
       refine Dx [[]] (by kernel_rfl) rfl ?_
       refine aw (ak (js:=[(4,50),(5,51)]) (by kernel_rfl) fun gd hf=>?_) ?_
       ·skip
        refine ai rfl ?_;refine ai rfl ?_
        apply aj
        refine az rfl ?_
        refine ay AQ aI rfl rfl rfl rfl rfl (nX w0 f.steps.length _ (by omega) (by omega)) fun g' v h1 h2=>⟨g',rfl,h1,?_⟩
        rw[h2];exact congrArg Value.bool e1
       refine Dx [[6],[7],[8]] (by kernel_rfl) rfl ?_
       refine aw (ak (js:=[(9,55),(8,54)]) (by kernel_rfl) fun gd hf=>?_) ?_
       ·skip
        refine ai rfl ?_;refine ai rfl ?_
        apply aj
        refine az rfl ?_
        refine aM _ T.ok rfl ?_
        exact⟨_,rfl,aZ.refl _,congrArg Value.bool e2⟩
       exact Dy [[10,8,8],[11],[12,11],[11],[14,11],[13,15,11],[16,11],[11],[18,11],[11],[19,20,11],[21,11],[17,22,11,11],[23,11],[11,24,8],[8,25]] (by kernel_rfl) rfl
      clear hs;intro g1 hs ah;obtain⟨j_,aC,aT⟩:=ef ah j_ aC aT
      apply cf
      refine aS rfl rfl ?_
      apply aE;apply bU;apply au;apply ar;refine Wp 3 rfl ?_;apply aD
      refine fun a ha=>⟨f.windows.length-(k+1),by omega,k+1,_,rfl,hs,j_,by omega,rfl,jn,ha.keep ⟨rfl,rfl,kI rfl (by rw[wr (by omega) (by omega)];omega),trivial⟩⟩
     |true=>
      have zl:0<k:=by simpa using e2
      have FX:=FX zl
      have OE:ek f.steps.length [] (f.windows.take (k+1))=kW wp w0:=by rw[Fg,decide_eq_false (show ¬k=0 by omega),decide_eq_true (show k≠0 by omega)];rfl
      cases e3:kW wp w0 with
      |false=>
       have RP:valid f=false:=by rw[hvalid,Ic (OE.trans e3)]
       apply aE;apply au;apply aB;apply aG;apply aB
       apply bO hs (eJ (fe (.f (yX (w0))::(fj (gE (.f (yX (wp))::(gE (.f (yX (w0))::(gE (fe [])))))))))) 27 [(26,72)] (by kernel_rfl) rfl
       ·refine Dm [[],[0],[]] [.e aC 3] (St.start _) (by kernel_rfl) rfl ?_
        refine aw (ak (js:=[(1,47),(2,48)]) (by kernel_rfl) fun gd hf=>?_) ?_
        ·have eH:=(G.bJ _).trans hf.le
         refine ai rfl ?_;refine ai rfl ?_
         apply aj
         refine az rfl ?_
         refine aW T.ok rfl (aT.mono eH) (y:=w0) ic rfl rfl rfl rfl rfl rfl ?_
         rintro b p ys aL rfl
         exact⟨_,rfl,aZ.refl _,b,p,rfl,aL⟩
        refine aw (ak (js:=[(3,49)]) (by kernel_rfl) fun gd hf=>?_) ?_
        ·skip
         refine aY fun v3 h3=>?_
         apply aj
         obtain⟨b,p,rfl,aL⟩:=h3
         refine az rfl ?_
         refine cp T.ok 0 rfl aL rfl rfl ?_
         refine⟨_,rfl,aZ.refl _,?_⟩
         exact rfl
        refine Dx [[]] (by kernel_rfl) rfl ?_
        refine aw (ak (js:=[(4,50),(5,51)]) (by kernel_rfl) fun gd hf=>?_) ?_
        ·skip
         refine ai rfl ?_;refine ai rfl ?_
         apply aj
         refine az rfl ?_
         refine ay AQ aI rfl rfl rfl rfl rfl (nX w0 f.steps.length _ (by omega) (by omega)) fun g' v h1 h2=>⟨g',rfl,h1,?_⟩
         rw[h2];exact congrArg Value.bool e1
        refine Dx [[6],[7],[8]] (by kernel_rfl) rfl ?_
        refine aw (ak (js:=[(9,55),(8,54)]) (by kernel_rfl) fun gd hf=>?_) ?_
        ·skip
         refine ai rfl ?_;refine ai rfl ?_
         apply aj
         refine az rfl ?_
         refine aM _ T.ok rfl ?_
         exact⟨_,rfl,aZ.refl _,congrArg Value.bool e2⟩
        refine Dm [[10,8,8],[11],[12,11],[11]] [.e aC 3] (St.start _) (by kernel_rfl) rfl ?_
        refine aw (ak (js:=[(14,60),(11,57)]) (by kernel_rfl) fun gd hf=>?_) ?_
        ·skip
         refine ai rfl ?_;refine ai rfl ?_
         apply aj
         refine az rfl ?_
         refine aM _ T.ok rfl ?_
         refine⟨_,rfl,aZ.refl _,?_⟩
         exact congrArg (Value.int .i64) (show _=((k-1:Nat):Int)from by rw[wr (by omega) (by omega)];omega)
        refine aw (ak (js:=[(13,59),(15,61),(11,57)]) (by kernel_rfl) fun gd hf=>?_) ?_
        ·have eH:=(G.bJ _).trans hf.le
         refine ai rfl ?_;refine ai rfl ?_;refine ai rfl ?_
         apply aj
         refine az rfl ?_
         refine aW T.ok rfl (aT.mono eH) (y:=wp) FX rfl rfl rfl rfl rfl rfl ?_
         rintro b p ys aL rfl
         exact⟨_,rfl,aZ.refl _,b,p,rfl,aL⟩
        refine aw (ak (js:=[(16,62),(11,57)]) (by kernel_rfl) fun gd hf=>?_) ?_
        ·skip
         refine aY fun S' Il=>?_;refine ai rfl ?_
         apply aj
         obtain⟨b,p,rfl,aL⟩:=Il
         refine az rfl ?_
         refine cp T.ok 0 rfl aL rfl rfl ?_
         refine⟨_,rfl,aZ.refl _,?_⟩
         exact rfl
        refine Dm [[11],[18,11],[11]] [.e aC 3] (St.start _) (by kernel_rfl) rfl ?_
        refine aw (ak (js:=[(19,65),(20,66),(11,57)]) (by kernel_rfl) fun gd hf=>?_) ?_
        ·have eH:=(G.bJ _).trans hf.le
         refine ai rfl ?_;refine ai rfl ?_;refine ai rfl ?_
         apply aj
         refine az rfl ?_
         refine aW T.ok rfl (aT.mono eH) (y:=w0) ic rfl rfl rfl rfl rfl rfl ?_
         rintro b p ys aL rfl
         exact⟨_,rfl,aZ.refl _,b,p,rfl,aL⟩
        refine aw (ak (js:=[(21,67),(11,57)]) (by kernel_rfl) fun gd hf=>?_) ?_
        ·skip
         refine aY fun v21 MT=>?_;refine ai rfl ?_
         apply aj
         obtain⟨b,p,rfl,aL⟩:=MT
         refine az rfl ?_
         refine cp T.ok 0 rfl aL rfl rfl ?_
         refine⟨_,rfl,aZ.refl _,?_⟩
         exact rfl
        refine aw (ak (js:=[(17,63),(22,68),(11,57),(11,57)]) (by kernel_rfl) fun gd hf=>?_) ?_
        ·skip
         refine ai rfl ?_;refine ai rfl ?_;refine ai rfl ?_;refine ai rfl ?_
         apply aj
         refine az rfl ?_
         refine ay F3 aI rfl rfl rfl rfl rfl (qk wp w0 _) fun g' v h1 h2=>⟨g',rfl,h1,?_⟩
         rw[h2];exact congrArg Value.bool e3
        exact Dy [[23,11],[11,24,8],[8,25]] (by kernel_rfl) rfl
       clear hs;intro g1 hs ah;obtain⟨j_,aC,aT⟩:=ef ah j_ aC aT
       apply cf
       refine aJ rfl rfl ?_
       refine aX rfl ?_
       refine aF (aV rfl rfl (hs.ret ?_))
       rw[RP]
      |true=>
       have jn:=OE.trans e3
       apply aE;apply au;apply aB;apply aG;apply aB
       apply bO hs (eJ (fe (.f (yX (w0))::(fj (gE (.f (yX (wp))::(gE (.f (yX (w0))::(gE (fe [])))))))))) 27 [(26,72)] (by kernel_rfl) rfl
       ·refine Dm [[],[0],[]] [.e aC 3] (St.start _) (by kernel_rfl) rfl ?_
        refine aw (ak (js:=[(1,47),(2,48)]) (by kernel_rfl) fun gd hf=>?_) ?_
        ·have eH:=(G.bJ _).trans hf.le
         refine ai rfl ?_;refine ai rfl ?_
         apply aj
         refine az rfl ?_
         refine aW T.ok rfl (aT.mono eH) (y:=w0) ic rfl rfl rfl rfl rfl rfl ?_
         rintro b p ys aL rfl
         exact⟨_,rfl,aZ.refl _,b,p,rfl,aL⟩
        refine aw (ak (js:=[(3,49)]) (by kernel_rfl) fun gd hf=>?_) ?_
        ·skip
         refine aY fun v3 h3=>?_
         apply aj
         obtain⟨b,p,rfl,aL⟩:=h3
         refine az rfl ?_
         refine cp T.ok 0 rfl aL rfl rfl ?_
         refine⟨_,rfl,aZ.refl _,?_⟩
         exact rfl
        refine Dx [[]] (by kernel_rfl) rfl ?_
        refine aw (ak (js:=[(4,50),(5,51)]) (by kernel_rfl) fun gd hf=>?_) ?_
        ·skip
         refine ai rfl ?_;refine ai rfl ?_
         apply aj
         refine az rfl ?_
         refine ay AQ aI rfl rfl rfl rfl rfl (nX w0 f.steps.length _ (by omega) (by omega)) fun g' v h1 h2=>⟨g',rfl,h1,?_⟩
         rw[h2];exact congrArg Value.bool e1
        refine Dx [[6],[7],[8]] (by kernel_rfl) rfl ?_
        refine aw (ak (js:=[(9,55),(8,54)]) (by kernel_rfl) fun gd hf=>?_) ?_
        ·skip
         refine ai rfl ?_;refine ai rfl ?_
         apply aj
         refine az rfl ?_
         refine aM _ T.ok rfl ?_
         exact⟨_,rfl,aZ.refl _,congrArg Value.bool e2⟩
        refine Dm [[10,8,8],[11],[12,11],[11]] [.e aC 3] (St.start _) (by kernel_rfl) rfl ?_
        refine aw (ak (js:=[(14,60),(11,57)]) (by kernel_rfl) fun gd hf=>?_) ?_
        ·skip
         refine ai rfl ?_;refine ai rfl ?_
         apply aj
         refine az rfl ?_
         refine aM _ T.ok rfl ?_
         refine⟨_,rfl,aZ.refl _,?_⟩
         exact congrArg (Value.int .i64) (show _=((k-1:Nat):Int)from by rw[wr (by omega) (by omega)];omega)
        refine aw (ak (js:=[(13,59),(15,61),(11,57)]) (by kernel_rfl) fun gd hf=>?_) ?_
        ·have eH:=(G.bJ _).trans hf.le
         refine ai rfl ?_;refine ai rfl ?_;refine ai rfl ?_
         apply aj
         refine az rfl ?_
         refine aW T.ok rfl (aT.mono eH) (y:=wp) FX rfl rfl rfl rfl rfl rfl ?_
         rintro b p ys aL rfl
         exact⟨_,rfl,aZ.refl _,b,p,rfl,aL⟩
        refine aw (ak (js:=[(16,62),(11,57)]) (by kernel_rfl) fun gd hf=>?_) ?_
        ·skip
         refine aY fun S' Il=>?_;refine ai rfl ?_
         apply aj
         obtain⟨b,p,rfl,aL⟩:=Il
         refine az rfl ?_
         refine cp T.ok 0 rfl aL rfl rfl ?_
         refine⟨_,rfl,aZ.refl _,?_⟩
         exact rfl
        refine Dm [[11],[18,11],[11]] [.e aC 3] (St.start _) (by kernel_rfl) rfl ?_
        refine aw (ak (js:=[(19,65),(20,66),(11,57)]) (by kernel_rfl) fun gd hf=>?_) ?_
        ·have eH:=(G.bJ _).trans hf.le
         refine ai rfl ?_;refine ai rfl ?_;refine ai rfl ?_
         apply aj
         refine az rfl ?_
         refine aW T.ok rfl (aT.mono eH) (y:=w0) ic rfl rfl rfl rfl rfl rfl ?_
         rintro b p ys aL rfl
         exact⟨_,rfl,aZ.refl _,b,p,rfl,aL⟩
        refine aw (ak (js:=[(21,67),(11,57)]) (by kernel_rfl) fun gd hf=>?_) ?_
        ·skip
         refine aY fun v21 MT=>?_;refine ai rfl ?_
         apply aj
         obtain⟨b,p,rfl,aL⟩:=MT
         refine az rfl ?_
         refine cp T.ok 0 rfl aL rfl rfl ?_
         refine⟨_,rfl,aZ.refl _,?_⟩
         exact rfl
        refine aw (ak (js:=[(17,63),(22,68),(11,57),(11,57)]) (by kernel_rfl) fun gd hf=>?_) ?_
        ·skip
         refine ai rfl ?_;refine ai rfl ?_;refine ai rfl ?_;refine ai rfl ?_
         apply aj
         refine az rfl ?_
         refine ay F3 aI rfl rfl rfl rfl rfl (qk wp w0 _) fun g' v h1 h2=>⟨g',rfl,h1,?_⟩
         rw[h2];exact congrArg Value.bool e3
        exact Dy [[23,11],[11,24,8],[8,25]] (by kernel_rfl) rfl
       clear hs;intro g1 hs ah;replace j_:=G.le.trans j_ ah
       apply cf
       refine aS rfl rfl ?_
       apply aE;apply bU;apply au;apply ar;refine Wp 3 rfl ?_;apply aD
       refine fun a ha=>⟨f.windows.length-(k+1),by omega,k+1,_,rfl,hs,j_,by omega,rfl,jn,ha.keep ⟨rfl,rfl,kI rfl (by rw[wr (by omega) (by omega)];omega),trivial⟩⟩
   ·refine aS (b:=_) ?_ rfl ?_
    ·simp;omega
    obtain rfl:k=f.windows.length:=by omega
    rw[List.take_length]at dy
    apply bE;apply bK;apply bK;apply dc;apply au;refine aX rfl ?_
    refine aF (aV rfl rfl (hs.ret ?_))
    rw[hvalid,dy]
end Go.Proofs.YtebobfdheanknaaGreatDoor
namespace Go.Proofs.YtebobfdheanknaaGreatDoor
open Go Go.K
set_option maxRecDepth 10000
attribute [local irreducible] W WL cT cn bX bA bB bD cW cG
set_option maxHeartbeats 4000000
theorem pO(v u:Value)(l r:List Int)(g:G)(aH:Rs g v l)(aT:Rs g u r):CallsIn Wd 0 Tryz.prog 15 #[v,u] g.w (cR g fun _ x=>x= .bool (decide (l=r))):=by
 obtain⟨a,c,rfl⟩:=aH.isSlice
 obtain⟨a2,c2,rfl⟩:=aT.isSlice
 have hlen:=aH.dU
 unfold maxLen at hlen
 have hs:=St.start g
 refine enter Tryz.func15 rfl Tryz.ntmps15 rfl ?_
 refine aX rfl ?_;apply aB;refine aX rfl ?_
 by_cases x_:l.length=r.length
 ·refine aS (b:=(l.length:Int) !=(r.length:Int)) (by simp;omega) rfl ?_
  apply aE;apply au;apply aB;refine aX rfl ?_;apply aG
  have qz:=aH;have xx:=aT;have ie:=G.le.refl g
  refine bS (fun m a' w=> ∃(k:Nat) (g2:G),w=g2.w∧St g g2 []∧G.le g g2∧k≤l.length∧m=l.length-k∧l.take k=r.take k∧
    Fr 26 [] [(0,.slice a l.length c),(1,.slice a2 r.length c2),(5,.int .i64 k)] a') l.length
   (fun a' ha=>⟨0,g,rfl,hs,ie,Nat.zero_le _,rfl,by simp,ha.keep (by(repeat (first|exact trivial|refine⟨rfl,?_⟩)))⟩) ?_
  clear hs ie aH aT
  rintro m a' _ ⟨k,g2,rfl,hs,ie,hk,rfl,dy,eI⟩
  have aH:=qz.mono ie;have aT:=xx.mono ie
  revert a'
  apply cQ;apply aB;refine aX rfl ?_
  by_cases bh:k<l.length
  ·refine aJ (b:=decide ((k:Int)<(l.length:Int))) (by simp;omega) rfl ?_
   have Ta:k<r.length:=by omega
   apply aE;apply au;apply aB;apply aG;apply aB
   apply bO hs (eJ (.f (jF l[k])::(eJ (fe (.f (jF r[k])::(eJ [])))))) 9 [(8,25)] (by kernel_rfl) rfl
   ·refine Dx [[],[]] (by kernel_rfl) rfl ?_
    refine aw (ak (js:=[(0,17),(1,18)]) (by kernel_rfl) fun gd hf=>?_) ?_
    ·have eH:=(G.bJ _).trans hf.le
     refine ai rfl ?_;refine ai rfl ?_
     apply aj
     refine az rfl ?_
     refine aW T.ok rfl (aH.mono eH) (y:=l[k]) (cU rfl bh) rfl rfl rfl rfl rfl rfl ?_
     intro b p ys aL eK
     exact⟨_,rfl,aZ.refl _,b,p,rfl,by rw[←show ys=[Value.int .i64 l[k]]from eK];exact aL⟩
    refine aw (ak (js:=[(2,19)]) (by kernel_rfl) fun gd hf=>?_) ?_
    ·skip
     refine aY fun v2 h2=>?_
     apply aj
     obtain⟨b,p,rfl,aL⟩:=h2
     refine az rfl ?_
     refine cp T.ok 0 rfl aL rfl rfl ?_
     refine⟨_,rfl,aZ.refl _,?_⟩
     exact rfl
    refine Dx [[],[]] (by kernel_rfl) rfl ?_
    refine aw (ak (js:=[(4,21),(5,22)]) (by kernel_rfl) fun gd hf=>?_) ?_
    ·have eH:=(G.bJ _).trans hf.le
     refine ai rfl ?_;refine ai rfl ?_
     apply aj
     refine az rfl ?_
     refine aW T.ok rfl (aT.mono eH) (y:=r[k]) (cU rfl Ta) rfl rfl rfl rfl rfl rfl ?_
     intro b p ys aL eK
     exact⟨_,rfl,aZ.refl _,b,p,rfl,by rw[←show ys=[Value.int .i64 r[k]]from eK];exact aL⟩
    refine aw (ak (js:=[(6,23)]) (by kernel_rfl) fun gd hf=>?_) ?_
    ·skip
     refine aY fun v6 h6=>?_
     apply aj
     obtain⟨b,p,rfl,aL⟩:=h6
     refine az rfl ?_
     refine cp T.ok 0 rfl aL rfl rfl ?_
     refine⟨_,rfl,aZ.refl _,?_⟩
     exact rfl
    exact Dy [[3,7]] (by kernel_rfl) rfl
   clear hs;intro g1 hs ah
   replace ie:=ie.trans ah
   apply cf
   by_cases he:l[k]=r[k]
   ·refine aS (b:=l[k] !=r[k]) (by simp[he]) rfl ?_
    apply aE;apply bU;apply au;apply ar;refine Wp 3 rfl ?_;apply aD
    refine fun a ha=>⟨l.length-(k+1),by omega,k+1,_,rfl,hs,ie,by omega,rfl,?_,ha.keep ⟨rfl,rfl,kI rfl (by rw[wr (by omega) (by omega)];omega),trivial⟩⟩
    rw[List.take_succ_eq_append_getElem bh,List.take_succ_eq_append_getElem Ta,dy,he]
   ·refine aJ (b:=l[k] !=r[k]) (by simp[he]) rfl ?_
    refine aX rfl ?_
    refine aF (aV rfl rfl (hs.ret ?_))
    rw[decide_eq_false (fun e=>he (by subst e;rfl))]
  ·refine aS (b:=decide ((k:Int)<(l.length:Int))) (by simp;omega) rfl ?_
   rw[List.take_of_length_le (by omega),List.take_of_length_le (by omega)]at dy
   apply bE;apply bK;apply bK;apply dc;apply au;refine aX rfl ?_
   refine aF (aV rfl rfl (hs.ret ?_))
   rw[decide_eq_true dy]
 ·refine aJ (b:=(l.length:Int) !=(r.length:Int)) (by simp;omega) rfl ?_
  refine aX rfl ?_
  refine aF (aV rfl rfl (hs.ret ?_))
  rw[decide_eq_false (fun e=>x_ (by rw[e]))]
end Go.Proofs.YtebobfdheanknaaGreatDoor
