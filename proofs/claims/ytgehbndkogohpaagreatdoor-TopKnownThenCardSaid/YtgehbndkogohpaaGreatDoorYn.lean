/- Parts of the proof, from: The reference's Digits, list, StepLine, WindowLine, Print. -/
import Derived.Test.YtgehbndkogohpaaGreatDoorYm
import Derived.Test.YtgehbndkogohpaaGreatDoorYl
import Derived.Test.YtgehbndkogohpaaGreatDoorRows
import Derived.Lib.LaidTab
import Derived.Stop.LaidErr
import Derived.Lay
import Derived.LaidMore
import Derived.HandedShaped
import Derived.Clock
import Derived.Test.YtgehbndkogohpaaGreatDoorYk
import Derived.Test.YtgehbndkogohpaaGreatDoorYh
namespace Go.Proofs.YtgehbndkogohpaaGreatDoor
open Go Go.K
set_option maxRecDepth 10000
attribute [local irreducible] W WL cD bc bK bd bg bh cq ck
set_option maxHeartbeats 16000000
theorem sT(s:Step): ∀(l:List Step) (j:Nat),f_ j (l++[s])=f_ j l++(ed (j+l.length) s++[10])
 |[],j=>by simp[f_]
 |x::l,j=>by rw[List.cons_append];simp only[f_];rw[sT s l (j+1),List.length_cons,show j+1+l.length=j+(l.length+1)from by omega];simp
theorem vf(w:bZ): ∀l:List bZ,kg (l++[w])=kg l++(dE w++[10])
 |[]=>by simp[kg]
 |x::l=>by rw[List.cons_append];simp only[kg];rw[vf w l];simp
def kY(f:bQ):Value:=if valid f=true then .tuple #[.string (bs (gI f)),.int .i64 0]else .tuple #[.string (bs []),.int .i64 40]
theorem yF{f:bQ}(h:valid f=true):kY f= .tuple #[.string (bs (gI f)),.int .i64 0]:=by unfold kY;rw[if_pos h]
theorem Am{f:bQ}(h:valid f=false):kY f= .tuple #[.string (bs []),.int .i64 40]:=by unfold kY;rw[if_neg (by rw[h];decide)]
theorem CY(xs:List UInt8):(xs.map fun b:UInt8=>(b.toNat:Int)).map (fun m=>UInt8.ofNat m.toNat)=xs:=by
 rw[List.map_map];conv=>rhs;rw[←List.map_id xs]
 exact List.map_congr_left fun b _=>by simp
theorem Vg(k:Nat)(h:k<10):IntKind.u8.wrap (48+(k:Int))=((48+k:Nat):Int):=by
 have:k=0∨k=1∨k=2∨k=3∨k=4∨k=5∨k=6∨k=7∨k=8∨k=9:=by omega
 rcases this with rfl|rfl|rfl|rfl|rfl|rfl|rfl|rfl|rfl|rfl<;>rfl
def An(n0 m:Nat)(s:List UInt8):Prop:=(m=0∧s≠[]∧dec n0=s)∨((0<m∨s=[])∧dec n0=dec m++s)
theorem An.next{n0 m:Nat}{s:List UInt8}(h:An n0 m s)(hc:s=[]∨0<m):An n0 (m/10) (UInt8.ofNat (48+m % 10)::s):=by
 have h2:dec n0=dec m++s:=by
  rcases h with⟨h1,h2,_⟩|⟨_,h3⟩
  ·rcases hc with h|h
   ·exact absurd h h2
   omega
  exact h3
 by_cases hm:m<10
 ·refine .inl ⟨by omega,by simp,?_⟩;rw[h2,ic hm,show m % 10=m by omega];rfl
 refine .inr ⟨.inl (by omega),?_⟩;rw[h2,nd hm];simp
theorem An.done{n0 m:Nat}{s:List UInt8}(h:An n0 m s)(hs:s≠[])(hm: ¬0<m):dec n0=s:=by
 rcases h with⟨_,_,h⟩|⟨h1,h2⟩
 ·exact h
 rcases h1 with h|h
 ·omega
 exact absurd h hs
theorem An.len{n0 m:Nat}{s:List UInt8}(h:An n0 m s):s.length≤(dec n0).length:=by
 rcases h with⟨_,_,h⟩|⟨_,h⟩
 ·rw[h];exact Nat.le_refl _
 rw[h,List.length_append];omega
theorem gi(n:Int)(g:G)(hn:kK n):CallsIn Wd 0 Tryz.prog 65 #[.int .i64 n] g.w (cF g fun _ r=>r= .string (bs (cz n))):=by
 obtain⟨n0,rfl⟩: ∃m:Nat,n=m:=⟨n.toNat,by have:=hn.1;omega⟩
 have XX:=dF hn;have hb:=hn.2;have T4:cz (n0:Int)=dec n0:=rfl;rw[T4]at XX⊢;have hs:=St.start g;refine enter Tryz.func65 rfl Tryz.ntmps65 rfl ?_;refine aY rfl ?_;refine aY rfl ?_;apply aD;apply aG;refine bM (fun mm a' w=> ∃(m0:Nat) (s:List UInt8) (g':G),An n0 m0 s∧w=g'.w∧St g g' []∧m0≤1000000∧mm=m0+(if s=[]then 1 else 0)∧
  Fr 21 [] [(0,.int .i64 m0),(3,.string (bs s))] a') (n0+1) (fun a' ha=>⟨n0,[],g,.inr ⟨.inr rfl,by simp⟩,rfl,hs,by omega,rfl,ha.keep (by(repeat (first|exact trivial|refine⟨rfl,?_⟩)))⟩) ?_
 clear hs;rintro mm a' _ ⟨m0,s,g',hD,rfl,hs,hm,rfl,eF⟩;have kx:=hD.len;revert a';by_cases ME:s=[]
 ·subst ME;apply cI;apply aD;refine cN 3 rfl ?_;refine cO 6 (b':=true) (by simp[cB]) rfl ?_;refine bj rfl ?_;refine aM (b:=_) ?_ rfl ?_
  ·simp
  have lO:=hD.next (by exact .inl rfl);have T5:(UInt8.ofNat (48+m0 % 10)).toNat=48+m0 % 10:=r' (by omega);generalize UInt8.ofNat (48+m0 % 10)=d at*;apply aF;apply ar;apply aG;refine cN 4 rfl ?_;refine kz (.int .u8 (d.toNat:Int)) (t:=13) rfl (congrArg (Value.int .u8) (by show IntKind.u8.wrap (IntKind.i64.wrap (48+((m0 % 10:Nat):Int)))=_;rw[T5,wr (by omega) (by omega)];exact Vg (m0 % 10) (by omega))) ?_;refine ak rfl rfl (bD T.ok rfl hs (vs:=[(0,.int .u8 (d.toNat:Int))]) (cells:=[.int .u8 (d.toNat:Int)]) rfl rfl rfl rfl rfl rfl (by decide) (by decide) (by kernel_rfl) rfl ?_);clear hs;rintro bl gl hs ah;obtain⟨gz,iQ,cP,jq,aH⟩:=hs.cK (α:=UInt8) (xs:=[d]) (i:=0) rfl (cG.bytes _ [d]);rw[←iQ];replace hs:=cP;clear cP;replace hs:St g gz []:=hs;obtain⟨_,news,CA,g_⟩:=Src.lq aH;obtain rfl:=cG.r5 CA;refine ak rfl rfl (mR T.ok (ns:=[(d.toNat:Int)]) rfl rfl rfl rfl rfl rfl rfl rfl g_ ?_);rw[show([(d.toNat:Int)].map fun m=>UInt8.ofNat m.toNat)=[d]from CY [d]];clear g_ CA aH;refine Wp 1 rfl ?_;refine ak rfl rfl (ct (p:=[d]) (q:=[]) rfl rfl rfl (by simp only[List.length_singleton];omega) ?_);refine bj rfl ?_;apply aA;refine Wp 3 rfl ?_;apply aE;apply bR;exact fun a ha=>⟨m0/10+0,by simp;omega,m0/10,[d]++[],gz,lO,rfl,hs,by omega,by simp,ha.keep ⟨kI rfl (show IntKind.i64.wrap ((m0/10:Nat):Int)=_ from wr (by omega) (by omega)),rfl,trivial⟩⟩
 apply cI;apply aD;refine cN 3 rfl ?_;refine cO 6 (b':=false) (by rw[cB];simp[ME]) rfl ?_;by_cases Vh:0<m0
 ·refine bj rfl ?_;refine aM (b:=_) ?_ rfl ?_
  ·simp;omega
  have lO:=hD.next (by exact .inr Vh);have T5:(UInt8.ofNat (48+m0 % 10)).toNat=48+m0 % 10:=r' (by omega);generalize UInt8.ofNat (48+m0 % 10)=d at*;apply aF;apply ar;apply aG;refine cN 4 rfl ?_;refine kz (.int .u8 (d.toNat:Int)) (t:=13) rfl (congrArg (Value.int .u8) (by show IntKind.u8.wrap (IntKind.i64.wrap (48+((m0 % 10:Nat):Int)))=_;rw[T5,wr (by omega) (by omega)];exact Vg (m0 % 10) (by omega))) ?_;refine ak rfl rfl (bD T.ok rfl hs (vs:=[(0,.int .u8 (d.toNat:Int))]) (cells:=[.int .u8 (d.toNat:Int)]) rfl rfl rfl rfl rfl rfl (by decide) (by decide) (by kernel_rfl) rfl ?_);clear hs;rintro bl gl hs ah;obtain⟨gz,iQ,cP,jq,aH⟩:=hs.cK (α:=UInt8) (xs:=[d]) (i:=0) rfl (cG.bytes _ [d]);rw[←iQ];replace hs:=cP;clear cP;replace hs:St g gz []:=hs;obtain⟨_,news,CA,g_⟩:=Src.lq aH;obtain rfl:=cG.r5 CA;refine ak rfl rfl (mR T.ok (ns:=[(d.toNat:Int)]) rfl rfl rfl rfl rfl rfl rfl rfl g_ ?_);rw[show([(d.toNat:Int)].map fun m=>UInt8.ofNat m.toNat)=[d]from CY [d]];clear g_ CA aH;refine Wp 1 rfl ?_;refine ak rfl rfl (ct (p:=[d]) (q:=s) rfl rfl rfl (by simp only[List.length_singleton];omega) ?_);refine bj rfl ?_;apply aA;refine Wp 3 rfl ?_;apply aE;apply bR;exact fun a ha=>⟨m0/10+0,by simp[ME];omega,m0/10,[d]++s,gz,lO,rfl,hs,by omega,by simp,ha.keep ⟨kI rfl (show IntKind.i64.wrap ((m0/10:Nat):Int)=_ from wr (by omega) (by omega)),rfl,trivial⟩⟩
 refine bj rfl ?_;refine aV (b:=_) ?_ rfl ?_
 ·simp;omega
 have A4:=hD.done ME Vh;rw[A4];apply bF;apply bG;apply bG;apply c_;apply ar;refine aY rfl ?_;exact aI (aX rfl rfl (hs.ret rfl))
theorem vQ{l:List Int}{k:Nat}(hk:k<l.length):(l.take (k+1)).map cz=(l.take k).map cz++[cz l[k]]:=by rw[List.take_succ_eq_append_getElem hk,List.map_append];rfl
theorem I0{ps:List (List UInt8)}(h:ps≠[])(hp: ∀p∈ps,p≠[]):dP 44 ps≠[]:=by
 cases ps with
 |nil=>exact absurd rfl h
 |cons x r=>
  cases r with
  |nil=>exact hp x (List.mem_cons_self ..)
  |cons y r=>rw[show dP 44 (x::y::r)=x++44::dP 44 (y::r)from rfl];simp
theorem CZ(v:Value)(l:List Int)(g:G)(hl:Rs g v l)(hb: ∀n∈l,kK n)(hn:l.length≤1000):CallsIn Wd 0 Tryz.prog 157 #[v] g.w (cF g fun _ r=>r= .string (bs (fq l))):=by
 obtain⟨pa,pc,rfl⟩:=hl.isSlice;have hs:=St.start g;refine enter Tryz.func157 rfl Tryz.ntmps157 rfl ?_;refine aY rfl ?_;refine aY rfl ?_;apply aD;refine aY rfl ?_;apply aG;refine bM (fun m a' w=> ∃(k:Nat) (g':G),w=g'.w∧St g g' []∧G.le g g'∧k≤l.length∧m=l.length-k∧
  Fr 25 [] [(0,.slice pa l.length pc),(3,.string (bs (dP 44 ((l.take k).map cz)))),(4,.int .i64 k)] a') l.length (fun a' ha=>⟨0,g,rfl,hs,G.le.refl _,Nat.zero_le _,rfl,ha.keep (by(repeat (first|exact trivial|refine⟨rfl,?_⟩)))⟩) ?_
 clear hs;rintro m a' _ ⟨k,g',rfl,hs,aq,hk,rfl,eF⟩;have aH:=hl.mono aq;have QY:(dP 44 ((l.take k).map cz)).length≤8000:=by
  have h1:=p_ (c:=44) (k:=7) (l:=(l.take k).map cz) fun x hx=>by obtain⟨n,hn,rfl⟩:=List.mem_map.1 hx;exact dF (hb n (List.mem_of_mem_take hn))
  rw[List.length_map,List.length_take]at h1;omega
 revert a';apply cI;apply aD;refine aY rfl ?_;by_cases bC:k<l.length
 ·refine aM (b:=decide ((k:Int)<(l.length:Int))) (by simp;omega) rfl ?_;have jG:dS l (k:Int)=some l[k]:=by simp[dS,bC]
  have Cp:=hb _ (List.getElem_mem bC);have HD:=dF Cp;have dH:=vQ bC;generalize l[k]=x at*;by_cases AH:k=0
  ·subst AH;apply aF;apply ar;apply aD;apply aG;apply aD;refine aY rfl ?_;refine aV rfl rfl ?_;apply aF;apply ar;apply aA;refine Wp 3 rfl ?_;refine ak rfl rfl (aW T.ok rfl aH (y:=x) jG rfl rfl rfl rfl rfl rfl ?_);rintro b p ys aL rfl;refine Wm 1 [.e aL 0] (St.start _) rfl ?_;refine ak rfl rfl (au rA aJ rfl rfl rfl rfl rfl (gi x _ Cp) ?_);rintro g1 _ aP rfl;replace hs:=hs.call aP;have ah:=aP.le;obtain⟨aq,aH⟩:=cf ah aq aH;refine ak rfl rfl (ct (p:=[]) (q:=cz x) rfl rfl rfl (by simp;omega) ?_);refine Wp 1 rfl ?_;apply aE;apply bR;apply ar;apply aA;refine Wp 3 rfl ?_;apply aE;exact fun a ha=>⟨l.length-1,by omega,1,_,rfl,hs,aq,by omega,rfl,ha.keep ⟨rfl,kV rfl (by rw[dH];rfl),rfl,trivial⟩⟩
  apply aF;apply ar;apply aD;apply aG;apply aD;refine aY rfl ?_;refine aM (b:=_) ?_ rfl ?_
  ·simp;omega
  apply aA;refine Wp 1 rfl ?_;refine ak rfl rfl (ct (p:=dP 44 ((l.take k).map cz)) (q:=[44]) rfl rfl rfl (by simp only[List.length_singleton];omega) ?_);refine bj rfl ?_;apply aA;refine Wp 3 rfl ?_;refine ak rfl rfl (aW T.ok rfl aH (y:=x) jG rfl rfl rfl rfl rfl rfl ?_);rintro b p ys aL rfl;refine Wm 1 [.e aL 0] (St.start _) rfl ?_;refine ak rfl rfl (au rA aJ rfl rfl rfl rfl rfl (gi x _ Cp) ?_);rintro g1 _ aP rfl;replace hs:=hs.call aP;have ah:=aP.le;replace aq:=G.le.trans aq ah;refine ak rfl rfl (ct (p:=dP 44 ((l.take k).map cz)++[44]) (q:=cz x) rfl rfl rfl (by rw[List.length_append,List.length_singleton];omega) ?_);refine Wp 1 rfl ?_;apply aE;apply bR;apply ar;apply aA;refine Wp 3 rfl ?_;apply aE;have fB:(l.take k).map cz≠[]:=by intro h;have:=congrArg List.length h;rw[List.length_map,List.length_take,List.length_nil]at this;omega
  exact fun a ha=>⟨l.length-(k+1),by omega,k+1,_,rfl,hs,aq,by omega,rfl,ha.keep ⟨rfl,kV rfl (by rw[dH,xd 44 _ _ fB];simp),kI rfl (by rw[wr (by omega) (by omega)];omega),trivial⟩⟩
 refine aV (b:=decide ((k:Int)<(l.length:Int))) (by simp;omega) rfl ?_;obtain rfl:k=l.length:=by omega
 rw[List.take_length]at*;apply bF;apply bG;apply bG;apply c_;apply ar;apply aD;refine aY rfl ?_;unfold fq;by_cases En:l=[]
 ·subst En;refine aM (b:=_) ?_ rfl ?_
  ·simp[dP,cB]
  refine aY rfl ?_;exact aI (aX rfl rfl (hs.ret rfl))
 rw[if_neg En];refine aV (b:=_) ?_ rfl ?_
 ·have:=I0 (ps:=l.map cz) (by simpa using En) fun p hp=>by obtain⟨n,_,rfl⟩:=List.mem_map.1 hp;exact p9 _
  rw[cB];simp[this]
 apply aF;apply ar;refine aY rfl ?_;exact aI (aX rfl rfl (hs.ret rfl))
theorem vR(w0:bZ)(g:G)(h:kK w0.src∧kK w0.dst∧kK w0.dI):CallsIn Wd 0 Tryz.prog 67 #[.agg (kh w0).toArray] g.w (cF g fun _ r=>r= .string (bs (dE w0))):=by
 have hs:=St.start g;have aq:=G.le.refl g;have l1:=dF h.1;have l2:=dF h.2.1;have l3:=dF h.2.2;rw[iK];unfold kh;refine enter Tryz.func67 rfl Tryz.ntmps67 rfl ?_;apply cM;refine ak rfl rfl (aO rfl hs rfl rfl ?_);clear hs;rintro bx g1 hs ah;obtain⟨g2,bL,aT,ah,aL⟩:=hs.ba (i:=0) rfl;replace hs:=aT;clear aT;rw[←bL];have aC:=aL;clear aL bL ah;refine bj rfl ?_;apply aD;apply bP hs (eO (iY (eQ []))) 14 [(13,16)] (by kernel_rfl) rfl
 ·refine Dm [[],[0]] [.e aC 0] (St.start _) (by kernel_rfl) rfl ?_;refine ay (an (js:=[(1,4)]) (by kernel_rfl) fun gd hf=>?_) ?_
  ·skip;refine ai rfl ?_;apply aj;refine aB rfl ?_;refine au rA aJ rfl rfl rfl rfl rfl (gi (w0.src) _ h.1) fun g' v h1 h2=>⟨g',rfl,h1,?_⟩
   exact h2
  refine ay (an (js:=[(2,5)]) (by kernel_rfl) fun gd hf=>?_) ?_
  ·skip;refine ai rfl ?_;apply aj;refine aB rfl ?_;refine ct (p:=ik) (q:=cz w0.src) rfl rfl rfl (by simp only[List.length_cons,List.length_nil,ik];omega) ?_;exact⟨_,rfl,a_.refl _,rfl⟩
  refine ay (an (js:=[(3,6)]) (by kernel_rfl) fun gd hf=>?_) ?_
  ·skip;refine ai rfl ?_;apply aj;refine aB rfl ?_;refine ct (p:=ik++cz w0.src) (q:=[32]) rfl rfl rfl (by simp only[List.length_append,List.length_cons,List.length_nil,ik];omega) ?_;exact⟨_,rfl,a_.refl _,rfl⟩
  refine Dm [[],[5]] [.e aC 1] (St.start _) (by kernel_rfl) rfl ?_;refine ay (an (js:=[(6,9)]) (by kernel_rfl) fun gd hf=>?_) ?_
  ·skip;refine ai rfl ?_;apply aj;refine aB rfl ?_;refine au rA aJ rfl rfl rfl rfl rfl (gi (w0.dst) _ h.2.1) fun g' v h1 h2=>⟨g',rfl,h1,?_⟩
   exact h2
  refine ay (an (js:=[(4,7),(7,10)]) (by kernel_rfl) fun gd hf=>?_) ?_
  ·skip;refine ai rfl ?_;refine ai rfl ?_;apply aj;refine aB rfl ?_;refine ct (p:=ik++cz w0.src++[32]) (q:=cz w0.dst) rfl rfl rfl (by simp only[List.length_append,List.length_cons,List.length_nil,ik];omega) ?_;exact⟨_,rfl,a_.refl _,rfl⟩
  refine ay (an (js:=[(8,11)]) (by kernel_rfl) fun gd hf=>?_) ?_
  ·skip;refine ai rfl ?_;apply aj;refine aB rfl ?_;refine ct (p:=ik++cz w0.src++[32]++cz w0.dst) (q:=[32]) rfl rfl rfl (by simp only[List.length_append,List.length_cons,List.length_nil,ik];omega) ?_;exact⟨_,rfl,a_.refl _,rfl⟩
  refine Dm [[],[10]] [.e aC 2] (St.start _) (by kernel_rfl) rfl ?_;refine ay (an (js:=[(11,14)]) (by kernel_rfl) fun gd hf=>?_) ?_
  ·skip;refine ai rfl ?_;apply aj;refine aB rfl ?_;refine au rA aJ rfl rfl rfl rfl rfl (gi (w0.dI) _ h.2.2) fun g' v h1 h2=>⟨g',rfl,h1,?_⟩
   exact h2
  refine ay (an (js:=[(9,12),(12,15)]) (by kernel_rfl) fun gd hf=>?_) ?_
  ·skip;refine ai rfl ?_;refine ai rfl ?_;apply aj;refine aB rfl ?_;refine ct (p:=ik++cz w0.src++[32]++cz w0.dst++[32]) (q:=cz w0.dI) rfl rfl rfl (by simp only[List.length_append,List.length_cons,List.length_nil,ik];omega) ?_;exact⟨_,rfl,a_.refl _,rfl⟩
  exact fD
 clear hs;intro g1 hs ah;refine bj rfl ?_;exact aI (aX rfl rfl (hs.ret rfl))
theorem Ao(i:Nat)(v:Value)(s:Step)(g:G)(hv:fV g v s)(hi:i≤1000000)(hB:xe s):CallsIn Wd 0 Tryz.prog 66 #[.int .i64 i,v] g.w (cF g fun _ r=>r= .string (bs (ed i s))):=by
 obtain⟨cs,rfl,a1,n1,c1,a2,n2,c2,rfl,aH,aU⟩:=hv;have hs:=St.start g;have aq:=G.le.refl g;have Vi:kK (i:Int):=⟨by omega,by omega⟩
 have l0:=dF Vi;have l1:=dF hB.n.cE;have l2:=dF hB.n.min;have l3:=dF hB.n.max;have l4:=oZ hB.n.u6;have l5:=oZ hB.n.next;have l6:=hB.dt;have l7:=hB.next;have XY:cz (i:Int)=dec i:=rfl;refine enter Tryz.func66 rfl Tryz.ntmps66 rfl ?_;apply cM;refine ak rfl rfl (aO rfl hs rfl rfl ?_);clear hs;rintro bx g1 hs ah;obtain⟨aH,aU⟩:=cf ah aH aU;obtain⟨g2,bL,aT,ah,aL⟩:=hs.ba (i:=0) rfl;replace hs:=aT;clear aT;rw[←bL];obtain⟨aH,aU⟩:=cf ah aH aU;have aC:=aL;clear aL bL ah;refine bj rfl ?_;apply aD;apply bP hs (eO (eO (eO (iY (fe []))))) 29 [(28,5)] (by kernel_rfl) rfl
 ·refine Dx [[]] (by kernel_rfl) rfl ?_;refine ay (an (js:=[(0,6)]) (by kernel_rfl) fun gd hf=>?_) ?_
  ·skip;refine ai rfl ?_;apply aj;refine aB rfl ?_;refine au rA aJ rfl rfl rfl rfl rfl (gi ((i:Int)) _ Vi) fun g' v h1 h2=>⟨g',rfl,h1,?_⟩
   exact h2
  refine ay (an (js:=[(1,7)]) (by kernel_rfl) fun gd hf=>?_) ?_
  ·skip;refine ai rfl ?_;apply aj;refine aB rfl ?_;refine ct (p:=fZ) (q:=cz i) rfl rfl rfl (by simp only[List.length_cons,List.length_nil,fZ];omega) ?_;exact⟨_,rfl,a_.refl _,rfl⟩
  refine ay (an (js:=[(2,8)]) (by kernel_rfl) fun gd hf=>?_) ?_
  ·skip;refine ai rfl ?_;apply aj;refine aB rfl ?_;refine ct (p:=fZ++cz i) (q:=dO) rfl rfl rfl (by simp only[List.length_append,List.length_cons,List.length_nil,fZ,dO];omega) ?_;exact⟨_,rfl,a_.refl _,rfl⟩
  refine Dm [[],[4]] [.e aC 0] (St.start _) (by kernel_rfl) rfl ?_;refine ay (an (js:=[(5,11)]) (by kernel_rfl) fun gd hf=>?_) ?_
  ·skip;refine ai rfl ?_;apply aj;refine aB rfl ?_;refine au rA aJ rfl rfl rfl rfl rfl (gi (s.cE) _ hB.n.cE) fun g' v h1 h2=>⟨g',rfl,h1,?_⟩
   exact h2
  refine ay (an (js:=[(3,9),(6,12)]) (by kernel_rfl) fun gd hf=>?_) ?_
  ·skip;refine ai rfl ?_;refine ai rfl ?_;apply aj;refine aB rfl ?_;refine ct (p:=fZ++cz i++dO) (q:=cz s.cE) rfl rfl rfl (by simp only[List.length_append,List.length_cons,List.length_nil,fZ,dO];omega) ?_;exact⟨_,rfl,a_.refl _,rfl⟩
  refine ay (an (js:=[(7,13)]) (by kernel_rfl) fun gd hf=>?_) ?_
  ·skip;refine ai rfl ?_;apply aj;refine aB rfl ?_;refine ct (p:=fZ++cz i++dO++cz s.cE) (q:=fM) rfl rfl rfl (by simp only[List.length_append,List.length_cons,List.length_nil,fZ,dO,fM];omega) ?_;exact⟨_,rfl,a_.refl _,rfl⟩
  refine Dm [[],[9]] [.e aC 1] (St.start _) (by kernel_rfl) rfl ?_;refine ay (an (js:=[(10,16)]) (by kernel_rfl) fun gd hf=>?_) ?_
  ·have dG:=(G.bu _).trans hf.le;refine ai rfl ?_;apply aj;refine aB rfl ?_;refine au Jt aJ rfl rfl rfl rfl rfl (CZ _ (s.dt) _ (aH.mono dG) hB.n.u6 (by omega)) fun g' v h1 h2=>⟨g',rfl,h1,?_⟩
   exact h2
  refine ay (an (js:=[(8,14),(11,17)]) (by kernel_rfl) fun gd hf=>?_) ?_
  ·skip;refine ai rfl ?_;refine ai rfl ?_;apply aj;refine aB rfl ?_;refine ct (p:=fZ++cz i++dO++cz s.cE++fM) (q:=fq s.dt) rfl rfl rfl (by simp only[List.length_append,List.length_cons,List.length_nil,fZ,dO,fM];omega) ?_;exact⟨_,rfl,a_.refl _,rfl⟩
  refine ay (an (js:=[(12,18)]) (by kernel_rfl) fun gd hf=>?_) ?_
  ·skip;refine ai rfl ?_;apply aj;refine aB rfl ?_;refine ct (p:=fZ++cz i++dO++cz s.cE++fM++fq s.dt) (q:=ke) rfl rfl rfl (by simp only[List.length_append,List.length_cons,List.length_nil,fZ,dO,fM,ke];omega) ?_;exact⟨_,rfl,a_.refl _,rfl⟩
  refine Dm [[],[14]] [.e aC 2] (St.start _) (by kernel_rfl) rfl ?_;refine ay (an (js:=[(15,21)]) (by kernel_rfl) fun gd hf=>?_) ?_
  ·skip;refine ai rfl ?_;apply aj;refine aB rfl ?_;refine au rA aJ rfl rfl rfl rfl rfl (gi (s.min) _ hB.n.min) fun g' v h1 h2=>⟨g',rfl,h1,?_⟩
   exact h2
  refine ay (an (js:=[(13,19),(16,22)]) (by kernel_rfl) fun gd hf=>?_) ?_
  ·skip;refine ai rfl ?_;refine ai rfl ?_;apply aj;refine aB rfl ?_;refine ct (p:=fZ++cz i++dO++cz s.cE++fM++fq s.dt++ke) (q:=cz s.min) rfl rfl rfl (by simp only[List.length_append,List.length_cons,List.length_nil,fZ,dO,fM,ke];omega) ?_;exact⟨_,rfl,a_.refl _,rfl⟩
  refine ay (an (js:=[(17,23)]) (by kernel_rfl) fun gd hf=>?_) ?_
  ·skip;refine ai rfl ?_;apply aj;refine aB rfl ?_;refine ct (p:=fZ++cz i++dO++cz s.cE++fM++fq s.dt++ke++cz s.min) (q:=[46,46]) rfl rfl rfl (by simp only[List.length_append,List.length_cons,List.length_nil,fZ,dO,fM,ke];omega) ?_;exact⟨_,rfl,a_.refl _,rfl⟩
  refine Dm [[],[19]] [.e aC 3] (St.start _) (by kernel_rfl) rfl ?_;refine ay (an (js:=[(20,26)]) (by kernel_rfl) fun gd hf=>?_) ?_
  ·skip;refine ai rfl ?_;apply aj;refine aB rfl ?_;refine au rA aJ rfl rfl rfl rfl rfl (gi (s.max) _ hB.n.max) fun g' v h1 h2=>⟨g',rfl,h1,?_⟩
   exact h2
  refine ay (an (js:=[(18,24),(21,27)]) (by kernel_rfl) fun gd hf=>?_) ?_
  ·skip;refine ai rfl ?_;refine ai rfl ?_;apply aj;refine aB rfl ?_;refine ct (p:=fZ++cz i++dO++cz s.cE++fM++fq s.dt++ke++cz s.min++[46,46]) (q:=cz s.max) rfl rfl rfl (by simp only[List.length_append,List.length_cons,List.length_nil,fZ,dO,fM,ke];omega) ?_;exact⟨_,rfl,a_.refl _,rfl⟩
  refine ay (an (js:=[(22,28)]) (by kernel_rfl) fun gd hf=>?_) ?_
  ·skip;refine ai rfl ?_;apply aj;refine aB rfl ?_;refine ct (p:=fZ++cz i++dO++cz s.cE++fM++fq s.dt++ke++cz s.min++[46,46]++cz s.max) (q:=rf) rfl rfl rfl (by simp only[List.length_append,List.length_cons,List.length_nil,fZ,dO,fM,ke,rf];omega) ?_;exact⟨_,rfl,a_.refl _,rfl⟩
  refine Dm [[],[24]] [.e aC 4] (St.start _) (by kernel_rfl) rfl ?_;refine ay (an (js:=[(25,31)]) (by kernel_rfl) fun gd hf=>?_) ?_
  ·have dG:=(G.bu _).trans hf.le;refine ai rfl ?_;apply aj;refine aB rfl ?_;refine au Jt aJ rfl rfl rfl rfl rfl (CZ _ (s.next) _ (aU.mono dG) hB.n.next (by omega)) fun g' v h1 h2=>⟨g',rfl,h1,?_⟩
   exact h2
  refine ay (an (js:=[(23,29),(26,32)]) (by kernel_rfl) fun gd hf=>?_) ?_
  ·skip;refine ai rfl ?_;refine ai rfl ?_;apply aj;refine aB rfl ?_;refine ct (p:=fZ++cz i++dO++cz s.cE++fM++fq s.dt++ke++cz s.min++[46,46]++cz s.max++rf) (q:=fq s.next) rfl rfl rfl (by simp only[List.length_append,List.length_cons,List.length_nil,fZ,dO,fM,ke,rf];omega) ?_;exact⟨_,rfl,a_.refl _,rfl⟩
  exact Dy [[27,27]] (by kernel_rfl) rfl
 clear hs;intro g1 hs ah;replace aC:=aC.mono ah;have hh:fZ++cz i++dO++cz s.cE++fM++fq s.dt++ke++cz s.min++[46,46]++cz s.max++rf++fq s.next=u9 i s:=by unfold u9 iV;rw[XY];simp[List.append_assoc]
 rw[hh];rw[oy];have My:=sf hi hB;unfold Ah;generalize u9 i s=H at*;apply bW;apply aD;refine l_ [.z aC] (St.start _) rfl ?_;by_cases Cp:0≤s.back
 ·rw[if_pos Cp];have Rk:kK s.back∧kK s.dI:=by
   rcases hB.n.back with h|h
   ·omega
   exact h
  have l8:=dF Rk.1;have l9:=dF Rk.2;refine aM (b:=_) ?_ rfl ?_
  ·simp[Cp]
  skip;apply bP hs (eO (eQ (fe []))) 11 [(10,47)] (by kernel_rfl) rfl
  ·refine Dx [[]] (by kernel_rfl) rfl ?_;refine ay (an (js:=[(0,37)]) (by kernel_rfl) fun gd hf=>?_) ?_
   ·skip;refine ai rfl ?_;apply aj;refine aB rfl ?_;refine ct (p:=H) (q:=ox) rfl rfl rfl (by simp only[List.length_cons,List.length_nil,ox];omega) ?_;exact⟨_,rfl,a_.refl _,rfl⟩
   refine Dm [[],[2]] [.e aC 5] (St.start _) (by kernel_rfl) rfl ?_;refine ay (an (js:=[(3,40)]) (by kernel_rfl) fun gd hf=>?_) ?_
   ·skip;refine ai rfl ?_;apply aj;refine aB rfl ?_;refine au rA aJ rfl rfl rfl rfl rfl (gi (s.back) _ Rk.1) fun g' v h1 h2=>⟨g',rfl,h1,?_⟩
    exact h2
   refine ay (an (js:=[(1,38),(4,41)]) (by kernel_rfl) fun gd hf=>?_) ?_
   ·skip;refine ai rfl ?_;refine ai rfl ?_;apply aj;refine aB rfl ?_;refine ct (p:=H++ox) (q:=cz s.back) rfl rfl rfl (by simp only[List.length_append,List.length_cons,List.length_nil,ox];omega) ?_;exact⟨_,rfl,a_.refl _,rfl⟩
   refine ay (an (js:=[(5,42)]) (by kernel_rfl) fun gd hf=>?_) ?_
   ·skip;refine ai rfl ?_;apply aj;refine aB rfl ?_;refine ct (p:=H++ox++cz s.back) (q:=qb) rfl rfl rfl (by simp only[List.length_append,List.length_cons,List.length_nil,ox,qb];omega) ?_;exact⟨_,rfl,a_.refl _,rfl⟩
   refine Dm [[],[7]] [.e aC 6] (St.start _) (by kernel_rfl) rfl ?_;refine ay (an (js:=[(8,45)]) (by kernel_rfl) fun gd hf=>?_) ?_
   ·skip;refine ai rfl ?_;apply aj;refine aB rfl ?_;refine au rA aJ rfl rfl rfl rfl rfl (gi (s.dI) _ Rk.2) fun g' v h1 h2=>⟨g',rfl,h1,?_⟩
    exact h2
   refine ay (an (js:=[(6,43),(9,46)]) (by kernel_rfl) fun gd hf=>?_) ?_
   ·skip;refine ai rfl ?_;refine ai rfl ?_;apply aj;refine aB rfl ?_;refine ct (p:=H++ox++cz s.back++qb) (q:=cz s.dI) rfl rfl rfl (by simp only[List.length_append,List.length_cons,List.length_nil,ox,qb];omega) ?_;exact⟨_,rfl,a_.refl _,rfl⟩
   exact fD
  clear hs;intro g1 hs ah;refine bj rfl ?_;refine aY rfl ?_;refine aI (aX rfl rfl (hs.ret ?_));simp[List.append_assoc]
 rw[if_neg Cp,List.append_nil];refine aV (b:=_) ?_ rfl ?_
 ·simp;omega
 apply aF;apply ar;refine aY rfl ?_;exact aI (aX rfl rfl (hs.ret rfl))
theorem Ap{l:List Step}{k:Nat}(hk:k<l.length):f_ 0 (l.take (k+1))=f_ 0 (l.take k)++ed k l[k]++[10]:=by rw[List.take_succ_eq_append_getElem hk,sT,List.length_take,Nat.zero_add,Nat.min_eq_left (by omega)];simp
theorem BV{l:List bZ}{k:Nat}(hk:k<l.length):kg (l.take (k+1))=kg (l.take k)++dE l[k]++[10]:=by rw[List.take_succ_eq_append_getElem hk,vf];simp
theorem FL(v:Value)(f:bQ)(g:G)(dj:ff g v f):CallsIn Wd 0 Tryz.prog 23 #[v] g.w (cF g fun _ r=>r=kY f):=by
 obtain⟨a1,n1,c1,a2,n2,c2,rfl,aH,aU⟩:=id dj;obtain⟨_,_,e⟩:=aH.isSlice;obtain⟨rfl,rfl,rfl⟩:=Value.slice.inj e;clear e;obtain⟨_,_,e⟩:=aU.isSlice;obtain⟨rfl,rfl,rfl⟩:=Value.slice.inj e;clear e;clear dj;have hs:=St.start g;have aq:=G.le.refl g;refine enter Tryz.func23 rfl Tryz.ntmps23 rfl ?_;apply cM;refine ak rfl rfl (aO rfl hs rfl rfl ?_);clear hs;rintro bx g1 hs ah;obtain⟨aH,aU⟩:=cf ah aH aU;obtain⟨g2,bL,aT,ah,aL⟩:=hs.ba (i:=0) rfl;replace hs:=aT;clear aT;rw[←bL];obtain⟨aH,aU⟩:=cf ah aH aU;have aC:=aL;clear aL bL ah;refine bj rfl ?_;apply aD;refine dz 1 [.z aC] (St.start _) rfl ?_;refine ak rfl rfl (au RZ aJ rfl rfl rfl rfl rfl (GG _ f _ ⟨_,_,_,_,_,_,rfl,aH,aU⟩) ?_);rintro g1 _ aP rfl;replace hs:=hs.call aP;have ah:=aP.le;obtain⟨aC,aH,aU⟩:=dy ah aC aH aU;refine bj rfl ?_;cases hv:valid f with
 |false=>
  rw[Am hv];refine aM rfl rfl ?_;refine aY rfl ?_;exact aI (rH rfl rfl rfl (hs.ret rfl))
 |true=>
 rw[yF hv];have hB:=CX hv;have Sx:=hB.n40;have Ss:=hB.XT;refine aV rfl rfl ?_;have l1:=dF hB.min;have l2:=dF hB.max;have QD:=hB.min;have QE:=hB.max;apply aF;apply ar;apply aD;apply bP hs (eO (eQ (fe []))) 11 [(10,4)] (by kernel_rfl) rfl
 ·refine Dm [[],[0]] [.e aC 0] (St.start _) (by kernel_rfl) rfl ?_;refine ay (an (js:=[(1,11)]) (by kernel_rfl) fun gd hf=>?_) ?_
  ·skip;refine ai rfl ?_;apply aj;refine aB rfl ?_;refine au rA aJ rfl rfl rfl rfl rfl (gi (f.bB) _ QD) fun g' v h1 h2=>⟨g',rfl,h1,?_⟩
   exact h2
  refine ay (an (js:=[(2,12)]) (by kernel_rfl) fun gd hf=>?_) ?_
  ·skip;refine ai rfl ?_;apply aj;refine aB rfl ?_;refine ct (p:=nk) (q:=cz f.bB) rfl rfl rfl (by simp only[List.length_cons,List.length_nil,nk];omega) ?_;exact⟨_,rfl,a_.refl _,rfl⟩
  refine ay (an (js:=[(3,13)]) (by kernel_rfl) fun gd hf=>?_) ?_
  ·skip;refine ai rfl ?_;apply aj;refine aB rfl ?_;refine ct (p:=nk++cz f.bB) (q:=[46,46]) rfl rfl rfl (by simp only[List.length_append,List.length_cons,List.length_nil,nk];omega) ?_;exact⟨_,rfl,a_.refl _,rfl⟩
  refine Dm [[],[5]] [.e aC 1] (St.start _) (by kernel_rfl) rfl ?_;refine ay (an (js:=[(6,16)]) (by kernel_rfl) fun gd hf=>?_) ?_
  ·skip;refine ai rfl ?_;apply aj;refine aB rfl ?_;refine au rA aJ rfl rfl rfl rfl rfl (gi (f.bU) _ QE) fun g' v h1 h2=>⟨g',rfl,h1,?_⟩
   exact h2
  refine ay (an (js:=[(4,14),(7,17)]) (by kernel_rfl) fun gd hf=>?_) ?_
  ·skip;refine ai rfl ?_;refine ai rfl ?_;apply aj;refine aB rfl ?_;refine ct (p:=nk++cz f.bB++[46,46]) (q:=cz f.bU) rfl rfl rfl (by simp only[List.length_append,List.length_cons,List.length_nil,nk];omega) ?_;exact⟨_,rfl,a_.refl _,rfl⟩
  refine ay (an (js:=[(8,18)]) (by kernel_rfl) fun gd hf=>?_) ?_
  ·skip;refine ai rfl ?_;apply aj;refine aB rfl ?_;refine ct (p:=nk++cz f.bB++[46,46]++cz f.bU) (q:=[10]) rfl rfl rfl (by simp only[List.length_append,List.length_cons,List.length_nil,nk];omega) ?_;exact⟨_,rfl,a_.refl _,rfl⟩
  exact Dy [[9,9]] (by kernel_rfl) rfl
 clear hs;intro g1 hs ah;obtain⟨aC,aH,aU⟩:=dy ah aC aH aU;have yX:nk++cz f.bB++[46,46]++cz f.bU++[10]=gY f.bB f.bU++[10]:=by rw[lG];unfold iV;simp
 have HT:=yz hB.min hB.max;have HX:gI f=gY f.bB f.bU++[10]++f_ 0 f.steps++kg f.windows:=by unfold gI;simp
 rw[yX];generalize gY f.bB f.bU=M0 at*;apply bW;apply aD;refine aY rfl ?_;apply aG;have nL:=aH;have uD:=aU;have pK:=aC;refine bM (fun m a' w=> ∃(k:Nat) (g4:G),w=g4.w∧St g g4 []∧G.le g1 g4∧k≤f.steps.length∧m=f.steps.length-k∧
   Fr 54 [] [(1,.pointer (some ⟨bx,0,none⟩)),(4,.string (bs (M0++[10]++f_ 0 (f.steps.take k)))),(5,.int .i64 k)] a') f.steps.length (fun a' ha=>⟨0,g1,rfl,hs,G.le.refl _,Nat.zero_le _,rfl,ha.keep ⟨rfl,kV rfl (by simp[f_]),rfl,trivial⟩⟩) ?_
 clear hs aq aH aU aC;rintro m a' _ ⟨k,g4,rfl,hs,kN,hk,rfl,eF⟩;have aH:=nL.mono kN;have aU:=uD.mono kN;have aC:=pK.mono kN;have kx:=va (l:=f.steps.take k) (k:=0) (by rw[List.length_take];omega) fun s hs=>hB.steps s (List.mem_of_mem_take hs);rw[List.length_take]at kx;have T6:(f_ 0 (f.steps.take k)).length≤8000:=by omega
 revert a';apply cI;apply aD;refine l_ [.z aC] (St.start _) rfl ?_;by_cases bC:k<f.steps.length
 ·refine aM (b:=_) ?_ rfl ?_
  ·simp;omega
  have T7:dS f.steps (k:Int)=some f.steps[k]:=by simp[dS,bC]
  have dH:=Ap bC;have T8:=hB.steps _ (List.getElem_mem bC);have XZ:=sf (i:=k) (by omega) T8;have Zy:=xf T8;have hle:=oy k f.steps[k];generalize f.steps[k]=s at*;have X0:(ed k s).length≤200:=by rw[hle,List.length_append];omega
  apply aF;apply ar;apply aD;apply aG;apply aA;refine Wm 5 [.z aC] (St.start _) rfl ?_;refine ak rfl rfl (aW T.ok rfl aH (y:=s) T7 rfl rfl rfl rfl rfl rfl ?_);rintro bq pq ys aL ⟨xa,xn,xc,na,nn,nc,rfl,o5,lC⟩;refine Wm 1 [.e aL 0] (St.start _) rfl ?_;refine ak rfl rfl (au R0 aJ rfl rfl rfl rfl rfl (Ao k _ s _ ⟨_,rfl,_,_,_,_,_,_,rfl,o5,lC⟩ (by omega) T8) ?_);rintro g1 _ aP rfl;replace hs:=hs.call aP;have ah:=aP.le;obtain⟨kN,aC,aU⟩:=dy ah kN aC aU;refine ak rfl rfl (ct (p:=M0++[10]++f_ 0 (f.steps.take k)) (q:=ed k s) rfl rfl rfl (by simp only[List.length_append,List.length_singleton];omega) ?_);refine ak rfl rfl (ct (p:=M0++[10]++f_ 0 (f.steps.take k)++ed k s) (q:=[10]) rfl rfl rfl (by simp only[List.length_append,List.length_singleton];omega) ?_);refine Wp 1 rfl ?_;apply aE;apply bR;apply ar;apply aA;refine Wp 3 rfl ?_;apply aE;exact fun a ha=>⟨f.steps.length-(k+1),by omega,k+1,_,rfl,hs,kN,by omega,rfl,ha.keep ⟨rfl,kV rfl (by rw[dH];simp[List.append_assoc]),kI rfl (by rw[wr (by omega) (by omega)];omega),trivial⟩⟩
 refine aV (b:=_) ?_ rfl ?_
 ·simp;omega
 obtain rfl:k=f.steps.length:=by omega
 rw[List.take_length]at T6⊢;apply bF;apply bG;apply bG;apply c_;apply ar;apply aD;refine aY rfl ?_;apply aG;have LY:=aU;have uF:=aC;refine bM (fun m a' w=> ∃(k:Nat) (g5:G),w=g5.w∧St g g5 []∧G.le g4 g5∧k≤f.windows.length∧m=f.windows.length-k∧
   Fr 54 [] [(1,.pointer (some ⟨bx,0,none⟩)),(4,.string (bs (M0++[10]++f_ 0 f.steps++kg (f.windows.take k)))),(6,.int .i64 k)] a') f.windows.length (fun a' ha=>⟨0,g4,rfl,hs,G.le.refl _,Nat.zero_le _,rfl,ha.keep ⟨rfl,kV rfl (by simp[kg]),rfl,trivial⟩⟩) ?_
 clear hs kN aH aU aC bC hk;rintro m a' _ ⟨k,g5,rfl,hs,kN,hk,rfl,eF⟩;have aU:=LY.mono kN;have aC:=uF.mono kN;have Ih:=xg (l:=f.windows.take k) fun w hw=>hB.IV w (List.mem_of_mem_take hw);rw[List.length_take]at Ih;have X3:(kg (f.windows.take k)).length≤1000:=by omega
 revert a';apply cI;apply aD;refine l_ [.z aC] (St.start _) rfl ?_;by_cases bC:k<f.windows.length
 ·refine aM (b:=_) ?_ rfl ?_
  ·simp;omega
  have T7:dS f.windows (k:Int)=some f.windows[k]:=by simp[dS,bC]
  have dH:=BV bC;have Vj:=hB.IV _ (List.getElem_mem bC);have XZ:=oz Vj;generalize f.windows[k]=w0 at*;apply aF;apply ar;apply aD;apply aG;apply aA;refine Wm 4 [.z aC] (St.start _) rfl ?_;refine ak rfl rfl (aW T.ok rfl aU (y:=w0) T7 rfl rfl rfl rfl rfl rfl ?_);rintro bq pq ys aL rfl;refine Wm 1 [.e aL 0] (St.start _) rfl ?_;refine ak rfl rfl (au R1 aJ rfl rfl rfl rfl rfl (vR w0 _ Vj) ?_);rintro g1 _ aP rfl;replace hs:=hs.call aP;have ah:=aP.le;replace kN:=G.le.trans kN ah;refine ak rfl rfl (ct (p:=M0++[10]++f_ 0 f.steps++kg (f.windows.take k)) (q:=dE w0) rfl rfl rfl (by simp only[List.length_append,List.length_singleton];omega) ?_);refine ak rfl rfl (ct (p:=M0++[10]++f_ 0 f.steps++kg (f.windows.take k)++dE w0) (q:=[10]) rfl rfl rfl (by simp only[List.length_append,List.length_singleton];omega) ?_);refine Wp 1 rfl ?_;apply aE;apply bR;apply ar;apply aA;refine Wp 3 rfl ?_;apply aE;exact fun a ha=>⟨f.windows.length-(k+1),by omega,k+1,_,rfl,hs,kN,by omega,rfl,ha.keep ⟨rfl,kV rfl (by rw[dH];simp[List.append_assoc]),kI rfl (by rw[wr (by omega) (by omega)];omega),trivial⟩⟩
 refine aV (b:=_) ?_ rfl ?_
 ·simp;omega
 obtain rfl:k=f.windows.length:=by omega
 rw[List.take_length];apply bF;apply bG;apply bG;apply c_;apply ar;refine aY rfl ?_;rw[←HX];exact aI (rH rfl rfl rfl (hs.ret rfl))
end Go.Proofs.YtgehbndkogohpaaGreatDoor
namespace Go.Proofs.YtgehbndkogohpaaGreatDoor
open Go Go.K
set_option maxRecDepth 10000
attribute [local irreducible] W WL cD bc bK bd bg bh cq ck
set_option maxHeartbeats 1000000
structure WB(f:bQ):Prop where
 some_:f.steps≠[]
 dt: ∀s∈f.steps,s.dt≠[]
 next: ∀s∈f.steps,∀m∈s.next,0≤m∧m<(f.steps.length:Int)
 back: ∀s∈f.steps,s.back<(f.steps.length:Int)
 YY:WC f
def K5(f:bQ)(c:Int)(out:List bH):Int:=(K4 f out).getD (aS c (K4 f out).length).toNat 0
def PB(f:bQ)(waf idn time c:Int)(out:List bH):bH:=
 {JY ((dS f.steps (K5 f c out)).getD lB) (((dS f.steps (K5 f c out)).getD lB).dt.headD 0) (idn+out.length) waf (K5 f c out) (time+10*out.length)with til:=IntKind.i64.wrap (time+10*out.length+5)}
abbrev rF(ad:Option Addr)(c:Nat)(xs:List bH):cS:=.row 34 19 (.slice ad xs.length c) xs.length (fl xs)
end Go.Proofs.YtgehbndkogohpaaGreatDoor
namespace Go.Proofs.YtgehbndkogohpaaGreatDoor
open Go Go.K
set_option maxRecDepth 10000
attribute [local irreducible] W WL cD bc bK bd bg bh cq ck
set_option maxHeartbeats 1000000
def DB(f:bQ):List UInt8:=if valid f=true then gI f else []
def mi(t:List UInt8):bH:={iy with kind:=5,ver:=1,prod:=1,text:=t}
def mj(i:Nat):bH:={iy with kind:=4,ver:=1,waf:=(i+1:Nat),lot:=(1+(i+1)/3:Nat),prod:=1}
def pj(k h j:Nat):bH:={iy with kind:=6,idn:=(10*k+5*h+j+1:Nat),ver:=1,til:=1000000,tool:=k,cham:=h,rcp:=(j+1:Nat),rvn:=1}
def uB(n:Nat):bH:=pj (n/10) (n/5 % 2) (n % 5)
theorem FJ{k h j:Nat}(hh:h<2)(hj:j<5):uB (10*k+5*h+j)=pj k h j:=by unfold uB;rw[show(10*k+5*h+j)/10=k from by omega,show(10*k+5*h+j)/5 % 2=h from by omega,show(10*k+5*h+j) % 5=j from by omega]
def DA(t:List UInt8):List bH:=mi t::(List.range 3).map mj
def FI(t:List UInt8):List bH:=DA t++(List.range 120).map uB
theorem vE(f:bQ): ∃z:Int,kY f= .tuple #[.string (bs (DB f)),.int .i64 z]:=by
 unfold kY DB;split
 ·exact⟨_,rfl⟩
 exact⟨_,rfl⟩
abbrev oF(b:Nat):cS:=.obj b (.cells #[.int .i64 0,.int .i64 0,.slice none 0 0,.slice none 0 0] 28 (0,0))
theorem zG{α:Type}(p:Nat→α)(k:Nat):(List.range (k+1)).map p=(List.range k).map p++[p k]:=by rw[List.range_succ,List.map_append];rfl
theorem PC(v:Value)(x:List Y6)(g:G)(aH:Rs g v x)(hx: ∀y∈x,y.fit):
  CallsIn Wd 0 Tryz.prog 6 #[v] g.w (cF g fun g' r=> ∃v1 v2,r= .tuple #[v1,v2]∧km 34 g (FI (DB (mk x []))) g' v1∧ff g' v2 (mk x [])):=by
 have hs:=St.start g;have aq:=G.le.refl g;obtain⟨a,c,rfl⟩:=aH.isSlice;refine enter Tryz.func6 rfl Tryz.ntmps6 rfl ?_;refine cN 1 rfl ?_;refine ak rfl rfl (aK T.ok rfl hs rfl rfl ?_);clear hs;rintro b3 g1 hs ah;obtain⟨aq,aH⟩:=cf ah aq aH;apply bW;refine cN 1 rfl ?_;refine ak rfl rfl (au RH aJ rfl rfl rfl rfl rfl (K6 _ _ x [] _ aH (Rs.nil _) hx (fun _ h=>absurd h List.not_mem_nil)) ?_);rintro g1 _ aP fA;replace hs:=hs.call aP;have ah:=aP.le;replace aq:=G.le.trans aq ah;clear aP;generalize mk x []=f at*;obtain⟨a1,n1,c1,a2,n2,c2,rfl,aU,bS⟩:=id fA;clear aU bS aH;skip;refine ak rfl rfl (aK T.ok rfl hs rfl rfl ?_);clear hs;rintro b4 g1 hs ah;obtain⟨aq,fA⟩:=cf ah aq fA;refine bA rfl (az T.ok 0 rfl hs rfl rfl rfl rfl rfl rfl rfl rfl rfl ?_);replace hs:=hs;rintro g1 hs ah;obtain⟨aq,fA⟩:=cf ah aq fA;obtain⟨g2,bL,aT,ah,aL⟩:=hs.ba (i:=0) rfl;replace hs:=aT;clear aT;rw[←bL];obtain⟨aq,fA⟩:=cf ah aq fA;have aC:=aL;clear aL;replace hs:St g _ [oF b3]:=hs;apply bW;refine dz 1 [.z aC] (St.start _) rfl ?_;refine ak rfl rfl (au RI aJ rfl rfl rfl rfl rfl (FL _ f _ fA) ?_);rintro g1 _ aP HX;replace hs:=hs.call aP;have ah:=aP.le;obtain⟨aq,aC,fA⟩:=dy ah aq aC fA;clear aP;obtain⟨n6,e6⟩:=vE f;rw[e6]at HX;subst HX;clear e6;generalize DB f=tx at*;refine bj rfl ?_;refine cN 1 rfl ?_;refine ak rfl rfl (aQ T.ok rfl (vs:=[(0,.int .i64 5),(2,.int .i64 1),(10,.int .i64 1),(18,.string (bs tx))]) (cells:=cg (mi tx)) rfl rfl rfl rfl [(0,1),(1,1),(2,1),(3,1),(4,1),(5,1),(6,1),(7,1),(8,1),(9,1),(10,1),(11,1),(12,1),(13,1),(14,1),(15,1),(16,1),(17,1),(18,1)] rfl (by kernel_rfl) ?_);skip;refine ak rfl rfl (bD T.ok rfl hs (vs:=[(0,fv (mi tx))]) (cells:=cg (mi tx)) rfl rfl rfl rfl rfl rfl (by decide) (by decide) (by kernel_rfl) rfl ?_);rintro bl gl hs ah;obtain⟨aq,aC,fA⟩:=dy ah aq aC fA;replace hs:St g gl [rF (some ⟨bl,0,none⟩) 1 [mi tx],oF b3]:=by have e:fl [mi tx]=cg (mi tx):=List.append_nil _;unfold rF;rw[e];exact hs
 refine bj rfl ?_;apply aD;refine aY rfl ?_;apply aG;refine bM (fun m a' w=> ∃(k:Nat) (ad:Option Addr) (c8:Nat) (xs:List bH) (g':G),w=g'.w∧St g g' [rF ad c8 xs,oF b3]∧G.le g g'∧ff g' (.agg #[.int .i64 f.bB,.int .i64 f.bU,.slice a1 n1 c1,.slice a2 n2 c2]) f∧EP g' b4 0 [.int .i64 f.bB,.int .i64 f.bU,.slice a1 n1 c1,.slice a2 n2 c2]∧k≤3∧xs.length=k+1∧xs=mi tx::(List.range k).map mj∧m=3-k∧
   Fr 59 [] [(3,.pointer (some ⟨b3,0,none⟩)),(4,.pointer (some ⟨b4,0,none⟩)),(7,.slice ad xs.length c8),(8,.int .i64 (k+1:Nat))] a') 3
  (fun a' ha=>⟨0,_,_,[mi tx],_,rfl,hs,aq,fA,aC,by omega,rfl,rfl,rfl,ha.keep (by(repeat (first|exact trivial|refine⟨rfl,?_⟩)))⟩) ?_
 (repeat clear hs);(repeat clear aq);(repeat clear aC);(repeat clear fA)
 rintro m a' _ ⟨k,ad,c8,xs,g',rfl,hs,aq,fA,aC,hk,lX,jf,rfl,eF⟩;revert a';apply cI;apply aD;refine aY rfl ?_;by_cases bC:k<3
 ·refine aM (b:=decide (((k+1:Nat):Int)≤3)) (decide_eq_true (by omega)) rfl ?_;apply aF;apply ar;apply aD;apply aG;apply aA;refine Wp 5 rfl ?_;have UM:IntKind.i64.wrap (1+IntKind.i64.wrap (((k+1:Nat):Int).tdiv 3))=((1+(k+1)/3:Nat):Int):=by
   have:k=0∨k=1∨k=2:=by omega
   rcases this with rfl|rfl|rfl<;>rfl
  refine cY (.int .i64 ((1+(k+1)/3:Nat):Int)) (t:=31) rfl (congrArg (Value.int .i64) UM) ?_;clear UM;refine ak rfl rfl (aQ T.ok rfl (vs:=[(0,.int .i64 4),(2,.int .i64 1),(7,.int .i64 (k+1:Nat)),(9,.int .i64 (1+(k+1)/3:Nat)),(10,.int .i64 1)]) (cells:=cg (mj k)) rfl rfl rfl rfl [(0,1),(1,1),(2,1),(3,1),(4,1),(5,1),(6,1),(7,1),(8,1),(9,1),(10,1),(11,1),(12,1),(13,1),(14,1),(15,1),(16,1),(17,1),(18,1)] rfl (by kernel_rfl) ?_);skip;refine ak rfl rfl (bD T.ok rfl hs (vs:=[(0,fv (mj k))]) (cells:=cg (mj k)) rfl rfl rfl rfl rfl rfl (by decide) (by decide) (by kernel_rfl) rfl ?_);rintro bl gl hs ah;obtain⟨aq,aC,fA⟩:=dy ah aq aC fA;skip;refine ak rfl rfl (cd T.ok 1 rfl hs rfl rfl rfl rfl rfl rfl rfl (by decide) rfl (Src.fL (hs.own 0 _ rfl).1).2 (by simp[cg,Value.oneCell']) (by show(xs.length+1)*160≤_;omega) (by show xs.length+1≤maxLen;unfold maxLen;omega) ?_);rintro a6 c6 g10 hs ah;obtain⟨aq,aC,fA⟩:=dy ah aq aC fA;have tS:fl (xs++[mj k])=fl xs++cg (mj k):=by rw[lP];exact congrArg (fl xs++ ·) (List.append_nil _)
  have K7:(xs++[mj k]).length=xs.length+1:=by simp
  replace hs:St g g10 [rF a6 c6 (xs++[mj k]),oF b3]:=by unfold rF;rw[tS,K7];exact hs.drop 0
  refine Wp 1 rfl ?_;apply aE;apply bR;apply ar;apply aA;refine Wp 3 rfl ?_;apply aE;exact fun a ha=>⟨3-(k+1),by omega,k+1,a6,c6,xs++[mj k],_,rfl,hs,aq,fA,aC,by omega,by rw[K7,lX],by rw[zG,jf];rfl,rfl,ha.keep ⟨rfl,rfl,kV rfl (by rw[K7]),kI rfl (by rw[wr (by omega) (by omega)];omega),trivial⟩⟩
 refine aV (b:=decide (((k+1:Nat):Int)≤3)) (decide_eq_false (by omega)) rfl ?_;obtain rfl:k=3:=by omega
 replace jf:xs=DA tx:=jf;apply bF;apply bG;apply bG;apply c_;apply ar;refine aY rfl ?_;apply aD;refine aY rfl ?_;apply aG;refine bM (fun m a' w=> ∃(k:Nat) (ad:Option Addr) (c8:Nat) (xs:List bH) (g':G),w=g'.w∧St g g' [rF ad c8 xs,oF b3]∧G.le g g'∧ff g' (.agg #[.int .i64 f.bB,.int .i64 f.bU,.slice a1 n1 c1,.slice a2 n2 c2]) f∧EP g' b4 0 [.int .i64 f.bB,.int .i64 f.bU,.slice a1 n1 c1,.slice a2 n2 c2]∧k≤12∧xs.length=4+10*k∧xs=DA tx++(List.range (10*k)).map uB∧m=12-k∧
   Fr 59 [] [(3,.pointer (some ⟨b3,0,none⟩)),(4,.pointer (some ⟨b4,0,none⟩)),(7,.slice ad xs.length c8),(9,.int .i64 (10*k:Nat)),(10,.int .i64 (k:Nat))] a') 12
  (fun a' ha=>⟨0,_,_,xs,_,rfl,hs,aq,fA,aC,by omega,lX,by rw[jf];exact(List.append_nil _).symm,rfl,ha.keep (by(repeat (first|exact trivial|refine⟨rfl,?_⟩)))⟩) ?_
 clear jf lX
 (repeat clear hs);(repeat clear aq);(repeat clear aC);(repeat clear fA)
 rintro m a' _ ⟨k,ad,c8,xs,g',rfl,hs,aq,fA,aC,hk,lX,jf,rfl,eF⟩;revert a';apply cI;apply aD;refine aY rfl ?_;by_cases YZ:k<12
 ·refine aM (b:=decide ((k:Int)<12)) (decide_eq_true (by omega)) rfl ?_;apply aF;apply ar;apply aD;apply aG;refine aY rfl ?_;apply aG;refine bM (fun m a' w=> ∃(h:Nat) (ad:Option Addr) (c8:Nat) (xs:List bH) (g':G),w=g'.w∧St g g' [rF ad c8 xs,oF b3]∧G.le g g'∧ff g' (.agg #[.int .i64 f.bB,.int .i64 f.bU,.slice a1 n1 c1,.slice a2 n2 c2]) f∧EP g' b4 0 [.int .i64 f.bB,.int .i64 f.bU,.slice a1 n1 c1,.slice a2 n2 c2]∧h≤2∧xs.length=4+(10*k+5*h)∧xs=DA tx++(List.range (10*k+5*h)).map uB∧m=2-h∧
    Fr 59 [] [(3,.pointer (some ⟨b3,0,none⟩)),(4,.pointer (some ⟨b4,0,none⟩)),(7,.slice ad xs.length c8),(9,.int .i64 (10*k+5*h:Nat)),(10,.int .i64 (k:Nat)),(11,.int .i64 (h:Nat))] a') 2
   (fun a' ha=>⟨0,_,_,xs,_,rfl,hs,aq,fA,aC,by omega,lX,jf,rfl,ha.keep (by(repeat (first|exact trivial|refine⟨rfl,?_⟩)))⟩) ?_
  clear jf lX
  (repeat clear hs);(repeat clear aq);(repeat clear aC);(repeat clear fA)
  rintro m a' _ ⟨h,ad,c8,xs,g',rfl,hs,aq,fA,aC,hh,lX,jf,rfl,eF⟩;revert a';apply cI;apply aD;refine aY rfl ?_;by_cases WD:h<2
  ·refine aM (b:=decide ((h:Int)<2)) (decide_eq_true (by omega)) rfl ?_;apply aF;apply ar;apply aD;apply aG;refine aY rfl ?_;apply aG;refine bM (fun m a' w=> ∃(j:Nat) (ad:Option Addr) (c8:Nat) (xs:List bH) (g':G),w=g'.w∧St g g' [rF ad c8 xs,oF b3]∧G.le g g'∧ff g' (.agg #[.int .i64 f.bB,.int .i64 f.bU,.slice a1 n1 c1,.slice a2 n2 c2]) f∧EP g' b4 0 [.int .i64 f.bB,.int .i64 f.bU,.slice a1 n1 c1,.slice a2 n2 c2]∧j≤5∧xs.length=4+(10*k+5*h+j)∧xs=DA tx++(List.range (10*k+5*h+j)).map uB∧m=5-j∧
     Fr 59 [] [(3,.pointer (some ⟨b3,0,none⟩)),(4,.pointer (some ⟨b4,0,none⟩)),(7,.slice ad xs.length c8),(9,.int .i64 (10*k+5*h+j:Nat)),(10,.int .i64 (k:Nat)),(11,.int .i64 (h:Nat)),(12,.int .i64 (j+1:Nat))] a') 5
    (fun a' ha=>⟨0,_,_,xs,_,rfl,hs,aq,fA,aC,by omega,lX,jf,rfl,ha.keep (by(repeat (first|exact trivial|refine⟨rfl,?_⟩)))⟩) ?_
   clear jf lX
   (repeat clear hs);(repeat clear aq);(repeat clear aC);(repeat clear fA)
   rintro m a' _ ⟨j,ad,c8,xs,g',rfl,hs,aq,fA,aC,hj,lX,jf,rfl,eF⟩;revert a';apply cI;apply aD;refine aY rfl ?_;by_cases WE:j<5
   ·refine aM (b:=decide (((j+1:Nat):Int)≤5)) (decide_eq_true (by omega)) rfl ?_;apply aF;apply ar;apply aD;apply aG;refine aY rfl ?_;apply aA;refine Wp 5 rfl ?_;refine cY (.int .i64 ((10*k+5*h+j+1:Nat):Int)) (t:=50) rfl (congrArg (Value.int .i64) (by rw[wr (by omega) (by omega)];omega)) ?_;refine ak rfl rfl (aQ T.ok rfl (vs:=[(0,.int .i64 6),(2,.int .i64 1),(1,.int .i64 (10*k+5*h+j+1:Nat)),(11,.int .i64 (k:Nat)),(12,.int .i64 (h:Nat)),(14,.int .i64 (j+1:Nat)),(15,.int .i64 1),(6,.int .i64 1000000)]) (cells:=cg (pj k h j)) rfl rfl rfl rfl [(0,1),(1,1),(2,1),(3,1),(4,1),(5,1),(6,1),(7,1),(8,1),(9,1),(10,1),(11,1),(12,1),(13,1),(14,1),(15,1),(16,1),(17,1),(18,1)] rfl (by kernel_rfl) ?_);skip;refine ak rfl rfl (bD T.ok rfl hs (vs:=[(0,fv (pj k h j))]) (cells:=cg (pj k h j)) rfl rfl rfl rfl rfl rfl (by decide) (by decide) (by kernel_rfl) rfl ?_);rintro bl gl hs ah;obtain⟨aq,aC,fA⟩:=dy ah aq aC fA;skip;refine ak rfl rfl (cd T.ok 1 rfl hs rfl rfl rfl rfl rfl rfl rfl (by decide) rfl (Src.fL (hs.own 0 _ rfl).1).2 (by simp[cg,Value.oneCell']) (by show(xs.length+1)*160≤_;omega) (by show xs.length+1≤maxLen;unfold maxLen;omega) ?_);rintro a6 c6 g10 hs ah;obtain⟨aq,aC,fA⟩:=dy ah aq aC fA;have tS:fl (xs++[pj k h j])=fl xs++cg (pj k h j):=by rw[lP];exact congrArg (fl xs++ ·) (List.append_nil _)
    have K7:(xs++[pj k h j]).length=xs.length+1:=by simp
    replace hs:St g g10 [rF a6 c6 (xs++[pj k h j]),oF b3]:=by unfold rF;rw[tS,K7];exact hs.drop 0
    refine Wp 1 rfl ?_;apply aE;apply bR;apply ar;apply aA;refine Wp 3 rfl ?_;apply aE;exact fun a ha=>⟨5-(j+1),by omega,j+1,a6,c6,xs++[pj k h j],_,rfl,hs,aq,fA,aC,by omega,by rw[K7,lX];omega,by rw[←Nat.add_assoc,zG,jf,FJ WD WE,List.append_assoc],rfl,ha.keep ⟨rfl,rfl,kV rfl (by rw[K7]),kI rfl (by rw[wr (by omega) (by omega)];omega),rfl,rfl,kI rfl (by rw[wr (by omega) (by omega)];omega),trivial⟩⟩
   refine aV (b:=decide (((j+1:Nat):Int)≤5)) (decide_eq_false (by omega)) rfl ?_;obtain rfl:j=5:=by omega
   apply bF;apply bG;apply bG;apply c_;apply bR;apply ar;apply aA;refine Wp 3 rfl ?_;apply aE;exact fun a ha=>⟨2-(h+1),by omega,h+1,ad,c8,xs,_,rfl,hs,aq,fA,aC,by omega,by rw[lX];omega,by rw[jf];rfl,rfl,ha.keep ⟨rfl,rfl,rfl,rfl,rfl,kI rfl (by rw[wr (by omega) (by omega)];omega),trivial⟩⟩
  refine aV (b:=decide ((h:Int)<2)) (decide_eq_false (by omega)) rfl ?_;obtain rfl:h=2:=by omega
  apply bF;apply bG;apply bG;apply c_;apply bR;apply ar;apply aA;refine Wp 3 rfl ?_;apply aE;exact fun a ha=>⟨12-(k+1),by omega,k+1,ad,c8,xs,_,rfl,hs,aq,fA,aC,by omega,by rw[lX];omega,by rw[jf];rfl,rfl,ha.keep ⟨rfl,rfl,rfl,rfl,kI rfl (by rw[wr (by omega) (by omega)];omega),trivial⟩⟩
 refine aV (b:=decide ((k:Int)<12)) (decide_eq_false (by omega)) rfl ?_;obtain rfl:k=12:=by omega
 replace jf:xs=FI tx:=jf;apply bF;apply bG;apply bG;apply c_;apply ar;apply aD;apply bP hs (eQ (fe [])) 3 [(1,58),(2,2)] (by kernel_rfl) rfl
 ·exact Dz [[],[],[0,0]] [.z aC] hs (by kernel_rfl) rfl
 (repeat clear hs);intro g6 hs ah;replace fA:=fA.mono ah
 skip;refine bA rfl (az T.ok 1 rfl hs rfl rfl rfl rfl rfl rfl rfl rfl rfl ?_);replace hs:=hs;rintro g1 hs ah;replace fA:=fA.mono ah;apply bW;exact aI (PD T.ok 1 rfl hs rfl rfl rfl rfl (hs.ret ⟨_,_,rfl,by rw[←jf];exact hs.nK (i:=0) rfl (cG.fl _ _),fA⟩))
end Go.Proofs.YtgehbndkogohpaaGreatDoor
namespace Go.Proofs.YtgehbndkogohpaaGreatDoor
open Go Go.K
set_option maxRecDepth 10000
attribute [local irreducible] W WL cD bc bK bd bg bh cq ck
theorem Bj{f:bH}(h:eP f≠[]):eC f=true:=by
 unfold eP at h;cases hv:eC f with
 |true=>rfl
 |false=>rw[hv]at h;exact absurd rfl h
theorem zE{f:bH}(h:eC f=true):f.text.length≤8192:=by
 unfold eC at h;split at h
 ·cases h
 split at h
 ·cases h
 rename_i hc;simp only[Bool.or_eq_true,decide_eq_true_eq,not_or]at hc;omega
theorem H8{l:List bH}{day:Int}{i:Nat}{f:bH}(h:f∈(ofM l day).ls i):eC f=true:=by have h1:f∈gR (jl day l) i:=(fR _).mem_iff.1 h;obtain⟨k,hk,_⟩:=tM h1;obtain⟨_,h2⟩:=B2 day l;obtain⟨e,fB⟩:=h2 _ hk;exact Bj (by rw[←e];exact fB)
theorem Pz{l:List bH}(day:Int)(hl:l.length≤1000000):KY (ofM l day):=by
 refine⟨fun i=>?_,fun f hf=>?_⟩
 ·show(dN (lK i) (gR (jl day l) i)).length≤_;rw[fT];exact Nat.le_trans (tO _ _) (Nat.le_trans (y_ day l) hl)
 have:=zE (H8 (i:=4) hf);omega
theorem K3(x:List Y6):WB (mk x []):=by
 have hn:=rU x;have hlen:(mk x []).steps.length=eM x:=sC x (eM x);have xO: ∀s∈(mk x []).steps,∃i y,i<eM x∧s=mP y (eM x) i:=by intro s hs;obtain⟨i,hi,rfl⟩:=List.mem_map.1 (show s∈(List.range (eM x)).map fun i=>mP (x.getD i zF) (eM x) i from hs);exact⟨i,_,List.mem_range.1 hi,rfl⟩
 have jb: ∀s∈(mk x []).steps,(∀m∈s.next,0≤m∧m<(eM x:Int))∧s.next.length≤100000:=by
  intro s hs;obtain⟨i,y,hi,rfl⟩:=xO s hs;show(∀m∈fX y (eM x) i,_)∧(fX y (eM x) i).length≤_;have h3:=(b_ (c:=y.y3.tdiv 12) (n:=3) (by decide)).1;unfold fX;split
  ·rename_i h;split
   ·rename_i h2;refine⟨fun m hm=>?_,by simp⟩;rcases List.mem_cons.1 hm with rfl|hm
    ·omega
    obtain rfl:=List.mem_singleton.1 hm;omega
   refine⟨fun m hm=>?_,by simp⟩;obtain rfl:=List.mem_singleton.1 hm;omega
  exact⟨fun m hm=>absurd hm List.not_mem_nil,by simp⟩
 refine⟨fun e=>?_,fun s hs=>?_,fun s hs m hm=>?_,fun s hs=>?_,fun s hs=>(jb s hs).2⟩
 ·rw[e]at hlen;simp at hlen;omega
 ·obtain⟨i,y,hi,rfl⟩:=xO s hs;show eV y≠[];unfold eV;simp
 ·rw[hlen];exact(jb s hs).1 m hm
 obtain⟨i,y,hi,rfl⟩:=xO s hs;rw[hlen];show(if aS y.y4 4=0 then aS (y.y4.tdiv 4) (i+1)else -1)<_;split
 ·have:=(b_ (c:=y.y4.tdiv 4) (n:=(i:Int)+1) (by omega)).2;omega
 omega
theorem FH(t:List UInt8):(FI t).length=124:=by simp[FI,DA]
def bn(c:Bool)(k:Int):Int:=bif c then k else 0
theorem PA(c1 c2 c3 c4 c5 c6:Bool):Du (Dr [c1,c2,c3,c4,c5,c6])=bn c1 1+bn c2 2+bn c3 4+bn c4 8+bn c5 16+bn c6 32:=by cases c1<;>cases c2<;>cases c3<;>cases c4<;>cases c5<;>cases c6<;>rfl
end Go.Proofs.YtgehbndkogohpaaGreatDoor
namespace Go.Proofs.YtgehbndkogohpaaGreatDoor
open Go Go.K Go.RowKit Go.ChangeShapes Go.WideShapes
set_option maxRecDepth 100000
theorem x9:ownKnob Tryz.prog.godebug=none:=by kernel_rfl
theorem laidOut:laidOutB Tryz.prog=true:=by kernel_rfl
theorem FZ:Tryz.prog.cellsOf 3=1:=by kernel_rfl
theorem F0:Tryz.prog.cellsOf 73=6:=by kernel_rfl
theorem sE:Tryz.prog.cellsOf 9=1:=by kernel_rfl
def uH:List (String×DataW Unit):=[("math/bits.deBruijn32tab",Rows.laid_math_bits_deBruijn32tab),("math/bits.deBruijn64tab",Rows.laid_math_bits_deBruijn64tab),("internal/strconv.uint64pow10",Rows.laid_internal_strconv_uint64pow10),("unicode/utf8.acceptRanges",Rows.laid_unicode_utf8_acceptRanges),("strconv.ErrRange",Rows.laid_strconv_ErrRange),("strconv.ErrSyntax",Rows.laid_strconv_ErrSyntax),("unicode/utf8.first",Rows.laid_unicode_utf8_first)]
theorem PW:Tryz.prog.globalNamed "strconv.ErrRange" =some 7:=by kernel_rfl
theorem PX:Tryz.prog.globalNamed "strconv.ErrSyntax" =some 6:=by kernel_rfl
theorem Tm:(Tryz.prog.globals[1]?).map (·.type)=some 331:=by kernel_rfl
theorem Tn:(Tryz.prog.globals[7]?).map (·.type)=some 119:=by kernel_rfl
theorem To:(Tryz.prog.globals[6]?).map (·.type)=some 119:=by kernel_rfl
theorem PY:(Rows.laid_internal_strconv_uint64pow10:DataW Unit)=Lib.tabData .u64 Lib.pow10Tab:=by kernel_rfl
theorem F1(u:TypeId)(h:Tryz.prog.typeName? 3 u=some "*errors.errorString"):u=367:=
 typeName_ptr_named (nm:= "errors.errorString") (by kernel_rfl) (by kernel_rfl) (by decide) u h
theorem x_{W:World}{b:Nat}{v:Value}(hc:W.cell? ⟨b,0,none⟩=some v):EP (vH W) b 0 [v]:=by
 refine⟨(r3 hc).2,fun j y hy=>?_⟩
 match j,hy with
 |0,hy=>simp at hy;subst hy;exact hc
 |j+1,hy=>simp at hy
theorem DH{W:World}(nN:W.ShapedOpen Tryz.prog): ∃m,W.cell? ⟨0,0,none⟩=some (.int .i64 m):=Tryz.laysM220.s1_3 W nN
theorem PZ{W:World}(h:laidMet Tryz.prog uH W)(nN:W.ShapedOpen Tryz.prog):jv (vH W):=by
 have h2:=h.tail.tail;rw[show(("internal/strconv.uint64pow10",Rows.laid_internal_strconv_uint64pow10):String×DataW Unit)=("internal/strconv.uint64pow10",Lib.tabData .u64 Lib.pow10Tab)from by rw[PY]]at h2;have hT:=Lib.tabIs_of_head Lu Tm Tryz.underlying331 Tryz.underlying261 (by kernel_rfl) (by kernel_rfl) h2;have h4:=h.tail.tail.tail.tail;have h5:=h4.tail;obtain⟨a,s,hv,_⟩:=laid_sentinel h4 PW Tn Tryz.underlying119 F1 Tryz.underlying367 Tryz.underlying369 rfl rfl Tryz.underlying9 (by kernel_rfl) sE;obtain⟨a2,s2,Uw,_⟩:=laid_sentinel h5 PX To Tryz.underlying119 F1 Tryz.underlying367 Tryz.underlying369 rfl rfl Tryz.underlying9 (by kernel_rfl) sE;have hc:=World.var?_cell PW hv 0;have vr:=World.var?_cell PX Uw 0;have hc:W.cell? ⟨7,0,none⟩=some (.iface 367 (.pointer (some a))):=by simpa using hc
 have vr:W.cell? ⟨6,0,none⟩=some (.iface 367 (.pointer (some a2))):=by simpa using vr
 obtain⟨m,hm⟩: ∃m,W.cell? ⟨0,0,none⟩=some (.int .i64 m):=DH nN;have hp:=hT.cell Lu 0 (by decide);exact⟨⟨m,x_ hm⟩,⟨(r3 hp).2,hT⟩,⟨_,x_ vr,.inr ⟨_,_,rfl⟩⟩,⟨_,x_ hc,.inr ⟨_,_,rfl⟩⟩⟩
theorem F2:J3 Tryz.prog 73 (α:=Y6) Y6.fit:=by
 intro H enc W fuel cs x h;obtain⟨hl,hi⟩:=Br Tryz.underlying73 Tryz.underlying3 FZ F0 h
 match cs,hl with
 |[c0,c1,c2,c3,c4,c5],_=>
  obtain⟨m0,e0,f0⟩:=hi 0 (by decide);obtain⟨m1,e1,f1⟩:=hi 1 (by decide);obtain⟨m2,e2,f2⟩:=hi 2 (by decide);obtain⟨m3,e3,f3⟩:=hi 3 (by decide);obtain⟨m4,e4,f4⟩:=hi 4 (by decide);obtain⟨m5,e5,f5⟩:=hi 5 (by decide);obtain rfl:=Option.some.inj e0;obtain rfl:=Option.some.inj e1;obtain rfl:=Option.some.inj e2;obtain rfl:=Option.some.inj e3;obtain rfl:=Option.some.inj e4;obtain rfl:=Option.some.inj e5;exact⟨⟨m0,m1,m2,m3,m4,m5⟩,rfl,⟨f0,f1,f2,f3,f4,f5⟩⟩
theorem uI{H:Type}{enc:TypeId×Value→H}{W:World}{v:Value}{d:DataW H}{p:List MemPlace}(lT:Value.okWide Tryz.prog W .any 0 22 v)(h:DataW.Trod enc Tryz.prog W 0 (fun _=>true) true 22 v d p):
  ∃x:List Y6,Rs (vH W) v x∧ ∀y∈x,y.fit:=by
 obtain⟨a,n,c,rfl⟩:=okWide_slice Tryz.underlying22 lT;obtain⟨fuel,hf⟩:=h;exact F3 (α:=Y6) Tryz.underlying22 F0 F2 hf
theorem pU{H:Type}{enc:TypeId×Value→H}{a:Assume}{C:Checked}{os:Os}{f:FuncId}{fn:Func}{s:ChangeSpec}{conds:List PathCond}{apart fresh handsOn again:Bool}{X:World→Array Value→Prop}
  (hX: ∀(w w':World) (args:Array Value),w.heap=w'.heap→X w args→X w' args)
  (own:ownKnob C.prog.godebug=none) (started:os.Started) (Lv:C.prog.inits.idxOf? f=none) (H0:C.prog.funcs[f]? =some fn)
  (witness: ∃(w:World) (tape:Tape) (i:Input),w.os=os∧(w.forCall tape i).Shaped C.prog∧i.vars=[]∧Input.okWide C.prog (w.forCall tape i) .any w.heap.size f i∧
   ((s.pre enc C.prog fn conds apart (w.forCall tape i).memory i.args∧X (w.forCall tape i).memory i.args)∧sizedMet enc C.prog fn (OpenSpec.ofChange s) apart (w.forCall tape i).memory i.args)∧a.holds C.prog (lone (Frame.enter C.prog f i.args .normal) [] (w.forCall tape i)))
  (qL: ∀(W:World) (args:Array Value) (ds gs:List (DataW H)) (before:List MemPlace),
   (∀(j:Nat) t v,fn.params[j]? =some t→args[j]? =some v→ ∃base,Value.okWide C.prog W .any base t v)→
   DataW.Whole enc C.prog fn.params.toList s.vars apart W args.toList ds gs before→X W args→W.ShapedOpen C.prog→
   Calls C.prog f args W fun e W'=> ∃v,e= .returned v∧s.post enc C.prog fn apart fresh handsOn again W args v W'):
  ReturnsInHanded a C os f .any (fun w args=>(s.pre enc C.prog fn conds apart w args∧X w args)∧sizedMet enc C.prog fn (OpenSpec.ofChange s) apart w args) (s.post enc C.prog fn apart fresh handsOn again):=by
 refine returnsInHanded_of_calls own started Lv witness ?_;intro w tape i _ nN _ lT gj _;obtain⟨_,_,_,W6,Tp,_,_,_,_,fu⟩:=lT;obtain rfl:W6=fn:=Option.some.inj (Tp.symm.trans H0);obtain⟨⟨⟨ds,gs,before,hw,_⟩,hx⟩,_⟩:=gj;have MF:=DataW.Whole.of_heap (w':=w.forCall tape i) (by rfl) hw;refine(qL (w.forCall tape i) i.args ds gs before (fun j t v h1 h2=>⟨_,fu j t v h1 h2⟩) MF (hX _ _ _ (by rfl) hx) nN).mono fun e W' ⟨v,he,hp⟩=>?_;subst he;exact ChangeSpec.post_blind hp
theorem Bs{f:FuncId}{args:Array Value}{W:World}{s:ChangeSpec}{fn:Func}{H:Type}{enc:TypeId×Value→H}{ds:List (DataW H)}{before:List MemPlace}
  (hr:(fn.params.toList.all fun t=>Tryz.prog.readableRec t&&decide (t<Tryz.prog.types.size))=true) (hv:s.vars=[]) (hs:s.fn H ds={results:=[.lit (.bool true)],args:=ds}) (Tq:fn.resultTypes=#[4])
  (hW:DataW.Whole enc Tryz.prog fn.params.toList s.vars false W args.toList ds [] before)
  (h:CallsIn Wd 0 Tryz.prog f args (vH W).w (cF (vH W) fun _ r=>r= .bool true)):
  Calls Tryz.prog f args W fun e W'=> ∃v,e= .returned v∧s.post enc Tryz.prog fn false true false false W args v W':=by
 refine(callsIn_wide.1 h).mono ?_;rintro _ _ ⟨g',v,rfl,hf,rfl,rfl⟩;exact⟨_,rfl,F4 laidOut hr hv hs Tq Tryz.underlying4 hW hf.below⟩
theorem Is(os:Os)(args:Array Value):laidMetH Tryz.prog uH ((World.laidAll Tryz.prog os uH).forCall (fun _ _=>0) ⟨#[],args,[]⟩).memory:=by rw[MakeChecks.laidMetH_plain _ _ _ (by kernel_rfl)];exact laidMet_laidAll _ (by kernel_rfl) (by kernel_rfl)
theorem qM{H:Type}{enc:TypeId×Value→H}{W:World}{v:Value}{d:DataW H}{p:List MemPlace}(lT:Value.okWide Tryz.prog W .any 0 3 v)(h:DataW.Trod enc Tryz.prog W 0 (fun _=>true) true 3 v d p):
  ∃n:Int,v= .int .i64 n∧qN n:=by
 obtain⟨n,rfl,_,_,hw⟩:=open_int Tryz.underlying3 lT h;exact⟨n,rfl,wf_i64 hw⟩
theorem vI{H:Type}{enc:TypeId×Value→H}{P:Program}{w:World}{base:Nat}{spare:Nat→Bool}{held:Bool}{t0 t1 t2 t3 t4 t5 t6:TypeId}{args:Array Value}{ds:List (DataW H)}{ps:List MemPlace}(h:DataW.TrodAll enc P w base spare held [t0,t1,t2,t3,t4,t5,t6] args.toList ds ps):
  ∃v0 v1 v2 v3 v4 v5 v6 d0 d1 d2 d3 d4 d5 d6 p0 p1 p2 p3 p4 p5 p6,args=#[v0,v1,v2,v3,v4,v5,v6]∧ds=[d0,d1,d2,d3,d4,d5,d6]∧ps=p0++p1++p2++p3++p4++p5++p6∧DataW.Trod enc P w base spare held t0 v0 d0 p0∧DataW.Trod enc P w base spare held t1 v1 d1 p1∧DataW.Trod enc P w base spare held t2 v2 d2 p2∧DataW.Trod enc P w base spare held t3 v3 d3 p3∧DataW.Trod enc P w base spare held t4 v4 d4 p4∧DataW.Trod enc P w base spare held t5 v5 d5 p5∧DataW.Trod enc P w base spare held t6 v6 d6 p6:=by
 obtain⟨v0,Y_,d0,Y',p0,q0,pk,rfl,rfl,h0,KH⟩:=trodAll_cons h;obtain⟨v1,Za,d1,Zb,p1,q1,rfl,rfl,rfl,h1,sF⟩:=trodAll_cons KH;obtain⟨v2,Zc,d2,Zd,p2,q2,rfl,rfl,rfl,h2,zK⟩:=trodAll_cons sF;obtain⟨v3,Ze,d3,Zf,p3,q3,rfl,rfl,rfl,h3,J4⟩:=trodAll_cons zK;obtain⟨v4,Zg,d4,Zh,p4,q4,rfl,rfl,rfl,h4,W7⟩:=trodAll_cons J4;obtain⟨v5,Zi,d5,Zj,p5,q5,rfl,rfl,rfl,h5,W8⟩:=trodAll_cons W7;obtain⟨v6,Zk,d6,Zl,p6,q6,rfl,rfl,rfl,h6,W9⟩:=trodAll_cons W8;obtain⟨rfl,rfl,rfl⟩:=trodAll_nil W9;exact⟨v0,v1,v2,v3,v4,v5,v6,d0,d1,d2,d3,d4,d5,d6,p0,p1,p2,p3,p4,p5,p6,by cases args;simp_all,rfl,by simp,h0,h1,h2,h3,h4,h5,h6⟩
end Go.Proofs.YtgehbndkogohpaaGreatDoor
namespace Go.Proofs.YtgehbndkogohpaaGreatDoor
def cmpL:List Int→List Int→Int
 |[],[]=>0
 |[],_::_=> -1
 |_::_,[]=>1
 |a::l,b::r=>if fE a b=0 then cmpL l r else fE a b
structure Wy where
 time:Int
 steps:List Int
def order(a b:Wy):Int:=Fb [fE a.time b.time,fE a.steps.length b.steps.length,cmpL a.steps b.steps]
end Go.Proofs.YtgehbndkogohpaaGreatDoor
namespace Go.Proofs.YtgehbndkogohpaaGreatDoor
open Go Go.K
set_option maxRecDepth 10000
attribute [local irreducible] W WL cD bc bK bd bg bh cq ck
set_option maxHeartbeats 2000000
theorem Bl(v u:Value)(l r:List Int)(g:G)(aH:Rs g v l)(aU:Rs g u r):CallsIn Wd 0 Tryz.prog 292 #[v,u] g.w (cF g fun _ x=>x= .int .i64 (cmpL l r)):=by
 obtain⟨a,c,rfl⟩:=aH.isSlice;obtain⟨a2,c2,rfl⟩:=aU.isSlice;have hlen:=aH.dJ;have zH:=aU.dJ;unfold maxLen at hlen zH;have hs:=St.start g;have nL:=aH;have uD:=aU;refine enter Tryz.func292 rfl Tryz.ntmps292 rfl ?_;refine aY rfl ?_;apply aD;refine aY rfl ?_;apply aG;refine bM (fun m a' w=> ∃(k:Nat) (g':G),w=g'.w∧St g g' []∧G.le g g'∧k≤l.length∧k≤r.length∧m=l.length-k∧cmpL (l.drop k) (r.drop k)=cmpL l r∧
  Fr 36 [] [(0,.slice a l.length c),(1,.slice a2 r.length c2),(9,.slice a l.length c),(10,.int .i64 l.length),(11,.int .i64 k)] a') l.length (fun a' ha=>⟨0,g,rfl,hs,G.le.refl g,Nat.zero_le _,Nat.zero_le _,rfl,rfl,ha.keep (by(repeat (first|exact trivial|refine⟨rfl,?_⟩)))⟩) ?_
 clear hs;rintro m a' _ ⟨k,g',rfl,hs,aq,hk,yU,rfl,dx,eF⟩;have aH:=nL.mono aq;have aU:=uD.mono aq;revert a';apply cI;refine aY rfl ?_;apply aD;by_cases bC:k<l.length
 ·refine aM (b:=decide ((k:Int)<(l.length:Int))) (by simp;omega) rfl ?_;apply aF;apply ar;apply aD;apply aG;refine cN 1 rfl ?_;refine ak rfl rfl (aW T.ok rfl aH (y:=l[k]) (by simp[dS,bC]) rfl rfl rfl rfl rfl rfl ?_);rintro b p ys aL rfl;refine Wm 1 [.e aL 0] (St.start _) rfl ?_;refine bj rfl ?_;apply aD;refine aY rfl ?_;by_cases Hj:r.length≤k
  ·refine aM (b:=decide ((r.length:Int)≤(k:Int))) (by simp;omega) rfl ?_;refine aY rfl ?_;refine aI (aX rfl rfl (hs.ret ?_));rw[←dx,List.drop_eq_getElem_cons bC,List.drop_of_length_le Hj,cmpL]
  have pQ:k<r.length:=by omega
  refine aV (b:=decide ((r.length:Int)≤(k:Int))) (by simp;omega) rfl ?_;rw[List.drop_eq_getElem_cons bC,List.drop_eq_getElem_cons pQ,cmpL]at dx;apply aF;apply ar;refine cN 2 rfl ?_;refine ak rfl rfl (aW T.ok rfl aU (y:=r[k]) (by simp[dS,pQ]) rfl rfl rfl rfl rfl rfl ?_);rintro b p ys aL rfl;refine Wm 1 [.e aL 0] (St.start _) rfl ?_;refine bj rfl ?_;refine cN 2 rfl ?_;refine ak rfl rfl (au AR aJ rfl rfl rfl rfl rfl (pO _ _ _) ?_);rintro g1 _ aP rfl;replace hs:=hs.call aP;have ah:=aP.le;replace aq:=G.le.trans aq ah;refine bj rfl ?_;refine aY rfl ?_;by_cases hz:fE l[k] r[k]=0
  ·refine aV (b:=fE l[k] r[k] !=0) (by simp[hz]) rfl ?_;rw[if_pos hz]at dx;apply aF;apply bR;apply ar;apply aA;refine Wp 2 rfl ?_;apply aE;exact fun a ha=>⟨l.length-(k+1),by omega,k+1,_,rfl,hs,aq,by omega,by omega,rfl,dx,ha.keep ⟨rfl,rfl,rfl,rfl,kI rfl (by rw[wr (by omega) (by omega)];omega),trivial⟩⟩
  refine aM (b:=fE l[k] r[k] !=0) (by simp[hz]) rfl ?_;rw[if_neg hz]at dx;refine aY rfl ?_;exact aI (aX rfl rfl (hs.ret (by rw[dx])))
 refine aV (b:=decide ((k:Int)<(l.length:Int))) (by simp;omega) rfl ?_;obtain rfl:k=l.length:=by omega
 apply bF;apply bG;apply bG;apply c_;apply ar;apply aD;refine aY rfl ?_;rw[List.drop_length]at dx;by_cases hr:l.length<r.length
 ·refine aM (b:=decide ((l.length:Int)<(r.length:Int))) (by simp;omega) rfl ?_;refine aY rfl ?_;refine aI (aX rfl rfl (hs.ret ?_));rw[←dx,List.drop_eq_getElem_cons hr,cmpL]
 refine aV (b:=decide ((l.length:Int)<(r.length:Int))) (by simp;omega) rfl ?_;apply aF;apply ar;refine aY rfl ?_;refine aI (aX rfl rfl (hs.ret ?_));rw[←dx,List.drop_of_length_le (by omega),cmpL]
def Bm(g:G)(cs:List Value)(w:Wy):Prop:=∃a n c,cs=[.int .i64 w.time,.slice a n c]∧Rs g (.slice a n c) w.steps
instance:El Wy where
 k:=2
 pos:=by omega
 rc:=Bm
 len h:=by obtain⟨_,_,_,rfl,_⟩:=h;rfl
 mono hle h:=by obtain⟨a1,n1,c1,e,h1⟩:=h;exact⟨a1,n1,c1,e,h1.mono hle⟩
 one h:=by obtain⟨_,_,_,rfl,_⟩:=h;simp[Value.oneCell']
def qH(g:G)(v:Value)(s:Wy):Prop:=∃cs,v= .agg cs.toArray∧Bm g cs s
theorem qH.mono{g g':G}{v:Value}{s:Wy}(hle:g.le g')(h:qH g v s):qH g' v s:=by obtain⟨cs,e,h⟩:=h;exact⟨cs,e,El.mono (α:=Wy) hle h⟩
theorem Cv(v u:Value)(x y:Wy)(g:G)(hv:qH g v x)(hu:qH g u y):
  CallsIn Wd 0 Tryz.prog 270 #[v,u] g.w (cF g fun _ r=>r= .int .i64 (order x y)):=by
 obtain⟨_,rfl,a1,n1,c1,rfl,aH⟩:=hv;obtain⟨_,rfl,a2,n2,c2,rfl,aU⟩:=hu;obtain⟨_,_,e⟩:=aH.isSlice;obtain⟨rfl,rfl,rfl⟩:=Value.slice.inj e;clear e;obtain⟨_,_,e⟩:=aU.isSlice;obtain⟨rfl,rfl,rfl⟩:=Value.slice.inj e;clear e;have hs:=St.start g;refine enter Tryz.func270 rfl Tryz.ntmps270 rfl ?_;apply cM;refine ak rfl rfl (aO rfl hs rfl rfl ?_);clear hs;rintro bx g1 hs ah;obtain⟨aH,aU⟩:=cf ah aH aU;skip;refine ak rfl rfl (aO rfl hs rfl rfl ?_);clear hs;rintro bz g1 hs ah;obtain⟨aH,aU⟩:=cf ah aH aU;refine bj rfl ?_;apply aD;apply bP hs (eO (eO (fe (.f (Fact.rs [fE x.time y.time,fE x.steps.length y.steps.length,cmpL x.steps y.steps])::(fe []))))) 19 [(18,23)] (by kernel_rfl) rfl
 ·refine Dm [[],[0],[],[2]] [.o 1,.o 0] hs (by kernel_rfl) rfl ?_;refine ay (an (js:=[(1,6),(3,8)]) (by kernel_rfl) fun gd hf=>?_) ?_
  ·skip;refine ai rfl ?_;refine ai rfl ?_;apply aj;refine aB rfl ?_;refine au AR aJ rfl rfl rfl rfl rfl (pO _ _ _) fun g' v h1 h2=>⟨g',rfl,h1,?_⟩
   exact h2
  refine Dm [[],[5],[6],[],[8],[9]] [.o 1,.o 0] hs (by kernel_rfl) rfl ?_;refine ay (an (js:=[(7,12),(10,15)]) (by kernel_rfl) fun gd hf=>?_) ?_
  ·skip;refine ai rfl ?_;refine ai rfl ?_;apply aj;refine aB rfl ?_;refine au AR aJ rfl rfl rfl rfl rfl (pO _ _ _) fun g' v h1 h2=>⟨g',rfl,h1,?_⟩
   exact h2
  refine Dm [[],[12],[],[14]] [.o 1,.o 0] hs (by kernel_rfl) rfl ?_;refine ay (an (js:=[(13,18),(15,20)]) (by kernel_rfl) fun gd hf=>?_) ?_
  ·have dG:=(G.bu _).trans hf.le;refine ai rfl ?_;refine ai rfl ?_;apply aj;refine aB rfl ?_;refine au OJ aJ rfl rfl rfl rfl rfl (Bl _ _ x.steps y.steps _ (aH.mono dG) (aU.mono dG)) fun g' v h1 h2=>⟨g',rfl,h1,?_⟩
   exact h2
  refine ay (an (js:=[(4,9),(11,16),(16,21)]) (by kernel_rfl) fun gd hf=>?_) ?_
  ·skip;refine ai rfl ?_;refine ai rfl ?_;refine ai rfl ?_;apply aj;refine aB rfl ?_;refine bD T.ok rfl (St.start gd) (vs:=[(0,.int .i64 (fE x.time y.time)),(1,.int .i64 (fE x.steps.length y.steps.length)),(2,.int .i64 (cmpL x.steps y.steps))]) (cells:=iw [fE x.time y.time,fE x.steps.length y.steps.length,cmpL x.steps y.steps]) rfl rfl rfl rfl rfl rfl (by decide) (by decide) (by kernel_rfl) rfl ?_;intro b g2 aT UN;obtain⟨g3,pf,vn,qI,ny⟩:=aT.cK (α:=Int) (i:=0) rfl (cG.ints _ [fE x.time y.time,fE x.steps.length y.steps.length,cmpL x.steps y.steps]);exact⟨g3,pf,vn.nC,ny⟩
  refine ay (an (js:=[(17,22)]) (by kernel_rfl) fun gd hf=>?_) ?_
  ·skip;refine aZ fun WG S3=>?_;apply aj;refine aB rfl ?_;refine au KC aJ rfl rfl rfl rfl rfl (KL _ [fE x.time y.time,fE x.steps.length y.steps.length,cmpL x.steps y.steps] _ S3) fun g' v h1 h2=>⟨g',rfl,h1,?_⟩
   exact h2
  exact fD
 clear hs;intro g1 hs ah;refine bj rfl ?_;exact aI (aX rfl rfl (hs.ret rfl))
end Go.Proofs.YtgehbndkogohpaaGreatDoor
namespace Go.Proofs.YtgehbndkogohpaaGreatDoor
def better(w:Wy)(o:Option Wy):Bool:=match o with
 |none=>true
 |some x=>decide (order w x<0)
def mK(w:Wy)(o:List (Option Wy))(n:Int):List (Option Wy):=if better w (o.getD n.toNat none)=true then o.set n.toNat (some w)else o
def fU(w:Wy)(o:List (Option Wy))(l:List Int):List (Option Wy):=l.foldl (mK w) o
theorem zr(w:Wy)(o:List (Option Wy))(n:Int):(mK w o n).length=o.length:=by unfold mK;split<;>simp
theorem pR(w:Wy)(l:List Int): ∀o,(fU w o l).length=o.length:=by
 induction l with
 |nil=>intro o;rfl
 |cons n r ih=>intro o;unfold fU at ih⊢;rw[List.foldl_cons,ih,zr]
theorem zt(w:Wy)(o:List (Option Wy))(l:List Int)(n:Int):fU w o (l++[n])=mK w (fU w o l) n:=by unfold fU;rw[List.foldl_append];rfl
def nS(out:List (Option Wy))(done:List Bool)(xJ:Int)(n:Nat):Int:=
 match out.getD n none with
 |none=>xJ
 |some w=>if done.getD n true=true then xJ else if xJ<0 then n else if better w (out.getD xJ.toNat none)=true then n else xJ
def iM(out:List (Option Wy))(done:List Bool):Int:=(List.range out.length).foldl (nS out done) (-1)
def xK(f:bQ):Nat→List (Option Wy)→List Bool→List (Option Wy)
 |0,out,_=>out
 |k+1,out,done=>
  if iM out done<0 then out else
  match out.getD (iM out done).toNat none with
  |none=>out
  |some v=>xK f k (fU ⟨v.time+(cn f (iM out done)).min+f.bB,v.steps++[iM out done]⟩ out (gA (cn f (iM out done)))) (done.set (iM out done).toNat true)
def ways(f:bQ)(start:Int):List (Option Wy):=
 xK f (f.steps.length+1) (fU ⟨f.bB,[]⟩ (List.replicate f.steps.length none) (gA (cn f start))) (List.replicate f.steps.length false)
end Go.Proofs.YtgehbndkogohpaaGreatDoor
namespace Go.Proofs.YtgehbndkogohpaaGreatDoor
open Go Go.K
set_option maxRecDepth 10000
attribute [local irreducible] W WL cD bc bK bd bg bh cq ck
set_option maxHeartbeats 2000000
instance:El (Option Wy) where
 k:=1
 pos:=by omega
 rc g cs o:=match o with
  |none=>cs=[.pointer none]
  |some w=> ∃b ys,cs=[.pointer (some ⟨b,0,none⟩)]∧EP g b 0 ys∧Bm g ys w
 len {g cs o} h:=by
  cases o with
  |none=>rw[show cs=[.pointer none]from h];rfl
  |some w=>obtain⟨b,ys,rfl,_⟩:=h;rfl
 mono {g g' cs o} hle h:=by
  cases o with
  |none=>exact h
  |some w=>obtain⟨b,ys,e,h1,h2⟩:=h;exact⟨b,ys,e,h1.mono hle,El.mono (α:=Wy) hle h2⟩
 one {g cs o} h:=by
  cases o with
  |none=>rw[show cs=[.pointer none]from h];simp[Value.oneCell']
  |some w=>obtain⟨b,ys,rfl,_⟩:=h;simp[Value.oneCell']
theorem cG.opt{g:G}: ∀{xs:List (Option Wy)} {cells:List Value},cG g cells xs→ ∀(n:Nat) (h:n<xs.length),∃c,cells[n]? =some c∧El.rc (α:=Option Wy) g [c] xs[n]
 |[],_,_,n,h=>by simp at h
 |x::xs,_,⟨c1,c2,e,h1,h2⟩,n,h=>by
  have hl:c1.length=1:=El.len (α:=Option Wy) h1;obtain⟨c,rfl⟩: ∃c,c1=[c]:=List.length_eq_one_iff.1 hl;subst e;cases n with
  |zero=>exact⟨c,rfl,h1⟩
  |succ n=>
   obtain⟨d,h3,h4⟩:=cG.opt h2 n (by simpa using h);exact⟨d,by simpa using h3,by simpa using h4⟩
theorem cG.Bn{g:G}{c:Value}{y:Option Wy}(hy:El.rc (α:=Option Wy) g [c] y): ∀{xs:List (Option Wy)} {cells:List Value},cG g cells xs→ ∀(n:Nat),cG g (cells.set n c) (xs.set n y)
 |[],_,h,n=>by rw[show _=[]from h];exact rfl
 |x::xs,_,⟨c1,c2,e,h1,h2⟩,n=>by
  have hl:c1.length=1:=El.len (α:=Option Wy) h1;obtain⟨d,rfl⟩: ∃c,c1=[c]:=List.length_eq_one_iff.1 hl;subst e;cases n with
  |zero=>exact⟨[c],c2,rfl,hy,h2⟩
  |succ n=>exact⟨[d],c2.set n c,rfl,h1,cG.Bn hy h2 n⟩
def x5(ob N:Nat)(cells:List Value):cS:=.row 278 1 (.slice (some ⟨ob,0,none⟩) N N) N cells
structure rW(g:G)(ob N bo bb:Nat):Prop where
 JZ:EP g bo 0 [.slice (some ⟨ob,0,none⟩) N N]
 MB:EP g bb 0 [.func (.func 270) #[] #[]]
theorem rW.mono{g g':G}{ob N bo bb:Nat}(h:rW g ob N bo bb)(hle:g.le g'):rW g' ob N bo bb:=⟨h.JZ.mono hle,h.MB.mono hle⟩
theorem J0(ob N bo bb:Nat)(g0 g:G)(L:List cS)(i:Nat)(out:List (Option Wy))(cells:List Value)(wv sv:Value)(wy:Wy)(s:Step)
  (hs:St g0 g L) (hi:L[i]? =some (x5 ob N cells)) (d_:cG g cells out) (vp:rW g ob N bo bb) (hw:qH g wv wy) (Bk:fV g sv s)
  (hr: ∀m∈gA s,0≤m∧m<(N:Int)) (S4:out.length=N):
  CallsIn Wd 0 Tryz.prog 271 #[wv,sv,.pointer (some ⟨bo,0,none⟩),.pointer (some ⟨bb,0,none⟩)] g.w
   fun e w'=> ∃g' ef,g'.w=w'∧e= .returned (.tuple #[])∧St g0 g' (L.set i (x5 ob N ef))∧cG g' ef (fU wy out (gA s))∧g.le g':=by
 have MC:i<L.length:=(List.getElem?_eq_some_iff.1 hi).1;have aq:=G.le.refl g;have UO:=Bk;obtain⟨_,rfl,a1,n1,c1,a2,n2,c2,rfl,aH,aU⟩:=id Bk;obtain⟨_,rfl,a3,n3,c3,rfl,bS⟩:=id hw;refine pL Tryz.func271 rfl Tryz.ntmps271 rfl ?_;apply cM;refine ak rfl rfl (aO rfl hs rfl rfl ?_);clear hs;rintro bw g1 hs ah;obtain⟨aq,bS⟩:=cf ah aq bS;replace Bk:=Bk.mono ah;obtain⟨g2,bL,aT,ah,aL⟩:=hs.ba (i:=0) rfl;replace hs:=aT;clear aT;rw[←bL];obtain⟨aq,bS⟩:=cf ah aq bS;replace Bk:=Bk.mono ah;have cU:=aL;clear aL;skip;refine ak rfl rfl (aO rfl hs rfl rfl ?_);clear hs;rintro bs g1 hs ah;obtain⟨aq,cU,bS⟩:=dy ah aq cU bS;replace Bk:=Bk.mono ah;obtain⟨g2,bL,aT,ah,aL⟩:=hs.ba (i:=0) rfl;replace hs:=aT;clear aT;rw[←bL];obtain⟨aq,cU,bS⟩:=dy ah aq cU bS;replace Bk:=Bk.mono ah;have aR:=aL;clear aL;apply bW;refine dz 1 [.z aR] (St.start _) rfl ?_;refine ak rfl rfl (au Jr aJ rfl rfl rfl rfl rfl (Cw _ _ _ Bk) ?_);rintro g4 v ki ⟨jW,eI,rfl,fr,WH⟩;replace hs:=hs.call ki;have ah:=ki.le;obtain⟨aq,aR,cU,bS⟩:=eS ah aq aR cU bS;apply bW;apply aG;have S5:rW _ ob N bo bb:=(vp.mono aq)
 refine xB (N:=36) hs rfl fr WH rfl (fun _=>rfl)
  (fun pre L' g'=> ∃ef,L'=L.set i (x5 ob N ef)∧cG g' ef (fU wy out pre)) (fun _ _ _ _=>False)
  (fun _ _ _ _ hle ⟨ef,h1,h2⟩=>⟨ef,h1,h2.mono hle⟩) (fun _ _ _ _ _ _ h=>h) ⟨cells,(uE hi).symm,d_.mono aq⟩
  (fun x=>[(6,.int .i64 x),(4,.pointer (some ⟨bw,0,none⟩)),(2,.pointer (some ⟨bo,0,none⟩)),(3,.pointer (some ⟨bb,0,none⟩))]) ?_ ?_ ?_ ?_
 ·intro x ro w;apply aA;refine Wp 1 rfl ?_;apply aE;exact fun a ha=>⟨rfl,ha.keep (by(repeat (first|exact trivial|refine⟨rfl,?_⟩)))⟩
 ·rintro lp D ro pre x rest gr Lr jf hle hs ⟨ef,rfl,fm⟩;have cC:=G.le.refl gr;have PE:=S5.mono hle;obtain⟨cU,bS⟩:=cf hle cU bS;clear aR aH aU;have aC:=PE.JZ;have aR:=PE.MB;obtain⟨h3,h4⟩:=hr x (by rw[jf];simp);have zg:(fU wy out pre).length=N:=by rw[pR,S4]
  have lX:x.toNat<(fU wy out pre).length:=by omega
  have Cx:(cS.obj lp (ro LoopState.busy)::cS.obj D fK::L.set i (x5 ob N ef))[i+2]? =some (x5 ob N ef):=by simp[MC]
  obtain⟨c,Fz,vr⟩:=cG.opt fm x.toNat lX;have wA:=zt wy out pre x;unfold mK at wA;have K8:(fU wy out pre).getD x.toNat none=(fU wy out pre)[x.toNat]:=by rw[List.getD_eq_getElem?_getD,List.getElem?_eq_getElem lX];rfl
  rw[K8]at wA;apply aG;apply aD;cases hb:(fU wy out pre)[x.toNat]with
  |none=>
   rw[hb]at vr wA;obtain rfl:c= .pointer none:=by simpa using(show [c]=[Value.pointer none]from vr)
   rw[show better wy none=true from rfl,if_pos rfl]at wA;apply bP (F:={Wd with round:=some lp}) hs (eO (eO (fe []))) 17 [(16,26)] (by kernel_rfl) rfl
   ·refine Dm [[],[]] [.e aC 0] (St.start _) (by kernel_rfl) rfl ?_;refine ay (an (js:=[(0,10),(1,11)]) (by kernel_rfl) fun gd hf=>?_) ?_
    ·have eJ:=hs.dr.call hf;refine ai rfl ?_;refine ai rfl ?_;apply aj;refine aB rfl ?_;refine dC T.ok rfl (eJ.own (i+2) _ Cx).1 h3 (by omega) rfl rfl rfl rfl rfl rfl ?_;intro b p hh;obtain⟨rfl,rfl⟩:ob=b∧0=p:=by simpa using hh
     refine⟨_,rfl,a_.refl _,?_⟩;exact rfl
    refine ay (an (js:=[(2,12)]) (by kernel_rfl) fun gd hf=>?_) ?_
    ·have eJ:=hs.dr.call hf;refine ai rfl ?_;apply aj;refine aB rfl ?_;refine dL T.ok (x.toNat*1) rfl (eJ.own (i+2) _ Cx).1 rfl (v:=.pointer none) (by show ef[x.toNat*1]? =_;rw[Nat.mul_one];exact Fz) ?_;refine⟨_,rfl,a_.refl _,?_⟩;exact rfl
    refine ay (an (js:=[(3,13)]) (by kernel_rfl) fun gd hf=>?_) ?_
    ·skip;refine ai rfl ?_;apply aj;refine aB rfl ?_;refine dw T.ok (neg:=false) rfl rfl rfl rfl rfl ?_;refine⟨_,rfl,a_.refl _,?_⟩;exact rfl
    exact Dy [[4],[5],[5],[5],[5],[8,9,5],[10,5],[11,5],[12,5],[6,7,13,5,5],[14,5],[5,15]] (by kernel_rfl) rfl
   clear hs;intro g1 hs ah;obtain⟨cC,aC,aR,cU,bS⟩:=kO ah cC aC aR cU bS;replace fm:=fm.mono ah;apply bW;refine aM rfl rfl ?_;apply aA;refine Wm 6 [.z aC,.z cU,.z cU] (St.start _) rfl ?_;refine ak rfl rfl (aQ T.ok rfl (vs:=[(0,.int .i64 wy.time),(1,.slice a3 n3 c3)]) (cells:=[.int .i64 wy.time,.slice a3 n3 c3]) rfl rfl rfl rfl [(0,1),(1,1)] rfl (by kernel_rfl) ?_);skip;refine ak rfl rfl (aO rfl hs rfl rfl ?_);clear hs;rintro bn g1 hs ah;obtain⟨cC,aC,aR,cU,bS⟩:=kO ah cC aC aR cU bS;replace fm:=fm.mono ah;obtain⟨g2,bL,aT,ah,aL⟩:=hs.ba (i:=0) rfl;replace hs:=aT;clear aT;rw[←bL];obtain⟨cC,aC,aR,cU,bS⟩:=kO ah cC aC aR cU bS;replace fm:=fm.mono ah;skip;refine ak rfl rfl (dC T.ok rfl (hs.own (i+2) _ Cx).1 h3 (by omega) rfl rfl rfl rfl rfl rfl ?_);rintro b p hh;obtain⟨rfl,rfl⟩:ob=b∧0=p:=by simpa using hh
   have fr:=fm.len;have H_:El.k (Option Wy)=1:=rfl;rw[zg,H_]at fr;refine bA rfl (gT T.ok (i+2) (x.toNat*1) (us:=[.pointer (some ⟨bn,0,none⟩)]) rfl hs Cx rfl rfl rfl rfl rfl rfl (by simp) (by simp;omega) (xs':=ef.set x.toNat (.pointer (some ⟨bn,0,none⟩))) ?_ ?_)
   ·rw[Nat.mul_one];unfold lh;rw[List.set_eq_take_append_cons_drop,if_pos (by omega)];simp
   rintro g5 hs ah;obtain⟨cC,aC,aR,cU,bS⟩:=kO ah cC aC aR cU bS;replace fm:=fm.mono ah;replace aL:=aL.mono ah;apply aE;apply bR;refine fun a ha=>⟨_,_,rfl,hs,cC,⟨ef.set x.toNat (.pointer (some ⟨bn,0,none⟩)),by show(L.set i _).set i _=_;rw[List.set_set];rfl,?_⟩⟩
   rw[wA];exact cG.Bn (show El.rc (α:=Option Wy) _ _ (some wy)from⟨bn,_,rfl,aL,_,_,_,rfl,bS⟩) fm _
  |some Bo=>
   rw[hb]at vr wA;obtain⟨H',ys,K9,hold,Hk⟩:=(show ∃b ys,[c]=[Value.pointer (some ⟨b,0,none⟩)]∧EP gr b 0 ys∧Bm gr ys Bo from vr)
   obtain rfl:c= .pointer (some ⟨H',0,none⟩):=by simpa using K9
   have WI:=Hk;obtain⟨a7,n7,c7,rfl,eh⟩:=Hk;apply bP (F:={Wd with round:=some lp}) hs (eO (eO (fe []))) 17 [(16,26)] (by kernel_rfl) rfl
   ·refine Dm [[],[]] [.e aC 0] (St.start _) (by kernel_rfl) rfl ?_;refine ay (an (js:=[(0,10),(1,11)]) (by kernel_rfl) fun gd hf=>?_) ?_
    ·have eJ:=hs.dr.call hf;refine ai rfl ?_;refine ai rfl ?_;apply aj;refine aB rfl ?_;refine dC T.ok rfl (eJ.own (i+2) _ Cx).1 h3 (by omega) rfl rfl rfl rfl rfl rfl ?_;intro b p hh;obtain⟨rfl,rfl⟩:ob=b∧0=p:=by simpa using hh
     refine⟨_,rfl,a_.refl _,?_⟩;exact rfl
    refine ay (an (js:=[(2,12)]) (by kernel_rfl) fun gd hf=>?_) ?_
    ·have eJ:=hs.dr.call hf;refine ai rfl ?_;apply aj;refine aB rfl ?_;refine dL T.ok (x.toNat*1) rfl (eJ.own (i+2) _ Cx).1 rfl (v:=.pointer (some ⟨H',0,none⟩)) (by show ef[x.toNat*1]? =_;rw[Nat.mul_one];exact Fz) ?_;refine⟨_,rfl,a_.refl _,?_⟩;exact rfl
    refine ay (an (js:=[(3,13)]) (by kernel_rfl) fun gd hf=>?_) ?_
    ·skip;refine ai rfl ?_;apply aj;refine aB rfl ?_;refine dw T.ok (neg:=false) rfl rfl rfl rfl rfl ?_;refine⟨_,rfl,a_.refl _,?_⟩;exact rfl
    refine Dm [[4],[5],[5],[5],[5]] [.e aR 0,.e cU 0,.e aC 0] (St.start _) (by kernel_rfl) rfl ?_;refine ay (an (js:=[(8,18),(9,19),(5,15)]) (by kernel_rfl) fun gd hf=>?_) ?_
    ·have eJ:=hs.dr.call hf;refine ai rfl ?_;refine ai rfl ?_;refine ai rfl ?_;apply aj;refine aB rfl ?_;refine dC T.ok rfl (eJ.own (i+2) _ Cx).1 h3 (by omega) rfl rfl rfl rfl rfl rfl ?_;intro b p hh;obtain⟨rfl,rfl⟩:ob=b∧0=p:=by simpa using hh
     refine⟨_,rfl,a_.refl _,?_⟩;exact rfl
    refine ay (an (js:=[(10,20),(5,15)]) (by kernel_rfl) fun gd hf=>?_) ?_
    ·have eJ:=hs.dr.call hf;refine ai rfl ?_;refine ai rfl ?_;apply aj;refine aB rfl ?_;refine dL T.ok (x.toNat*1) rfl (eJ.own (i+2) _ Cx).1 rfl (v:=.pointer (some ⟨H',0,none⟩)) (by show ef[x.toNat*1]? =_;rw[Nat.mul_one];exact Fz) ?_;refine⟨_,rfl,a_.refl _,?_⟩;exact rfl
    refine Dx [[11,5]] (by kernel_rfl) rfl ?_;refine ay (an (js:=[(12,22),(5,15)]) (by kernel_rfl) fun gd hf=>?_) ?_
    ·have dG:=(G.bu _).trans hf.le;refine ai rfl ?_;refine ai rfl ?_;apply aj;refine aB rfl ?_;refine bJ T.ok 0 rfl (hold.mono dG) rfl rfl ?_;refine⟨_,rfl,a_.refl _,?_⟩;exact rfl
    refine ay (an (js:=[(6,16),(7,17),(13,23),(5,15),(5,15)]) (by kernel_rfl) fun gd hf=>?_) ?_
    ·have dG:=(G.bu _).trans hf.le;refine ai rfl ?_;refine ai rfl ?_;refine ai rfl ?_;refine ai rfl ?_;refine ai rfl ?_;apply aj;refine aB rfl ?_;refine au JG aJ rfl rfl rfl rfl rfl (Cv _ _ wy Bo _ ⟨_,rfl,_,_,_,rfl,bS.mono dG⟩ ⟨_,rfl,_,_,_,rfl,eh.mono dG⟩) fun g' v h1 h2=>⟨g',rfl,h1,?_⟩
     exact h2
    exact Dy [[14,5],[5,15]] (by kernel_rfl) rfl
   clear hs;intro g1 hs ah;obtain⟨cC,aC,cU,bS⟩:=eS ah cC aC cU bS;replace fm:=fm.mono ah;apply bW;by_cases Ia:order wy Bo<0
   ·refine aM (b:=decide (order wy Bo<0)) (by simp[Ia]) rfl ?_;rw[show better wy (some Bo)=true from by simp[better,Ia],if_pos rfl]at wA;apply aA;refine Wm 6 [.z aC,.z cU,.z cU] (St.start _) rfl ?_;refine ak rfl rfl (aQ T.ok rfl (vs:=[(0,.int .i64 wy.time),(1,.slice a3 n3 c3)]) (cells:=[.int .i64 wy.time,.slice a3 n3 c3]) rfl rfl rfl rfl [(0,1),(1,1)] rfl (by kernel_rfl) ?_);skip;refine ak rfl rfl (aO rfl hs rfl rfl ?_);clear hs;rintro bn g1 hs ah;obtain⟨cC,bS⟩:=cf ah cC bS;replace fm:=fm.mono ah;obtain⟨g2,bL,aT,ah,aL⟩:=hs.ba (i:=0) rfl;replace hs:=aT;clear aT;rw[←bL];obtain⟨cC,bS⟩:=cf ah cC bS;replace fm:=fm.mono ah;skip;refine ak rfl rfl (dC T.ok rfl (hs.own (i+2) _ Cx).1 h3 (by omega) rfl rfl rfl rfl rfl rfl ?_);rintro b p hh;obtain⟨rfl,rfl⟩:ob=b∧0=p:=by simpa using hh
    have fr:=fm.len;have H_:El.k (Option Wy)=1:=rfl;rw[zg,H_]at fr;refine bA rfl (gT T.ok (i+2) (x.toNat*1) (us:=[.pointer (some ⟨bn,0,none⟩)]) rfl hs Cx rfl rfl rfl rfl rfl rfl (by simp) (by simp;omega) (xs':=ef.set x.toNat (.pointer (some ⟨bn,0,none⟩))) ?_ ?_)
    ·rw[Nat.mul_one];unfold lh;rw[List.set_eq_take_append_cons_drop,if_pos (by omega)];simp
    rintro g5 hs ah;obtain⟨cC,bS⟩:=cf ah cC bS;replace fm:=fm.mono ah;replace aL:=aL.mono ah;apply aE;apply bR;refine fun a ha=>⟨_,_,rfl,hs,cC,⟨ef.set x.toNat (.pointer (some ⟨bn,0,none⟩)),by show(L.set i _).set i _=_;rw[List.set_set];rfl,?_⟩⟩
    rw[wA];exact cG.Bn (show El.rc (α:=Option Wy) _ _ (some wy)from⟨bn,_,rfl,aL,_,_,_,rfl,bS⟩) fm _
   refine aV (b:=decide (order wy Bo<0)) (by simp[Ia]) rfl ?_;rw[show better wy (some Bo)=false from by simp[better,Ia],if_neg (by simp)]at wA;apply aF;apply bR;exact fun a ha=>⟨_,_,rfl,hs,cC,⟨ef,rfl,by rw[wA];exact fm⟩⟩
 ·rintro lp D o Lr ge hle hs ⟨ef,rfl,fm⟩;apply bR;refine EN 1 rfl hs rfl (fun g' jo fw=>?_);exact⟨g',ef,rfl,rfl,jo.drop 0,fm.mono fw,(aq.trans hle).trans fw⟩
 rintro c lp D o pre Lr ge _ _ _ h;exact h.elim
end Go.Proofs.YtgehbndkogohpaaGreatDoor
namespace Go.Proofs.YtgehbndkogohpaaGreatDoor
def vy(p:Wy→Prop)(out:List (Option Wy)):Prop:=∀w,some w∈out→p w
theorem vy.add{p:Wy→Prop}{out:List (Option Wy)}(h:vy p out){w:Wy}(hw:p w)(n:Int):vy p (mK w out n):=by
 intro x hx;unfold mK at hx;split at hx
 ·rcases List.mem_or_eq_of_mem_set hx with h1|h1
  ·exact h x h1
  obtain rfl:=Option.some.inj h1;exact hw
 exact h x hx
theorem vy.fU{p:Wy→Prop}{w:Wy}(hw:p w)(l:List Int): ∀{out:List (Option Wy)},vy p out→vy p (fU w out l):=by
 induction l with
 |nil=>exact fun h=>h
 |cons n r ih=>intro out h;exact ih (h.add hw n)
def fJ(out:List (Option Wy))(done:List Bool)(k:Nat):Int:=(List.range k).foldl (nS out done) (-1)
theorem sx(out:List (Option Wy))(done:List Bool)(k:Nat):fJ out done (k+1)=nS out done (fJ out done k) k:=by unfold fJ;rw[List.range_succ,List.foldl_append];rfl
theorem wB(out:List (Option Wy))(done:List Bool)(k:Nat):fJ out done k= -1∨(0≤fJ out done k∧fJ out done k<k∧(∃w,out.getD (fJ out done k).toNat none=some w)∧done.getD (fJ out done k).toNat true=false):=by
 induction k with
 |zero=>exact .inl rfl
 |succ k ih=>
  rw[sx];unfold nS;cases ho:out.getD k none with
  |none=>
   simp only;rcases ih with h|⟨h1,h2,h3⟩
   ·exact .inl h
   exact .inr ⟨h1,by omega,h3⟩
  |some w=>
   simp only;have keep:fJ out done k= -1∨(0≤fJ out done k∧fJ out done k<(k+1:Nat)∧(∃w,out.getD (fJ out done k).toNat none=some w)∧done.getD (fJ out done k).toNat true=false):=by
    rcases ih with h|⟨h1,h2,h3⟩
    ·exact .inl h
    exact .inr ⟨h1,by omega,h3⟩
   cases hd:done.getD k true with
   |true=>simpa using keep
   |false=>
    have new:((k:Int)= -1∨(0≤(k:Int)∧(k:Int)<(k+1:Nat)∧(∃w,out.getD (k:Int).toNat none=some w)∧done.getD (k:Int).toNat true=false)):=.inr ⟨by omega,by omega,⟨w,by simpa using ho⟩,by simpa using hd⟩;simp only[Bool.false_eq_true,if_false];split
    ·exact new
    split
    ·exact new
    exact keep
end Go.Proofs.YtgehbndkogohpaaGreatDoor
