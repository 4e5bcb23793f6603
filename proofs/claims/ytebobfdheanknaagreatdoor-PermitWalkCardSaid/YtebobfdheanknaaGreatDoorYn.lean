/- Parts of the proof, from: The reference's Digits, list, StepLine, WindowLine, Print. -/
import Derived.Test.YtebobfdheanknaaGreatDoorYm
import Derived.Test.YtebobfdheanknaaGreatDoorYl
import Derived.Test.YtebobfdheanknaaGreatDoorYh
import Derived.Test.YtebobfdheanknaaGreatDoorYb
import Derived.Test.YtebobfdheanknaaGreatDoorRows
import Derived.Lib.LaidTab
import Derived.Stop.LaidErr
import Derived.Lay
import Derived.LaidMore
import Derived.HandedShaped
import Derived.Clock
namespace Go.Proofs.YtebobfdheanknaaGreatDoor
open Go Go.K
set_option maxRecDepth 10000
attribute [local irreducible] W WL cT cn bX bA bB bD cW cG
set_option maxHeartbeats 16000000
theorem rG(s:Step): ∀(l:List Step) (j:Nat),gj j (l++[s])=gj j l++(jh (j+l.length) s++[10])
 |[],j=>by simp[gj]
 |x::l,j=>by
  rw[List.cons_append]
  simp only[gj]
  rw[rG s l (j+1),List.length_cons,show j+1+l.length=j+(l.length+1)from by omega]
  simp
theorem uB(w:cj): ∀l:List cj,jY (l++[w])=jY l++(gi w++[10])
 |[]=>by simp[jY]
 |x::l=>by
  rw[List.cons_append]
  simp only[jY]
  rw[uB w l]
  simp
def kA(f:bV):Value:=if valid f=true then .tuple #[.string (bs (tD f)),.int .i64 0]else .tuple #[.string (bs []),.int .i64 40]
theorem xy{f:bV}(h:valid f=true):kA f= .tuple #[.string (bs (tD f)),.int .i64 0]:=by unfold kA;rw[if_pos h]
theorem yY{f:bV}(h:valid f=false):kA f= .tuple #[.string (bs []),.int .i64 40]:=by unfold kA;rw[if_neg (by rw[h];decide)]
theorem BE(xs:List UInt8):(xs.map fun b:UInt8=>(b.toNat:Int)).map (fun m=>UInt8.ofNat m.toNat)=xs:=by
 rw[List.map_map]
 conv=>rhs;rw[←List.map_id xs]
 exact List.map_congr_left fun b _=>by simp
theorem Tc(k:Nat)(h:k<10):IntKind.u8.wrap (48+(k:Int))=((48+k:Nat):Int):=by
 have:k=0∨k=1∨k=2∨k=3∨k=4∨k=5∨k=6∨k=7∨k=8∨k=9:=by omega
 rcases this with rfl|rfl|rfl|rfl|rfl|rfl|rfl|rfl|rfl|rfl<;>rfl
def yZ(n0 m:Nat)(s:List UInt8):Prop:=(m=0∧s≠[]∧dec n0=s)∨((0<m∨s=[])∧dec n0=dec m++s)
theorem yZ.next{n0 m:Nat}{s:List UInt8}(h:yZ n0 m s)(hc:s=[]∨0<m):yZ n0 (m/10) (UInt8.ofNat (48+m % 10)::s):=by
 have h2:dec n0=dec m++s:=by
  rcases h with⟨h1,h2,_⟩|⟨_,h3⟩
  ·rcases hc with h|h
   ·exact absurd h h2
   ·omega
  ·exact h3
 by_cases hm:m<10
 ·refine .inl ⟨by omega,by simp,?_⟩
  rw[h2,gX hm,show m % 10=m by omega];rfl
 ·refine .inr ⟨.inl (by omega),?_⟩
  rw[h2,mw hm];simp
theorem yZ.done{n0 m:Nat}{s:List UInt8}(h:yZ n0 m s)(hs:s≠[])(hm: ¬0<m):dec n0=s:=by
 rcases h with⟨_,_,h⟩|⟨h1,h2⟩
 ·exact h
 ·rcases h1 with h|h
  ·omega
  ·exact absurd h hs
theorem yZ.len{n0 m:Nat}{s:List UInt8}(h:yZ n0 m s):s.length≤(dec n0).length:=by
 rcases h with⟨_,_,h⟩|⟨_,h⟩
 ·rw[h];exact Nat.le_refl _
 ·rw[h,List.length_append];omega
theorem fW(n:Int)(g:G)(hn:mI n):CallsIn Wd 0 Tryz.prog 82 #[.int .i64 n] g.w (cR g fun _ r=>r= .string (bs (cX n))):=by
 obtain⟨n0,rfl⟩: ∃m:Nat,n=m:=⟨n.toNat,by have:=hn.1;omega⟩
 have VB:=dw hn
 have hb:=hn.2
 have RQ:cX (n0:Int)=dec n0:=rfl
 rw[RQ]at VB⊢
 have hs:=St.start g
 refine enter Tryz.func82 rfl Tryz.ntmps82 rfl ?_
 refine aX rfl ?_;refine aX rfl ?_;apply aB;apply aG
 refine bS (fun mm a' w=> ∃(m0:Nat) (s:List UInt8) (g':G),yZ n0 m0 s∧w=g'.w∧St g g' []∧m0≤1000000∧mm=m0+(if s=[]then 1 else 0)∧
  Fr 21 [] [(0,.int .i64 m0),(3,.string (bs s))] a') (n0+1) (fun a' ha=>⟨n0,[],g,.inr ⟨.inr rfl,by simp⟩,rfl,hs,by omega,rfl,ha.keep (by(repeat (first|exact trivial|refine⟨rfl,?_⟩)))⟩) ?_
 clear hs
 rintro mm a' _ ⟨m0,s,g',hD,rfl,hs,hm,rfl,eI⟩
 have jr:=hD.len
 revert a'
 by_cases Pf:s=[]
 ·subst Pf
  apply cQ;apply aB;refine cP 3 rfl ?_
  refine cM 6 (b':=true) (by simp[cD]) rfl ?_
  refine ba rfl ?_
  refine aJ (b:=_) ?_ rfl ?_
  ·simp
  have jn:=hD.next (by exact .inl rfl)
  have RR:(UInt8.ofNat (48+m0 % 10)).toNat=48+m0 % 10:=rb (by omega)
  generalize UInt8.ofNat (48+m0 % 10)=d at*
  apply aE;apply au;apply aG;refine cP 4 rfl ?_
  refine kC (.int .u8 (d.toNat:Int)) (t:=13) rfl (congrArg (Value.int .u8) (by
   show IntKind.u8.wrap (IntKind.i64.wrap (48+((m0 % 10:Nat):Int)))=_
   rw[RR,wr (by omega) (by omega)]
   exact Tc (m0 % 10) (by omega))) ?_
  refine an rfl rfl (bj T.ok rfl hs (vs:=[(0,.int .u8 (d.toNat:Int))]) (cells:=[.int .u8 (d.toNat:Int)]) rfl rfl rfl rfl rfl rfl (by decide) (by decide) (by kernel_rfl) rfl ?_)
  clear hs
  rintro bl gl hs ah
  obtain⟨gz,ik,cS,iT,aH⟩:=hs.cL (α:=UInt8) (xs:=[d]) (i:=0) rfl (cO.bytes _ [d])
  rw[←ik];replace hs:=cS;clear cS
  replace hs:St g gz []:=hs
  obtain⟨_,news,Fh,gn⟩:=Src.jq aH
  obtain rfl:=cO.Cp Fh
  refine an rfl rfl (mh T.ok (ns:=[(d.toNat:Int)]) rfl rfl rfl rfl rfl rfl rfl rfl gn ?_)
  rw[show([(d.toNat:Int)].map fun m=>UInt8.ofNat m.toNat)=[d]from BE [d]]
  clear gn Fh aH
  refine Wp 1 rfl ?_
  refine an rfl rfl (cA (p:=[d]) (q:=[]) rfl rfl rfl (by simp only[List.length_singleton];omega) ?_)
  refine ba rfl ?_;apply ar;refine Wp 3 rfl ?_;apply aD;apply bU
  exact fun a ha=>⟨m0/10+0,by simp;omega,m0/10,[d]++[],gz,jn,rfl,hs,by omega,by simp,ha.keep ⟨kI rfl (show IntKind.i64.wrap ((m0/10:Nat):Int)=_ from wr (by omega) (by omega)),rfl,trivial⟩⟩
 ·apply cQ;apply aB;refine cP 3 rfl ?_
  refine cM 6 (b':=false) (by rw[cD];simp[Pf]) rfl ?_
  by_cases Td:0<m0
  ·refine ba rfl ?_
   refine aJ (b:=_) ?_ rfl ?_
   ·simp;omega
   have jn:=hD.next (by exact .inr Td)
   have RR:(UInt8.ofNat (48+m0 % 10)).toNat=48+m0 % 10:=rb (by omega)
   generalize UInt8.ofNat (48+m0 % 10)=d at*
   apply aE;apply au;apply aG;refine cP 4 rfl ?_
   refine kC (.int .u8 (d.toNat:Int)) (t:=13) rfl (congrArg (Value.int .u8) (by
    show IntKind.u8.wrap (IntKind.i64.wrap (48+((m0 % 10:Nat):Int)))=_
    rw[RR,wr (by omega) (by omega)]
    exact Tc (m0 % 10) (by omega))) ?_
   refine an rfl rfl (bj T.ok rfl hs (vs:=[(0,.int .u8 (d.toNat:Int))]) (cells:=[.int .u8 (d.toNat:Int)]) rfl rfl rfl rfl rfl rfl (by decide) (by decide) (by kernel_rfl) rfl ?_)
   clear hs
   rintro bl gl hs ah
   obtain⟨gz,ik,cS,iT,aH⟩:=hs.cL (α:=UInt8) (xs:=[d]) (i:=0) rfl (cO.bytes _ [d])
   rw[←ik];replace hs:=cS;clear cS
   replace hs:St g gz []:=hs
   obtain⟨_,news,Fh,gn⟩:=Src.jq aH
   obtain rfl:=cO.Cp Fh
   refine an rfl rfl (mh T.ok (ns:=[(d.toNat:Int)]) rfl rfl rfl rfl rfl rfl rfl rfl gn ?_)
   rw[show([(d.toNat:Int)].map fun m=>UInt8.ofNat m.toNat)=[d]from BE [d]]
   clear gn Fh aH
   refine Wp 1 rfl ?_
   refine an rfl rfl (cA (p:=[d]) (q:=s) rfl rfl rfl (by simp only[List.length_singleton];omega) ?_)
   refine ba rfl ?_;apply ar;refine Wp 3 rfl ?_;apply aD;apply bU
   exact fun a ha=>⟨m0/10+0,by simp[Pf];omega,m0/10,[d]++s,gz,jn,rfl,hs,by omega,by simp,ha.keep ⟨kI rfl (show IntKind.i64.wrap ((m0/10:Nat):Int)=_ from wr (by omega) (by omega)),rfl,trivial⟩⟩
  ·refine ba rfl ?_
   refine aS (b:=_) ?_ rfl ?_
   ·simp;omega
   have zH:=hD.done Pf Td
   rw[zH]
   apply bE;apply bK;apply bK;apply dc;apply au;refine aX rfl ?_
   exact aF (aV rfl rfl (hs.ret rfl))
theorem u9{l:List Int}{k:Nat}(hk:k<l.length):(l.take (k+1)).map cX=(l.take k).map cX++[cX l[k]]:=by
 rw[List.take_succ_eq_append_getElem hk,List.map_append];rfl
theorem Hm{ps:List (List UInt8)}(h:ps≠[])(hp: ∀p∈ps,p≠[]):gw 44 ps≠[]:=by
 cases ps with
 |nil=>exact absurd rfl h
 |cons x r=>
  cases r with
  |nil=>exact hp x (List.mem_cons_self ..)
  |cons y r=>rw[show gw 44 (x::y::r)=x++44::gw 44 (y::r)from rfl];simp
theorem BF(v:Value)(l:List Int)(g:G)(hl:Rs g v l)(hb: ∀n∈l,mI n)(hn:l.length≤1000):CallsIn Wd 0 Tryz.prog 166 #[v] g.w (cR g fun _ r=>r= .string (bs (jv l))):=by
 obtain⟨pa,pc,rfl⟩:=hl.isSlice
 have hs:=St.start g
 refine enter Tryz.func166 rfl Tryz.ntmps166 rfl ?_
 refine aX rfl ?_;refine aX rfl ?_;apply aB;refine aX rfl ?_;apply aG
 refine bS (fun m a' w=> ∃(k:Nat) (g':G),w=g'.w∧St g g' []∧G.le g g'∧k≤l.length∧m=l.length-k∧
  Fr 25 [] [(0,.slice pa l.length pc),(3,.string (bs (gw 44 ((l.take k).map cX)))),(4,.int .i64 k)] a') l.length (fun a' ha=>⟨0,g,rfl,hs,G.le.refl _,Nat.zero_le _,rfl,ha.keep (by(repeat (first|exact trivial|refine⟨rfl,?_⟩)))⟩) ?_
 clear hs
 rintro m a' _ ⟨k,g',rfl,hs,aq,hk,rfl,eI⟩
 have aH:=hl.mono aq
 have OU:(gw 44 ((l.take k).map cX)).length≤8000:=by
  have h1:=oZ (c:=44) (k:=7) (l:=(l.take k).map cX) fun x hx=>by
   obtain⟨n,hn,rfl⟩:=List.mem_map.1 hx
   exact dw (hb n (List.mem_of_mem_take hn))
  rw[List.length_map,List.length_take]at h1
  omega
 revert a'
 apply cQ;apply aB;refine aX rfl ?_
 by_cases bh:k<l.length
 ·refine aJ (b:=decide ((k:Int)<(l.length:Int))) (by simp;omega) rfl ?_
  have ic:dA l (k:Int)=some l[k]:=by simp[dA,bh]
  have Bc:=hb _ (List.getElem_mem bh)
  have FJ:=dw Bc
  have dm:=u9 bh
  generalize l[k]=x at*
  by_cases zl:k=0
  ·subst zl
   apply aE;apply au;apply aB;apply aG;apply aB;refine aX rfl ?_
   refine aS rfl rfl ?_
   apply aE;apply au;apply ar;refine Wp 3 rfl ?_
   refine an rfl rfl (aW T.ok rfl aH (y:=x) ic rfl rfl rfl rfl rfl rfl ?_)
   rintro b p ys aL rfl
   refine Wm 1 [.e aL 0] (St.start _) rfl ?_
   refine an rfl rfl (ay qy aI rfl rfl rfl rfl rfl (fW x _ Bc) ?_);rintro g1 _ aN rfl;replace hs:=hs.call aN;have ah:=aN.le;obtain⟨aq,aH⟩:=cC ah aq aH
   refine an rfl rfl (cA (p:=[]) (q:=cX x) rfl rfl rfl (by simp;omega) ?_)
   refine Wp 1 rfl ?_;apply aD;apply bU;apply au;apply ar;refine Wp 3 rfl ?_;apply aD
   exact fun a ha=>⟨l.length-1,by omega,1,_,rfl,hs,aq,by omega,rfl,ha.keep ⟨rfl,kV rfl (by rw[dm];rfl),rfl,trivial⟩⟩
  ·apply aE;apply au;apply aB;apply aG;apply aB;refine aX rfl ?_
   refine aJ (b:=_) ?_ rfl ?_
   ·simp;omega
   apply ar;refine Wp 1 rfl ?_
   refine an rfl rfl (cA (p:=gw 44 ((l.take k).map cX)) (q:=[44]) rfl rfl rfl (by simp only[List.length_singleton];omega) ?_)
   refine ba rfl ?_;apply ar;refine Wp 3 rfl ?_
   refine an rfl rfl (aW T.ok rfl aH (y:=x) ic rfl rfl rfl rfl rfl rfl ?_)
   rintro b p ys aL rfl
   refine Wm 1 [.e aL 0] (St.start _) rfl ?_
   refine an rfl rfl (ay qy aI rfl rfl rfl rfl rfl (fW x _ Bc) ?_);rintro g1 _ aN rfl;replace hs:=hs.call aN;have ah:=aN.le;replace aq:=G.le.trans aq ah
   refine an rfl rfl (cA (p:=gw 44 ((l.take k).map cX)++[44]) (q:=cX x) rfl rfl rfl (by rw[List.length_append,List.length_singleton];omega) ?_)
   refine Wp 1 rfl ?_;apply aD;apply bU;apply au;apply ar;refine Wp 3 rfl ?_;apply aD
   have fu:(l.take k).map cX≠[]:=by
    intro h
    have:=congrArg List.length h
    rw[List.length_map,List.length_take,List.length_nil]at this
    omega
   exact fun a ha=>⟨l.length-(k+1),by omega,k+1,_,rfl,hs,aq,by omega,rfl,ha.keep ⟨rfl,kV rfl (by rw[dm,vS 44 _ _ fu];simp),kI rfl (by rw[wr (by omega) (by omega)];omega),trivial⟩⟩
 ·refine aS (b:=decide ((k:Int)<(l.length:Int))) (by simp;omega) rfl ?_
  obtain rfl:k=l.length:=by omega
  rw[List.take_length]at*
  apply bE;apply bK;apply bK;apply dc;apply au;apply aB;refine aX rfl ?_
  unfold jv
  by_cases C2:l=[]
  ·subst C2
   refine aJ (b:=_) ?_ rfl ?_
   ·simp[gw,cD]
   refine aX rfl ?_
   exact aF (aV rfl rfl (hs.ret rfl))
  ·rw[if_neg C2]
   refine aS (b:=_) ?_ rfl ?_
   ·have:=Hm (ps:=l.map cX) (by simpa using C2) fun p hp=>by
     obtain⟨n,_,rfl⟩:=List.mem_map.1 hp
     exact uk _
    rw[cD];simp[this]
   apply aE;apply au;refine aX rfl ?_
   exact aF (aV rfl rfl (hs.ret rfl))
theorem u_(w0:cj)(g:G)(h:mI w0.src∧mI w0.dst∧mI w0.dF):CallsIn Wd 0 Tryz.prog 84 #[.agg (kO w0).toArray] g.w (cR g fun _ r=>r= .string (bs (gi w0))):=by
 have hs:=St.start g
 have aq:=G.le.refl g
 have l1:=dw h.1;have l2:=dw h.2.1;have l3:=dw h.2.2
 rw[ov]
 unfold kO
 refine enter Tryz.func84 rfl Tryz.ntmps84 rfl ?_
 apply c_
 refine an rfl rfl (aR rfl hs rfl rfl ?_);clear hs;rintro bx g1 hs ah
 obtain⟨g2,bR,aU,ah,aL⟩:=hs.a_ (i:=0) rfl;replace hs:=aU;clear aU;rw[←bR]
 have aC:=aL
 clear aL bR ah
 refine ba rfl ?_;apply aB
 apply bO hs (fj (gE (eJ []))) 14 [(13,16)] (by kernel_rfl) rfl
 ·refine Dm [[],[0]] [.e aC 0] (St.start _) (by kernel_rfl) rfl ?_
  refine aw (ak (js:=[(1,4)]) (by kernel_rfl) fun gd hf=>?_) ?_
  ·skip
   refine ai rfl ?_
   apply aj
   refine az rfl ?_
   refine ay qy aI rfl rfl rfl rfl rfl (fW (w0.src) _ h.1) fun g' v h1 h2=>⟨g',rfl,h1,?_⟩
   exact h2
  refine aw (ak (js:=[(2,5)]) (by kernel_rfl) fun gd hf=>?_) ?_
  ·skip
   refine ai rfl ?_
   apply aj
   refine az rfl ?_
   refine cA (p:=db) (q:=cX w0.src) rfl rfl rfl (by simp only[List.length_cons,List.length_nil,db];omega) ?_
   exact⟨_,rfl,aZ.refl _,rfl⟩
  refine aw (ak (js:=[(3,6)]) (by kernel_rfl) fun gd hf=>?_) ?_
  ·skip
   refine ai rfl ?_
   apply aj
   refine az rfl ?_
   refine cA (p:=db++cX w0.src) (q:=[32]) rfl rfl rfl (by simp only[List.length_append,List.length_cons,List.length_nil,db];omega) ?_
   exact⟨_,rfl,aZ.refl _,rfl⟩
  refine Dm [[],[5]] [.e aC 1] (St.start _) (by kernel_rfl) rfl ?_
  refine aw (ak (js:=[(6,9)]) (by kernel_rfl) fun gd hf=>?_) ?_
  ·skip
   refine ai rfl ?_
   apply aj
   refine az rfl ?_
   refine ay qy aI rfl rfl rfl rfl rfl (fW (w0.dst) _ h.2.1) fun g' v h1 h2=>⟨g',rfl,h1,?_⟩
   exact h2
  refine aw (ak (js:=[(4,7),(7,10)]) (by kernel_rfl) fun gd hf=>?_) ?_
  ·skip
   refine ai rfl ?_;refine ai rfl ?_
   apply aj
   refine az rfl ?_
   refine cA (p:=db++cX w0.src++[32]) (q:=cX w0.dst) rfl rfl rfl (by simp only[List.length_append,List.length_cons,List.length_nil,db];omega) ?_
   exact⟨_,rfl,aZ.refl _,rfl⟩
  refine aw (ak (js:=[(8,11)]) (by kernel_rfl) fun gd hf=>?_) ?_
  ·skip
   refine ai rfl ?_
   apply aj
   refine az rfl ?_
   refine cA (p:=db++cX w0.src++[32]++cX w0.dst) (q:=[32]) rfl rfl rfl (by simp only[List.length_append,List.length_cons,List.length_nil,db];omega) ?_
   exact⟨_,rfl,aZ.refl _,rfl⟩
  refine Dm [[],[10]] [.e aC 2] (St.start _) (by kernel_rfl) rfl ?_
  refine aw (ak (js:=[(11,14)]) (by kernel_rfl) fun gd hf=>?_) ?_
  ·skip
   refine ai rfl ?_
   apply aj
   refine az rfl ?_
   refine ay qy aI rfl rfl rfl rfl rfl (fW (w0.dF) _ h.2.2) fun g' v h1 h2=>⟨g',rfl,h1,?_⟩
   exact h2
  refine aw (ak (js:=[(9,12),(12,15)]) (by kernel_rfl) fun gd hf=>?_) ?_
  ·skip
   refine ai rfl ?_;refine ai rfl ?_
   apply aj
   refine az rfl ?_
   refine cA (p:=db++cX w0.src++[32]++cX w0.dst++[32]) (q:=cX w0.dF) rfl rfl rfl (by simp only[List.length_append,List.length_cons,List.length_nil,db];omega) ?_
   exact⟨_,rfl,aZ.refl _,rfl⟩
  exact fJ
 clear hs;intro g1 hs ah
 refine ba rfl ?_
 exact aF (aV rfl rfl (hs.ret rfl))
theorem y6(i:Nat)(v:Value)(s:Step)(g:G)(hv:ja g v s)(hi:i≤1000000)(hB:vT s):CallsIn Wd 0 Tryz.prog 83 #[.int .i64 i,v] g.w (cR g fun _ r=>r= .string (bs (jh i s))):=by
 obtain⟨cs,rfl,a1,n1,c1,a2,n2,c2,rfl,aH,aT⟩:=hv
 have hs:=St.start g
 have aq:=G.le.refl g
 have Te:mI (i:Int):=⟨by omega,by omega⟩
 have l0:=dw Te
 have l1:=dw hB.n.dD;have l2:=dw hB.n.min;have l3:=dw hB.n.max
 have l4:=nW hB.n.Av;have l5:=nW hB.n.next
 have l6:=hB.dB;have l7:=hB.next
 have VC:cX (i:Int)=dec i:=rfl
 refine enter Tryz.func83 rfl Tryz.ntmps83 rfl ?_
 apply c_
 refine an rfl rfl (aR rfl hs rfl rfl ?_);clear hs;rintro bx g1 hs ah;obtain⟨aH,aT⟩:=cC ah aH aT
 obtain⟨g2,bR,aU,ah,aL⟩:=hs.a_ (i:=0) rfl;replace hs:=aU;clear aU;rw[←bR];obtain⟨aH,aT⟩:=cC ah aH aT
 have aC:=aL
 clear aL bR ah
 refine ba rfl ?_;apply aB
 apply bO hs (fj (fj (fj (gE (fe []))))) 29 [(28,5)] (by kernel_rfl) rfl
 ·refine Dx [[]] (by kernel_rfl) rfl ?_
  refine aw (ak (js:=[(0,6)]) (by kernel_rfl) fun gd hf=>?_) ?_
  ·skip
   refine ai rfl ?_
   apply aj
   refine az rfl ?_
   refine ay qy aI rfl rfl rfl rfl rfl (fW ((i:Int)) _ Te) fun g' v h1 h2=>⟨g',rfl,h1,?_⟩
   exact h2
  refine aw (ak (js:=[(1,7)]) (by kernel_rfl) fun gd hf=>?_) ?_
  ·skip
   refine ai rfl ?_
   apply aj
   refine az rfl ?_
   refine cA (p:=dW) (q:=cX i) rfl rfl rfl (by simp only[List.length_cons,List.length_nil,dW];omega) ?_
   exact⟨_,rfl,aZ.refl _,rfl⟩
  refine aw (ak (js:=[(2,8)]) (by kernel_rfl) fun gd hf=>?_) ?_
  ·skip
   refine ai rfl ?_
   apply aj
   refine az rfl ?_
   refine cA (p:=dW++cX i) (q:=cF) rfl rfl rfl (by simp only[List.length_append,List.length_cons,List.length_nil,dW,cF];omega) ?_
   exact⟨_,rfl,aZ.refl _,rfl⟩
  refine Dm [[],[4]] [.e aC 0] (St.start _) (by kernel_rfl) rfl ?_
  refine aw (ak (js:=[(5,11)]) (by kernel_rfl) fun gd hf=>?_) ?_
  ·skip
   refine ai rfl ?_
   apply aj
   refine az rfl ?_
   refine ay qy aI rfl rfl rfl rfl rfl (fW (s.dD) _ hB.n.dD) fun g' v h1 h2=>⟨g',rfl,h1,?_⟩
   exact h2
  refine aw (ak (js:=[(3,9),(6,12)]) (by kernel_rfl) fun gd hf=>?_) ?_
  ·skip
   refine ai rfl ?_;refine ai rfl ?_
   apply aj
   refine az rfl ?_
   refine cA (p:=dW++cX i++cF) (q:=cX s.dD) rfl rfl rfl (by simp only[List.length_append,List.length_cons,List.length_nil,dW,cF];omega) ?_
   exact⟨_,rfl,aZ.refl _,rfl⟩
  refine aw (ak (js:=[(7,13)]) (by kernel_rfl) fun gd hf=>?_) ?_
  ·skip
   refine ai rfl ?_
   apply aj
   refine az rfl ?_
   refine cA (p:=dW++cX i++cF++cX s.dD) (q:=du) rfl rfl rfl (by simp only[List.length_append,List.length_cons,List.length_nil,dW,cF,du];omega) ?_
   exact⟨_,rfl,aZ.refl _,rfl⟩
  refine Dm [[],[9]] [.e aC 1] (St.start _) (by kernel_rfl) rfl ?_
  refine aw (ak (js:=[(10,16)]) (by kernel_rfl) fun gd hf=>?_) ?_
  ·have eH:=(G.bJ _).trans hf.le
   refine ai rfl ?_
   apply aj
   refine az rfl ?_
   refine ay HI aI rfl rfl rfl rfl rfl (BF _ (s.dB) _ (aH.mono eH) hB.n.Av (by omega)) fun g' v h1 h2=>⟨g',rfl,h1,?_⟩
   exact h2
  refine aw (ak (js:=[(8,14),(11,17)]) (by kernel_rfl) fun gd hf=>?_) ?_
  ·skip
   refine ai rfl ?_;refine ai rfl ?_
   apply aj
   refine az rfl ?_
   refine cA (p:=dW++cX i++cF++cX s.dD++du) (q:=jv s.dB) rfl rfl rfl (by simp only[List.length_append,List.length_cons,List.length_nil,dW,cF,du];omega) ?_
   exact⟨_,rfl,aZ.refl _,rfl⟩
  refine aw (ak (js:=[(12,18)]) (by kernel_rfl) fun gd hf=>?_) ?_
  ·skip
   refine ai rfl ?_
   apply aj
   refine az rfl ?_
   refine cA (p:=dW++cX i++cF++cX s.dD++du++jv s.dB) (q:=eC) rfl rfl rfl (by simp only[List.length_append,List.length_cons,List.length_nil,dW,cF,du,eC];omega) ?_
   exact⟨_,rfl,aZ.refl _,rfl⟩
  refine Dm [[],[14]] [.e aC 2] (St.start _) (by kernel_rfl) rfl ?_
  refine aw (ak (js:=[(15,21)]) (by kernel_rfl) fun gd hf=>?_) ?_
  ·skip
   refine ai rfl ?_
   apply aj
   refine az rfl ?_
   refine ay qy aI rfl rfl rfl rfl rfl (fW (s.min) _ hB.n.min) fun g' v h1 h2=>⟨g',rfl,h1,?_⟩
   exact h2
  refine aw (ak (js:=[(13,19),(16,22)]) (by kernel_rfl) fun gd hf=>?_) ?_
  ·skip
   refine ai rfl ?_;refine ai rfl ?_
   apply aj
   refine az rfl ?_
   refine cA (p:=dW++cX i++cF++cX s.dD++du++jv s.dB++eC) (q:=cX s.min) rfl rfl rfl (by simp only[List.length_append,List.length_cons,List.length_nil,dW,cF,du,eC];omega) ?_
   exact⟨_,rfl,aZ.refl _,rfl⟩
  refine aw (ak (js:=[(17,23)]) (by kernel_rfl) fun gd hf=>?_) ?_
  ·skip
   refine ai rfl ?_
   apply aj
   refine az rfl ?_
   refine cA (p:=dW++cX i++cF++cX s.dD++du++jv s.dB++eC++cX s.min) (q:=[46,46]) rfl rfl rfl (by simp only[List.length_append,List.length_cons,List.length_nil,dW,cF,du,eC];omega) ?_
   exact⟨_,rfl,aZ.refl _,rfl⟩
  refine Dm [[],[19]] [.e aC 3] (St.start _) (by kernel_rfl) rfl ?_
  refine aw (ak (js:=[(20,26)]) (by kernel_rfl) fun gd hf=>?_) ?_
  ·skip
   refine ai rfl ?_
   apply aj
   refine az rfl ?_
   refine ay qy aI rfl rfl rfl rfl rfl (fW (s.max) _ hB.n.max) fun g' v h1 h2=>⟨g',rfl,h1,?_⟩
   exact h2
  refine aw (ak (js:=[(18,24),(21,27)]) (by kernel_rfl) fun gd hf=>?_) ?_
  ·skip
   refine ai rfl ?_;refine ai rfl ?_
   apply aj
   refine az rfl ?_
   refine cA (p:=dW++cX i++cF++cX s.dD++du++jv s.dB++eC++cX s.min++[46,46]) (q:=cX s.max) rfl rfl rfl (by simp only[List.length_append,List.length_cons,List.length_nil,dW,cF,du,eC];omega) ?_
   exact⟨_,rfl,aZ.refl _,rfl⟩
  refine aw (ak (js:=[(22,28)]) (by kernel_rfl) fun gd hf=>?_) ?_
  ·skip
   refine ai rfl ?_
   apply aj
   refine az rfl ?_
   refine cA (p:=dW++cX i++cF++cX s.dD++du++jv s.dB++eC++cX s.min++[46,46]++cX s.max) (q:=e_) rfl rfl rfl (by simp only[List.length_append,List.length_cons,List.length_nil,dW,cF,du,eC,e_];omega) ?_
   exact⟨_,rfl,aZ.refl _,rfl⟩
  refine Dm [[],[24]] [.e aC 4] (St.start _) (by kernel_rfl) rfl ?_
  refine aw (ak (js:=[(25,31)]) (by kernel_rfl) fun gd hf=>?_) ?_
  ·have eH:=(G.bJ _).trans hf.le
   refine ai rfl ?_
   apply aj
   refine az rfl ?_
   refine ay HI aI rfl rfl rfl rfl rfl (BF _ (s.next) _ (aT.mono eH) hB.n.next (by omega)) fun g' v h1 h2=>⟨g',rfl,h1,?_⟩
   exact h2
  refine aw (ak (js:=[(23,29),(26,32)]) (by kernel_rfl) fun gd hf=>?_) ?_
  ·skip
   refine ai rfl ?_;refine ai rfl ?_
   apply aj
   refine az rfl ?_
   refine cA (p:=dW++cX i++cF++cX s.dD++du++jv s.dB++eC++cX s.min++[46,46]++cX s.max++e_) (q:=jv s.next) rfl rfl rfl (by simp only[List.length_append,List.length_cons,List.length_nil,dW,cF,du,eC,e_];omega) ?_
   exact⟨_,rfl,aZ.refl _,rfl⟩
  exact Dy [[27,27]] (by kernel_rfl) rfl
 clear hs;intro g1 hs ah;replace aC:=aC.mono ah
 have hh:dW++cX i++cF++cX s.dD++du++jv s.dB++eC++cX s.min++[46,46]++cX s.max++e_++jv s.next=uu i s:=by
  unfold uu nE
  rw[VC];simp[List.append_assoc]
 rw[hh]
 rw[nF]
 have Ku:=rf hi hB
 unfold yU
 generalize uu i s=H at*
 apply cf;apply aB;refine nK [.z aC] (St.start _) rfl ?_
 by_cases Bc:0≤s.back
 ·rw[if_pos Bc]
  have Pg:mI s.back∧mI s.dF:=by
   rcases hB.n.back with h|h
   ·omega
   ·exact h
  have l8:=dw Pg.1;have l9:=dw Pg.2
  refine aJ (b:=_) ?_ rfl ?_
  ·simp[Bc]
  skip
  apply bO hs (fj (eJ (fe []))) 11 [(10,47)] (by kernel_rfl) rfl
  ·refine Dx [[]] (by kernel_rfl) rfl ?_
   refine aw (ak (js:=[(0,37)]) (by kernel_rfl) fun gd hf=>?_) ?_
   ·skip
    refine ai rfl ?_
    apply aj
    refine az rfl ?_
    refine cA (p:=H) (q:=fb) rfl rfl rfl (by simp only[List.length_cons,List.length_nil,fb];omega) ?_
    exact⟨_,rfl,aZ.refl _,rfl⟩
   refine Dm [[],[2]] [.e aC 5] (St.start _) (by kernel_rfl) rfl ?_
   refine aw (ak (js:=[(3,40)]) (by kernel_rfl) fun gd hf=>?_) ?_
   ·skip
    refine ai rfl ?_
    apply aj
    refine az rfl ?_
    refine ay qy aI rfl rfl rfl rfl rfl (fW (s.back) _ Pg.1) fun g' v h1 h2=>⟨g',rfl,h1,?_⟩
    exact h2
   refine aw (ak (js:=[(1,38),(4,41)]) (by kernel_rfl) fun gd hf=>?_) ?_
   ·skip
    refine ai rfl ?_;refine ai rfl ?_
    apply aj
    refine az rfl ?_
    refine cA (p:=H++fb) (q:=cX s.back) rfl rfl rfl (by simp only[List.length_append,List.length_cons,List.length_nil,fb];omega) ?_
    exact⟨_,rfl,aZ.refl _,rfl⟩
   refine aw (ak (js:=[(5,42)]) (by kernel_rfl) fun gd hf=>?_) ?_
   ·skip
    refine ai rfl ?_
    apply aj
    refine az rfl ?_
    refine cA (p:=H++fb++cX s.back) (q:=AF) rfl rfl rfl (by simp only[List.length_append,List.length_cons,List.length_nil,fb,AF];omega) ?_
    exact⟨_,rfl,aZ.refl _,rfl⟩
   refine Dm [[],[7]] [.e aC 6] (St.start _) (by kernel_rfl) rfl ?_
   refine aw (ak (js:=[(8,45)]) (by kernel_rfl) fun gd hf=>?_) ?_
   ·skip
    refine ai rfl ?_
    apply aj
    refine az rfl ?_
    refine ay qy aI rfl rfl rfl rfl rfl (fW (s.dF) _ Pg.2) fun g' v h1 h2=>⟨g',rfl,h1,?_⟩
    exact h2
   refine aw (ak (js:=[(6,43),(9,46)]) (by kernel_rfl) fun gd hf=>?_) ?_
   ·skip
    refine ai rfl ?_;refine ai rfl ?_
    apply aj
    refine az rfl ?_
    refine cA (p:=H++fb++cX s.back++AF) (q:=cX s.dF) rfl rfl rfl (by simp only[List.length_append,List.length_cons,List.length_nil,fb,AF];omega) ?_
    exact⟨_,rfl,aZ.refl _,rfl⟩
   exact fJ
  clear hs;intro g1 hs ah
  refine ba rfl ?_;refine aX rfl ?_
  refine aF (aV rfl rfl (hs.ret ?_))
  simp[List.append_assoc]
 ·rw[if_neg Bc,List.append_nil]
  refine aS (b:=_) ?_ rfl ?_
  ·simp;omega
  apply aE;apply au;refine aX rfl ?_
  exact aF (aV rfl rfl (hs.ret rfl))
theorem y7{l:List Step}{k:Nat}(hk:k<l.length):gj 0 (l.take (k+1))=gj 0 (l.take k)++jh k l[k]++[10]:=by
 rw[List.take_succ_eq_append_getElem hk,rG,List.length_take,Nat.zero_add,Nat.min_eq_left (by omega)]
 simp
theorem Ax{l:List cj}{k:Nat}(hk:k<l.length):jY (l.take (k+1))=jY (l.take k)++gi l[k]++[10]:=by
 rw[List.take_succ_eq_append_getElem hk,uB]
 simp
theorem Ew(v:Value)(f:bV)(g:G)(fk:fA g v f):CallsIn Wd 0 Tryz.prog 37 #[v] g.w (cR g fun _ r=>r=kA f):=by
 obtain⟨a1,n1,c1,a2,n2,c2,rfl,aH,aT⟩:=id fk
 obtain⟨_,_,e⟩:=aH.isSlice;obtain⟨rfl,rfl,rfl⟩:=Value.slice.inj e;clear e
 obtain⟨_,_,e⟩:=aT.isSlice;obtain⟨rfl,rfl,rfl⟩:=Value.slice.inj e;clear e
 clear fk
 have hs:=St.start g
 have aq:=G.le.refl g
 refine enter Tryz.func37 rfl Tryz.ntmps37 rfl ?_
 apply c_
 refine an rfl rfl (aR rfl hs rfl rfl ?_);clear hs;rintro bx g1 hs ah;obtain⟨aH,aT⟩:=cC ah aH aT
 obtain⟨g2,bR,aU,ah,aL⟩:=hs.a_ (i:=0) rfl;replace hs:=aU;clear aU;rw[←bR];obtain⟨aH,aT⟩:=cC ah aH aT
 have aC:=aL
 clear aL bR ah
 refine ba rfl ?_;apply aB;refine dx 1 [.z aC] (St.start _) rfl ?_
 refine an rfl rfl (ay PW aI rfl rfl rfl rfl rfl (Ff _ f _ ⟨_,_,_,_,_,_,rfl,aH,aT⟩) ?_);rintro g1 _ aN rfl;replace hs:=hs.call aN;have ah:=aN.le;obtain⟨aC,aH,aT⟩:=ef ah aC aH aT
 refine ba rfl ?_
 cases hv:valid f with
 |false=>
  rw[yY hv]
  refine aJ rfl rfl ?_
  refine aX rfl ?_
  exact aF (rT rfl rfl rfl (hs.ret rfl))
 |true=>
 rw[xy hv]
 have hB:=Hi hv
 have P_:=hB.n40;have P9:=hB.Vz
 refine aS rfl rfl ?_
 have l1:=dw hB.min;have l2:=dw hB.max
 have OF:=hB.min;have OG:=hB.max
 apply aE;apply au;apply aB
 apply bO hs (fj (eJ (fe []))) 11 [(10,4)] (by kernel_rfl) rfl
 ·refine Dm [[],[0]] [.e aC 0] (St.start _) (by kernel_rfl) rfl ?_
  refine aw (ak (js:=[(1,11)]) (by kernel_rfl) fun gd hf=>?_) ?_
  ·skip
   refine ai rfl ?_
   apply aj
   refine az rfl ?_
   refine ay qy aI rfl rfl rfl rfl rfl (fW (f.ck) _ OF) fun g' v h1 h2=>⟨g',rfl,h1,?_⟩
   exact h2
  refine aw (ak (js:=[(2,12)]) (by kernel_rfl) fun gd hf=>?_) ?_
  ·skip
   refine ai rfl ?_
   apply aj
   refine az rfl ?_
   refine cA (p:=eR) (q:=cX f.ck) rfl rfl rfl (by simp only[List.length_cons,List.length_nil,eR];omega) ?_
   exact⟨_,rfl,aZ.refl _,rfl⟩
  refine aw (ak (js:=[(3,13)]) (by kernel_rfl) fun gd hf=>?_) ?_
  ·skip
   refine ai rfl ?_
   apply aj
   refine az rfl ?_
   refine cA (p:=eR++cX f.ck) (q:=[46,46]) rfl rfl rfl (by simp only[List.length_append,List.length_cons,List.length_nil,eR];omega) ?_
   exact⟨_,rfl,aZ.refl _,rfl⟩
  refine Dm [[],[5]] [.e aC 1] (St.start _) (by kernel_rfl) rfl ?_
  refine aw (ak (js:=[(6,16)]) (by kernel_rfl) fun gd hf=>?_) ?_
  ·skip
   refine ai rfl ?_
   apply aj
   refine az rfl ?_
   refine ay qy aI rfl rfl rfl rfl rfl (fW (f.cu) _ OG) fun g' v h1 h2=>⟨g',rfl,h1,?_⟩
   exact h2
  refine aw (ak (js:=[(4,14),(7,17)]) (by kernel_rfl) fun gd hf=>?_) ?_
  ·skip
   refine ai rfl ?_;refine ai rfl ?_
   apply aj
   refine az rfl ?_
   refine cA (p:=eR++cX f.ck++[46,46]) (q:=cX f.cu) rfl rfl rfl (by simp only[List.length_append,List.length_cons,List.length_nil,eR];omega) ?_
   exact⟨_,rfl,aZ.refl _,rfl⟩
  refine aw (ak (js:=[(8,18)]) (by kernel_rfl) fun gd hf=>?_) ?_
  ·skip
   refine ai rfl ?_
   apply aj
   refine az rfl ?_
   refine cA (p:=eR++cX f.ck++[46,46]++cX f.cu) (q:=[10]) rfl rfl rfl (by simp only[List.length_append,List.length_cons,List.length_nil,eR];omega) ?_
   exact⟨_,rfl,aZ.refl _,rfl⟩
  exact Dy [[9,9]] (by kernel_rfl) rfl
 clear hs;intro g1 hs ah;obtain⟨aC,aH,aT⟩:=ef ah aC aH aT
 have zr:eR++cX f.ck++[46,46]++cX f.cu++[10]=kH f.ck f.cu++[10]:=by
  rw[rC];unfold nE;simp
 have Ja:=xv hB.min hB.max
 have Gs:tD f=kH f.ck f.cu++[10]++gj 0 f.steps++jY f.windows:=by unfold tD;simp
 rw[zr]
 generalize kH f.ck f.cu=M0 at*
 apply cf;apply aB;refine aX rfl ?_;apply aG
 have qz:=aH;have xx:=aT;have qE:=aC
 refine bS (fun m a' w=> ∃(k:Nat) (g4:G),w=g4.w∧St g g4 []∧G.le g1 g4∧k≤f.steps.length∧m=f.steps.length-k∧
   Fr 54 [] [(1,.pointer (some ⟨bx,0,none⟩)),(4,.string (bs (M0++[10]++gj 0 (f.steps.take k)))),(5,.int .i64 k)] a') f.steps.length (fun a' ha=>⟨0,g1,rfl,hs,G.le.refl _,Nat.zero_le _,rfl,ha.keep ⟨rfl,kV rfl (by simp[gj]),rfl,trivial⟩⟩) ?_
 clear hs aq aH aT aC
 rintro m a' _ ⟨k,g4,rfl,hs,j_,hk,rfl,eI⟩
 have aH:=qz.mono j_
 have aT:=xx.mono j_
 have aC:=qE.mono j_
 have jr:=uw (l:=f.steps.take k) (k:=0) (by rw[List.length_take];omega) fun s hs=>hB.steps s (List.mem_of_mem_take hs)
 rw[List.length_take]at jr
 have RT:(gj 0 (f.steps.take k)).length≤8000:=by omega
 revert a'
 apply cQ;apply aB;refine nK [.z aC] (St.start _) rfl ?_
 by_cases bh:k<f.steps.length
 ·refine aJ (b:=_) ?_ rfl ?_
  ·simp;omega
  have RU:dA f.steps (k:Int)=some f.steps[k]:=by simp[dA,bh]
  have dm:=y7 bh
  have RV:=hB.steps _ (List.getElem_mem bh)
  have VD:=rf (i:=k) (by omega) RV
  have W2:=vU RV
  have hle:=nF k f.steps[k]
  generalize f.steps[k]=s at*
  have VE:(jh k s).length≤200:=by rw[hle,List.length_append];omega
  apply aE;apply au;apply aB;apply aG;apply ar;refine Wm 5 [.z aC] (St.start _) rfl ?_
  refine an rfl rfl (aW T.ok rfl aH (y:=s) RU rfl rfl rfl rfl rfl rfl ?_)
  rintro bq pq ys aL ⟨xa,xn,xc,na,nn,nc,rfl,dz,dj⟩
  refine Wm 1 [.e aL 0] (St.start _) rfl ?_
  refine an rfl rfl (ay PX aI rfl rfl rfl rfl rfl (y6 k _ s _ ⟨_,rfl,_,_,_,_,_,_,rfl,dz,dj⟩ (by omega) RV) ?_);rintro g1 _ aN rfl;replace hs:=hs.call aN;have ah:=aN.le;obtain⟨j_,aC,aT⟩:=ef ah j_ aC aT
  refine an rfl rfl (cA (p:=M0++[10]++gj 0 (f.steps.take k)) (q:=jh k s) rfl rfl rfl (by simp only[List.length_append,List.length_singleton];omega) ?_)
  refine an rfl rfl (cA (p:=M0++[10]++gj 0 (f.steps.take k)++jh k s) (q:=[10]) rfl rfl rfl (by simp only[List.length_append,List.length_singleton];omega) ?_)
  refine Wp 1 rfl ?_;apply aD;apply bU;apply au;apply ar;refine Wp 3 rfl ?_;apply aD
  exact fun a ha=>⟨f.steps.length-(k+1),by omega,k+1,_,rfl,hs,j_,by omega,rfl,ha.keep ⟨rfl,kV rfl (by rw[dm];simp[List.append_assoc]),kI rfl (by rw[wr (by omega) (by omega)];omega),trivial⟩⟩
 ·refine aS (b:=_) ?_ rfl ?_
  ·simp;omega
  obtain rfl:k=f.steps.length:=by omega
  rw[List.take_length]at RT⊢
  apply bE;apply bK;apply bK;apply dc;apply au;apply aB;refine aX rfl ?_;apply aG
  have J_:=aT;have wV:=aC
  refine bS (fun m a' w=> ∃(k:Nat) (g5:G),w=g5.w∧St g g5 []∧G.le g4 g5∧k≤f.windows.length∧m=f.windows.length-k∧
    Fr 54 [] [(1,.pointer (some ⟨bx,0,none⟩)),(4,.string (bs (M0++[10]++gj 0 f.steps++jY (f.windows.take k)))),(6,.int .i64 k)] a') f.windows.length (fun a' ha=>⟨0,g4,rfl,hs,G.le.refl _,Nat.zero_le _,rfl,ha.keep ⟨rfl,kV rfl (by simp[jY]),rfl,trivial⟩⟩) ?_
  clear hs j_ aH aT aC bh hk
  rintro m a' _ ⟨k,g5,rfl,hs,j_,hk,rfl,eI⟩
  have aT:=J_.mono j_
  have aC:=wV.mono j_
  have RW:=vV (l:=f.windows.take k) fun w hw=>hB.J9 w (List.mem_of_mem_take hw)
  rw[List.length_take]at RW
  have VF:(jY (f.windows.take k)).length≤1000:=by omega
  revert a'
  apply cQ;apply aB;refine nK [.z aC] (St.start _) rfl ?_
  by_cases bh:k<f.windows.length
  ·refine aJ (b:=_) ?_ rfl ?_
   ·simp;omega
   have RU:dA f.windows (k:Int)=some f.windows[k]:=by simp[dA,bh]
   have dm:=Ax bh
   have Tf:=hB.J9 _ (List.getElem_mem bh)
   have VD:=nG Tf
   generalize f.windows[k]=w0 at*
   apply aE;apply au;apply aB;apply aG;apply ar;refine Wm 4 [.z aC] (St.start _) rfl ?_
   refine an rfl rfl (aW T.ok rfl aT (y:=w0) RU rfl rfl rfl rfl rfl rfl ?_)
   rintro bq pq ys aL rfl
   refine Wm 1 [.e aL 0] (St.start _) rfl ?_
   refine an rfl rfl (ay PY aI rfl rfl rfl rfl rfl (u_ w0 _ Tf) ?_);rintro g1 _ aN rfl;replace hs:=hs.call aN;have ah:=aN.le;replace j_:=G.le.trans j_ ah
   refine an rfl rfl (cA (p:=M0++[10]++gj 0 f.steps++jY (f.windows.take k)) (q:=gi w0) rfl rfl rfl (by simp only[List.length_append,List.length_singleton];omega) ?_)
   refine an rfl rfl (cA (p:=M0++[10]++gj 0 f.steps++jY (f.windows.take k)++gi w0) (q:=[10]) rfl rfl rfl (by simp only[List.length_append,List.length_singleton];omega) ?_)
   refine Wp 1 rfl ?_;apply aD;apply bU;apply au;apply ar;refine Wp 3 rfl ?_;apply aD
   exact fun a ha=>⟨f.windows.length-(k+1),by omega,k+1,_,rfl,hs,j_,by omega,rfl,ha.keep ⟨rfl,kV rfl (by rw[dm];simp[List.append_assoc]),kI rfl (by rw[wr (by omega) (by omega)];omega),trivial⟩⟩
  ·refine aS (b:=_) ?_ rfl ?_
   ·simp;omega
   obtain rfl:k=f.windows.length:=by omega
   rw[List.take_length]
   apply bE;apply bK;apply bK;apply dc;apply au;refine aX rfl ?_
   rw[←Gs]
   exact aF (rT rfl rfl rfl (hs.ret rfl))
end Go.Proofs.YtebobfdheanknaaGreatDoor
namespace Go.Proofs.YtebobfdheanknaaGreatDoor
open Go Go.K
set_option maxRecDepth 10000
attribute [local irreducible] W WL cT cn bX bA bB bD cW cG
set_option maxHeartbeats 1000000
structure O0(f:bV):Prop where
 some_:f.steps≠[]
 dB: ∀s∈f.steps,s.dB≠[]
 next: ∀s∈f.steps,∀m∈s.next,0≤m∧m<(f.steps.length:Int)
 back: ∀s∈f.steps,s.back<(f.steps.length:Int)
 Ur:SL f
def pL(f:bV)(c:Int)(out:List bc):Int:=(j3 f out).getD (aO c (j3 f out).length).toNat 0
def Em(f:bV)(waf idn time c:Int)(out:List bc):bc:=
 {yn ((dA f.steps (pL f c out)).getD jW) (((dA f.steps (pL f c out)).getD jW).dB.headD 0) (idn+out.length) waf (pL f c out) (time+10*out.length)with til:=IntKind.i64.wrap (time+10*out.length+5)}
abbrev rF(ad:Option Addr)(c:Nat)(xs:List bc):cV:=.row 54 19 (.slice ad xs.length c) xs.length (fl xs)
end Go.Proofs.YtebobfdheanknaaGreatDoor
namespace Go.Proofs.YtebobfdheanknaaGreatDoor
open Go Go.K
set_option maxRecDepth 10000
attribute [local irreducible] W WL cT cn bX bA bB bD cW cG
set_option maxHeartbeats 1000000
def Cf(f:bV):List UInt8:=if valid f=true then tD f else []
def pM(t:List UInt8):bc:={gF with kind:=5,ver:=1,prod:=1,text:=t}
def uV(i:Nat):bc:={gF with kind:=4,ver:=1,waf:=(i+1:Nat),lot:=(1+(i+1)/3:Nat),prod:=1}
def om(k h j:Nat):bc:={gF with kind:=6,idn:=(10*k+5*h+j+1:Nat),ver:=1,til:=1000000,tool:=k,cham:=h,rcp:=(j+1:Nat),rvn:=1}
def vz(n:Nat):bc:=om (n/10) (n/5 % 2) (n % 5)
theorem Ev{k h j:Nat}(hh:h<2)(hj:j<5):vz (10*k+5*h+j)=om k h j:=by
 unfold vz
 rw[show(10*k+5*h+j)/10=k from by omega,show(10*k+5*h+j)/5 % 2=h from by omega,show(10*k+5*h+j) % 5=j from by omega]
def Cb(t:List UInt8):List bc:=pM t::(List.range 3).map uV
def Eo(t:List UInt8):List bc:=Cb t++(List.range 120).map vz
theorem uW(f:bV): ∃z:Int,kA f= .tuple #[.string (bs (Cf f)),.int .i64 z]:=by
 unfold kA Cf
 split
 ·exact⟨_,rfl⟩
 ·exact⟨_,rfl⟩
abbrev oF(b:Nat):cV:=.obj b (.cells #[.int .i64 0,.int .i64 0,.slice none 0 0,.slice none 0 0] 30 (0,0))
theorem yp{α:Type}(p:Nat→α)(k:Nat):(List.range (k+1)).map p=(List.range k).map p++[p k]:=by rw[List.range_succ,List.map_append];rfl
theorem NK(v:Value)(x:List Y6)(g:G)(aH:Rs g v x)(hx: ∀y∈x,y.fit):
  CallsIn Wd 0 Tryz.prog 11 #[v] g.w (cR g fun g' r=> ∃v1 v2,r= .tuple #[v1,v2]∧jZ 54 g (Eo (Cf (mk x []))) g' v1∧fA g' v2 (mk x [])):=by
 have hs:=St.start g
 have aq:=G.le.refl g
 obtain⟨a,c,rfl⟩:=aH.isSlice
 refine enter Tryz.func11 rfl Tryz.ntmps11 rfl ?_
 refine cP 1 rfl ?_
 refine an rfl rfl (aK T.ok rfl hs rfl rfl ?_);clear hs;rintro b3 g1 hs ah;obtain⟨aq,aH⟩:=cC ah aq aH
 apply cf;refine cP 1 rfl ?_
 refine an rfl rfl (ay PC aI rfl rfl rfl rfl rfl (Jr _ _ x [] _ aH (Rs.nil _) hx (fun _ h=>absurd h List.not_mem_nil)) ?_);rintro g1 _ aN dI;replace hs:=hs.call aN;have ah:=aN.le;replace aq:=G.le.trans aq ah
 clear aN
 generalize mk x []=f at*
 obtain⟨a1,n1,c1,a2,n2,c2,rfl,aT,bT⟩:=id dI
 clear aT bT aH
 skip
 refine an rfl rfl (aK T.ok rfl hs rfl rfl ?_);clear hs;rintro b4 g1 hs ah;obtain⟨aq,dI⟩:=cC ah aq dI
 refine bg rfl (aA T.ok 0 rfl hs rfl rfl rfl rfl rfl rfl rfl rfl rfl ?_);replace hs:=hs;rintro g1 hs ah;obtain⟨aq,dI⟩:=cC ah aq dI
 obtain⟨g2,bR,aU,ah,aL⟩:=hs.a_ (i:=0) rfl;replace hs:=aU;clear aU;rw[←bR];obtain⟨aq,dI⟩:=cC ah aq dI
 have aC:=aL;clear aL
 replace hs:St g _ [oF b3]:=hs
 apply cf;refine dx 1 [.z aC] (St.start _) rfl ?_
 refine an rfl rfl (ay PD aI rfl rfl rfl rfl rfl (Ew _ f _ dI) ?_);rintro g1 _ aN Gs;replace hs:=hs.call aN;have ah:=aN.le;obtain⟨aq,aC,dI⟩:=ef ah aq aC dI
 clear aN
 obtain⟨n6,e6⟩:=uW f
 rw[e6]at Gs;subst Gs;clear e6
 generalize Cf f=tx at*
 refine ba rfl ?_;refine cP 1 rfl ?_
 refine an rfl rfl (aQ T.ok rfl (vs:=[(0,.int .i64 5),(2,.int .i64 1),(10,.int .i64 1),(18,.string (bs tx))]) (cells:=bW (pM tx)) rfl rfl rfl rfl [(0,1),(1,1),(2,1),(3,1),(4,1),(5,1),(6,1),(7,1),(8,1),(9,1),(10,1),(11,1),(12,1),(13,1),(14,1),(15,1),(16,1),(17,1),(18,1)] rfl (by kernel_rfl) ?_)
 skip
 refine an rfl rfl (bj T.ok rfl hs (vs:=[(0,fv (pM tx))]) (cells:=bW (pM tx)) rfl rfl rfl rfl rfl rfl (by decide) (by decide) (by kernel_rfl) rfl ?_);rintro bl gl hs ah;obtain⟨aq,aC,dI⟩:=ef ah aq aC dI
 replace hs:St g gl [rF (some ⟨bl,0,none⟩) 1 [pM tx],oF b3]:=by
  have e:fl [pM tx]=bW (pM tx):=List.append_nil _
  unfold rF;rw[e];exact hs
 refine ba rfl ?_;apply aB;refine aX rfl ?_;apply aG
 refine bS (fun m a' w=> ∃(k:Nat) (ad:Option Addr) (c8:Nat) (xs:List bc) (g':G),w=g'.w∧St g g' [rF ad c8 xs,oF b3]∧G.le g g'∧fA g' (.agg #[.int .i64 f.ck,.int .i64 f.cu,.slice a1 n1 c1,.slice a2 n2 c2]) f∧EP g' b4 0 [.int .i64 f.ck,.int .i64 f.cu,.slice a1 n1 c1,.slice a2 n2 c2]∧k≤3∧xs.length=k+1∧xs=pM tx::(List.range k).map uV∧m=3-k∧
   Fr 59 [] [(3,.pointer (some ⟨b3,0,none⟩)),(4,.pointer (some ⟨b4,0,none⟩)),(7,.slice ad xs.length c8),(8,.int .i64 (k+1:Nat))] a') 3
  (fun a' ha=>⟨0,_,_,[pM tx],_,rfl,hs,aq,dI,aC,by omega,rfl,rfl,rfl,ha.keep (by(repeat (first|exact trivial|refine⟨rfl,?_⟩)))⟩) ?_
 (repeat clear hs);(repeat clear aq);(repeat clear aC);(repeat clear dI)
 rintro m a' _ ⟨k,ad,c8,xs,g',rfl,hs,aq,dI,aC,hk,lG,jm,rfl,eI⟩
 revert a'
 apply cQ;apply aB;refine aX rfl ?_
 by_cases bh:k<3
 ·refine aJ (b:=decide (((k+1:Nat):Int)≤3)) (decide_eq_true (by omega)) rfl ?_
  apply aE;apply au;apply aB;apply aG;apply ar;refine Wp 5 rfl ?_
  have SO:IntKind.i64.wrap (1+IntKind.i64.wrap (((k+1:Nat):Int).tdiv 3))=((1+(k+1)/3:Nat):Int):=by
   have:k=0∨k=1∨k=2:=by omega
   rcases this with rfl|rfl|rfl<;>rfl
  refine cE (.int .i64 ((1+(k+1)/3:Nat):Int)) (t:=31) rfl (congrArg (Value.int .i64) SO) ?_
  clear SO
  refine an rfl rfl (aQ T.ok rfl (vs:=[(0,.int .i64 4),(2,.int .i64 1),(7,.int .i64 (k+1:Nat)),(9,.int .i64 (1+(k+1)/3:Nat)),(10,.int .i64 1)]) (cells:=bW (uV k)) rfl rfl rfl rfl [(0,1),(1,1),(2,1),(3,1),(4,1),(5,1),(6,1),(7,1),(8,1),(9,1),(10,1),(11,1),(12,1),(13,1),(14,1),(15,1),(16,1),(17,1),(18,1)] rfl (by kernel_rfl) ?_)
  skip
  refine an rfl rfl (bj T.ok rfl hs (vs:=[(0,fv (uV k))]) (cells:=bW (uV k)) rfl rfl rfl rfl rfl rfl (by decide) (by decide) (by kernel_rfl) rfl ?_);rintro bl gl hs ah;obtain⟨aq,aC,dI⟩:=ef ah aq aC dI
  skip
  refine an rfl rfl (b_ T.ok 1 rfl hs rfl rfl rfl rfl rfl rfl rfl (by decide) rfl (Src.gK (hs.own 0 _ rfl).1).2 (by simp[bW,Value.oneCell']) (by show(xs.length+1)*160≤_;omega) (by show xs.length+1≤maxLen;unfold maxLen;omega) ?_);rintro a6 c6 g10 hs ah;obtain⟨aq,aC,dI⟩:=ef ah aq aC dI
  have qD:fl (xs++[uV k])=fl xs++bW (uV k):=by rw[lr];exact congrArg (fl xs++ ·) (List.append_nil _)
  have wT:(xs++[uV k]).length=xs.length+1:=by simp
  replace hs:St g g10 [rF a6 c6 (xs++[uV k]),oF b3]:=by unfold rF;rw[qD,wT];exact hs.drop 0
  refine Wp 1 rfl ?_;apply aD;apply bU;apply au;apply ar;refine Wp 3 rfl ?_;apply aD
  exact fun a ha=>⟨3-(k+1),by omega,k+1,a6,c6,xs++[uV k],_,rfl,hs,aq,dI,aC,by omega,by rw[wT,lG],by rw[yp,jm];rfl,rfl,ha.keep ⟨rfl,rfl,kV rfl (by rw[wT]),kI rfl (by rw[wr (by omega) (by omega)];omega),trivial⟩⟩
 ·refine aS (b:=decide (((k+1:Nat):Int)≤3)) (decide_eq_false (by omega)) rfl ?_
  obtain rfl:k=3:=by omega
  replace jm:xs=Cb tx:=jm
  apply bE;apply bK;apply bK;apply dc;apply au;refine aX rfl ?_;apply aB;refine aX rfl ?_;apply aG
  refine bS (fun m a' w=> ∃(k:Nat) (ad:Option Addr) (c8:Nat) (xs:List bc) (g':G),w=g'.w∧St g g' [rF ad c8 xs,oF b3]∧G.le g g'∧fA g' (.agg #[.int .i64 f.ck,.int .i64 f.cu,.slice a1 n1 c1,.slice a2 n2 c2]) f∧EP g' b4 0 [.int .i64 f.ck,.int .i64 f.cu,.slice a1 n1 c1,.slice a2 n2 c2]∧k≤12∧xs.length=4+10*k∧xs=Cb tx++(List.range (10*k)).map vz∧m=12-k∧
    Fr 59 [] [(3,.pointer (some ⟨b3,0,none⟩)),(4,.pointer (some ⟨b4,0,none⟩)),(7,.slice ad xs.length c8),(9,.int .i64 (10*k:Nat)),(10,.int .i64 (k:Nat))] a') 12
   (fun a' ha=>⟨0,_,_,xs,_,rfl,hs,aq,dI,aC,by omega,lG,by rw[jm];exact(List.append_nil _).symm,rfl,ha.keep (by(repeat (first|exact trivial|refine⟨rfl,?_⟩)))⟩) ?_
  clear jm lG
  (repeat clear hs);(repeat clear aq);(repeat clear aC);(repeat clear dI)
  rintro m a' _ ⟨k,ad,c8,xs,g',rfl,hs,aq,dI,aC,hk,lG,jm,rfl,eI⟩
  revert a'
  apply cQ;apply aB;refine aX rfl ?_
  by_cases Wu:k<12
  ·refine aJ (b:=decide ((k:Int)<12)) (decide_eq_true (by omega)) rfl ?_
   apply aE;apply au;apply aB;apply aG;refine aX rfl ?_;apply aG
   refine bS (fun m a' w=> ∃(h:Nat) (ad:Option Addr) (c8:Nat) (xs:List bc) (g':G),w=g'.w∧St g g' [rF ad c8 xs,oF b3]∧G.le g g'∧fA g' (.agg #[.int .i64 f.ck,.int .i64 f.cu,.slice a1 n1 c1,.slice a2 n2 c2]) f∧EP g' b4 0 [.int .i64 f.ck,.int .i64 f.cu,.slice a1 n1 c1,.slice a2 n2 c2]∧h≤2∧xs.length=4+(10*k+5*h)∧xs=Cb tx++(List.range (10*k+5*h)).map vz∧m=2-h∧
     Fr 59 [] [(3,.pointer (some ⟨b3,0,none⟩)),(4,.pointer (some ⟨b4,0,none⟩)),(7,.slice ad xs.length c8),(9,.int .i64 (10*k+5*h:Nat)),(10,.int .i64 (k:Nat)),(11,.int .i64 (h:Nat))] a') 2
    (fun a' ha=>⟨0,_,_,xs,_,rfl,hs,aq,dI,aC,by omega,lG,jm,rfl,ha.keep (by(repeat (first|exact trivial|refine⟨rfl,?_⟩)))⟩) ?_
   clear jm lG
   (repeat clear hs);(repeat clear aq);(repeat clear aC);(repeat clear dI)
   rintro m a' _ ⟨h,ad,c8,xs,g',rfl,hs,aq,dI,aC,hh,lG,jm,rfl,eI⟩
   revert a'
   apply cQ;apply aB;refine aX rfl ?_
   by_cases Ux:h<2
   ·refine aJ (b:=decide ((h:Int)<2)) (decide_eq_true (by omega)) rfl ?_
    apply aE;apply au;apply aB;apply aG;refine aX rfl ?_;apply aG
    refine bS (fun m a' w=> ∃(j:Nat) (ad:Option Addr) (c8:Nat) (xs:List bc) (g':G),w=g'.w∧St g g' [rF ad c8 xs,oF b3]∧G.le g g'∧fA g' (.agg #[.int .i64 f.ck,.int .i64 f.cu,.slice a1 n1 c1,.slice a2 n2 c2]) f∧EP g' b4 0 [.int .i64 f.ck,.int .i64 f.cu,.slice a1 n1 c1,.slice a2 n2 c2]∧j≤5∧xs.length=4+(10*k+5*h+j)∧xs=Cb tx++(List.range (10*k+5*h+j)).map vz∧m=5-j∧
      Fr 59 [] [(3,.pointer (some ⟨b3,0,none⟩)),(4,.pointer (some ⟨b4,0,none⟩)),(7,.slice ad xs.length c8),(9,.int .i64 (10*k+5*h+j:Nat)),(10,.int .i64 (k:Nat)),(11,.int .i64 (h:Nat)),(12,.int .i64 (j+1:Nat))] a') 5
     (fun a' ha=>⟨0,_,_,xs,_,rfl,hs,aq,dI,aC,by omega,lG,jm,rfl,ha.keep (by(repeat (first|exact trivial|refine⟨rfl,?_⟩)))⟩) ?_
    clear jm lG
    (repeat clear hs);(repeat clear aq);(repeat clear aC);(repeat clear dI)
    rintro m a' _ ⟨j,ad,c8,xs,g',rfl,hs,aq,dI,aC,hj,lG,jm,rfl,eI⟩
    revert a'
    apply cQ;apply aB;refine aX rfl ?_
    by_cases Uy:j<5
    ·refine aJ (b:=decide (((j+1:Nat):Int)≤5)) (decide_eq_true (by omega)) rfl ?_
     apply aE;apply au;apply aB;apply aG;refine aX rfl ?_;apply ar;refine Wp 5 rfl ?_
     refine cE (.int .i64 ((10*k+5*h+j+1:Nat):Int)) (t:=50) rfl (congrArg (Value.int .i64) (by rw[wr (by omega) (by omega)];omega)) ?_
     refine an rfl rfl (aQ T.ok rfl (vs:=[(0,.int .i64 6),(2,.int .i64 1),(1,.int .i64 (10*k+5*h+j+1:Nat)),(11,.int .i64 (k:Nat)),(12,.int .i64 (h:Nat)),(14,.int .i64 (j+1:Nat)),(15,.int .i64 1),(6,.int .i64 1000000)]) (cells:=bW (om k h j)) rfl rfl rfl rfl [(0,1),(1,1),(2,1),(3,1),(4,1),(5,1),(6,1),(7,1),(8,1),(9,1),(10,1),(11,1),(12,1),(13,1),(14,1),(15,1),(16,1),(17,1),(18,1)] rfl (by kernel_rfl) ?_)
     skip
     refine an rfl rfl (bj T.ok rfl hs (vs:=[(0,fv (om k h j))]) (cells:=bW (om k h j)) rfl rfl rfl rfl rfl rfl (by decide) (by decide) (by kernel_rfl) rfl ?_);rintro bl gl hs ah;obtain⟨aq,aC,dI⟩:=ef ah aq aC dI
     skip
     refine an rfl rfl (b_ T.ok 1 rfl hs rfl rfl rfl rfl rfl rfl rfl (by decide) rfl (Src.gK (hs.own 0 _ rfl).1).2 (by simp[bW,Value.oneCell']) (by show(xs.length+1)*160≤_;omega) (by show xs.length+1≤maxLen;unfold maxLen;omega) ?_);rintro a6 c6 g10 hs ah;obtain⟨aq,aC,dI⟩:=ef ah aq aC dI
     have qD:fl (xs++[om k h j])=fl xs++bW (om k h j):=by rw[lr];exact congrArg (fl xs++ ·) (List.append_nil _)
     have wT:(xs++[om k h j]).length=xs.length+1:=by simp
     replace hs:St g g10 [rF a6 c6 (xs++[om k h j]),oF b3]:=by unfold rF;rw[qD,wT];exact hs.drop 0
     refine Wp 1 rfl ?_;apply aD;apply bU;apply au;apply ar;refine Wp 3 rfl ?_;apply aD
     exact fun a ha=>⟨5-(j+1),by omega,j+1,a6,c6,xs++[om k h j],_,rfl,hs,aq,dI,aC,by omega,by rw[wT,lG];omega,by rw[←Nat.add_assoc,yp,jm,Ev Ux Uy,List.append_assoc],rfl,ha.keep ⟨rfl,rfl,kV rfl (by rw[wT]),kI rfl (by rw[wr (by omega) (by omega)];omega),rfl,rfl,kI rfl (by rw[wr (by omega) (by omega)];omega),trivial⟩⟩
    ·refine aS (b:=decide (((j+1:Nat):Int)≤5)) (decide_eq_false (by omega)) rfl ?_
     obtain rfl:j=5:=by omega
     apply bE;apply bK;apply bK;apply dc;apply bU;apply au;apply ar;refine Wp 3 rfl ?_;apply aD
     exact fun a ha=>⟨2-(h+1),by omega,h+1,ad,c8,xs,_,rfl,hs,aq,dI,aC,by omega,by rw[lG];omega,by rw[jm];rfl,rfl,ha.keep ⟨rfl,rfl,rfl,rfl,rfl,kI rfl (by rw[wr (by omega) (by omega)];omega),trivial⟩⟩
   ·refine aS (b:=decide ((h:Int)<2)) (decide_eq_false (by omega)) rfl ?_
    obtain rfl:h=2:=by omega
    apply bE;apply bK;apply bK;apply dc;apply bU;apply au;apply ar;refine Wp 3 rfl ?_;apply aD
    exact fun a ha=>⟨12-(k+1),by omega,k+1,ad,c8,xs,_,rfl,hs,aq,dI,aC,by omega,by rw[lG];omega,by rw[jm];rfl,rfl,ha.keep ⟨rfl,rfl,rfl,rfl,kI rfl (by rw[wr (by omega) (by omega)];omega),trivial⟩⟩
  ·refine aS (b:=decide ((k:Int)<12)) (decide_eq_false (by omega)) rfl ?_
   obtain rfl:k=12:=by omega
   replace jm:xs=Eo tx:=jm
   apply bE;apply bK;apply bK;apply dc;apply au;apply aB
   apply bO hs (eJ (fe [])) 3 [(1,58),(2,2)] (by kernel_rfl) rfl
   ·exact Dz [[],[],[0,0]] [.z aC] hs (by kernel_rfl) rfl
   (repeat clear hs);intro g6 hs ah;replace dI:=dI.mono ah
   skip
   refine bg rfl (aA T.ok 1 rfl hs rfl rfl rfl rfl rfl rfl rfl rfl rfl ?_);replace hs:=hs;rintro g1 hs ah;replace dI:=dI.mono ah
   apply cf
   exact aF (NN T.ok 1 rfl hs rfl rfl rfl rfl (hs.ret ⟨_,_,rfl,by rw[←jm];exact hs.mR (i:=0) rfl (cO.fl _ _),dI⟩))
end Go.Proofs.YtebobfdheanknaaGreatDoor
namespace Go.Proofs.YtebobfdheanknaaGreatDoor
open Go Go.K
set_option maxRecDepth 10000
attribute [local irreducible] W WL cT cn bX bA bB bD cW cG
set_option maxHeartbeats 1000000
structure Y7 where
 z0:Int
 z1:Int
 z2:Int
 z3:Int
 z4:Int
 z5:Int
 z6:Int
def Y7.fit(z:Y7):Prop:=mH z.z0∧mH z.z1∧mH z.z2∧mH z.z3∧mH z.z4∧mH z.z5∧mH z.z6
end Go.Proofs.YtebobfdheanknaaGreatDoor
namespace Go.Proofs.YtebobfdheanknaaGreatDoor
open Go Go.K
set_option maxRecDepth 100000
set_option maxHeartbeats 1000000
def SP:List UInt8:=[109,111,118,101,32,49,46,46,50,10,115,116,101,112,32,48,32,114,101,99,105,112,101,32,49,32,116,111,111,108,115,32,50,32,116,105,109,101,32,51,46,46,51,32,110,101,120,116,32,49,10,115,116,101,112,32,49,32,114,101,99,105,112,101,32,51,32,116,111,111,108,115,32,50,32,116,105,109,101,32,51,46,46,51,32,110,101,120,116,32,45,32,98,97,99,107,32,48,32,108,105,109,105,116,32,49,10]
def Jt:bc:={gF with kind:=5,ver:=1,prod:=5,text:=SP}
def Kz:bc:={gF with kind:=4,ver:=1,waf:=4,lot:=7,prod:=5}
def CZ(n _tool _step rcp:Int):bc:={gF with kind:=6,idn:=n,ver:=1,til:=900,tool:=2,rcp:=rcp,rvn:=1}
def FR(n t til:Int):bc:={gF with kind:=1,idn:=n,ver:=1,time:=t,til:=til,waf:=4,tool:=2,rcp:=1,rvn:=1}
def KA:bc:={gF with kind:=7,idn:=1,ver:=1,til:=900,waf:=4,par:=1}
def rp(p h:List bc):fX:=⟨fun i=>if i=0 then p else if i=3 then [Kz]else if i=4 then [Jt]else if i=5 then [CZ 1 2 0 1,CZ 2 2 0 3]else if i=6 then h else []⟩
def pN(waf step tool rcp:Int):fD:=⟨waf,step,tool,0,rcp,1,50⟩
def wU:List bc:=[FR 11 10 15,FR 12 20 25]
theorem ng{g:G}{s0 s3 s4 s5 s6:Value}{p h:List bc}(h0:Rs g s0 p)(h3:Rs g s3 [Kz])(h4:Rs g s4 [Jt])(h5:Rs g s5 [CZ 1 2 0 1,CZ 2 2 0 3])(h6:Rs g s6 h):iI g (.agg #[s0,.slice none 0 0,.slice none 0 0,s3,s4,s5,s6,.slice none 0 0,.slice none 0 0,.slice none 0 0,.slice none 0 0]) (rp p h):=
 ⟨fun i=>match i with|0=>s0|3=>s3|4=>s4|5=>s5|6=>s6|_=> .slice none 0 0,rfl,fun i hi=>match i,hi with
  |0,_=>h0|1,_=>Rs.nil _|2,_=>Rs.nil _|3,_=>h3|4,_=>h4|5,_=>h5|6,_=>h6|7,_=>Rs.nil _|8,_=>Rs.nil _|9,_=>Rs.nil _|10,_=>Rs.nil _⟩
theorem Ez{p h:List bc}(hp:p.length≤2)(hh:h.length≤2):FO (rp p h):=by
 refine⟨fun i=>?_,fun f hf=>?_⟩
 ·unfold rp
  show(if i=0 then p else _).length≤_
  split
  ·omega
  ·split
   ·decide
   ·split
    ·decide
    ·split
     ·decide
     ·split
      ·omega
      ·decide
 ·obtain rfl:f=Jt:=List.mem_singleton.1 hf
  decide
theorem tE{v:Value}{b:fX}{a:fD}{g:G}{z:Int}(bI:iI g v b)(hb:FO b)(bM:iw g)(e:th b a=z):CallsIn Wd 0 Tryz.prog 23 #[v,Gl a] g.w (cR g fun _ r=>r= .int .i64 z):=by
 subst e;exact D_ v b a g bI hb bM
abbrev oA(b:Nat)(a:fD):cV:=.obj b (.cells (pE a).toArray 41 (0,0))
abbrev oB(b:Nat)(s0 s3 s4 s5 s6:Value):cV:=.obj b (.cells #[s0,.slice none 0 0,.slice none 0 0,s3,s4,s5,s6,.slice none 0 0,.slice none 0 0,.slice none 0 0,.slice none 0 0] 35 (0,0))
theorem Jn(g:G)(bM:iw g):CallsIn Wd 0 Tryz.prog 10 #[] g.w (cR g fun _ r=>r= .bool true):=by
 have hs:=St.start g
 have aq:=G.le.refl g
 refine enter Tryz.func10 rfl Tryz.ntmps10 rfl ?_
 (iterate 3 refine cP 1 rfl ?_)
 refine an rfl rfl (aQ T.ok rfl (vs:=[(0,.int .i64 5),(2,.int .i64 1),(10,.int .i64 5),(18,.string (bs SP))]) (cells:=bW (Jt)) rfl rfl rfl rfl [(0,1),(1,1),(2,1),(3,1),(4,1),(5,1),(6,1),(7,1),(8,1),(9,1),(10,1),(11,1),(12,1),(13,1),(14,1),(15,1),(16,1),(17,1),(18,1)] rfl (by kernel_rfl) ?_)
 skip
 refine an rfl rfl (bj T.ok rfl hs (vs:=[(0,fv (Jt))]) (cells:=fl [Jt]) rfl rfl rfl rfl rfl rfl (by decide) (by decide) (by kernel_rfl) rfl ?_);rintro bF gl hs ah;replace bM:=bM.mono ah
 obtain⟨gz,ik,cS,iT,dz⟩:=hs.cL (α:=bc) (xs:=[Jt]) (i:=0) rfl (cO.fl _ _);clear ah;have ah:=iT;rw[←ik];(repeat clear hs);have hs:St g gz []:=cS;clear cS;replace bM:=bM.mono ah
 skip
 refine an rfl rfl (aQ T.ok rfl (vs:=[(0,.int .i64 4),(2,.int .i64 1),(7,.int .i64 4),(9,.int .i64 7),(10,.int .i64 5)]) (cells:=bW (Kz)) rfl rfl rfl rfl [(0,1),(1,1),(2,1),(3,1),(4,1),(5,1),(6,1),(7,1),(8,1),(9,1),(10,1),(11,1),(12,1),(13,1),(14,1),(15,1),(16,1),(17,1),(18,1)] rfl (by kernel_rfl) ?_)
 skip
 refine an rfl rfl (bj T.ok rfl hs (vs:=[(0,fv (Kz))]) (cells:=fl [Kz]) rfl rfl rfl rfl rfl rfl (by decide) (by decide) (by kernel_rfl) rfl ?_);rintro bL gl hs ah;obtain⟨dz,bM⟩:=cC ah dz bM
 obtain⟨gz,ik,cS,iT,bN⟩:=hs.cL (α:=bc) (xs:=[Kz]) (i:=0) rfl (cO.fl _ _);clear ah;have ah:=iT;rw[←ik];(repeat clear hs);have hs:St g gz []:=cS;clear cS;obtain⟨dz,bM⟩:=cC ah dz bM
 skip
 refine an rfl rfl (aQ T.ok rfl (vs:=[(0,.int .i64 6),(2,.int .i64 1),(1,.int .i64 1),(11,.int .i64 2),(14,.int .i64 1),(15,.int .i64 1),(6,.int .i64 900)]) (cells:=bW (CZ 1 2 0 1)) rfl rfl rfl rfl [(0,1),(1,1),(2,1),(3,1),(4,1),(5,1),(6,1),(7,1),(8,1),(9,1),(10,1),(11,1),(12,1),(13,1),(14,1),(15,1),(16,1),(17,1),(18,1)] rfl (by kernel_rfl) ?_)
 skip
 refine an rfl rfl (aQ T.ok rfl (vs:=[(0,.int .i64 6),(2,.int .i64 1),(1,.int .i64 2),(11,.int .i64 2),(14,.int .i64 3),(15,.int .i64 1),(6,.int .i64 900)]) (cells:=bW (CZ 2 2 0 3)) rfl rfl rfl rfl [(0,1),(1,1),(2,1),(3,1),(4,1),(5,1),(6,1),(7,1),(8,1),(9,1),(10,1),(11,1),(12,1),(13,1),(14,1),(15,1),(16,1),(17,1),(18,1)] rfl (by kernel_rfl) ?_)
 skip
 refine an rfl rfl (bj T.ok rfl hs (vs:=[(0,fv (CZ 1 2 0 1)),(1,fv (CZ 2 2 0 3))]) (cells:=fl [CZ 1 2 0 1,CZ 2 2 0 3]) rfl rfl rfl rfl rfl rfl (by decide) (by decide) (by kernel_rfl) rfl ?_);rintro bQ gl hs ah;obtain⟨bN,dz,bM⟩:=ef ah bN dz bM
 obtain⟨gz,ik,cS,iT,dj⟩:=hs.cL (α:=bc) (xs:=[CZ 1 2 0 1,CZ 2 2 0 3]) (i:=0) rfl (cO.fl _ _);clear ah;have ah:=iT;rw[←ik];(repeat clear hs);have hs:St g gz []:=cS;clear cS;obtain⟨bN,dz,bM⟩:=ef ah bN dz bM
 skip
 refine an rfl rfl (aQ T.ok rfl (vs:=[(4,.slice (some ⟨bF,0,none⟩) 1 1),(3,.slice (some ⟨bL,0,none⟩) 1 1),(5,.slice (some ⟨bQ,0,none⟩) 2 2)]) (cells:=[.slice none 0 0,.slice none 0 0,.slice none 0 0,.slice (some ⟨bL,0,none⟩) 1 1,.slice (some ⟨bF,0,none⟩) 1 1,.slice (some ⟨bQ,0,none⟩) 2 2,.slice none 0 0,.slice none 0 0,.slice none 0 0,.slice none 0 0,.slice none 0 0]) rfl rfl rfl rfl [(0,1),(1,1),(2,1),(3,1),(4,1),(5,1),(6,1),(7,1),(8,1),(9,1),(10,1)] rfl (by kernel_rfl) ?_)
 refine an rfl rfl (aK T.ok rfl hs rfl rfl ?_);clear hs;rintro b2 g1 hs ah;obtain⟨bN,dz,dj,bM⟩:=dE ah bN dz dj bM
 refine bg rfl (aA T.ok 0 rfl hs rfl rfl rfl rfl rfl rfl rfl rfl rfl ?_);replace hs:=hs;rintro g1 hs ah;obtain⟨bN,dz,dj,bM⟩:=dE ah bN dz dj bM
 replace hs:St g g1 [oB b2 (.slice none 0 0) (.slice (some ⟨bL,0,none⟩) 1 1) (.slice (some ⟨bF,0,none⟩) 1 1) (.slice (some ⟨bQ,0,none⟩) 2 2) (.slice none 0 0)]:=hs
 apply c_
 refine an rfl rfl (aQ T.ok rfl (vs:=[(0,.int .i64 4),(2,.int .i64 2),(4,.int .i64 1),(5,.int .i64 1),(6,.int .i64 50)]) (cells:=pE (pN 4 0 2 1)) rfl rfl rfl rfl [(0,1),(1,1),(2,1),(3,1),(4,1),(5,1),(6,1)] rfl (by kernel_rfl) ?_)
 refine an rfl rfl (aK T.ok rfl hs rfl rfl ?_);clear hs;rintro b3 g1 hs ah;obtain⟨bN,dz,dj,bM⟩:=dE ah bN dz dj bM
 refine bg rfl (aA T.ok 0 rfl hs rfl rfl rfl rfl rfl rfl rfl rfl rfl ?_);replace hs:=hs;rintro g1 hs ah;obtain⟨bN,dz,dj,bM⟩:=dE ah bN dz dj bM
 replace hs:St g g1 [oA b3 (pN 4 0 2 1),oB b2 (.slice none 0 0) (.slice (some ⟨bL,0,none⟩) 1 1) (.slice (some ⟨bF,0,none⟩) 1 1) (.slice (some ⟨bQ,0,none⟩) 2 2) (.slice none 0 0)]:=hs
 refine dx 2 [.o 1,.o 0] hs rfl ?_
 refine an rfl rfl (ay UU aI rfl rfl rfl rfl rfl (tE (b:=rp [] []) (a:=pN 4 0 2 1) (ng (Rs.nil _) bN dz dj (Rs.nil _)) (Ez (by decide) (by decide)) bM (show th (rp [] []) (pN 4 0 2 1)=0 from by decide+kernel)) ?_);rintro g1 _ aN rfl;replace hs:=hs.call aN;have ah:=aN.le;obtain⟨bN,dz,dj,bM⟩:=dE ah bN dz dj bM
 clear aN
 refine Wp 1 rfl ?_;refine cP 1 rfl ?_
 skip
 refine bg rfl (aA T.ok 0 rfl hs rfl rfl rfl rfl rfl rfl rfl rfl rfl ?_);replace hs:=hs;rintro g1 hs ah;obtain⟨bN,dz,dj,bM⟩:=dE ah bN dz dj bM
 (repeat clear oh)
 replace hs:St g g1 [oA b3 (pN 4 0 2 3),oB b2 (.slice none 0 0) (.slice (some ⟨bL,0,none⟩) 1 1) (.slice (some ⟨bF,0,none⟩) 1 1) (.slice (some ⟨bQ,0,none⟩) 2 2) (.slice none 0 0)]:=hs
 refine dx 2 [.o 1,.o 0] hs rfl ?_
 refine an rfl rfl (ay UU aI rfl rfl rfl rfl rfl (tE (b:=rp [] []) (a:=pN 4 0 2 3) (ng (Rs.nil _) bN dz dj (Rs.nil _)) (Ez (by decide) (by decide)) bM (show th (rp [] []) (pN 4 0 2 3)=8 from by decide+kernel)) ?_);rintro g1 _ aN rfl;replace hs:=hs.call aN;have ah:=aN.le;obtain⟨bN,dz,dj,bM⟩:=dE ah bN dz dj bM
 clear aN
 refine Wp 1 rfl ?_;refine cP 1 rfl ?_
 skip
 refine bg rfl (aA T.ok 0 rfl hs rfl rfl rfl rfl rfl rfl rfl rfl rfl ?_);replace hs:=hs;rintro g1 hs ah;obtain⟨bN,dz,dj,bM⟩:=dE ah bN dz dj bM
 (repeat clear oh)
 replace hs:St g g1 [oA b3 (pN 4 0 2 1),oB b2 (.slice none 0 0) (.slice (some ⟨bL,0,none⟩) 1 1) (.slice (some ⟨bF,0,none⟩) 1 1) (.slice (some ⟨bQ,0,none⟩) 2 2) (.slice none 0 0)]:=hs
 refine cP 1 rfl ?_
 refine bg rfl (aA T.ok 0 rfl hs rfl rfl rfl rfl rfl rfl rfl rfl rfl ?_);replace hs:=hs;rintro g1 hs ah;obtain⟨bN,dz,dj,bM⟩:=dE ah bN dz dj bM
 (repeat clear oh)
 replace hs:St g g1 [oA b3 (pN 4 0 3 1),oB b2 (.slice none 0 0) (.slice (some ⟨bL,0,none⟩) 1 1) (.slice (some ⟨bF,0,none⟩) 1 1) (.slice (some ⟨bQ,0,none⟩) 2 2) (.slice none 0 0)]:=hs
 refine dx 2 [.o 1,.o 0] hs rfl ?_
 refine an rfl rfl (ay UU aI rfl rfl rfl rfl rfl (tE (b:=rp [] []) (a:=pN 4 0 3 1) (ng (Rs.nil _) bN dz dj (Rs.nil _)) (Ez (by decide) (by decide)) bM (show th (rp [] []) (pN 4 0 3 1)=20 from by decide+kernel)) ?_);rintro g1 _ aN rfl;replace hs:=hs.call aN;have ah:=aN.le;obtain⟨bN,dz,dj,bM⟩:=dE ah bN dz dj bM
 clear aN
 refine Wp 1 rfl ?_;refine cP 1 rfl ?_
 skip
 refine bg rfl (aA T.ok 0 rfl hs rfl rfl rfl rfl rfl rfl rfl rfl rfl ?_);replace hs:=hs;rintro g1 hs ah;obtain⟨bN,dz,dj,bM⟩:=dE ah bN dz dj bM
 (repeat clear oh)
 replace hs:St g g1 [oA b3 (pN 4 0 2 1),oB b2 (.slice none 0 0) (.slice (some ⟨bL,0,none⟩) 1 1) (.slice (some ⟨bF,0,none⟩) 1 1) (.slice (some ⟨bQ,0,none⟩) 2 2) (.slice none 0 0)]:=hs
 refine cP 1 rfl ?_
 refine bg rfl (aA T.ok 0 rfl hs rfl rfl rfl rfl rfl rfl rfl rfl rfl ?_);replace hs:=hs;rintro g1 hs ah;obtain⟨bN,dz,dj,bM⟩:=dE ah bN dz dj bM
 (repeat clear oh)
 replace hs:St g g1 [oA b3 (pN 4 1 2 1),oB b2 (.slice none 0 0) (.slice (some ⟨bL,0,none⟩) 1 1) (.slice (some ⟨bF,0,none⟩) 1 1) (.slice (some ⟨bQ,0,none⟩) 2 2) (.slice none 0 0)]:=hs
 refine dx 2 [.o 1,.o 0] hs rfl ?_
 refine an rfl rfl (ay UU aI rfl rfl rfl rfl rfl (tE (b:=rp [] []) (a:=pN 4 1 2 1) (ng (Rs.nil _) bN dz dj (Rs.nil _)) (Ez (by decide) (by decide)) bM (show th (rp [] []) (pN 4 1 2 1)=10 from by decide+kernel)) ?_);rintro g1 _ aN rfl;replace hs:=hs.call aN;have ah:=aN.le;obtain⟨bN,dz,dj,bM⟩:=dE ah bN dz dj bM
 clear aN
 refine Wp 1 rfl ?_;refine cP 1 rfl ?_
 skip
 refine bg rfl (aA T.ok 0 rfl hs rfl rfl rfl rfl rfl rfl rfl rfl rfl ?_);replace hs:=hs;rintro g1 hs ah;obtain⟨bN,dz,dj,bM⟩:=dE ah bN dz dj bM
 (repeat clear oh)
 replace hs:St g g1 [oA b3 (pN 4 7 2 1),oB b2 (.slice none 0 0) (.slice (some ⟨bL,0,none⟩) 1 1) (.slice (some ⟨bF,0,none⟩) 1 1) (.slice (some ⟨bQ,0,none⟩) 2 2) (.slice none 0 0)]:=hs
 refine dx 2 [.o 1,.o 0] hs rfl ?_
 refine an rfl rfl (ay UU aI rfl rfl rfl rfl rfl (tE (b:=rp [] []) (a:=pN 4 7 2 1) (ng (Rs.nil _) bN dz dj (Rs.nil _)) (Ez (by decide) (by decide)) bM (show th (rp [] []) (pN 4 7 2 1)=2 from by decide+kernel)) ?_);rintro g1 _ aN rfl;replace hs:=hs.call aN;have ah:=aN.le;obtain⟨bN,dz,dj,bM⟩:=dE ah bN dz dj bM
 clear aN
 refine Wp 1 rfl ?_;refine cP 1 rfl ?_
 skip
 refine bg rfl (aA T.ok 0 rfl hs rfl rfl rfl rfl rfl rfl rfl rfl rfl ?_);replace hs:=hs;rintro g1 hs ah;obtain⟨bN,dz,dj,bM⟩:=dE ah bN dz dj bM
 (repeat clear oh)
 replace hs:St g g1 [oA b3 (pN 4 0 2 1),oB b2 (.slice none 0 0) (.slice (some ⟨bL,0,none⟩) 1 1) (.slice (some ⟨bF,0,none⟩) 1 1) (.slice (some ⟨bQ,0,none⟩) 2 2) (.slice none 0 0)]:=hs
 refine cP 1 rfl ?_
 refine bg rfl (aA T.ok 0 rfl hs rfl rfl rfl rfl rfl rfl rfl rfl rfl ?_);replace hs:=hs;rintro g1 hs ah;obtain⟨bN,dz,dj,bM⟩:=dE ah bN dz dj bM
 (repeat clear oh)
 replace hs:St g g1 [oA b3 (pN 9 0 2 1),oB b2 (.slice none 0 0) (.slice (some ⟨bL,0,none⟩) 1 1) (.slice (some ⟨bF,0,none⟩) 1 1) (.slice (some ⟨bQ,0,none⟩) 2 2) (.slice none 0 0)]:=hs
 refine dx 2 [.o 1,.o 0] hs rfl ?_
 refine an rfl rfl (ay UU aI rfl rfl rfl rfl rfl (tE (b:=rp [] []) (a:=pN 9 0 2 1) (ng (Rs.nil _) bN dz dj (Rs.nil _)) (Ez (by decide) (by decide)) bM (show th (rp [] []) (pN 9 0 2 1)=1 from by decide+kernel)) ?_);rintro g1 _ aN rfl;replace hs:=hs.call aN;have ah:=aN.le;obtain⟨bN,dz,dj,bM⟩:=dE ah bN dz dj bM
 clear aN
 refine Wp 1 rfl ?_;refine cP 1 rfl ?_
 skip
 refine bg rfl (aA T.ok 0 rfl hs rfl rfl rfl rfl rfl rfl rfl rfl rfl ?_);replace hs:=hs;rintro g1 hs ah;obtain⟨bN,dz,dj,bM⟩:=dE ah bN dz dj bM
 (repeat clear oh)
 replace hs:St g g1 [oA b3 (pN 4 0 2 1),oB b2 (.slice none 0 0) (.slice (some ⟨bL,0,none⟩) 1 1) (.slice (some ⟨bF,0,none⟩) 1 1) (.slice (some ⟨bQ,0,none⟩) 2 2) (.slice none 0 0)]:=hs
 refine dx 1 [.o 1] hs rfl ?_
 refine an rfl rfl (aK T.ok rfl hs rfl rfl ?_);clear hs;rintro IL g1 hs ah;obtain⟨bN,dz,dj,bM⟩:=dE ah bN dz dj bM
 refine bg rfl (aA T.ok 0 rfl hs rfl rfl rfl rfl rfl rfl rfl rfl rfl ?_);replace hs:=hs;rintro g1 hs ah;obtain⟨bN,dz,dj,bM⟩:=dE ah bN dz dj bM
 apply c_
 refine an rfl rfl (aQ T.ok rfl (vs:=[(0,.int .i64 7),(2,.int .i64 1),(1,.int .i64 1),(7,.int .i64 4),(6,.int .i64 900),(17,.int .i64 1)]) (cells:=bW (KA)) rfl rfl rfl rfl [(0,1),(1,1),(2,1),(3,1),(4,1),(5,1),(6,1),(7,1),(8,1),(9,1),(10,1),(11,1),(12,1),(13,1),(14,1),(15,1),(16,1),(17,1),(18,1)] rfl (by kernel_rfl) ?_)
 skip
 refine an rfl rfl (bj T.ok rfl hs (vs:=[(0,fv (KA))]) (cells:=fl [KA]) rfl rfl rfl rfl rfl rfl (by decide) (by decide) (by kernel_rfl) rfl ?_);rintro bH gl hs ah;obtain⟨bN,dz,dj,bM⟩:=dE ah bN dz dj bM
 obtain⟨gz,ik,cS,iT,pk⟩:=hs.cL (α:=bc) (xs:=[KA]) (i:=0) rfl (cO.fl _ _);clear ah;have ah:=iT;rw[←ik];(repeat clear hs);have hs:St g gz [oB IL (.slice none 0 0) (.slice (some ⟨bL,0,none⟩) 1 1) (.slice (some ⟨bF,0,none⟩) 1 1) (.slice (some ⟨bQ,0,none⟩) 2 2) (.slice none 0 0),oA b3 (pN 4 0 2 1),oB b2 (.slice none 0 0) (.slice (some ⟨bL,0,none⟩) 1 1) (.slice (some ⟨bF,0,none⟩) 1 1) (.slice (some ⟨bQ,0,none⟩) 2 2) (.slice none 0 0)]:=cS;clear cS;obtain⟨bN,dz,dj,bM⟩:=dE ah bN dz dj bM
 refine Wp 1 rfl ?_
 refine bg rfl (aA T.ok 0 rfl hs rfl rfl rfl rfl rfl rfl rfl rfl rfl ?_);replace hs:=hs;rintro g1 hs ah;obtain⟨bN,dz,dj,pk,bM⟩:=kN ah bN dz dj pk bM
 (repeat clear oh)
 replace hs:St g g1 [oB IL (.slice none 0 0) (.slice (some ⟨bL,0,none⟩) 1 1) (.slice (some ⟨bF,0,none⟩) 1 1) (.slice (some ⟨bQ,0,none⟩) 2 2) (.slice (some ⟨bH,0,none⟩) 1 1),oA b3 (pN 4 0 2 1),oB b2 (.slice none 0 0) (.slice (some ⟨bL,0,none⟩) 1 1) (.slice (some ⟨bF,0,none⟩) 1 1) (.slice (some ⟨bQ,0,none⟩) 2 2) (.slice none 0 0)]:=hs
 refine dx 2 [.o 0,.o 1] hs rfl ?_
 refine an rfl rfl (ay UU aI rfl rfl rfl rfl rfl (tE (b:=rp [] [KA]) (a:=pN 4 0 2 1) (ng (Rs.nil _) bN dz dj pk) (Ez (by decide) (by decide)) bM (show th (rp [] [KA]) (pN 4 0 2 1)=32 from by decide+kernel)) ?_);rintro g1 _ aN rfl;replace hs:=hs.call aN;have ah:=aN.le;obtain⟨bN,dz,dj,bM⟩:=dE ah bN dz dj bM
 clear aN
 refine Wp 1 rfl ?_;apply c_
 skip
 refine an rfl rfl (aQ T.ok rfl (vs:=[(0,.int .i64 1),(2,.int .i64 1),(1,.int .i64 11),(7,.int .i64 4),(11,.int .i64 2),(14,.int .i64 1),(15,.int .i64 1),(5,.int .i64 10),(6,.int .i64 15)]) (cells:=bW (FR 11 10 15)) rfl rfl rfl rfl [(0,1),(1,1),(2,1),(3,1),(4,1),(5,1),(6,1),(7,1),(8,1),(9,1),(10,1),(11,1),(12,1),(13,1),(14,1),(15,1),(16,1),(17,1),(18,1)] rfl (by kernel_rfl) ?_)
 skip
 refine an rfl rfl (aQ T.ok rfl (vs:=[(0,.int .i64 1),(2,.int .i64 1),(1,.int .i64 12),(7,.int .i64 4),(11,.int .i64 2),(14,.int .i64 1),(15,.int .i64 1),(5,.int .i64 20),(6,.int .i64 25)]) (cells:=bW (FR 12 20 25)) rfl rfl rfl rfl [(0,1),(1,1),(2,1),(3,1),(4,1),(5,1),(6,1),(7,1),(8,1),(9,1),(10,1),(11,1),(12,1),(13,1),(14,1),(15,1),(16,1),(17,1),(18,1)] rfl (by kernel_rfl) ?_)
 skip
 refine an rfl rfl (bj T.ok rfl hs (vs:=[(0,fv (FR 11 10 15)),(1,fv (FR 12 20 25))]) (cells:=fl [FR 11 10 15,FR 12 20 25]) rfl rfl rfl rfl rfl rfl (by decide) (by decide) (by kernel_rfl) rfl ?_);rintro bP gl hs ah;obtain⟨bN,dz,dj,bM⟩:=dE ah bN dz dj bM
 obtain⟨gz,ik,cS,iT,aH⟩:=hs.cL (α:=bc) (xs:=[FR 11 10 15,FR 12 20 25]) (i:=0) rfl (cO.fl _ _);clear ah;have ah:=iT;rw[←ik];(repeat clear hs);have hs:St g gz [oB IL (.slice none 0 0) (.slice (some ⟨bL,0,none⟩) 1 1) (.slice (some ⟨bF,0,none⟩) 1 1) (.slice (some ⟨bQ,0,none⟩) 2 2) (.slice (some ⟨bH,0,none⟩) 1 1),oA b3 (pN 4 0 2 1),oB b2 (.slice none 0 0) (.slice (some ⟨bL,0,none⟩) 1 1) (.slice (some ⟨bF,0,none⟩) 1 1) (.slice (some ⟨bQ,0,none⟩) 2 2) (.slice none 0 0)]:=cS;clear cS;obtain⟨bN,dz,dj,bM⟩:=dE ah bN dz dj bM
 refine Wp 1 rfl ?_
 refine bg rfl (aA T.ok 2 rfl hs rfl rfl rfl rfl rfl rfl rfl rfl rfl ?_);replace hs:=hs;rintro g1 hs ah;obtain⟨aH,bN,dz,dj,bM⟩:=kN ah aH bN dz dj bM
 (repeat clear oh)
 replace hs:St g g1 [oB IL (.slice none 0 0) (.slice (some ⟨bL,0,none⟩) 1 1) (.slice (some ⟨bF,0,none⟩) 1 1) (.slice (some ⟨bQ,0,none⟩) 2 2) (.slice (some ⟨bH,0,none⟩) 1 1),oA b3 (pN 4 0 2 1),oB b2 (.slice (some ⟨bP,0,none⟩) 2 2) (.slice (some ⟨bL,0,none⟩) 1 1) (.slice (some ⟨bF,0,none⟩) 1 1) (.slice (some ⟨bQ,0,none⟩) 2 2) (.slice none 0 0)]:=hs
 refine dx 1 [.o 2] hs rfl ?_
 refine an rfl rfl (ay Pz aI rfl rfl rfl rfl rfl (Jh _ (rp wU []) 4 20 _ (ng aH bN dz dj (Rs.nil _)) (Ez (by decide) (by decide))) ?_);rintro g1 _ aN ⟨v1,v2,rfl,aT,bT⟩;replace hs:=hs.call aN;have ah:=aN.le;obtain⟨aH,bN,dz,dj,bM⟩:=kN ah aH bN dz dj bM
 clear aN
 rw[show(jb (rp wU []) 4 20).map (·.step)=[0,0]from by decide+kernel]at aT
 rw[show(jb (rp wU []) 4 20).map (·.idn)=[11,12]from by decide+kernel]at bT
 refine Wp 5 rfl ?_;refine dx 28 [.o 2] hs rfl ?_
 refine an rfl rfl (ay IN aI rfl rfl rfl rfl rfl (wI _ (rp wU []) 4 15 _ (ng aH bN dz dj (Rs.nil _)) (Ez (by decide) (by decide)) bM) ?_);rintro g1 _ aN eg;replace hs:=hs.call aN;have ah:=aN.le;obtain⟨aH,aT,bT,bN,dz,dj⟩:=iu ah aH aT bT bN dz dj;replace bM:=bM.mono ah
 clear aN
 rw[show mz (rp wU []) 4 15=[1]from by decide+kernel]at eg
 skip
 refine an rfl rfl (bj T.ok rfl hs (vs:=[(0,.int .i64 (1))]) (cells:=[.int .i64 (1)]) rfl rfl rfl rfl rfl rfl (by decide) (by decide) (by kernel_rfl) rfl ?_);rintro bl gl hs ah;obtain⟨aH,aT,bT,bN,dz,dj⟩:=iu ah aH aT bT bN dz dj;obtain⟨eg,bM⟩:=cC ah eg bM;obtain⟨gz,ik,cS,iT,fq⟩:=hs.cL (α:=Int) (xs:=[1]) (i:=0) rfl (cO.ints _ [1]);clear ah;have ah:=iT;rw[←ik];replace hs:=cS;clear cS;obtain⟨aH,aT,bT,bN,dz,dj⟩:=iu ah aH aT bT bN dz dj;obtain⟨eg,bM⟩:=cC ah eg bM
 refine an rfl rfl (ay Dc aI rfl rfl rfl rfl rfl (pO _ _ _ _ _ eg fq) ?_);rintro g1 _ aN rfl;replace hs:=hs.call aN;have ah:=aN.le;obtain⟨aH,aT,bT,bN,dz,dj⟩:=iu ah aH aT bT bN dz dj;obtain⟨eg,fq,bM⟩:=ef ah eg fq bM
 clear aN
 refine cE (.bool true) (t:=97) rfl (congrArg Value.bool (by decide)) ?_
 refine Wm 3 [.o 2] hs rfl ?_
 clear eg fq
 refine an rfl rfl (ay IN aI rfl rfl rfl rfl rfl (wI _ (rp wU []) 4 5 _ (ng aH bN dz dj (Rs.nil _)) (Ez (by decide) (by decide)) bM) ?_);rintro g1 _ aN eg;replace hs:=hs.call aN;have ah:=aN.le;obtain⟨aH,aT,bT,bN,dz,dj⟩:=iu ah aH aT bT bN dz dj;replace bM:=bM.mono ah
 clear aN
 rw[show mz (rp wU []) 4 5=[0]from by decide+kernel]at eg
 skip
 refine an rfl rfl (bj T.ok rfl hs (vs:=[(0,.int .i64 (0))]) (cells:=[.int .i64 (0)]) rfl rfl rfl rfl rfl rfl (by decide) (by decide) (by kernel_rfl) rfl ?_);rintro bl gl hs ah;obtain⟨aH,aT,bT,bN,dz,dj⟩:=iu ah aH aT bT bN dz dj;obtain⟨eg,bM⟩:=cC ah eg bM;obtain⟨gz,ik,cS,iT,fq⟩:=hs.cL (α:=Int) (xs:=[0]) (i:=0) rfl (cO.ints _ [0]);clear ah;have ah:=iT;rw[←ik];replace hs:=cS;clear cS;obtain⟨aH,aT,bT,bN,dz,dj⟩:=iu ah aH aT bT bN dz dj;obtain⟨eg,bM⟩:=cC ah eg bM
 refine an rfl rfl (ay Dc aI rfl rfl rfl rfl rfl (pO _ _ _ _ _ eg fq) ?_);rintro g1 _ aN rfl;replace hs:=hs.call aN;have ah:=aN.le;obtain⟨aH,aT,bT,bN,dz,dj⟩:=iu ah aH aT bT bN dz dj;obtain⟨eg,fq,bM⟩:=ef ah eg fq bM
 clear aN
 refine cE (.bool true) (t:=103) rfl (congrArg Value.bool (by decide)) ?_
 refine Wp 3 rfl ?_
 clear eg fq
 refine an rfl rfl (bj T.ok rfl hs (vs:=[(0,.int .i64 (0)),(1,.int .i64 (0))]) (cells:=[.int .i64 (0),.int .i64 (0)]) rfl rfl rfl rfl rfl rfl (by decide) (by decide) (by kernel_rfl) rfl ?_);rintro bl gl hs ah;obtain⟨aH,aT,bT,bN,dz,dj⟩:=iu ah aH aT bT bN dz dj;replace bM:=bM.mono ah;obtain⟨gz,ik,cS,iT,fq⟩:=hs.cL (α:=Int) (xs:=[0,0]) (i:=0) rfl (cO.ints _ [0,0]);clear ah;have ah:=iT;rw[←ik];replace hs:=cS;clear cS;obtain⟨aH,aT,bT,bN,dz,dj⟩:=iu ah aH aT bT bN dz dj;replace bM:=bM.mono ah
 refine an rfl rfl (ay Dc aI rfl rfl rfl rfl rfl (pO _ _ _ _ _ aT fq) ?_);rintro g1 _ aN rfl;replace hs:=hs.call aN;have ah:=aN.le;obtain⟨aH,bT,bN,dz,dj,fq⟩:=iu ah aH bT bN dz dj fq;replace bM:=bM.mono ah
 clear aN
 refine cE (.bool true) (t:=108) rfl (congrArg Value.bool (by decide)) ?_
 refine Wp 3 rfl ?_
 clear fq
 refine an rfl rfl (bj T.ok rfl hs (vs:=[(0,.int .i64 (11)),(1,.int .i64 (12))]) (cells:=[.int .i64 (11),.int .i64 (12)]) rfl rfl rfl rfl rfl rfl (by decide) (by decide) (by kernel_rfl) rfl ?_);rintro bl gl hs ah;obtain⟨aH,bT,bN,dz,dj,bM⟩:=iu ah aH bT bN dz dj bM;obtain⟨gz,ik,cS,iT,fq⟩:=hs.cL (α:=Int) (xs:=[11,12]) (i:=0) rfl (cO.ints _ [11,12]);clear ah;have ah:=iT;rw[←ik];replace hs:=cS;clear cS;obtain⟨aH,bT,bN,dz,dj,bM⟩:=iu ah aH bT bN dz dj bM
 refine an rfl rfl (ay Dc aI rfl rfl rfl rfl rfl (pO _ _ _ _ _ bT fq) ?_);rintro g1 _ aN rfl;replace hs:=hs.call aN;have ah:=aN.le;obtain⟨aH,bN,dz,dj,fq,bM⟩:=iu ah aH bN dz dj fq bM
 clear aN
 refine cE (.bool true) (t:=113) rfl (congrArg Value.bool (by decide)) ?_
 refine Wm 3 [.o 2] hs rfl ?_
 clear fq
 refine an rfl rfl (ay Px aI rfl rfl rfl rfl rfl (Gu _ (rp wU []) _ (ng aH bN dz dj (Rs.nil _)) (Ez (by decide) (by decide)) bM) ?_);rintro g1 _ aN eg;replace hs:=hs.call aN;have ah:=aN.le
 clear aN
 rw[show zW (rp wU [])=[12]from by decide+kernel]at eg
 skip
 refine an rfl rfl (bj T.ok rfl hs (vs:=[(0,.int .i64 (12))]) (cells:=[.int .i64 (12)]) rfl rfl rfl rfl rfl rfl (by decide) (by decide) (by kernel_rfl) rfl ?_);rintro bl gl hs ah;replace eg:=eg.mono ah;obtain⟨gz,ik,cS,iT,fq⟩:=hs.cL (α:=Int) (xs:=[12]) (i:=0) rfl (cO.ints _ [12]);clear ah;have ah:=iT;rw[←ik];replace hs:=cS;clear cS;replace eg:=eg.mono ah
 refine an rfl rfl (ay Dc aI rfl rfl rfl rfl rfl (pO _ _ _ _ _ eg fq) ?_);rintro g1 _ aN rfl;replace hs:=hs.call aN;have ah:=aN.le
 clear aN
 refine cE (.bool true) (t:=119) rfl (congrArg Value.bool (by decide)) ?_
 refine ba rfl ?_
 exact aF (aV rfl rfl (hs.ret rfl))
end Go.Proofs.YtebobfdheanknaaGreatDoor
namespace Go.Proofs.YtebobfdheanknaaGreatDoor
open Go Go.K
set_option maxRecDepth 10000
attribute [local irreducible] W WL cT cn bX bA bB bD cW cG
theorem z_{f:bc}(h:fp f≠[]):fm f=true:=by
 unfold fp at h
 cases hv:fm f with
 |true=>rfl
 |false=>rw[hv]at h;exact absurd rfl h
theorem yh{f:bc}(h:fm f=true):f.text.length≤8192:=by
 unfold fm at h
 split at h
 ·cases h
 ·split at h
  ·cases h
  ·rename_i hc
   simp only[Bool.or_eq_true,decide_eq_true_eq,not_or]at hc
   omega
theorem GB{l:List bc}{day:Int}{i:Nat}{f:bc}(h:f∈(ofM l day).ls i):fm f=true:=by
 have h1:f∈gH (jU day l) i:=(iM _).mem_iff.1 h
 obtain⟨k,hk,_⟩:=sG h1
 obtain⟨_,h2⟩:=AM day l
 obtain⟨e,fu⟩:=h2 _ hk
 exact z_ (by rw[←e];exact fu)
theorem NH{l:List bc}(day:Int)(hl:l.length≤1000000):FO (ofM l day):=by
 refine⟨fun i=>?_,fun f hf=>?_⟩
 ·show(dK (lj i) (gH (jU day l) i)).length≤_
  rw[fR]
  exact Nat.le_trans (sI _ _) (Nat.le_trans (xK day l) hl)
 ·have:=yh (GB (i:=4) hf);omega
theorem Jm(x:List Y6):O0 (mk x []):=by
 have hn:=vx x
 have hlen:(mk x []).steps.length=eM x:=yi x (eM x)
 have qQ: ∀s∈(mk x []).steps,∃i y,i<eM x∧s=oM y (eM x) i:=by
  intro s hs
  obtain⟨i,hi,rfl⟩:=List.mem_map.1 (show s∈(List.range (eM x)).map fun i=>oM (x.getD i yj) (eM x) i from hs)
  exact⟨i,_,List.mem_range.1 hi,rfl⟩
 have jK: ∀s∈(mk x []).steps,(∀m∈s.next,0≤m∧m<(eM x:Int))∧s.next.length≤100000:=by
  intro s hs
  obtain⟨i,y,hi,rfl⟩:=qQ s hs
  show(∀m∈gL y (eM x) i,_)∧(gL y (eM x) i).length≤_
  have h3:=(dq (c:=y.y3.tdiv 12) (n:=3) (by decide)).1
  unfold gL
  split
  ·rename_i h
   split
   ·rename_i h2
    refine⟨fun m hm=>?_,by simp⟩
    rcases List.mem_cons.1 hm with rfl|hm
    ·omega
    ·obtain rfl:=List.mem_singleton.1 hm
     omega
   ·refine⟨fun m hm=>?_,by simp⟩
    obtain rfl:=List.mem_singleton.1 hm
    omega
  ·exact⟨fun m hm=>absurd hm List.not_mem_nil,by simp⟩
 refine⟨fun e=>?_,fun s hs=>?_,fun s hs m hm=>?_,fun s hs=>?_,fun s hs=>(jK s hs).2⟩
 ·rw[e]at hlen;simp at hlen;omega
 ·obtain⟨i,y,hi,rfl⟩:=qQ s hs
  show fP y≠[]
  unfold fP;simp
 ·rw[hlen];exact(jK s hs).1 m hm
 ·obtain⟨i,y,hi,rfl⟩:=qQ s hs
  rw[hlen]
  show(if aO y.y4 4=0 then aO (y.y4.tdiv 4) (i+1)else -1)<_
  split
  ·have:=(dq (c:=y.y4.tdiv 4) (n:=(i:Int)+1) (by omega)).2;omega
  ·omega
theorem En(t:List UInt8):(Eo t).length=124:=by simp[Eo,Cb]
def bn(c:Bool)(k:Int):Int:=bif c then k else 0
theorem Yh(c1 c2 c3 c4 c5 c6:Bool):B9 (B6 [c1,c2,c3,c4,c5,c6])=bn c1 1+bn c2 2+bn c3 4+bn c4 8+bn c5 16+bn c6 32:=by
 cases c1<;>cases c2<;>cases c3<;>cases c4<;>cases c5<;>cases c6<;>rfl
end Go.Proofs.YtebobfdheanknaaGreatDoor
namespace Go.K
open Go Go.RowKit
variable {F:Fence} {P:Program} {N:Nat} {ds:List Deferred} {l:Env} {w:World} {Q Q':Exit→Act→World→Prop} {ops:Array Oper} {os:List Oper} {c:Code}
theorem nP(hq: ∀e a w,Q e a w→Q' e a w): ∀(os:List Oper) (a:Act) (w:World),wpListIn F 0 P ops Q os a w→wpListIn F 0 P ops Q' os a w:=by
 intro os
 induction os with
 |nil=>exact fun a w h=>hq _ _ _ h
 |cons o os ih=>
  intro a w h
  simp only[wpListIn]at h⊢
  split
  ·rename_i hw
   simp only[hw,if_true]at h
   have h':=Oper.wpIn_mono (ih · ·) h
   unfold Oper.wpIn at h'⊢
   refine⟨h'.1,?_⟩
   have h':=h'.2
   generalize(o.semAt F.round a.eval).run P w=r at h'⊢
   have EM:LetsOut Q→LetsOut Q':=fun⟨a,w,h⟩=>⟨a,w,hq _ _ _ h⟩
   cases r with
   |ok x w'=>
    cases x<;>simp only[Oper.uponIn]at h'⊢ <;>
     first
      |exact h'
      |exact⟨h'.1,CallsIn.mono h'.2 (fun e G2 he=>by cases e<;>first|exact he|exact hq _ _ _ he|exact EM he)⟩
      |exact⟨h'.1,RoundIn.mono h'.2 (fun e G2 he=>by cases e<;>first|exact he|exact hq _ _ _ he|exact EM he)⟩
   |halt x w'=>cases x<;>simp only[Oper.uponIn]at h'⊢ <;>first|exact h'|exact hq _ _ _ h'
  ·rename_i hw
   simp only[hw]at h
   exact⟨h.1,ih _ _ h.2⟩
theorem QI{J':Act→World→Prop}(J:Act→World→Prop)(h:WL F P N ds ops (Exit.then (c.wpIn F 0 P (Exit.then J Q)) (Exit.then J Q)) os l w)(h2: ∀a w,J a w→J' a w):WL F P N ds ops (Exit.then (c.wpIn F 0 P (Exit.then J' Q)) (Exit.then J' Q)) os l w:=by
 have e: ∀e a w,Exit.then J Q e a w→Exit.then J' Q e a w:=fun e a w hq=>by cases e<;>first|exact h2 _ _ hq|exact hq
 refine fun a ha=>nP (fun x a w hq=>?_) os a w (h a ha)
 cases x<;>first|exact Go.wpIn_mono hq e|exact hq
end Go.K
namespace Go.Proofs.YtebobfdheanknaaGreatDoor
open Go Go.K Go.RowKit Go.ChangeShapes Go.WideShapes
set_option maxRecDepth 100000
theorem wY:ownKnob Tryz.prog.godebug=none:=by kernel_rfl
theorem laidOut:laidOutB Tryz.prog=true:=by kernel_rfl
theorem pQ:Tryz.prog.cellsOf 3=1:=by kernel_rfl
theorem EE:Tryz.prog.cellsOf 138=6:=by kernel_rfl
theorem nj:Tryz.prog.cellsOf 9=1:=by kernel_rfl
def tI:List (String×DataW Unit):=[("math/bits.deBruijn32tab",Rows.laid_math_bits_deBruijn32tab),("math/bits.deBruijn64tab",Rows.laid_math_bits_deBruijn64tab),("internal/strconv.uint64pow10",Rows.laid_internal_strconv_uint64pow10),("unicode/utf8.acceptRanges",Rows.laid_unicode_utf8_acceptRanges),("strconv.ErrRange",Rows.laid_strconv_ErrRange),("strconv.ErrSyntax",Rows.laid_strconv_ErrSyntax),("unicode/utf8.first",Rows.laid_unicode_utf8_first)]
theorem NZ:Tryz.prog.globalNamed "strconv.ErrRange" =some 5:=by kernel_rfl
theorem N0:Tryz.prog.globalNamed "strconv.ErrSyntax" =some 4:=by kernel_rfl
theorem Q4:(Tryz.prog.globals[3]?).map (·.type)=some 320:=by kernel_rfl
theorem Q5:(Tryz.prog.globals[5]?).map (·.type)=some 209:=by kernel_rfl
theorem Q6:(Tryz.prog.globals[4]?).map (·.type)=some 209:=by kernel_rfl
theorem N1:(Rows.laid_internal_strconv_uint64pow10:DataW Unit)=Lib.tabData .u64 Lib.pow10Tab:=by kernel_rfl
theorem EF(u:TypeId)(h:Tryz.prog.typeName? 3 u=some "*errors.errorString"):u=329:=
 typeName_ptr_named (nm:= "errors.errorString") (by kernel_rfl) (by kernel_rfl) (by decide) u h
theorem wZ{W:World}{b:Nat}{v:Value}(hc:W.cell? ⟨b,0,none⟩=some v):EP (r_ W) b 0 [v]:=by
 refine⟨(qW hc).2,fun j y hy=>?_⟩
 match j,hy with
 |0,hy=>simp at hy;subst hy;exact hc
 |j+1,hy=>simp at hy
theorem Cn{W:World}(mU:W.ShapedOpen Tryz.prog): ∃m,W.cell? ⟨0,0,none⟩=some (.int .i64 m):=Tryz.laysM220.s1_3 W mU
theorem N2{W:World}(h:laidMet Tryz.prog tI W)(mU:W.ShapedOpen Tryz.prog):iw (r_ W):=by
 have h2:=h.tail.tail
 rw[show(("internal/strconv.uint64pow10",Rows.laid_internal_strconv_uint64pow10):String×DataW Unit)=("internal/strconv.uint64pow10",Lib.tabData .u64 Lib.pow10Tab)from by rw[N1]]at h2
 have hT:=Lib.tabIs_of_head JH Q4 Tryz.underlying320 Tryz.underlying245 (by kernel_rfl) (by kernel_rfl) h2
 have h4:=h.tail.tail.tail.tail
 have h5:=h4.tail
 obtain⟨a,s,hv,_⟩:=laid_sentinel h4 NZ Q5 Tryz.underlying209 EF Tryz.underlying329 Tryz.underlying331 rfl rfl Tryz.underlying9 (by kernel_rfl) nj
 obtain⟨a2,s2,Sk,_⟩:=laid_sentinel h5 N0 Q6 Tryz.underlying209 EF Tryz.underlying329 Tryz.underlying331 rfl rfl Tryz.underlying9 (by kernel_rfl) nj
 have hc:=World.var?_cell NZ hv 0
 have HX:=World.var?_cell N0 Sk 0
 have hc:W.cell? ⟨5,0,none⟩=some (.iface 329 (.pointer (some a))):=by simpa using hc
 have HX:W.cell? ⟨4,0,none⟩=some (.iface 329 (.pointer (some a2))):=by simpa using HX
 obtain⟨m,hm⟩: ∃m,W.cell? ⟨0,0,none⟩=some (.int .i64 m):=Cn mU
 have hp:=hT.cell JH 0 (by decide)
 exact⟨⟨m,wZ hm⟩,⟨(qW hp).2,hT⟩,⟨_,wZ HX,.inr ⟨_,_,rfl⟩⟩,⟨_,wZ hc,.inr ⟨_,_,rfl⟩⟩⟩
theorem EG:Bm Tryz.prog 138 (α:=Y6) Y6.fit:=by
 intro H enc W fuel cs x h
 obtain⟨hl,hi⟩:=tJ Tryz.underlying138 Tryz.underlying3 pQ EE h
 match cs,hl with
 |[c0,c1,c2,c3,c4,c5],_=>
  obtain⟨m0,e0,f0⟩:=hi 0 (by decide)
  obtain⟨m1,e1,f1⟩:=hi 1 (by decide)
  obtain⟨m2,e2,f2⟩:=hi 2 (by decide)
  obtain⟨m3,e3,f3⟩:=hi 3 (by decide)
  obtain⟨m4,e4,f4⟩:=hi 4 (by decide)
  obtain⟨m5,e5,f5⟩:=hi 5 (by decide)
  obtain rfl:=Option.some.inj e0
  obtain rfl:=Option.some.inj e1
  obtain rfl:=Option.some.inj e2
  obtain rfl:=Option.some.inj e3
  obtain rfl:=Option.some.inj e4
  obtain rfl:=Option.some.inj e5
  exact⟨⟨m0,m1,m2,m3,m4,m5⟩,rfl,⟨f0,f1,f2,f3,f4,f5⟩⟩
theorem EH{H:Type}{enc:TypeId×Value→H}{W:World}{v:Value}{d:DataW H}{p:List MemPlace}(lH:Value.okWide Tryz.prog W .any 0 22 v)(h:DataW.Trod enc Tryz.prog W 0 (fun _=>true) true 22 v d p):
  ∃x:List Y6,Rs (r_ W) v x∧ ∀y∈x,y.fit:=by
 obtain⟨a,n,c,rfl⟩:=okWide_slice Tryz.underlying22 lH
 obtain⟨fuel,hf⟩:=h
 exact tK (α:=Y6) Tryz.underlying22 EE EG hf
theorem open_ints{H:Type}{enc:TypeId×Value→H}{W:World}{v:Value}{d:DataW H}{p:List MemPlace}(lH:Value.okWide Tryz.prog W .any 0 23 v)(h:DataW.Trod enc Tryz.prog W 0 (fun _=>true) true 23 v d p):
  ∃x:List Int,Rs (r_ W) v x∧ ∀y∈x,mH y:=by
 obtain⟨a,n,c,rfl⟩:=okWide_slice Tryz.underlying23 lH
 obtain⟨fuel,hf⟩:=h
 exact tK (α:=Int) Tryz.underlying23 pQ (Co Tryz.underlying3) hf
theorem oP{H:Type}{enc:TypeId×Value→H}{a:Assume}{C:Checked}{os:Os}{f:FuncId}{fn:Func}{s:ChangeSpec}{conds:List PathCond}{apart fresh handsOn again:Bool}{X:World→Array Value→Prop}
  (hX: ∀(w w':World) (args:Array Value),w.heap=w'.heap→X w args→X w' args)
  (own:ownKnob C.prog.godebug=none) (started:os.Started) (JI:C.prog.inits.idxOf? f=none) (Gt:C.prog.funcs[f]? =some fn)
  (witness: ∃(w:World) (tape:Tape) (i:Input),w.os=os∧(w.forCall tape i).Shaped C.prog∧i.vars=[]∧Input.okWide C.prog (w.forCall tape i) .any w.heap.size f i∧
   ((s.pre enc C.prog fn conds apart (w.forCall tape i).memory i.args∧X (w.forCall tape i).memory i.args)∧sizedMet enc C.prog fn (OpenSpec.ofChange s) apart (w.forCall tape i).memory i.args)∧a.holds C.prog (lone (Frame.enter C.prog f i.args .normal) [] (w.forCall tape i)))
  (pR: ∀(W:World) (args:Array Value) (ds gs:List (DataW H)) (before:List MemPlace),
   (∀(j:Nat) t v,fn.params[j]? =some t→args[j]? =some v→ ∃base,Value.okWide C.prog W .any base t v)→
   DataW.Whole enc C.prog fn.params.toList s.vars apart W args.toList ds gs before→X W args→W.ShapedOpen C.prog→
   Calls C.prog f args W fun e W'=> ∃v,e= .returned v∧s.post enc C.prog fn apart fresh handsOn again W args v W'):
  ReturnsInHanded a C os f .any (fun w args=>(s.pre enc C.prog fn conds apart w args∧X w args)∧sizedMet enc C.prog fn (OpenSpec.ofChange s) apart w args) (s.post enc C.prog fn apart fresh handsOn again):=by
 refine returnsInHanded_of_calls own started JI witness ?_
 intro w tape i _ mU _ lH gD _
 obtain⟨_,_,_,UW,Q7,_,_,_,_,iG⟩:=lH
 obtain rfl:UW=fn:=Option.some.inj (Q7.symm.trans Gt)
 obtain⟨⟨⟨ds,gs,before,hw,_⟩,hx⟩,_⟩:=gD
 have O8:=DataW.Whole.of_heap (w':=w.forCall tape i) (by rfl) hw
 refine(pR (w.forCall tape i) i.args ds gs before (fun j t v h1 h2=>⟨_,iG j t v h1 h2⟩) O8 (hX _ _ _ (by rfl) hx) mU).mono fun e W' ⟨v,he,hp⟩=>?_
 subst he
 exact ChangeSpec.post_blind hp
theorem Ad{f:FuncId}{args:Array Value}{W:World}{s:ChangeSpec}{fn:Func}{H:Type}{enc:TypeId×Value→H}{ds:List (DataW H)}{before:List MemPlace}
  (hr:(fn.params.toList.all fun t=>Tryz.prog.readableRec t&&decide (t<Tryz.prog.types.size))=true) (hv:s.vars=[]) (hs:s.fn H ds={results:=[.lit (.bool true)],args:=ds}) (Q8:fn.resultTypes=#[4])
  (hW:DataW.Whole enc Tryz.prog fn.params.toList s.vars false W args.toList ds [] before)
  (h:CallsIn Wd 0 Tryz.prog f args (r_ W).w (cR (r_ W) fun _ r=>r= .bool true)):
  Calls Tryz.prog f args W fun e W'=> ∃v,e= .returned v∧s.post enc Tryz.prog fn false true false false W args v W':=by
 refine(callsIn_wide.1 h).mono ?_
 rintro _ _ ⟨g',v,rfl,hf,rfl,rfl⟩
 exact⟨_,rfl,EI laidOut hr hv hs Q8 Tryz.underlying4 hW hf.below⟩
theorem GY(os:Os)(args:Array Value):laidMetH Tryz.prog tI ((World.laidAll Tryz.prog os tI).forCall (fun _ _=>0) ⟨#[],args,[]⟩).memory:=by
 rw[MakeChecks.laidMetH_plain _ _ _ (by kernel_rfl)]
 exact laidMet_laidAll _ (by kernel_rfl) (by kernel_rfl)
end Go.Proofs.YtebobfdheanknaaGreatDoor
namespace Go.Proofs.YtebobfdheanknaaGreatDoor
open Go Go.K
set_option maxRecDepth 10000
attribute [local irreducible] W WL cT cn bX bA bB bD cW cG
theorem Ai{k:Int}(h:1≤k∧k≤11):(fO k).head? =some (UInt8.ofNat (2*k).toNat):=by
 have:k=1∨k=2∨k=3∨k=4∨k=5∨k=6∨k=7∨k=8∨k=9∨k=10∨k=11:=by omega
 rcases this with e|e|e|e|e|e|e|e|e|e|e<;>subst e<;>decide+kernel
theorem uF{f:bc}(h:fp f≠[]):fp f=fO f.kind++sD f ((dM f.kind).elim [] (·.key)):=by
 unfold fp;rw[if_pos (z_ h)]
theorem yx{f:bc}(h:fm f=true):1≤f.kind∧f.kind≤11:=by
 obtain⟨s,hs,_⟩:=kQ h
 obtain⟨_,_,_,_,_,_,h1,h2⟩:=mO hs
 exact⟨h1,h2⟩
theorem yy{f h:bc}(hf:fp f≠[])(e:fp f=fp h):f.kind=h.kind:=by
 have hh:fp h≠[]:=fun e2=>hf (e.trans e2)
 have k1:=yx (z_ hf)
 have k2:=yx (z_ hh)
 have h1:=Ai k1
 have h2:=Ai k2
 have a1:(fp f).head? =some (UInt8.ofNat (2*f.kind).toNat):=by
  rw[uF hf,List.head?_append,h1];rfl
 have a2:(fp h).head? =some (UInt8.ofNat (2*h.kind).toNat):=by
  rw[uF hh,List.head?_append,h2];rfl
 rw[e,a2]at a1
 have:=congrArg UInt8.toNat (Option.some.inj a1)
 simp only[UInt8.toNat_ofNat']at this
 omega
theorem y'{day:Int}{l:List bc}: ∀{p},p∈jU day l→p.2∈l:=by
 refine xJ (P:=fun m l=> ∀{p},p∈m→p.2∈l) (fun h=>absurd h List.not_mem_nil) (fun m l f ih p hp=>?_) l
 rcases AL day m f with e|⟨_,e⟩<;>rw[e]at hp
 ·exact List.mem_append_left _ (ih hp)
 ·rcases xH hp with rfl|hp
  ·exact List.mem_append_right _ (List.mem_singleton_self _)
  ·exact List.mem_append_left _ (ih hp)
theorem AA{a:List UInt8}: ∀{m:KF},(∀p∈m,p.1≠a)→zt a m=none
 |[],_=>rfl
 |(k,v)::r,h=>by
  unfold zt
  rw[if_neg fun e=>h _ (List.mem_cons_self ..) e.symm]
  exact AA fun p hp=>h p (List.mem_cons_of_mem _ hp)
theorem AB{a:List UInt8}{x:bc}: ∀{m:KF},(∀p∈m,p.1≠a)→mE a x m=m++[(a,x)]
 |[],_=>rfl
 |(k,v)::r,h=>by
  unfold mE
  rw[if_neg fun e=>h _ (List.mem_cons_self ..) e.symm,AB fun p hp=>h p (List.mem_cons_of_mem _ hp)]
  rfl
theorem AH{day:Int}{l:List bc}{f:bc}(hk:fp f≠[])(hd:f.day≤day)(h: ∀x∈l,fp x≠fp f):jU day (l++[f])=jU day l++[(fp f,f)]:=by
 have hn: ∀p∈jU day l,p.1≠fp f:=fun p hp=>by
  rw[((AM day l).2 p hp).1];exact h _ (y' hp)
 rw[C_]
 unfold iD
 rw[if_neg fun h=>h.elim hk fun e=>by omega,AA hn,if_pos rfl,AB hn]
end Go.Proofs.YtebobfdheanknaaGreatDoor
namespace Go.Proofs.YtebobfdheanknaaGreatDoor
open Go Go.K
set_option maxRecDepth 10000
attribute [local irreducible] W WL cT cn bX bA bB bD cW cG
def RO(f:bV)(waf idn time:Int)(r:List bc):Prop:=∀i (hi:i<r.length),∃c,j3 f (r.take i)≠[]∧r[i]=Em f waf idn time c (r.take i)
theorem RO.snoc{f:bV}{waf idn time c:Int}{r:List bc}(h:RO f waf idn time r)(fu:j3 f r≠[]):RO f waf idn time (r++[Em f waf idn time c r]):=by
 intro i hi
 rw[List.length_append,List.length_singleton]at hi
 by_cases bh:i<r.length
 ·obtain⟨d,h1,h2⟩:=h i bh
  refine⟨d,?_,?_⟩
  ·rw[List.take_append_of_le_length (by omega)];exact h1
  ·rw[List.getElem_append_left bh,List.take_append_of_le_length (by omega)];exact h2
 ·obtain rfl:i=r.length:=by omega
  refine⟨c,?_,?_⟩
  ·rw[List.take_left];exact fu
  ·rw[List.getElem_append_right (Nat.le_refl _),List.take_left];simp
theorem RO.at{f:bV}{waf idn time:Int}{r:List bc}(h:RO f waf idn time r){i:Nat}(hi:i<r.length):r[i].kind=1∧r[i].idn=idn+i∧r[i].waf=waf∧r[i].time=time+10*i:=by
 obtain⟨c,_,e⟩:=h i hi
 have hl:(r.take i).length=i:=by rw[List.length_take];omega
 rw[e]
 unfold Em yn
 rw[hl]
 exact⟨rfl,rfl,rfl,rfl⟩
def Uo(x:bc):Prop:=(x.kind=5∧x.prod=1)∨(x.kind=4∧x.prod=1∧1≤x.waf∧x.waf≤3)∨x.kind=6∨(x.kind=1∧500≤x.idn∧x.idn<508)
theorem UT(t:List UInt8): ∀x∈Eo t,Uo x:=by
 intro x hx
 unfold Eo Cb at hx
 rcases List.mem_append.1 hx with hx|hx
 ·rcases List.mem_cons.1 hx with rfl|hx
  ·exact .inl ⟨rfl,rfl⟩
  ·obtain⟨i,hi,rfl⟩:=List.mem_map.1 hx
   have:=List.mem_range.1 hi
   refine .inr (.inl ⟨rfl,rfl,?_,?_⟩)
   ·show(1:Int)≤((i+1:Nat):Int);omega
   ·show((i+1:Nat):Int)≤3;omega
 ·obtain⟨i,_,rfl⟩:=List.mem_map.1 hx
  exact .inr (.inr (.inl rfl))
theorem GX{b:fX}(a:fD)(h:b.holds=[]):oI b a=[]:=by
 have e:H8 b a=[]:=by unfold H8 s9;rw[h];rfl
 unfold oI;rw[e];simp[jJ]
end Go.Proofs.YtebobfdheanknaaGreatDoor
namespace Go.Proofs.YtebobfdheanknaaGreatDoor
open Go Go.K
set_option maxRecDepth 10000
attribute [local irreducible] W WL cT cn bX bA bB bD cW cG
def fC(idn ver:Int)(gone:Bool)(time til waf tool step rcp:Int):bc:=⟨1,idn,ver,0,gone,time,til,waf,0,0,0,tool,0,step,rcp,1,0,0,[]⟩
theorem FQ{x:jD}{r:List jD}{g:bc}(h: ¬(g.num x.at_<x.lo||x.hi<g.num x.at_)):lV (x::r) g=lV r (g.put x.at_ 0):=by rw[lV];exact if_neg h
theorem NL{idn ver:Int}{gone:Bool}{time til waf tool step rcp:Int}(h1:1≤idn∧idn≤1000000)(h2:1≤ver∧ver≤1000000)(h3:0≤time∧time≤til∧til≤1000000)(h4:1≤waf∧waf≤1000000)(h5:0≤tool∧tool≤59)(h6:0≤step∧step≤39)(h7:1≤rcp∧rcp≤1000000):
  fm (fC idn ver gone time til waf tool step rcp)=true:=by
 have e1:dM (fC idn ver gone time til waf tool step rcp).kind=some (ea 0):=rfl
 unfold fm
 rw[e1]
 have e2:o7 (ea 0).rest (fC idn ver gone time til waf tool step rcp)=true:=decide_eq_true h3.2.1
 have e3:lV (ea 0).fields (fC idn ver gone time til waf tool step rcp)=some (ow (fC idn ver gone time til waf tool step rcp)):=by
  have e:(ea 0).fields=lT++[eD 7]++eU++[⟨13,0,39⟩]++rM++gG++[⟨16,-10000000,10000000⟩]:=rfl
  rw[e]
  simp only[lT,eU,rM,gG,eD,ez,List.cons_append,List.nil_append]
  repeat rw[FQ (by simp[fC,bc.num,bc.put];try omega)]
  rfl
 simp only[e2,e3]
 simp[fC,ea,lU,ow,gF]
 exact⟨decide_eq_false (by omega),decide_eq_false (by omega)⟩
theorem AG{f:bc}(h:fm f=true):fp f=fO f.kind++sD f ((dM f.kind).elim [] (·.key)):=by unfold fp;rw[if_pos h]
theorem jz{f:bc}(h:fm f=true):fp f≠[]:=by
 have k:=yx h
 rw[AG h]
 intro e
 have h1:=Ai k
 rw[(List.append_eq_nil_iff.1 e).1]at h1
 cases h1
theorem rN{idn ver:Int}{gone:Bool}{time til waf tool step rcp:Int}(h:fm (fC idn ver gone time til waf tool step rcp)=true):fp (fC idn ver gone time til waf tool step rcp)=2::fO idn:=by
 rw[AG h]
 show fO 1++(fO idn++[])=_
 rw[show fO 1=[2]from by decide+kernel,List.append_nil];rfl
theorem NO{day:Int}{l:List bc}: ∀(r:List bc),(∀x∈r,fp x≠[]∧x.day≤day)→r.Pairwise (fun x y=>fp x≠fp y)→(∀x∈l,∀y∈r,fp x≠fp y)→jU day (l++r)=jU day l++r.map fun x=>(fp x,x):=by
 intro r
 suffices hh: ∀(n:Nat) (r:List bc),r.length=n→(∀x∈r,fp x≠[]∧x.day≤day)→r.Pairwise (fun x y=>fp x≠fp y)→(∀x∈l,∀y∈r,fp x≠fp y)→jU day (l++r)=jU day l++r.map fun x=>(fp x,x)from hh _ r rfl
 intro n
 induction n with
 |zero=>intro r hr _ _ _;obtain rfl:=List.eq_nil_of_length_eq_zero hr;simp
 |succ n ih=>
  intro r hr h1 h2 h3
  rcases List.eq_nil_or_concat r with rfl|⟨r,x,rfl⟩
  ·cases hr
  rw[List.concat_eq_append]at*
  rw[List.length_append,List.length_singleton]at hr
  rw[List.pairwise_append]at h2
  rw[←List.append_assoc,AH (h1 x (by simp)).1 (h1 x (by simp)).2,ih r (by omega) (fun y hy=>h1 y (List.mem_append_left _ hy)) h2.1 (fun y hy z hz=>h3 y hy z (List.mem_append_left _ hz))]
  ·simp
  ·intro y hy
   rcases List.mem_append.1 hy with hy|hy
   ·exact h3 y hy x (by simp)
   ·exact h2.2.2 y hy x (by simp)
end Go.Proofs.YtebobfdheanknaaGreatDoor
namespace Go.Proofs.YtebobfdheanknaaGreatDoor
open Go Go.K
set_option maxRecDepth 10000
attribute [local irreducible] W WL cT cn bX bA bB bD cW cG
theorem od{lo hi:Int}: ∀{p:Int} {l:List Int},kU lo hi p l=true→ ∀n∈l,lo≤n∧n≤hi
 |_,[],_,n,hn=>absurd hn List.not_mem_nil
 |p,m::r,h,n,hn=>by
  simp only[kU,within,Bool.and_eq_true,decide_eq_true_eq]at h
  rcases List.mem_cons.1 hn with rfl|hn
  ·exact h.1.1
  ·exact od h.2 n hn
theorem KU{lo hi:Int}{l:List Int}(h:ascending l lo hi=true): ∀n∈l,lo≤n∧n≤hi:=by
 cases l with
 |nil=>exact fun n hn=>absurd hn List.not_mem_nil
 |cons m r=>
  simp only[ascending,within,Bool.and_eq_true,decide_eq_true_eq]at h
  intro n hn
  rcases List.mem_cons.1 hn with rfl|hn
  ·exact h.1
  ·exact od h.2 n hn
theorem GI{f:bV}(h:valid f=true){n:Int}{s:Step}(hs:dA f.steps n=some s):0≤n∧n≤39∧(1≤s.dD∧s.dD≤1000000)∧(∀t∈s.dB,0≤t∧t≤59):=by
 obtain⟨h0,_,h2⟩:=qS hs
 have bh:=(List.getElem?_eq_some_iff.1 h2).1
 simp only[valid,within,Bool.and_eq_true,decide_eq_true_eq]at h
 have hr:=List.all_eq_true.1 h.1.2 s (List.mem_of_getElem? h2)
 have P_:=h.1.1.1.2.2
 simp only[cg,within,Bool.and_eq_true,decide_eq_true_eq]at hr
 refine⟨h0,by omega,hr.1.1.1.1.1.2,KU hr.1.1.1.1.2⟩
structure XC(F S:List bc):Prop where
 f: ∀i (hi:i<F.length),i<6∧fm F[i]=true∧F[i].kind=1∧F[i].day=0∧F[i].gone=false∧F[i].idn=500+i∧F[i].waf=1∧F[i].time=10+10*i∧fp F[i]=2::fO (500+i)
 s: ∀i (hi:i<S.length),i<6∧fm S[i]=true∧S[i].kind=1∧S[i].day=0∧S[i].gone=false∧S[i].idn=600+i∧S[i].waf=2∧S[i].time=12+10*i∧fp S[i]=2::fO (600+i)
def Xz(k:Nat):Int:=if k<6 then 500+k else 594+k
theorem XC.key{F S:List bc}(h:XC F S){x:bc}(hx:x∈F++S): ∃k,k<12∧fp x=2::fO (Xz k)∧fm x=true∧x.kind=1∧x.day=0∧x.gone=false∧((x.waf=1∧x.idn<600)∨(x.waf=2∧600≤x.idn))∧0≤x.time∧x.time≤100:=by
 rcases List.mem_append.1 hx with hx|hx
 ·obtain⟨i,hi,rfl⟩:=List.mem_iff_getElem.1 hx
  obtain⟨h1,h2,h3,h4,h5,h6,h7,h8,h9⟩:=h.f i hi
  exact⟨i,by omega,by rw[h9,Xz,if_pos h1],h2,h3,h4,h5,.inl ⟨h7,by omega⟩,by omega,by omega⟩
 ·obtain⟨i,hi,rfl⟩:=List.mem_iff_getElem.1 hx
  obtain⟨h1,h2,h3,h4,h5,h6,h7,h8,h9⟩:=h.s i hi
  refine⟨i+6,by omega,?_,h2,h3,h4,h5,.inr ⟨h7,by omega⟩,by omega,by omega⟩
  rw[h9,Xz,if_neg (by omega)]
  congr 2;omega
theorem tB(t:List UInt8): ∀x∈Eo t,x.kind≠1∧x.kind≠3:=by
 intro x UH
 have:=UT t x UH
 have rS:x.kind≠1:=by
  unfold Eo Cb at UH
  rcases List.mem_append.1 UH with h|h
  ·rcases List.mem_cons.1 h with rfl|h
   ·show(5:Int)≠1;decide
   ·obtain⟨i,_,rfl⟩:=List.mem_map.1 h
    show(4:Int)≠1;decide
  ·obtain⟨i,_,rfl⟩:=List.mem_map.1 h
   show(6:Int)≠1;decide
 refine⟨rS,?_⟩
 rcases this with h|h|h|h<;>omega
end Go.Proofs.YtebobfdheanknaaGreatDoor
