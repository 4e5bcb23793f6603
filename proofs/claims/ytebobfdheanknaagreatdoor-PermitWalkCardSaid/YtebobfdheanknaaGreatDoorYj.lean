/- Parts of the proof, from: The walks through package graph: reached, Reach. -/
import Derived.Test.YtebobfdheanknaaGreatDoorYi
import Derived.Test.YtebobfdheanknaaGreatDoorYb
import Derived.ChangeKeysEq
import Derived.Test.YtebobfdheanknaaGreatDoorYc
namespace Go.Proofs.YtebobfdheanknaaGreatDoor
open Go Go.K
set_option maxRecDepth 10000
attribute [local irreducible] W WL cT cn bX bA bB bD cW cG
set_option maxHeartbeats 1000000
theorem cO.Ij(g:G): ∀xs:List Bool,cO g (xs.map Value.bool) xs
 |[]=>rfl
 |x::xs=>⟨[.bool x],xs.map Value.bool,rfl,rfl,cO.Ij g xs⟩
theorem nQ{f:bV}(h:valid f=true):1≤f.steps.length∧f.steps.length≤40:=by
 unfold valid within at h
 simp only[Bool.and_eq_true,decide_eq_true_eq]at h
 omega
theorem qV(v:Value)(f:bV)(n:Int)(g:G)(fk:fA g v f)(iG:valid f=true)(h0:0≤n)(h1:n<f.steps.length):
  CallsIn Wd 0 Tryz.prog 69 #[v,.int .i64 n] g.w (cR g (jZ 4 g (ee f n))):=by
 obtain⟨a1,n1,c1,a2,n2,c2,rfl,aH,aT⟩:=id fk
 obtain⟨_,_,e⟩:=aH.isSlice;obtain⟨rfl,rfl,rfl⟩:=Value.slice.inj e;clear e
 have hlen:=nQ iG
 have hs:=St.start g
 refine enter Tryz.func69 rfl Tryz.ntmps69 rfl ?_
 apply c_
 refine an rfl rfl (aR rfl hs rfl rfl ?_);clear hs;rintro bf g1 hs ah;obtain⟨aH,aT⟩:=cC ah aH aT
 refine ba rfl ?_;refine dx 3 [.o 0] hs rfl ?_
 obtain⟨g2,bR,aU,ah,aL⟩:=hs.a_ (i:=0) rfl;replace hs:=aU;clear aU;rw[←bR];obtain⟨aH,aT⟩:=cC ah aH aT
 have aC:=aL;clear aL
 skip
 refine an rfl rfl (yr T.ok rfl hs rfl rfl rfl rfl rfl rfl (by decide) rfl (by show 1*f.steps.length≤_;omega) (by unfold maxLen;omega) ?_);rintro ob g1 hs ah;obtain⟨aC,aH,aT⟩:=ef ah aC aH aT
 skip
 refine an rfl rfl (aK T.ok rfl hs rfl rfl ?_);clear hs;rintro bo g1 hs ah;obtain⟨aC,aH,aT⟩:=ef ah aC aH aT
 skip
 refine bg rfl (aA T.ok 0 rfl hs rfl rfl rfl rfl rfl rfl rfl rfl rfl ?_);replace hs:=hs;rintro g1 hs ah;obtain⟨aC,aH,aT⟩:=ef ah aC aH aT
 obtain⟨g2,bR,aU,ah,aL⟩:=hs.a_ (i:=0) rfl;replace hs:=aU;clear aU;rw[←bR];obtain⟨aC,aH,aT⟩:=ef ah aC aH aT
 have aP:=aL;clear aL
 apply cf;apply c_
 refine an rfl rfl (aK T.ok rfl hs rfl rfl ?_);clear hs;rintro bv g1 hs ah;obtain⟨aC,aP,aH,aT⟩:=dE ah aC aP aH aT
 apply cf;refine cP 1 rfl ?_
 refine bg rfl (aA T.ok 0 rfl hs rfl rfl rfl rfl rfl rfl rfl rfl rfl ?_);replace hs:=hs;rintro g1 hs ah;obtain⟨aC,aP,aH,aT⟩:=dE ah aC aP aH aT
 obtain⟨g2,bR,aU,ah,aL⟩:=hs.a_ (i:=0) rfl;replace hs:=aU;clear aU;rw[←bR];obtain⟨aC,aP,aH,aT⟩:=dE ah aC aP aH aT
 have dO:=aL;clear aL
 apply cf;refine dx 2 [.z dO] (St.start _) rfl ?_
 have xR:(List.replicate f.steps.length [Value.bool false]).flatten=(List.replicate f.steps.length false).map Value.bool:=by simp
 have dm:St g g2 [tG ob f.steps.length (List.replicate f.steps.length false)]:=by
  unfold tG;rw[←xR];exact hs
 have Aa:tH g2 f ob f.steps.length bo bf bv:=⟨aP,⟨_,aC,_,_,_,_,_,_,rfl,aH,aT⟩,dO⟩
 have nh:=GS f iG ob _ bo bf bv rfl f.steps.length g g2 _ 0 _ n dm rfl Aa (by simp) h0 (by rw[List.getElem?_replicate,if_pos (by omega)]) (by simp)
 have QQ:=de (first:=#[]) (args:=[.int .i64 n]) (captured:=#[.pointer (some ⟨bo,0,none⟩),.pointer (some ⟨bf,0,none⟩),.pointer (some ⟨bv,0,none⟩)]) HG rfl nh
 refine an rfl rfl (eT rfl rfl rfl rfl rfl rfl (QQ.mono ?_))
 rintro _ _ ⟨g5,rfl,rfl,ED,ah⟩
 refine⟨_,rfl,?_⟩
 replace hs:=ED
 replace aP:=aP.mono ah
 apply cf;refine nK [.z aP] (St.start _) rfl ?_
 refine aF (aV rfl rfl (hs.ret ?_))
 exact hs.mR (i:=0) rfl (cO.Ij _ _)
theorem Ab(l:List Bool)(k:Nat)(h:k<l.length):jI 0 (l.take (k+1))=jI 0 (l.take k)++(if l[k]then [(k:Int)]else []):=by
 have gen: ∀(l:List Bool) (j k:Nat) (h:k<l.length),jI j (l.take (k+1))=jI j (l.take k)++(if l[k]then [((j+k:Nat):Int)]else []):=by
  intro l
  induction l with
  |nil=>intro j k h;simp at h
  |cons b r ih=>
   intro j k h
   cases k with
   |zero=>simp[jI]
   |succ k=>
    simp only[List.take_succ_cons,jI]
    rw[ih (j+1) k (by simpa using h)]
    simp[Nat.add_assoc,Nat.add_comm 1 k]
 simpa using gen l 0 k h
theorem vD(l:List Bool)(j:Nat):(jI j l).length≤l.length:=by
 induction l generalizing j with
 |nil=>simp[jI]
 |cons b r ih=>have:=ih (j+1);simp only[jI];split<;>simp<;>omega
theorem gM(f:bV)(n:Int):(ee f n).length=f.steps.length:=by
 unfold ee;rw[(rl f _ _ _).1];simp
theorem Bg(v:Value)(f:bV)(n:Int)(g:G)(fk:fA g v f):
  CallsIn Wd 0 Tryz.prog 67 #[v,.int .i64 n] g.w (cR g (jZ 3 g (reach f n))):=by
 obtain⟨a1,n1,c1,a2,n2,c2,rfl,aH,aT⟩:=id fk
 obtain⟨_,_,e⟩:=aH.isSlice;obtain⟨rfl,rfl,rfl⟩:=Value.slice.inj e;clear e
 have hs:=St.start g
 refine enter Tryz.func67 rfl Tryz.ntmps67 rfl ?_
 apply c_
 refine an rfl rfl (aR rfl hs rfl rfl ?_);clear hs;rintro b1 g1 hs ah;replace fk:=fk.mono ah
 refine ba rfl ?_;apply aB;refine dx 2 [.o 0] hs rfl ?_
 refine an rfl rfl (bj T.ok rfl hs (vs:=[(0,.int .i64 n)]) (cells:=[.int .i64 n]) rfl rfl rfl rfl rfl rfl (by decide) (by decide) (by kernel_rfl) rfl ?_);rintro b2 g2 hs ah;replace fk:=fk.mono ah
 obtain⟨g3,sq,Bh,yq,pP⟩:=hs.cL (α:=Int) (xs:=[n]) (i:=0) rfl (cO.ints _ [n])
 clear ah;have ah:=yq;rw[←sq];replace hs:=Bh;replace fk:=fk.mono ah
 skip
 refine an rfl rfl (ay LB aI rfl rfl rfl rfl rfl (GN _ _ f [n] _ fk pP) ?_);rintro g1 _ aN rfl;replace hs:=hs.call aN;have ah:=aN.le;replace fk:=fk.mono ah
 refine ba rfl ?_
 cases hg:given f [n]with
 |false=>
  refine aJ rfl rfl ?_
  refine aX rfl ?_
  refine aF (aV rfl rfl (hs.ret ?_))
  unfold reach;rw[hg];exact jZ.nil _ _ _ _
 |true=>
  refine aS rfl rfl ?_
  have I9:(0≤n∧n<f.steps.length)∧valid f=true:=by
   unfold given at hg
   simp only[Bool.and_eq_true,List.any_cons,List.any_nil,Bool.or_false,Bool.not_eq_true',nN,Bool.or_eq_false_iff,decide_eq_false_iff_not]at hg
   exact⟨by omega,hg.1⟩
  have QR:=nQ I9.2
  apply aE;apply au;apply aB;refine dx 2 [.o 0] hs rfl ?_
  refine an rfl rfl (ay IX aI rfl rfl rfl rfl rfl (qV _ f n _ fk I9.2 I9.1.1 I9.1.2) ?_);rintro g4 v kL dZ
  obtain⟨g5,UE,ED,UF,py⟩:=hs.mZ kL dZ
  replace hs:=ED;rw[←UE]
  obtain⟨ab,cb,rfl⟩:=py.isSlice
  have Ik:=gM f n
  generalize xE:ee f n=bs at*
  replace hs:=(hs.drop 0).gI 3 1 none
  refine ba rfl ?_;apply aG
  refine bS (fun m a' w=> ∃(k:Nat) (g':G) (v:Value),w=g'.w∧St g g' [.row 3 1 v (jI 0 (bs.take k)).length ((jI 0 (bs.take k)).map (Value.int .i64))]∧G.le g5 g'∧k≤bs.length∧m=bs.length-k∧
   Fr 28 [] [(4,v),(14,.slice ab bs.length cb),(15,.int .i64 bs.length),(16,.int .i64 k)] a') bs.length (fun a' ha=>⟨0,_,_,rfl,hs,G.le.refl _,Nat.zero_le _,rfl,ha.keep (by(repeat (first|exact trivial|refine⟨rfl,?_⟩)))⟩) ?_
  clear hs
  rintro m a' _ ⟨k,g',v,rfl,hs,aq,hk,rfl,eI⟩
  have bT:=py.mono aq
  revert a'
  apply cQ;refine aX rfl ?_;apply aB
  by_cases bh:k<bs.length
  ·refine aJ (b:=decide ((k:Int)<(bs.length:Int))) (by simp;omega) rfl ?_
   have Ni:=vD (bs.take k) 0
   rw[List.length_take]at Ni
   have H5:=Ab bs k bh
   apply aE;apply au;apply aB;apply aG;refine cP 1 rfl ?_
   refine an rfl rfl (aW T.ok rfl bT (y:=bs[k]) (by simp[dA,bh]) rfl rfl rfl rfl rfl rfl ?_)
   rintro b p ys aL rfl
   refine Wm 1 [.e aL 0] (St.start _) rfl ?_
   refine ba rfl ?_;refine aX rfl ?_
   cases hb:bs[k]with
   |false=>
    refine aS rfl rfl ?_
    rw[hb,if_neg (by simp),List.append_nil]at H5
    apply aE;apply bU;apply au;apply ar;refine Wp 2 rfl ?_;apply aD
    exact fun a ha=>⟨bs.length-(k+1),by omega,k+1,_,v,rfl,by rw[H5];exact hs,aq,by omega,rfl,ha.keep ⟨rfl,rfl,rfl,kI rfl (by rw[wr (by omega) (by omega)];omega),trivial⟩⟩
   |true=>
    refine aJ rfl rfl ?_
    rw[hb,if_pos rfl]at H5
    apply ar;refine Wp 2 rfl ?_
    refine an rfl rfl (bj T.ok rfl hs (vs:=[(0,.int .i64 k)]) (cells:=[.int .i64 k]) rfl rfl rfl rfl rfl rfl (by decide) (by decide) (by kernel_rfl) rfl ?_);rintro b2 g2 hs ah;replace aq:=G.le.trans aq ah
    skip
    refine an rfl rfl (b_ T.ok 1 rfl hs rfl rfl rfl rfl rfl rfl rfl (by decide) rfl (Src.gK (hs.own 0 _ rfl).1).2 (by simp[Value.oneCell']) (by show((jI 0 (bs.take k)).length+1)*8≤_;omega) (by unfold maxLen;omega) ?_);rintro a' c' g3 hs ah;replace aq:=G.le.trans aq ah
    refine Wp 1 rfl ?_;apply aD;apply bU;apply au;apply ar;refine Wp 2 rfl ?_;apply aD
    exact fun a ha=>⟨bs.length-(k+1),by omega,k+1,_,_,rfl,by rw[H5];simpa using hs.drop 0,aq,by omega,rfl,ha.keep ⟨rfl,rfl,rfl,kI rfl (by rw[wr (by omega) (by omega)];omega),trivial⟩⟩
  ·refine aS (b:=decide ((k:Int)<(bs.length:Int))) (by simp;omega) rfl ?_
   obtain rfl:k=bs.length:=by omega
   apply bE;apply bK;apply bK;apply dc;apply au;refine aX rfl ?_
   refine aF (aV rfl rfl (hs.ret ?_))
   unfold reach
   rw[hg,if_pos rfl,xE]
   rw[List.take_length]at hs
   exact hs.mR (i:=0) rfl (cO.ints _ _)
end Go.Proofs.YtebobfdheanknaaGreatDoor
namespace Go.Proofs.YtebobfdheanknaaGreatDoor
open Go Go.K
set_option maxRecDepth 10000
attribute [local irreducible] W WL cT cn bX bA bB bD cW cG
set_option maxHeartbeats 1000000
def iz(xs:List Int):List Value:=xs.map (Value.int .i64)
theorem Cl(xs:List Int)(n:Nat):(iz xs).take n=iz (xs.take n):=by simp[iz]
theorem mb{α:Type}(p:α→Bool)(l:List α):(lu p l= -1∧ ∀x∈l,p x=false)∨ ∃k,∃h:k<l.length,lu p l=k∧p l[k]=true∧ ∀j (h:j<l.length),j<k→p l[j]=false:=by
 unfold lu
 cases h:l.any p with
 |false=>exact .inl ⟨rfl,fun x hx=>by simpa using(List.any_eq_false.1 h) x hx⟩
 |true=>
  refine .inr ⟨l.findIdx p,?_,rfl,?_,?_⟩
  ·obtain⟨x,hx,hp⟩:=List.any_eq_true.1 h
   exact List.findIdx_lt_length_of_exists ⟨x,hx,hp⟩
  ·exact List.findIdx_getElem
  ·intro j hj bh
   simpa using List.not_of_lt_findIdx bh
theorem yu{α:Type}{L:List α}{i:Nat}{e:α}(h:L[i]? =some e):L.set i e=L:=by
 apply List.ext_getElem?
 intro j
 rw[List.getElem?_set]
 split
 ·rename_i h';subst h'
  rw[h];simp[(List.getElem?_eq_some_iff.1 h).1]
 ·rfl
theorem og{α:Type}{cs:List α}{i:Nat}{x:α}(h:i<cs.length):(cs.set i x).take (i+1)=cs.take i++[x]:=by
 rw[List.set_eq_take_append_cons_drop,if_pos h,show cs.take i++x::cs.drop (i+1)=(cs.take i++[x])++cs.drop (i+1)from by simp]
 exact List.take_left' (by simp;omega)
theorem wW{p:Int→Bool}(xs:List Int)(k:Nat)(h:k<xs.length)(hp:p xs[k]=true)(dy: ∀j (h:j<xs.length),j<k→p xs[j]=false):
  xs.take k=(xs.take (k+1)).filter (fun x=> !p x):=by
 rw[List.take_succ_eq_append_getElem h,List.filter_append]
 have:(xs.take k).filter (fun x=> !p x)=xs.take k:=by
  rw[List.filter_eq_self]
  intro x hx
  obtain⟨j,hj,rfl⟩:=List.mem_iff_getElem.1 hx
  simp only[List.length_take]at hj
  rw[List.getElem_take,dy j (by omega) (by omega)];rfl
 rw[this];simp[hp]
theorem wX(p:Int→Bool)(g0 g:G)(L:List cV)(i:Nat)(v fv:Value)(xs:List Int)(hs:St g0 g L)(hi:L[i]? =some (.row 3 1 v xs.length (iz xs)))(hlen:xs.length≤1000000)
  (hp: ∀(g':G) (x:Int),x∈xs→g.le g'→ir Tryz.prog fv [.int .i64 x] g'.w (cR g' fun _ r=>r= .bool (p x))):
  CallsIn Wd 0 Tryz.prog 151 #[v,fv] g.w fun e w'=> ∃g' v',g'.w=w'∧e= .returned v'∧g.le g'∧St g0 g' (L.set i (.row 3 1 v' (xs.filter fun x=> !p x).length (iz (xs.filter fun x=> !p x)))):=by
 have aq:=G.le.refl g
 have O4:i<L.length:=(List.getElem?_eq_some_iff.1 hi).1
 obtain⟨ad,cap,rfl⟩:=(hs.own i _ hi).1.form
 refine enter Tryz.func151 rfl Tryz.ntmps151 rfl ?_
 refine aX rfl ?_;refine cP 2 rfl ?_
 obtain⟨gf,Nh,H_,py,td⟩:=hs.Jc (α:=Int) hi (cO.ints _ _)
 rw[←Nh]
 refine an rfl rfl (ay HR aI rfl rfl rfl rfl rfl (tF _ _ xs p gf py (fun g' x hx hle=>hp g' x hx (H_.trans hle))) ?_)
 rintro g2 _ wF rfl
 obtain⟨g3,sq,ff⟩:=td g2 wF
 rw[←sq]
 replace hs:=hs.call ff
 have ah:=ff.le;replace aq:=G.le.trans aq ah
 refine ba rfl ?_;apply aB;refine aX rfl ?_
 rcases mb p xs with⟨su,dy⟩|⟨k0,zl,su,wE,dy⟩
 ·refine aJ (b:=lu p xs== -1) (by simp[su]) rfl ?_
  refine aX rfl ?_
  refine aF ?_;apply eF
  refine aV rfl rfl ?_
  have Jd:(xs.filter fun x=> !p x)=xs:=List.filter_eq_self.2 fun x hx=>by simp[dy x hx]
  refine⟨g3,_,rfl,rfl,aq,?_⟩
  rw[Jd,yu hi]
  exact hs
 ·refine aS (b:=lu p xs== -1) (by simp only[su,beq_eq_false_iff_ne];omega) rfl ?_
  rw[su]
  obtain⟨⟨b0,p0,rfl⟩,qP⟩:(∃b p,ad=some ⟨b,p,none⟩)∧xs.length≤cap∧cap≤maxLen:=by
   rcases(hs.own i _ hi).1.2 with⟨h,_⟩|⟨b,q,c,cur,e1,_,_,h1,h2,_⟩
   ·omega
   ·simp only[Value.slice.injEq]at e1
    obtain⟨rfl,_,rfl⟩:=e1
    exact⟨⟨b,q,rfl⟩,h1,h2⟩
  unfold maxLen at qP
  apply aE;apply au;apply aB;refine aX rfl ?_;apply aG
  refine bS (fun m a' w=> ∃(j i':Nat) (cs:List Int) (g':G),w=g'.w∧St g0 g' (L.set i (.row 3 1 (.slice (some ⟨b0,p0,none⟩) xs.length cap) xs.length (iz cs)))∧G.le g g'∧j≤xs.length∧m=xs.length-j∧
   cs.length=xs.length∧i'<j∧cs.take i'=(xs.take j).filter (fun x=> !p x)∧cs.drop j=xs.drop j∧
   Fr 42 [] [(0,.slice (some ⟨b0,p0,none⟩) xs.length cap),(1,fv),(5,.int .i64 i'),(6,.int .i64 j)] a') (xs.length-(k0+1))
   (fun a' ha=>⟨k0+1,k0,xs,g3,rfl,by rw[yu hi];exact hs,aq,zl,rfl,rfl,Nat.lt_succ_self _,wW xs k0 zl wE dy,rfl,ha.keep ⟨rfl,rfl,rfl,kI rfl (by rw[wr (by omega) (by omega)];omega),trivial⟩⟩) ?_
  clear hs aq
  rintro m a' _ ⟨j,i',cs,g',rfl,hs,aq,hj,rfl,fY,zK,cB,H',eI⟩
  have NV:(L.set i (.row 3 1 (.slice (some ⟨b0,p0,none⟩) xs.length cap) xs.length (iz cs)))[i]? =some (.row 3 1 (.slice (some ⟨b0,p0,none⟩) xs.length cap) xs.length (iz cs)):=by simp[O4]
  revert a'
  apply cQ;apply aB;refine aX rfl ?_
  by_cases bh:j<xs.length
  ·refine aJ (b:=decide ((j:Int)<(xs.length:Int))) (by simp;omega) rfl ?_
   have Qv:cs[j]? =some xs[j]:=by
    have:=congrArg (fun l=>l[0]?) H'
    simpa [List.getElem?_eq_getElem bh]using this
   apply aE;apply au;apply aB;apply aG;refine cP 2 rfl ?_
   refine an rfl rfl (iy T.ok rfl (hs.own i _ NV).1 (by omega) (by omega) rfl rfl rfl rfl rfl rfl ?_)
   rintro b q hh;obtain⟨rfl,rfl⟩:b0=b∧p0=q:=by simpa using hh
   refine an rfl rfl (iP T.ok (j*1) rfl (hs.own i _ NV).1 rfl (v:=.int .i64 xs[j]) (by show(iz cs)[j*1]? =_;rw[Nat.mul_one];simp[iz,Qv]) ?_)
   refine ba rfl ?_;refine cP 2 rfl ?_
   refine an rfl rfl (eA rfl rfl rfl rfl rfl rfl (hp _ _ (List.getElem_mem bh) aq) ?_);rintro g4 _ kL rfl;replace hs:=hs.call kL;have ah:=kL.le;replace aq:=G.le.trans aq ah
   refine ba rfl ?_
   have Gq:(xs.take (j+1)).filter (fun x=> !p x)=(xs.take j).filter (fun x=> !p x)++(if p xs[j]then []else [xs[j]]):=by
    rw[List.take_succ_eq_append_getElem bh,List.filter_append]
    cases Qw:p xs[j]<;>simp[Qw]
   have D1:cs.drop (j+1)=xs.drop (j+1):=by
    have:=congrArg (List.drop 1) H'
    simpa [List.drop_drop]using this
   cases hb:p xs[j]with
   |true=>
    refine aS rfl rfl ?_
    rw[hb,if_pos rfl,List.append_nil]at Gq
    apply aE;apply bU;apply au;apply ar;refine Wp 3 rfl ?_;apply aD
    exact fun a ha=>⟨xs.length-(j+1),by omega,j+1,i',cs,_,rfl,hs,aq,by omega,rfl,fY,by omega,by rw[cB,Gq],D1,ha.keep ⟨rfl,rfl,rfl,kI rfl (by rw[wr (by omega) (by omega)];omega),trivial⟩⟩
   |false=>
    refine aJ rfl rfl ?_
    rw[hb,if_neg (by simp)]at Gq
    refine cP 3 rfl ?_
    refine an rfl rfl (iy T.ok rfl (hs.own i _ NV).1 (by omega) (by omega) rfl rfl rfl rfl rfl rfl ?_)
    rintro b q hh;obtain⟨rfl,rfl⟩:b0=b∧p0=q:=by simpa using hh
    refine bg rfl (kD T.ok i (i'*1) (us:=[.int .i64 xs[j]]) rfl hs NV rfl rfl rfl rfl rfl rfl (by simp) (by simp[iz];omega) (xs':=iz (cs.set i' xs[j])) ?_ ?_)
    ·rw[Nat.mul_one]
     unfold lF iz
     rw[List.map_set,List.set_eq_take_append_cons_drop]
     simp[fY,show i'<xs.length from by omega]
    rintro g5 hs ah;replace aq:=G.le.trans aq ah
    apply cf;apply ar;refine Wp 3 rfl ?_;apply aD;apply bU;apply au;apply ar;refine Wp 3 rfl ?_;apply aD
    exact fun a ha=>⟨xs.length-(j+1),by omega,j+1,i'+1,cs.set i' xs[j],_,rfl,by rw[List.set_set]at hs;exact hs,aq,by omega,rfl,by simp[fY],by omega,
     by rw[Gq,←cB,og (by omega)],
     by rw[List.drop_set_of_lt (by omega)];exact D1,ha.keep ⟨rfl,rfl,kI rfl (by rw[wr (by omega) (by omega)];omega),kI rfl (by rw[wr (by omega) (by omega)];omega),trivial⟩⟩
  ·refine aS (b:=decide ((j:Int)<(xs.length:Int))) (by simp;omega) rfl ?_
   obtain rfl:j=xs.length:=by omega
   rw[List.take_length]at cB
   apply bE;apply bK;apply bK;apply dc;apply au;refine cP 2 rfl ?_
   refine an rfl rfl (j2 T.ok rfl rfl rfl rfl rfl (a:=i') (b:=xs.length) ⟨_,rfl⟩ rfl (by omega) (by omega) ?_)
   refine bg rfl (vr T.ok i (a:=i') (xs':=iz (cs.take i')++(List.replicate (xs.length-i') [Value.int .i64 0]).flatten) rfl hs NV rfl rfl rfl rfl rfl (by decide) rfl (by decide) ?_ (by omega) (by rw[Nat.mul_one,Cl];rfl) ?_)
   ·by_cases Qx:cap=i'
    ·exact .inl (by omega)
    ·right;rw[if_neg Qx];simp[Addr.add_lit]
   rintro g5 hs ah;replace aq:=G.le.trans aq ah
   rw[List.set_set]at hs
   apply cf;refine cP 2 rfl ?_
   refine an rfl rfl (j2 T.ok rfl rfl rfl rfl rfl (a:=0) (b:=i') rfl ⟨_,rfl⟩ (by omega) (by omega) ?_)
   refine ba rfl ?_
   refine aF ?_;skip
   refine aV rfl rfl ?_
   have QT: ∀e,(L.set i e)[i]? =some e:=fun e=>by simp[O4]
   have tf:=hs.x9 (i:=i) (a:=i') (QT _) (by omega)
   refine⟨_,_,rfl,rfl,aq,?_⟩
   have hl:(xs.filter fun x=> !p x).length=i':=by rw[←cB,List.length_take];omega
   rw[List.set_set]at tf
   rw[hl,←cB]
   have he:List.take (i'*1) (iz (cs.take i')++(List.replicate (xs.length-i') [Value.int .i64 0]).flatten)=iz (cs.take i'):=by
    rw[List.take_left' (by simp[iz];omega)]
   rw[he]at tf
   exact tf
theorem GU(n:Int)(f:bV)(b:Nat)(cs:List Value)(g:G)(aC:EP g b 0 cs)(hc:qU g cs f)(h0:0≤n)(h1:n<f.steps.length):
  CallsIn Wd 0 Tryz.prog 152 #[.int .i64 n,.pointer (some ⟨b,0,none⟩)] g.w (cR g fun _ r=>r= .bool (!xX (dG f n))):=by
 obtain⟨a1,n1,c1,a2,n2,c2,rfl,aH,aT⟩:=hc
 obtain⟨_,_,e⟩:=aH.isSlice;obtain⟨rfl,rfl,rfl⟩:=Value.slice.inj e;clear e
 have hs:=St.start g
 refine enter Tryz.func152 rfl Tryz.ntmps152 rfl ?_
 refine aX rfl ?_;refine dx 3 [.z aC] (St.start _) rfl ?_
 refine an rfl rfl (aW T.ok rfl aH (y:=dG f n) (by unfold dG;rw[cU (j:=n.toNat) (by omega) (by omega)];simp[List.getD_eq_getElem?_getD,show n.toNat<f.steps.length from by omega]) rfl rfl rfl rfl rfl rfl ?_)
 rintro b q ys aL eK
 have NT:ja _ (.agg ys.toArray) (dG f n):=⟨ys,rfl,eK⟩
 obtain⟨b1,b2,b3,b4,b5,b6,rfl,_,_⟩:=eK
 refine Wm 1 [.e aL 0] (St.start _) rfl ?_
 skip
 refine an rfl rfl (ay LF aI rfl rfl rfl rfl rfl (GM _ _ _ NT) ?_);rintro g1 _ aN rfl;replace hs:=hs.call aN;have ah:=aN.le
 refine ba rfl ?_
 exact aF (aV rfl rfl (hs.ret rfl))
theorem yw{l:List Bool}{j:Nat}{x:Int}(h:x∈jI j l):(j:Int)≤x∧x<j+l.length:=by
 induction l generalizing j with
 |nil=>simp[jI]at h
 |cons b r ih=>
  simp only[jI,List.mem_append]at h
  rcases h with h|h
  ·split at h
   ·simp at h;subst h;simp;omega
   ·simp at h
  ·have:=ih h;simp at this⊢;omega
theorem kZ{f:bV}{n x:Int}(h:x∈reach f n):0≤x∧x<f.steps.length:=by
 unfold reach at h
 split at h
 ·have:=yw h
  rw[gM]at this
  omega
 ·simp at h
theorem vB(f:bV)(n:Int):(reach f n).length≤40:=by
 unfold reach
 split
 ·rename_i h
  have h1:=vD (ee f n) 0
  rw[gM]at h1
  have:valid f=true:=by unfold given at h;simp only[Bool.and_eq_true]at h;exact h.1
  have:=nQ this
  omega
 ·simp
theorem Ju(v:Value)(f:bV)(g:G)(fk:fA g v f):
  CallsIn Wd 0 Tryz.prog 68 #[v] g.w (cR g (jZ 3 g (ends f))):=by
 obtain⟨a1,n1,c1,a2,n2,c2,rfl,aH,aT⟩:=id fk
 have hs:=St.start g
 refine enter Tryz.func68 rfl Tryz.ntmps68 rfl ?_
 apply c_
 refine an rfl rfl (aR rfl hs rfl rfl ?_);clear hs;rintro b1 g1 hs ah;obtain⟨aH,aT,fk⟩:=ef ah aH aT fk
 refine ba rfl ?_;refine dx 1 [.o 0] hs rfl ?_
 obtain⟨g2,bR,aU,ah,aL⟩:=hs.a_ (i:=0) rfl;replace hs:=aU;clear aU;rw[←bR];obtain⟨aH,aT,fk⟩:=ef ah aH aT fk
 have aC:=aL;clear aL
 skip
 refine an rfl rfl (ay K4 aI rfl rfl rfl rfl rfl (Bg _ f 0 _ fk) ?_);rintro g4 v kL ⟨cells,h1,h2⟩
 replace hs:=hs.gJ kL h1
 have ah:=kL.le;obtain⟨aC,aH,aT⟩:=ef ah aC aH aT
 have QV:cells=iz (reach f 0):=by
  have key: ∀(xs:List Int) (cells:List Value),cO g4 cells xs→cells=iz xs:=by
   intro xs
   induction xs with
   |nil=>intro cells h;exact h
   |cons x xs ih=>rintro cells ⟨c1,c2,rfl,h1,h2⟩;rw[ih _ h2,show c1=[Value.int .i64 x]from h1];rfl
  exact key _ _ h2
 subst QV
 refine Wp 1 rfl ?_
 have hl:=vB f 0
 have QW:=wX (fun x=> !xX (dG f x)) g g4 _ 0 v (.func (.func 152) #[] #[.pointer (some ⟨b1,0,none⟩)]) (reach f 0) hs rfl (by omega)
  (fun g' x hx hle=>de LD rfl (GU x f _ _ g' (aC.mono hle) ⟨_,_,_,_,_,_,rfl,aH.mono hle,aT.mono hle⟩ (kZ hx).1 (kZ hx).2))
 refine an rfl rfl (ni LC aI rfl rfl rfl rfl rfl (QW.mono ?_))
 rintro _ _ ⟨g5,v',rfl,rfl,ah,ED⟩
 refine⟨_,rfl,?_⟩
 refine ba rfl ?_
 refine aF (aV rfl rfl (ED.ret ?_))
 have he:(reach f 0).filter (fun x=> !(!xX (dG f x)))=ends f:=by unfold ends;simp
 rw[he]at ED
 exact ED.mR (i:=0) rfl (cO.ints _ _)
end Go.Proofs.YtebobfdheanknaaGreatDoor
namespace Go.Proofs.YtebobfdheanknaaGreatDoor
open Go Go.K
set_option maxRecDepth 10000
attribute [local irreducible] W WL cT cn bX bA bB bD cW cG
set_option maxHeartbeats 4000000
theorem pC{xs ys:Array Value}{f h:Nat→Int}(w:World): ∀is:List Nat,(∀i∈is,xs[i*1]? =some (.int .i64 (f i))∧ys[i*1]? =some (.int .i64 (h i)))→(Op.eqItems 9999 3 1 xs ys is).run Tryz.prog w= .ok (is.all fun i=>f i==h i) w
 |[],_=>rfl
 |i::is,hi=>by
  have hp: ∀(xs:Array Value) (j:Nat) (z:Int),xs[j]? =some (.int .i64 z)→(part 3 xs j).run Tryz.prog w= .ok (.int .i64 z) w:=fun xs j z h=>by simp[part,iL T.ok (show tl T 3=some _ from rfl),rO,h]
  obtain⟨h1,h2⟩:=hi i (List.mem_cons_self ..)
  simp only[Op.eqItems,Sem.run_bind]
  rw[hp _ _ _ h1];simp only[Result.andThen_ok]
  rw[hp _ _ _ h2];simp only[Result.andThen_ok]
  rw[run_equalIn_int w 9998 3 .i64 .i64 (f i) (h i) (by kernel_rfl)];simp only[Result.andThen_ok]
  have ih:=pC (xs:=xs) (ys:=ys) (f:=f) (h:=h) w is fun j hj=>hi j (List.mem_cons_of_mem _ hj)
  cases he:f i==h i with
  |false=>simp[he]
  |true=>simp[he,ih]
theorem Qt(a b c d a' b' c' d':Int)(w:World):(Op.equal 121 (.agg #[.int .i64 a,.int .i64 b,.int .i64 c,.int .i64 d]) (.agg #[.int .i64 a',.int .i64 b',.int .i64 c',.int .i64 d'])).run Tryz.prog w= .ok (a==a'&&(b==b'&&(c==c'&&d==d'))) w:=by
 obtain⟨⟨dd,hu,he⟩,_⟩:=T.ok.at (show tl T 121=some _ from rfl)
 obtain rfl:=KD.zN he
 obtain⟨_,inf,h1,h2,_⟩:=T.ok.at (show tl T 3=some _ from rfl)
 have hc:Tryz.prog.cellsOf 3=1:=by unfold Program.cellsOf;rw[h1];exact h2
 show(Op.equalIn (9999+1) _ _ _).run _ w=_
 rw[run_equalIn_array w 9999 _ _ hu h1,hc,show List.range 4=[0,1,2,3]from rfl]
 rw[pC (f:=fun i=>[a,b,c,d].getD i 0) (h:=fun i=>[a',b',c',d'].getD i 0) w]
 ·simp
 ·intro i hi
  have:i=0∨i=1∨i=2∨i=3:=by simpa using hi
  rcases this with rfl|rfl|rfl|rfl<;>exact⟨rfl,rfl⟩
def x6(fo:Value)(p:bc→Bool)(l:List bc)(g:G):Prop:=∀(g':G) (x:bc),x∈l→g.le g'→ir Tryz.prog fo [fv x] g'.w (cR g' fun _ r=>r= .bool (p x))
theorem x6.mono{fo:Value}{p:bc→Bool}{l:List bc}{g g':G}(h:x6 fo p l g)(hle:g.le g'):x6 fo p l g':=fun g2 x hx h2=>h g2 x hx (hle.trans h2)
theorem sZ(v fo:Value)(l:List bc)(p:bc→Bool)(g:G)(hl:Rs g v l)(hp:x6 fo p l g):
  CallsIn Wd 0 Tryz.prog 46 #[v,fo] g.w (cR g fun _ r=>r= .int .i64 (lu p l)):=by
 obtain⟨a,c,rfl⟩:=hl.isSlice
 have hlen:=hl.dU
 unfold maxLen at hlen
 have hs:=St.start g
 refine enter Tryz.func46 rfl Tryz.ntmps46 rfl ?_
 refine aX rfl ?_;apply aB;refine aX rfl ?_;apply aG
 refine bS (fun m a' w=> ∃(k:Nat) (g':G),w=g'.w∧St g g' []∧G.le g g'∧k≤l.length∧m=l.length-k∧(∀j (h:j<l.length),j<k→p l[j]=false)∧
  Fr 19 [] [(0,.slice a l.length c),(1,fo),(7,.int .i64 l.length),(8,.int .i64 k)] a') l.length (fun a' ha=>⟨0,g,rfl,hs,G.le.refl g,Nat.zero_le _,rfl,by simp,ha.keep (by(repeat (first|exact trivial|refine⟨rfl,?_⟩)))⟩) ?_
 clear hs
 rintro m a' _ ⟨k,g',rfl,hs,aq,hk,rfl,dy,eI⟩
 revert a'
 apply cQ;refine aX rfl ?_;apply aB
 by_cases bh:k<l.length
 ·refine aJ (b:=decide ((k:Int)<(l.length:Int))) (by simp;omega) rfl ?_
  apply aE;apply au;apply aB;apply aG;refine aX rfl ?_;refine cP 3 rfl ?_
  refine an rfl rfl (aW T.ok rfl (hl.mono aq) (y:=l[k]) (by simp[dA,bh]) rfl rfl rfl rfl rfl rfl ?_)
  rintro b q ys aL rfl
  refine Wm 1 [.e aL 0] (St.start _) rfl ?_
  skip
  refine an rfl rfl (eA rfl rfl rfl rfl rfl rfl (hp _ _ (List.getElem_mem bh) aq) ?_);rintro g1 _ aN rfl;replace hs:=hs.call aN;have ah:=aN.le;replace aq:=G.le.trans aq ah
  apply cf
  cases wE:p l[k]with
  |true=>
   refine aJ rfl rfl ?_
   refine aX rfl ?_
   exact aF (aV rfl rfl (hs.ret (by rw[oj bh wE dy])))
  |false=>
   refine aS rfl rfl ?_
   apply aE;apply bU;apply au;apply ar;refine Wp 2 rfl ?_;apply aD
   refine fun a ha=>⟨l.length-(k+1),by omega,k+1,_,rfl,hs,aq,by omega,rfl,?_,ha.keep ⟨rfl,rfl,rfl,kI rfl (by rw[wr (by omega) (by omega)];omega),trivial⟩⟩
   intro j hj zO
   by_cases e:j=k
   ·subst e;exact wE
   ·exact dy j hj (by omega)
 ·refine aS (b:=decide ((k:Int)<(l.length:Int))) (by simp;omega) rfl ?_
  apply bE;apply bK;apply bK;apply dc;apply au;refine aX rfl ?_
  obtain rfl:k=l.length:=by omega
  exact aF (aV rfl rfl (hs.ret (by rw[so fun j h=>dy j h h])))
theorem Gg{α:Type}{p:α→Bool}{l:List α}(h: ∀x∈l,p x=false):l.find? p=none:=List.find?_eq_none.2 fun x hx=>by simp[h x hx]
theorem Gh{α:Type}{p:α→Bool}{l:List α}{k:Nat}(h:k<l.length)(hp:p l[k]=true)(dy: ∀j (h:j<l.length),j<k→p l[j]=false):l.find? p=some l[k]:=
 List.find?_eq_some_iff_getElem.2 ⟨hp,k,h,rfl,fun j hj=>by simp[dy j (by omega) hj]⟩
theorem A4(v fo:Value)(l:List bc)(p:bc→Bool)(g:G)(hl:Rs g v l)(hp:x6 fo p l g):
  CallsIn Wd 0 Tryz.prog 61 #[v,fo] g.w (cR g fun _ r=>r= .tuple #[fv ((l.find? p).getD gF),.bool (l.find? p).isSome]):=by
 obtain⟨a,c,rfl⟩:=hl.isSlice
 have aH:=hl
 have hlen:=hl.dU
 unfold maxLen at hlen
 have hs:=St.start g
 have aq:=G.le.refl g
 refine enter Tryz.func61 rfl Tryz.ntmps61 rfl ?_
 apply c_
 refine an rfl rfl (aK T.ok rfl hs rfl rfl ?_);clear hs;rintro b4 g1 hs ah;obtain⟨aq,aH⟩:=cC ah aq aH
 refine ba rfl ?_;apply aB;refine cP 2 rfl ?_
 refine an rfl rfl (ay IS aI rfl rfl rfl rfl rfl (sZ _ _ l p _ aH (hp.mono aq)) ?_);rintro g1 _ aN rfl;replace hs:=hs.call aN;have ah:=aN.le;replace aH:=aH.mono ah
 refine ba rfl ?_;refine aX rfl ?_
 rcases mb p l with⟨hf,dy⟩|⟨k,hk,hf,wE,dy⟩
 ·refine aS (b:=decide (0≤lu p l)) (by rw[hf];rfl) rfl ?_
  rw[Gg dy]
  apply aE;apply au;apply c_
  refine an rfl rfl (aK T.ok rfl hs rfl rfl ?_);clear hs;rintro b7 g1 hs ah;replace aH:=aH.mono ah
  apply cf;refine dx 1 [.o 0] hs rfl ?_
  refine bg rfl (aA T.ok 1 rfl hs rfl rfl rfl rfl rfl rfl rfl rfl rfl ?_);replace hs:=hs;rintro g1 hs ah;replace aH:=aH.mono ah
  refine ba rfl ?_
  exact aF (s7 T.ok 1 rfl hs rfl rfl rfl rfl (hs.ret rfl))
 ·refine aJ (b:=decide (0≤lu p l)) (by rw[hf];simp) rfl ?_
  rw[Gh hk wE dy]
  refine cP 2 rfl ?_
  refine an rfl rfl (aW T.ok rfl aH (y:=l[k]) (by rw[hf];exact cU rfl hk) rfl rfl rfl rfl rfl rfl ?_)
  rintro b q ys aL rfl
  refine Wm 1 [.e aL 0] (St.start _) rfl ?_
  refine bg rfl (aA T.ok 0 rfl hs rfl rfl rfl rfl rfl rfl rfl rfl rfl ?_);replace hs:=hs;rintro g1 hs ah
  refine ba rfl ?_
  exact aF (s7 T.ok 0 rfl hs rfl rfl rfl rfl (hs.ret rfl))
theorem Gi(x:bc)(n:Int)(b1:Nat)(g:G)(aC:EP g b1 0 [.int .i64 n]):CallsIn Wd 0 Tryz.prog 62 #[fv x,.pointer (some ⟨b1,0,none⟩)] g.w (cR g fun _ r=>r= .bool (x.prod==n)):=by
 have hs:=St.start g
 refine enter Tryz.func62 rfl Tryz.ntmps62 rfl ?_
 apply c_
 refine an rfl rfl (aR rfl hs rfl rfl ?_);clear hs;rintro b2 g1 hs ah;replace aC:=aC.mono ah
 obtain⟨g2,bR,aU,ah,aL⟩:=hs.a_ (i:=0) rfl;replace hs:=aU;clear aU;rw[←bR];replace aC:=aC.mono ah
 have aP:=aL;clear aL
 refine ba rfl ?_;refine nK [.z aP,.z aC] (St.start _) rfl ?_
 exact aF (aV rfl rfl (hs.ret rfl))
theorem A5(v:Value)(b:fX)(n:Int)(g:G)(bI:iI g v b):CallsIn Wd 0 Tryz.prog 27 #[v,.int .i64 n] g.w (cR g fun _ r=>r= .tuple #[fv ((b.oc.find? fun f=>f.prod==n).getD gF),.bool (b.oc.find? fun f=>f.prod==n).isSome]):=by
 have hs:=St.start g
 have aq:=G.le.refl g
 obtain⟨sl,rfl,jr⟩:=bI
 have aH:=jr 4 (by decide)
 refine enter Tryz.func27 rfl Tryz.ntmps27 rfl ?_
 apply c_
 refine an rfl rfl (aR rfl hs rfl rfl ?_);clear hs;rintro b2 g1 hs ah;replace aH:=aH.mono ah
 obtain⟨g2,bR,aU,ah,aL⟩:=hs.a_ (i:=0) rfl;replace hs:=aU;clear aU;rw[←bR];replace aH:=aH.mono ah
 have aC:=aL;clear aL
 skip
 refine an rfl rfl (aR rfl hs rfl rfl ?_);clear hs;rintro b3 g1 hs ah;obtain⟨aC,aH⟩:=cC ah aC aH
 obtain⟨g2,bR,aU,ah,aL⟩:=hs.a_ (i:=0) rfl;replace hs:=aU;clear aU;rw[←bR];obtain⟨aC,aH⟩:=cC ah aC aH
 have aP:=aL;clear aL
 skip
 refine an rfl rfl (aK T.ok rfl hs rfl rfl ?_);clear hs;rintro b4 g1 hs ah;obtain⟨aC,aP,aH⟩:=ef ah aC aP aH
 refine ba rfl ?_;refine dx 3 [.z aC] (St.start _) rfl ?_
 refine an rfl rfl (ay K1 aI rfl rfl rfl rfl rfl (A4 _ _ b.oc (fun f=>f.prod==n) _ aH (fun g' x _ h=>de (first:=#[]) (args:=[fv x]) (captured:=#[.pointer (some ⟨b3,0,none⟩)]) PL rfl (Gi x n b3 g' (aP.mono h)))) ?_);rintro g1 _ aN rfl;replace hs:=hs.call aN;have ah:=aN.le
 refine Wp 2 rfl ?_
 refine bg rfl (aA T.ok 0 rfl hs rfl rfl rfl rfl rfl rfl rfl rfl rfl ?_);replace hs:=hs;rintro g1 hs ah
 refine ba rfl ?_
 exact aF (s7 T.ok 0 rfl hs rfl rfl rfl rfl (hs.ret rfl))
def pD(tool cham rcp rvn time:Int)(x:bc):Bool:=((x.tool==tool&&(x.cham==cham&&(x.rcp==rcp&&x.rvn==rvn)))&&decide (x.time≤time))&&decide (time≤x.til)
theorem Gj(x:bc)(tool cham rcp rvn time:Int)(b1 b2:Nat)(g:G)(aC:EP g b1 0 [.int .i64 tool,.int .i64 cham,.int .i64 rcp,.int .i64 rvn])(aP:EP g b2 0 [.int .i64 time]):CallsIn Wd 0 Tryz.prog 71 #[fv x,.pointer (some ⟨b1,0,none⟩),.pointer (some ⟨b2,0,none⟩)] g.w (cR g fun _ r=>r= .bool (pD tool cham rcp rvn time x)):=by
 have hs:=St.start g
 refine enter Tryz.func71 rfl Tryz.ntmps71 rfl ?_
 apply c_
 refine an rfl rfl (aR rfl hs rfl rfl ?_);clear hs;rintro b3 g1 hs ah;obtain⟨aC,aP⟩:=cC ah aC aP
 obtain⟨g2,bR,aU,ah,aL⟩:=hs.a_ (i:=0) rfl;replace hs:=aU;clear aU;rw[←bR];obtain⟨aC,aP⟩:=cC ah aC aP
 have dO:=aL;clear aL
 refine ba rfl ?_;refine dx 8 [.z dO,.z dO,.z dO,.z dO] (St.start _) rfl ?_
 refine an rfl rfl (iH T.ok rfl (vs:=[(0,.int .i64 x.tool),(1,.int .i64 x.cham),(2,.int .i64 x.rcp),(3,.int .i64 x.rvn)]) (cells:=[.int .i64 x.tool,.int .i64 x.cham,.int .i64 x.rcp,.int .i64 x.rvn]) rfl rfl rfl rfl rfl (by kernel_rfl) ?_)
 refine Wm 1 [.z aC] (St.start _) rfl ?_
 refine an rfl rfl (qs (neg:=false) rfl rfl rfl (by kernel_rfl) (Qt x.tool x.cham x.rcp x.rvn tool cham rcp rvn _) ?_)
 unfold pD
 cases(x.tool==tool&&(x.cham==cham&&(x.rcp==rcp&&x.rvn==rvn)))with
 |false=>
  refine ba rfl ?_
  exact aF (aV rfl rfl (hs.ret rfl))
 |true=>
  refine Wm 7 [.z dO,.z aP] (St.start _) rfl ?_
  cases decide (x.time≤time)with
  |false=>
   refine ba rfl ?_
   exact aF (aV rfl rfl (hs.ret rfl))
  |true=>
   refine A3 [.z aP,.z dO] (St.start _) rfl ?_
   exact aF (aV rfl rfl (hs.ret rfl))
theorem DW(v:Value)(b:fX)(tool cham rcp rvn time:Int)(g:G)(bI:iI g v b):CallsIn Wd 0 Tryz.prog 31 #[v,.int .i64 tool,.int .i64 cham,.int .i64 rcp,.int .i64 rvn,.int .i64 time] g.w (cR g fun _ r=>r= .bool (b.sE.any (pD tool cham rcp rvn time))):=by
 have hs:=St.start g
 have aq:=G.le.refl g
 obtain⟨sl,rfl,jr⟩:=bI
 have aH:=jr 5 (by decide)
 refine enter Tryz.func31 rfl Tryz.ntmps31 rfl ?_
 apply c_
 refine an rfl rfl (aR rfl hs rfl rfl ?_);clear hs;rintro b2 g1 hs ah;replace aH:=aH.mono ah
 obtain⟨g2,bR,aU,ah,aL⟩:=hs.a_ (i:=0) rfl;replace hs:=aU;clear aU;rw[←bR];replace aH:=aH.mono ah
 have aC:=aL;clear aL
 skip
 refine an rfl rfl (aR rfl hs rfl rfl ?_);clear hs;rintro b3 g1 hs ah;obtain⟨aC,aH⟩:=cC ah aC aH
 obtain⟨g2,bR,aU,ah,aL⟩:=hs.a_ (i:=0) rfl;replace hs:=aU;clear aU;rw[←bR];obtain⟨aC,aH⟩:=cC ah aC aH
 have aP:=aL;clear aL
 refine ba rfl ?_;refine cP 4 rfl ?_
 refine an rfl rfl (iH T.ok rfl (vs:=[(0,.int .i64 tool),(1,.int .i64 cham),(2,.int .i64 rcp),(3,.int .i64 rvn)]) (cells:=[.int .i64 tool,.int .i64 cham,.int .i64 rcp,.int .i64 rvn]) rfl rfl rfl rfl rfl (by kernel_rfl) ?_)
 skip
 refine an rfl rfl (aK T.ok rfl hs rfl rfl ?_);clear hs;rintro b4 g1 hs ah;obtain⟨aC,aP,aH⟩:=ef ah aC aP aH
 refine bg rfl (aA T.ok 0 rfl hs rfl rfl rfl rfl rfl rfl rfl rfl rfl ?_);replace hs:=hs;rintro g1 hs ah;obtain⟨aC,aP,aH⟩:=ef ah aC aP aH
 obtain⟨g2,bR,aU,ah,aL⟩:=hs.a_ (i:=0) rfl;replace hs:=aU;clear aU;rw[←bR];obtain⟨aC,aP,aH⟩:=ef ah aC aP aH
 have dO:=aL;clear aL
 apply cf;refine dx 3 [.z aC] (St.start _) rfl ?_
 refine an rfl rfl (ay K1 aI rfl rfl rfl rfl rfl (A4 _ _ b.sE (pD tool cham rcp rvn time) _ aH (fun g' x _ h=>de (first:=#[]) (args:=[fv x]) (captured:=#[.pointer (some ⟨b4,0,none⟩),.pointer (some ⟨b3,0,none⟩)]) PQ rfl (Gj x tool cham rcp rvn time b4 b3 g' (dO.mono h) (aP.mono h)))) ?_);rintro g1 _ aN rfl;replace hs:=hs.call aN;have ah:=aN.le
 refine Wp 3 rfl ?_
 refine an rfl rfl (aK T.ok rfl hs rfl rfl ?_);clear hs;rintro b5 g1 hs ah
 skip
 refine bg rfl (aA T.ok 0 rfl hs rfl rfl rfl rfl rfl rfl rfl rfl rfl ?_);replace hs:=hs;rintro g1 hs ah
 refine ba rfl ?_;refine aX rfl ?_
 exact aF (aV rfl rfl (hs.ret (congrArg Value.bool (by rw[Bool.eq_iff_iff,List.find?_isSome,List.any_eq_true]))))
end Go.Proofs.YtebobfdheanknaaGreatDoor
namespace Go.Proofs.YtebobfdheanknaaGreatDoor
open Go Go.K
set_option maxRecDepth 10000
attribute [local irreducible] W WL cT cn bX bA bB bD cW cG
set_option maxHeartbeats 4000000
theorem kX{g:G}: ∀{xs:List bc} {cs:List Value},cO g cs xs→cs=fl xs
 |[],_,h=>h
 |x::xs,_,⟨c1,c2,e,h1,h2⟩=>by
  obtain rfl:c1=bW x:=h1
  rw[e,kX h2,sk];rfl
def Uk(fo:Value)(g:G):Prop:=∀(g':G) (x:bc),g.le g'→ir Tryz.prog fo [fv x] g'.w (cR g' fun _ r=>r=fv x)
def Nw:Bool→Nat
 |false=>197
 |true=>201
theorem Nx(tw:Bool):ag Tryz.prog (Nw tw):=by
 cases tw
 ·exact Ma
 ·exact Me
theorem tk(tw:Bool)(v fa fo:Value)(l:List bc)(p:bc→Bool)(g:G)(aH:Rs g v l)(hl:l.length≤1000000)(ha:Uk fa g)(hp:x6 fo p l g):
  CallsIn Wd 0 Tryz.prog (Nw tw) #[v,fa,fo] g.w (cR g fun g' r=>jZ (ll (!tw)) g (l.filter p) g' r):=by
 cases tw
 case' false=>let tw:=false
 case' true=>let tw:=true
 all_goals
  have hs:=(St.start g).gI (ll (!tw)) 19 none
  have aq:=G.le.refl g
  obtain⟨a,c,rfl⟩:=aH.isSlice
  first|refine enter Tryz.func197 rfl Tryz.ntmps197 rfl ?_|refine enter Tryz.func201 rfl Tryz.ntmps201 rfl ?_
  refine aX rfl ?_;refine aX rfl ?_;apply aB;refine aX rfl ?_;apply aG
  refine bS (fun m a' w=> ∃(i:Nat) (ad:Option Addr) (cc:Nat) (g':G),w=g'.w∧St g g' [.row (ll (!tw)) 19 (.slice ad ((l.take i).filter p).length cc) ((l.take i).filter p).length (fl ((l.take i).filter p))]∧G.le g g'∧Rs g' (.slice a l.length c) l∧i≤l.length∧m=l.length-i∧
    Fr 27 [] [(1,fa),(2,fo),(7,.slice ad ((l.take i).filter p).length cc),(10,.slice a l.length c),(11,.int .i64 (l.length:Nat)),(12,.int .i64 (i:Nat))] a') l.length
   (fun a' ha=>⟨0,none,0,g,rfl,hs,aq,aH,Nat.zero_le _,rfl,ha.keep (by(repeat (first|exact trivial|refine⟨rfl,?_⟩)))⟩) ?_
  clear hs aH aq
  rintro m a' _ ⟨i,ad,cc,g',rfl,hs,aq,aH,hi,rfl,eI⟩
  revert a'
  apply cQ;refine aX rfl ?_;apply aB
  by_cases bh:i<l.length
  ·refine aJ (b:=decide ((i:Int)<(l.length:Int))) (decide_eq_true (by omega)) rfl ?_
   have ic:dA l (i:Int)=some l[i]:=cU rfl bh
   have cB:(l.take (i+1)).filter p=(l.take i).filter p++(if p l[i]then [l[i]]else []):=by
    rw[List.take_add_one,List.getElem?_eq_getElem bh,List.filter_append]
    congr 1
    simp only[Option.toList_some,List.filter_cons,List.filter_nil]
   have qQ:l[i]∈l:=List.getElem_mem bh
   have Wo:((l.take i).filter p).length≤i:=Nat.le_trans (List.length_filter_le ..) (by rw[List.length_take];omega)
   generalize(l.take i).filter p=out at*
   generalize l[i]=x at*
   apply aE;apply au;apply aB;apply aG;apply c_
   refine an rfl rfl (aW T.ok rfl aH (y:=x) ic rfl rfl rfl rfl rfl rfl ?_)
   rintro b q ys aL rfl
   have aC:=aL;clear aL
   refine Wm 1 [.e aC 0] (St.start _) rfl ?_
   refine an rfl rfl (aK T.ok rfl hs rfl rfl ?_);clear hs;rintro b9 g1 hs ah;obtain⟨aq,aH⟩:=cC ah aq aH
   refine bg rfl (aA T.ok 0 rfl hs rfl rfl rfl rfl rfl rfl rfl rfl rfl ?_);replace hs:=hs;rintro g1 hs ah;obtain⟨aq,aH⟩:=cC ah aq aH
   obtain⟨g2,bR,aU,ah,aL⟩:=hs.a_ (i:=0) rfl;replace hs:=aU;clear aU;rw[←bR];obtain⟨aq,aH⟩:=cC ah aq aH
   have aP:=aL;clear aL
   clear aC
   apply cf;refine dx 2 [.z aP] (St.start _) rfl ?_
   refine an rfl rfl (eA rfl rfl rfl rfl rfl rfl (hp _ x qQ aq) ?_);rintro g1 _ aN rfl;replace hs:=hs.call aN;have ah:=aN.le;obtain⟨aq,aP,aH⟩:=ef ah aq aP aH
   cases SF:p x with
   |true=>
    apply cf
    refine aJ rfl rfl ?_
    apply ar;refine Wm 3 [.z aP] (St.start _) rfl ?_
    refine an rfl rfl (eA rfl rfl rfl rfl rfl rfl (ha _ x aq) ?_);clear aN;rintro g1 _ aN rfl;replace hs:=hs.call aN;have ah:=aN.le;obtain⟨aq,aH⟩:=cC ah aq aH
    skip
    refine an rfl rfl (bj T.ok rfl hs (vs:=[(0,fv x)]) (cells:=bW x) rfl rfl rfl rfl rfl rfl (by decide) (by decide) (by kernel_rfl) rfl ?_);rintro bl gl hs ah;obtain⟨aq,aH⟩:=cC ah aq aH
    obtain⟨gz,ik,cS,iT,B8⟩:=hs.cL (α:=bc) (xs:=[x]) (i:=0) rfl ⟨bW x,[],(List.append_nil _).symm,rfl,rfl⟩
    clear ah;have ah:=iT;rw[←ik];replace hs:=cS;clear cS;obtain⟨aq,aH⟩:=cC ah aq aH
    obtain⟨_,news,hn,gn⟩:=Src.jq B8
    obtain⟨c1,c2,rfl,rfl,rfl⟩:=hn
    rw[List.append_nil]at gn
    refine an rfl rfl (b_ T.ok 0 rfl hs rfl rfl rfl rfl rfl rfl rfl (by decide) rfl gn (El.one (α:=bc) (g:=gz) (x:=x) rfl) (by show(out.length+1)*160≤_;omega) (by show out.length+1≤maxLen;unfold maxLen;omega) ?_)
    clear hs;intro a6 c6 g6 hs ah;obtain⟨aq,aH⟩:=cC ah aq aH
    replace hs:St g g6 [.row (ll (!tw)) 19 (.slice a6 (out.length+1) c6) (out.length+1) (fl out++bW x)]:=hs
    have e:(l.take (i+1)).filter p=out++[x]:=by rw[cB,SF];rfl
    have e2:fl out++bW x=fl (out++[x]):=by rw[lr];exact congrArg (fl out++ ·) (List.append_nil _).symm
    rw[e2]at hs
    refine Wp 1 rfl ?_;apply aD;apply bU;apply au;apply ar;refine Wp 2 rfl ?_;apply aD
    refine fun a ha=>⟨l.length-(i+1),by omega,i+1,a6,c6,g6,rfl,?_,aq,aH,by omega,rfl,?_⟩
    ·rw[e,List.length_append];exact hs
    ·rw[e,List.length_append]
     exact ha.keep ⟨rfl,rfl,rfl,rfl,rfl,kI rfl (by rw[wr (by omega) (by omega)];omega),trivial⟩
   |false=>
    apply cf
    refine aS rfl rfl ?_
    apply aE;apply bU;apply au;apply ar;refine Wp 2 rfl ?_;apply aD
    have e:(l.take (i+1)).filter p=out:=by rw[cB,SF];exact List.append_nil _
    refine fun a ha=>⟨l.length-(i+1),by omega,i+1,ad,cc,_,rfl,?_,aq,aH,by omega,rfl,?_⟩
    ·rw[e];exact hs
    ·rw[e]
     exact ha.keep ⟨rfl,rfl,rfl,rfl,rfl,kI rfl (by rw[wr (by omega) (by omega)];omega),trivial⟩
  ·refine aS (b:=decide ((i:Int)<(l.length:Int))) (decide_eq_false (by omega)) rfl ?_
   rw[List.take_of_length_le (by omega)]at hs⊢
   apply bE;apply bK;apply bK;apply dc;apply au;refine aX rfl ?_
   exact aF (aV rfl rfl (hs.ret ⟨_,hs.own 0 _ rfl,cO.fl _ _⟩))
def wJ(f:bc):Int×Int:=(f.time,f.idn)
theorem Ny(x:bc)(g:G):CallsIn Wd 0 Tryz.prog 198 #[fv x] g.w (cR g fun _ r=>r=fv x):=by
 have hs:=St.start g
 refine enter Tryz.func198 rfl Tryz.ntmps198 rfl ?_
 apply c_
 refine an rfl rfl (aR rfl hs rfl rfl ?_);clear hs;rintro b1 g1 hs ah;skip
 obtain⟨g2,bR,aU,ah,aL⟩:=hs.a_ (i:=0) rfl;replace hs:=aU;clear aU;rw[←bR];skip
 have aC:=aL;clear aL
 skip
 refine an rfl rfl (aK T.ok rfl hs rfl rfl ?_);clear hs;rintro b2 g1 hs ah;replace aC:=aC.mono ah
 apply cf;refine dx 1 [.z aC] (St.start _) rfl ?_
 refine bg rfl (aA T.ok 0 rfl hs rfl rfl rfl rfl rfl rfl rfl rfl rfl ?_);replace hs:=hs;rintro g1 hs ah
 apply cf
 exact aF (kJ T.ok 0 rfl hs rfl rfl rfl (hs.ret rfl))
theorem Nz(x:bc)(g:G):CallsIn Wd 0 Tryz.prog 202 #[fv x] g.w (cR g fun _ r=>r=fv x):=by
 have hs:=St.start g
 refine enter Tryz.func202 rfl Tryz.ntmps202 rfl ?_
 apply c_
 refine an rfl rfl (aR rfl hs rfl rfl ?_);clear hs;rintro b1 g1 hs ah;skip
 obtain⟨g2,bR,aU,ah,aL⟩:=hs.a_ (i:=0) rfl;replace hs:=aU;clear aU;rw[←bR];skip
 have aC:=aL;clear aL
 skip
 refine an rfl rfl (aK T.ok rfl hs rfl rfl ?_);clear hs;rintro b2 g1 hs ah;replace aC:=aC.mono ah
 apply cf;refine dx 1 [.z aC] (St.start _) rfl ?_
 refine bg rfl (aA T.ok 0 rfl hs rfl rfl rfl rfl rfl rfl rfl rfl rfl ?_);replace hs:=hs;rintro g1 hs ah
 apply cf
 exact aF (kJ T.ok 0 rfl hs rfl rfl rfl (hs.ret rfl))
theorem NA(x:bc)(g:G):CallsIn Wd 0 Tryz.prog 203 #[fv x] g.w (cR g fun _ r=>r= .bool true):=by
 have hs:=St.start g
 refine enter Tryz.func203 rfl Tryz.ntmps203 rfl ?_
 apply c_
 refine an rfl rfl (aR rfl hs rfl rfl ?_);clear hs;rintro b1 g1 hs ah;skip
 refine ba rfl ?_;refine aX rfl ?_
 exact aF (aV rfl rfl (hs.ret rfl))
theorem Jj(x y:bc)(g:G):CallsIn Wd 0 Tryz.prog 200 #[fv x,fv y] g.w (cR g fun _ r=>r= .int .i64 (qK (wJ x) (wJ y))):=by
 have hs:=St.start g
 refine enter Tryz.func200 rfl Tryz.ntmps200 rfl ?_
 apply c_
 refine an rfl rfl (aR rfl hs rfl rfl ?_);clear hs;rintro b1 g1 hs ah;skip
 obtain⟨g2,bR,aU,ah,aL⟩:=hs.a_ (i:=0) rfl;replace hs:=aU;clear aU;rw[←bR];skip
 have aP:=aL;clear aL
 skip
 refine an rfl rfl (aR rfl hs rfl rfl ?_);clear hs;rintro b2 g1 hs ah;replace aP:=aP.mono ah
 obtain⟨g2,bR,aU,ah,aL⟩:=hs.a_ (i:=0) rfl;replace hs:=aU;clear aU;rw[←bR];replace aP:=aP.mono ah
 have dO:=aL;clear aL
 refine ba rfl ?_;apply aB
 apply bO hs (fj (eJ (.f (Fact.rs [jx x.time y.time,jx x.idn y.idn])::fe []))) 12 [(11,16)] (by kernel_rfl) rfl
 ·refine Dm [[],[0],[],[2],[1,3],[],[5],[],[7],[6,8]] [.z aP,.z dO,.c AP fun g _=>wu x.time y.time g,.z aP,.z dO,.c AP fun g _=>wu x.idn y.idn g] hs (by kernel_rfl) rfl ?_
  refine aw (ak (js:=[(4,9),(9,14)]) (by kernel_rfl) fun gd hf=>ai rfl (ai rfl (aj (az rfl (bj T.ok rfl (St.start gd) (vs:=[(0,.int .i64 (jx x.time y.time)),(1,.int .i64 (jx x.idn y.idn))]) (cells:=[jx x.time y.time,jx x.idn y.idn].map (Value.int .i64)) rfl rfl rfl rfl rfl rfl (by decide) (by decide) (by kernel_rfl) rfl fun b g' iS _=>?_))))) ?_
  ·obtain⟨g2,e1,e2,e3⟩:=kj (α:=Int) iS (cO.ints g' [jx x.time y.time,jx x.idn y.idn])
   exact⟨g2,e1,e2,e3⟩
  refine aw (ak (js:=[(10,15)]) (by kernel_rfl) fun gd hf=>aY fun v h=>aj (az rfl (ay HB aI rfl rfl rfl rfl rfl (MY v [jx x.time y.time,jx x.idn y.idn] _ h) fun g' v h1 h2=>⟨g',rfl,h1,h2⟩))) ?_
  exact fJ
 clear hs;intro g6 hs ah
 refine ba rfl ?_
 exact aF (aV rfl rfl (hs.ret rfl))
theorem vt(v fo:Value)(l:List bc)(p:bc→Bool)(g:G)(aH:Rs g v l)(hl:l.length≤1000000)(hp:x6 fo p l g):
  CallsIn Wd 0 Tryz.prog 116 #[v,fo] g.w (cR g fun g' r=>Rs g' r (dK wJ (l.filter p))):=by
 have hs:=St.start g
 have aq:=G.le.refl g
 obtain⟨a,c,rfl⟩:=aH.isSlice
 refine enter Tryz.func116 rfl Tryz.ntmps116 rfl ?_
 refine aX rfl ?_;refine cP 2 rfl ?_
 refine an rfl rfl (ay (Nx false) aI rfl rfl rfl rfl rfl (tk false _ (.func (.func 198) #[] #[]) fo l p _ aH hl (fun g' x _=>de (first:=#[]) (args:=[fv x]) (captured:=#[]) Mb rfl (Ny x g')) hp) ?_)
 rintro g1 v1 aN ⟨cells,hh,hr⟩
 obtain rfl:=kX hr
 obtain⟨a1,c1,rfl⟩:=hh.1.form
 have xR:(l.filter p).length≤1000000:=Nat.le_trans (List.length_filter_le ..) hl
 replace hs:=hs.gJ aN hh;have ah:=aN.le
 clear hr hh aN
 replace hs:St g g1 [eP (ll true) a1 (l.filter p).length c1 (l.filter p)]:=hs
 refine ba rfl ?_;refine cP 1 rfl ?_
 refine an rfl rfl (dv (M9 true) aI rfl rfl rfl rfl rfl (vm true (kf:=wJ) (l.filter p) rfl (by omega) (fun g' _ x y=>de (first:=#[]) (args:=[fv x,fv y]) (captured:=#[]) Md rfl (Jj x y g')) hs) ?_)
 clear hs
 rintro g6 _ ah ⟨rfl,hs⟩
 have hn:(l.filter p).length=(dK wJ (l.filter p)).length:=(fR _).symm
 rw[hn]at xR hs⊢
 generalize dK wJ (l.filter p)=xs at*
 obtain⟨g7,BZ,B0,ah,py⟩:=hs.cL (α:=bc) (xs:=xs) (i:=0) rfl (cO.fl _ _)
 rw[←BZ];clear hs;replace hs:=B0;clear B0;clear BZ
 replace hs:St g g7 []:=hs
 apply cf;refine cP 1 rfl ?_
 refine an rfl rfl (ay (Nx true) aI rfl rfl rfl rfl rfl (tk true _ (.func (.func 202) #[] #[]) (.func (.func 203) #[] #[]) xs (fun _=>true) _ py xR (fun g' x _=>de (first:=#[]) (args:=[fv x]) (captured:=#[]) Mf rfl (Nz x g')) (fun g' x _ _=>de (first:=#[]) (args:=[fv x]) (captured:=#[]) Mg rfl (NA x g'))) ?_)
 rintro g8 v8 D5 h8
 rw[show xs.filter (fun _=>true)=xs from List.filter_eq_self.2 fun _ _=>rfl]at h8
 obtain⟨g9,OY,FL,ah,QF⟩:=hs.mZ D5 h8
 have ah:=D5.le.trans ah
 rw[←OY];clear hs;replace hs:=FL;clear FL;clear OY
 refine ba rfl ?_
 exact aF (aV rfl rfl (hs.ret QF))
end Go.Proofs.YtebobfdheanknaaGreatDoor
namespace Go.K
open Go Go.RowKit Go.MapKept
variable {F:Fence} {P:Program} {N:Nat} {ds:List Deferred} {l:Env} {w:World} {Q:Exit→Act→World→Prop} {o:Oper} {g0 g:G} {L:List cV} {K:Value→World→Prop}
variable {κ:Type} [DecidableEq κ] [fg κ]
omit [fg κ] in
def tr(a:κ)(z:Value)(cq:List (κ×Value)):List (κ×Value):=match mf a cq 0 with|some _=>cq|none=>cq++[(a,z)]
omit [fg κ] in
def wK(a:κ)(cq:List (κ×Value)):Nat:=match mf a cq 0 with|some p=>p.1|none=>cq.length
omit [fg κ] in
theorem Gv(a:κ)(z:Value)(cq:List (κ×Value)): ∃v,(tr a z cq)[wK a cq]? =some (a,v):=by
 unfold tr wK
 cases hm:mf a cq 0 with
 |none=>exact⟨z,by simp⟩
 |some p=>
  obtain⟨_,n,h3,h4,_⟩:=nV (i:=p.1) (v:=p.2) hm
  exact⟨p.2,by show cq[p.1]? =_;rw[h3,Nat.zero_add];exact h4⟩
omit [fg κ] in
theorem Ef(a:κ)(z x:Value)(cq:List (κ×Value)):(tr a z cq).set (wK a cq) (a,x)=iX a x cq:=by
 unfold tr wK
 cases hm:mf a cq 0 with
 |none=>rw[(qb hm).2 x];simp
 |some p=>
  obtain⟨_,n,h3,_,h5⟩:=nV (i:=p.1) (v:=p.2) hm
  rw[h5 x];simp only[h3,Nat.zero_add]
theorem xq{T:TypeId}{z:Value}(ht:qJ κ P T z){b:Nat}{cq:List (κ×Value)}(hb:w.heap[b]? =some (ct cq))(a:κ):
  (Instr.mapEntry T (.map (some b)) (fg.enc a)).run P w= .ok (.tuple #[(ij a cq).getD z,.int .i64 (wK a cq:Nat)]) (w.putObj b (ct (tr a z cq))):=by
 obtain⟨k,e,h1,h2,h3⟩:=ht.kt
 have hf:=run_findKey (P:=P) (w:=w) (l:=lI 0 cq) h2 (mu a cq 0 0)
 simp only[Instr.mapEntry,Sem.run_bind,run_underlying h1,Result.andThen_ok,MapKept.run_getObj_map hb,run_checkKey h2 (fg.key a),List.toList_toArray]
 rw[show(Instr.findKey k (fg.enc a) (lI 0 cq)).run P w=_ from hf]
 cases hm:mf a cq 0 with
 |none=>
  simp only[Result.andThen_ok,Sem.run_bind,h3]
  rw[run_setObj_map _ hb]
  simp only[Result.andThen_ok,Sem.run_pure]
  unfold tr wK
  rw[hm,(qb hm).1]
  unfold World.putObj ct
  rw[xk]
  simp[lI,goInt]
 |some p=>
  obtain⟨i,v⟩:=p
  obtain⟨hg,n,h4,h5,h6⟩:=nV hm
  obtain rfl:i=n:=by omega
  have h7:(lI 0 cq)[i]? =some {key:=fg.enc a,val:=v,born:=i}:=by rw[jB,h5];simp
  simp only[Result.andThen_ok,List.getElem?_toArray,h7,Option.map_some,Option.getD_some,Instr.keyThatStays,fg.bits,if_true,Sem.run_bind,Sem.run_pure]
  rw[run_setObj_map _ hb]
  simp only[Result.andThen_ok]
  unfold tr wK
  rw[hm,hg]
  unfold World.putObj ct
  have e:(lI 0 cq).toArray.modify i (fun e=>{e with key:=fg.enc a})=(lI 0 cq).toArray:=by
   apply Array.ext'
   rw[Array.toList_modify]
   simp only[List.toList_toArray]
   apply List.ext_getElem?
   intro j
   rw[List.getElem?_modify]
   by_cases hj:i=j
   ·subst hj
    rw[h7];simp
   ·simp[hj]
  rw[e]
  rfl
theorem ug{T:TypeId}{b:Nat}{cq:List (κ×Value)}(hb:w.heap[b]? =some (ct cq)){n:Nat}{a:κ}{v:Value}(hn:cq[n]? =some (a,v))(x:Value):
  (Instr.entryStore T (.map (some b)) (.int .i64 (n:Nat)) x).run P w= .ok () (w.putObj b (ct (cq.set n (a,x)))):=by
 have ha:(asInt (.int .i64 (n:Nat))).run P w= .ok (n:Int) w:=by simp[asInt,asIntOf]
 simp only[Instr.entryStore,Sem.run_bind,Result.andThen_ok,MapKept.run_getObj_map hb,ha]
 have hi:(lI 0 cq).toArray.findIdx? (fun e=>(e.born:Int)==(n:Int))=some n:=by
  have bh:=(List.getElem?_eq_some_iff.1 hn).1
  rw[List.findIdx?_toArray,List.findIdx?_eq_some_iff_getElem]
  refine⟨by rw[Bv];exact bh,?_,?_⟩
  ·have:=jB cq 0 n
   rw[hn]at this
   rw[(List.getElem?_eq_some_iff.1 this).2];simp
  ·intro j hj
   have:=jB cq 0 j
   rw[List.getElem?_eq_getElem (by omega:j<cq.length)]at this
   rw[(List.getElem?_eq_some_iff.1 this).2];simp;omega
 rw[hi]
 simp only[Result.andThen_ok]
 rw[run_setObj_map _ hb]
 unfold World.putObj ct
 congr 3
 rw[List.length_set]
 congr 1
 apply Array.ext'
 rw[Array.toList_modify]
 simp only[List.toList_toArray]
 apply List.ext_getElem?
 intro j
 rw[List.getElem?_modify,jB,jB,List.getElem?_set]
 by_cases hj:n=j
 ·subst hj
  obtain⟨bh,hv⟩:=List.getElem?_eq_some_iff.1 hn
  simp[bh,hv]
 ·simp[hj]
theorem wL{T:TypeId}{z:Value}(ht:qJ κ P T z)(i:Nat){m kk:Operand}{b:Nat}{cq:List (κ×Value)}{a:κ}(ho:o.op= .mapEntry T m kk)(hs:St g0 g L)(hi:L[i]? =some (.obj b (ct cq)))
  (hm:ev l m=some (.map (some b))) (hk:ev l kk=some (fg.enc a)) (k: ∀g',St g0 g' (L.set i (.obj b (ct (tr a z cq))))→g.le g'→K (.tuple #[(ij a cq).getD z,.int .i64 (wK a cq:Nat)]) g'.w):cT F P N ds o l g.w Q K:=by
 have hh:=(hs.own i _ hi).2.1
 have h:=hs.po hi (o':=ct (tr a z cq))
 have hr:=xq ht hh a
 refine bG (w':=(g.po b (ct (tr a z cq))).w) (fun c=>⟨by rw[ho];simp,by rw[ho];simp⟩) (fun ac ha=>?_) (k _ h.1 h.2)
 simp only[execOp,ho,ha.ev hm,ha.ev hk,Sem.run_bind,hr];rfl
theorem tu{T:TypeId}(i:Nat){m s x:Operand}{b n:Nat}{cq:List (κ×Value)}{a:κ}{v u:Value}(ho:o.op= .entryStore T m s x)(hs:St g0 g L)(hi:L[i]? =some (.obj b (ct cq)))(hn:cq[n]? =some (a,u))
  (hm:ev l m=some (.map (some b))) (hk:ev l s=some (.int .i64 (n:Nat))) (hx:ev l x=some v) (k: ∀g',St g0 g' (L.set i (.obj b (ct (cq.set n (a,v)))))→g.le g'→K undef g'.w):cT F P N ds o l g.w Q K:=by
 have hh:=(hs.own i _ hi).2.1
 have h:=hs.po hi (o':=ct (cq.set n (a,v)))
 have hr:=ug (P:=P) (T:=T) hh hn v
 refine pS (w':=(g.po b (ct (cq.set n (a,v)))).w) (fun c=>⟨by rw[ho];simp,by rw[ho];simp⟩) (fun ac ha=>?_) (k _ h.1 h.2)
 simp only[execOp,ho,ha.ev hm,ha.ev hk,ha.ev hx,Sem.run_bind,hr];rfl
end Go.K
namespace Go.Proofs.YtebobfdheanknaaGreatDoor
open Go Go.K
set_option maxRecDepth 10000
attribute [local irreducible] W WL cT cn bX bA bB bD cW cG
set_option maxHeartbeats 1000000
def mB(n:Int):Bool:=decide (1≤n)&&decide (n≤1000000)
theorem tp(n:Int)(g:G):CallsIn Wd 0 Tryz.prog 60 #[.int .i64 n] g.w (cR g fun _ r=>r= .bool (mB n)):=by
 have hs:=St.start g
 refine enter Tryz.func60 rfl Tryz.ntmps60 rfl ?_
 refine aX rfl ?_;refine cP 3 rfl ?_
 unfold mB
 cases decide (1≤n)with
 |true=>
  refine ba rfl ?_
  exact aF (aV rfl rfl (hs.ret rfl))
 |false=>
  refine ba rfl ?_
  exact aF (aV rfl rfl (hs.ret rfl))
abbrev MP:=List (Int×Int)
def iv(m:MP):List (Int×Value):=m.map fun p=>(p.1,.int .i64 p.2)
def ig(a:Int):MP→Option Int
 |[]=>none
 |(k,v)::r=>if a=k then some v else ig a r
def ip(a x:Int):MP→MP
 |[]=>[(a,x)]
 |(k,v)::r=>if a=k then(k,x)::r else(k,v)::ip a x r
theorem Ed(a:Int): ∀m:MP,ij a (iv m)=(ig a m).map (Value.int .i64)
 |[]=>rfl
 |(k,v)::r=>by
  show(if a=k then some (Value.int .i64 v)else ij a (iv r))=(if a=k then some v else ig a r).map _
  split
  ·rfl
  ·exact Ed a r
theorem zX(a x:Int): ∀m:MP,iX a (.int .i64 x) (iv m)=iv (ip a x m)
 |[]=>rfl
 |(k,v)::r=>by
  show(if a=k then(k,.int .i64 x)::iv r else(k,.int .i64 v)::iX a (.int .i64 x) (iv r))=iv (if a=k then(k,x)::r else(k,v)::ip a x r)
  split
  ·rfl
  ·rw[zX a x r];rfl
def FP(m:MP)(k:Int):Int:=(ig k m).getD k
theorem Ee:qJ Int Tryz.prog 170 (.int .i64 0):=by
 have h:=zw (P:=Tryz.prog) (κ:=Int) T.ok (T:=170) rfl rfl rfl rfl rfl
 exact h
theorem qT(b:Nat)(m:MP)(k:Int)(g:G)(hm:g.w.heap[b]? =some (ct (iv m))):CallsIn Wd 0 Tryz.prog 115 #[.map (some b),.int .i64 k] g.w (cR g fun _ r=>r= .int .i64 (FP m k)):=by
 have hs:=St.start g
 refine enter Tryz.func115 rfl Tryz.ntmps115 rfl ?_
 refine aX rfl ?_;apply aB;refine cP 2 rfl ?_
 refine an rfl rfl (l_ Ee rfl hm rfl (a:=k) rfl ?_)
 have hg:=Ed k m
 unfold FP
 cases Nb:ig k m with
 |none=>
  rw[Nb]at hg
  refine cE (.tuple #[.int .i64 0,.bool false]) (t:=10) rfl (by rw[hg];rfl) ?_
  refine ba rfl ?_;refine aX rfl ?_
  refine aS rfl rfl ?_
  apply aE;apply au;refine aX rfl ?_
  exact aF (aV rfl rfl (hs.ret rfl))
 |some z=>
  rw[Nb]at hg
  refine cE (.tuple #[.int .i64 z,.bool true]) (t:=10) rfl (by rw[hg];rfl) ?_
  refine ba rfl ?_;refine aX rfl ?_
  refine aJ rfl rfl ?_
  refine aX rfl ?_
  exact aF (aV rfl rfl (hs.ret rfl))
def tq(f:bc)(m:MP):MP:=ip f.oth (FP m f.waf) (ip f.waf (FP m f.oth) m)
theorem Jk(x:bc)(b1 bm:Nat)(m:MP){g0 g:G}{L:List cV}(aC:EP g b1 0 [.map (some bm)])(hs:St g0 g (.obj bm (ct (iv m))::L)):
  CallsIn Wd 0 Tryz.prog 195 #[fv x,.pointer (some ⟨b1,0,none⟩)] g.w (eu g fun g' r=>r= .tuple #[]∧St g0 g' (.obj bm (ct (iv (tq x m)))::L)):=by
 have aq:=G.le.refl g
 refine enter Tryz.func195 rfl Tryz.ntmps195 rfl ?_
 apply c_
 refine an rfl rfl (aR rfl hs rfl rfl ?_);clear hs;rintro b2 g1 hs ah;obtain⟨aq,aC⟩:=cC ah aq aC
 obtain⟨g2,bR,aU,ah,aL⟩:=hs.a_ (i:=0) rfl;replace hs:=aU;clear aU;rw[←bR];obtain⟨aq,aC⟩:=cC ah aq aC
 have aP:=aL;clear aL
 replace hs:St g0 _ (.obj bm (ct (iv m))::L):=hs
 apply cf
 obtain⟨u,hu⟩:=Gv x.waf (.int .i64 0) (iv m)
 apply pw (fj (.e (.int .i64 x.oth):: .e (.int .i64 (FP m x.oth))::eJ (.e (.int .i64 x.waf):: .e (.int .i64 (FP m x.waf)):: .e (.tuple #[((ij x.waf (iv m)).getD (.int .i64 0)),.int .i64 (wK x.waf (iv m):Nat)])::fe (.f Fact.any::[])))) 17 [(3,6),(5,8),(13,16)] [14,16] [[0,1,2,6,7,8,9,10,11,12,13],[0,1,2,6,7,8,9,10,11,12,13,14,15]]
  (fun s=>match s with|0=> .obj bm (ct (iv m))::L|1=> .obj bm (ct (tr x.waf (.int .i64 0) (iv m)))::L|_+2=> .obj bm (ct (iX x.waf (.int .i64 (FP m x.oth)) (iv m)))::L) hs (by kernel_rfl) ⟨cY,trivial⟩
 ·refine Lm [[],[],[1],[],[],[4],[],[],[7]] [.z aC,.z aP,.z aC,.z aP,.z aC,.z aP] (by kernel_rfl) rfl ?_
  refine dk (kM 0 0 (js:=[(6,9),(8,11)]) (by kernel_rfl) (by kernel_rfl) ?_) ?_
  ·intro s g' _ h1 hf hJ
   obtain rfl:s=0:=by omega
   exact ai rfl (ai rfl (aj (az rfl (ay Dd aI rfl rfl rfl rfl rfl (qT bm m (x.oth) g' (hJ.own 0 _ rfl).2.1) fun g3 v h1 h2=>⟨g3,rfl,h1,h2⟩))))
  refine Lm [[],[],[11]] [.z aC,.z aP] (by kernel_rfl) rfl ?_
  refine dk (kM 0 0 (js:=[(10,13),(12,15)]) (by kernel_rfl) (by kernel_rfl) ?_) ?_
  ·intro s g' _ h1 hf hJ
   obtain rfl:s=0:=by omega
   exact ai rfl (ai rfl (aj (az rfl (ay Dd aI rfl rfl rfl rfl rfl (qT bm m (x.waf) g' (hJ.own 0 _ rfl).2.1) fun g3 v h1 h2=>⟨g3,rfl,h1,h2⟩))))
  refine dk (vk 0 (js:=[(0,3),(2,5)]) (by kernel_rfl) rfl fun g' hf hJ=>ai rfl (ai rfl (aj (qL rfl (wL Ee 0 rfl hJ rfl rfl (a:=x.waf) rfl fun g3 hs hle=>⟨g3,rfl,⟨hle,hs⟩,rfl⟩))))) ?_
  refine Lm [[14]] [] (by kernel_rfl) rfl ?_
  refine dk (vk 1 (js:=[(0,3),(15,18),(9,12),(0,3),(9,12)]) (by kernel_rfl) rfl fun g' hf hJ=>ai rfl (ai rfl (ai rfl (ai rfl (ai rfl (aj (qL rfl (tu 0 rfl hJ rfl hu rfl rfl rfl fun g3 hs hle=>⟨g3,rfl,⟨hle,?_⟩,trivial⟩)))))))) ?_
  ·rw[Ef]at hs;exact hs
  exact xT
 clear hs;intro g6 hs ah;replace aq:=G.le.trans aq ah
 refine ai rfl (ai rfl (ai rfl (aj ?_)))
 refine bg rfl (dC Ee 0 (.inl rfl) hs rfl rfl (a:=x.oth) rfl rfl ?_)
 clear hs;intro g7 hs ah;replace aq:=G.le.trans aq ah
 replace hs:St g0 g7 (.obj bm (ct (iX x.oth (.int .i64 (FP m x.waf)) (iX x.waf (.int .i64 (FP m x.oth)) (iv m))))::L):=hs
 rw[zX,zX]at hs
 apply aD
 exact mv rfl (eu.intro aq ⟨rfl,hs⟩)
def NB(time:Int)(f:bc):Bool:=(mB f.waf&&mB f.oth)&&decide (f.time≤time)
theorem NC(x:bc)(time:Int)(b1:Nat)(g:G)(aC:EP g b1 0 [.int .i64 time]):CallsIn Wd 0 Tryz.prog 196 #[fv x,.pointer (some ⟨b1,0,none⟩)] g.w (cR g fun _ r=>r= .bool (NB time x)):=by
 have hs:=St.start g
 have aq:=G.le.refl g
 refine enter Tryz.func196 rfl Tryz.ntmps196 rfl ?_
 apply c_
 refine an rfl rfl (aR rfl hs rfl rfl ?_);clear hs;rintro b2 g1 hs ah;replace aC:=aC.mono ah
 obtain⟨g2,bR,aU,ah,aL⟩:=hs.a_ (i:=0) rfl;replace hs:=aU;clear aU;rw[←bR];replace aC:=aC.mono ah
 have aP:=aL;clear aL
 refine ba rfl ?_;refine dx 2 [.z aP] (St.start _) rfl ?_
 refine an rfl rfl (ay wj aI rfl rfl rfl rfl rfl (tp x.waf _) ?_);rintro g1 _ aN rfl;replace hs:=hs.call aN;have ah:=aN.le;obtain⟨aC,aP⟩:=cC ah aC aP
 unfold NB
 cases mB x.waf with
 |false=>
  refine ba rfl ?_
  exact aF (aV rfl rfl (hs.ret rfl))
 |true=>
  refine Wm 3 [.z aP] (St.start _) rfl ?_
  clear aN
  refine an rfl rfl (ay wj aI rfl rfl rfl rfl rfl (tp x.oth _) ?_);rintro g1 _ aN rfl;replace hs:=hs.call aN;have ah:=aN.le;obtain⟨aC,aP⟩:=cC ah aC aP
  cases mB x.oth with
  |false=>
   refine ba rfl ?_
   exact aF (aV rfl rfl (hs.ret rfl))
  |true=>
   refine A3 [.z aP,.z aC] (St.start _) rfl ?_
   exact aF (aV rfl rfl (hs.ret rfl))
def DX(b:fX):Prop:=∀i,(b.ls i).length≤1000000
def wM(b:fX)(time:Int):MP:=(dK wJ (b.C7.filter (NB time))).foldl (fun m f=>tq f m) []
theorem QG(v:Value)(b:fX)(time:Int)(g:G)(bI:iI g v b)(hb:DX b):CallsIn Wd 0 Tryz.prog 114 #[v,.int .i64 time] g.w (cR g fun g' r=> ∃bm,r= .map (some bm)∧sR g' bm (iv (wM b time))):=by
 have hs:=St.start g
 have aq:=G.le.refl g
 obtain⟨sl,rfl,jr⟩:=bI
 have aH:=jr 2 (by decide)
 refine enter Tryz.func114 rfl Tryz.ntmps114 rfl ?_
 apply c_
 refine an rfl rfl (aR rfl hs rfl rfl ?_);clear hs;rintro b2 g1 hs ah;obtain⟨aq,aH⟩:=cC ah aq aH
 obtain⟨g2,bR,aU,ah,aL⟩:=hs.a_ (i:=0) rfl;replace hs:=aU;clear aU;rw[←bR];obtain⟨aq,aH⟩:=cC ah aq aH
 have aC:=aL;clear aL
 skip
 refine an rfl rfl (aR rfl hs rfl rfl ?_);clear hs;rintro b3 g1 hs ah;obtain⟨aq,aC,aH⟩:=ef ah aq aC aH
 obtain⟨g2,bR,aU,ah,aL⟩:=hs.a_ (i:=0) rfl;replace hs:=aU;clear aU;rw[←bR];obtain⟨aq,aC,aH⟩:=ef ah aq aC aH
 have aP:=aL;clear aL
 refine ba rfl ?_;apply c_
 refine an rfl rfl (jH (κ:=Int) rfl hs ?_)
 clear hs;intro bm g1 hs ah;obtain⟨aq,aC,aP,aH⟩:=dE ah aq aC aP aH
 refine an rfl rfl (aK T.ok rfl hs rfl rfl ?_);clear hs;rintro b5 g1 hs ah;obtain⟨aq,aC,aP,aH⟩:=dE ah aq aC aP aH
 refine bg rfl (aA T.ok 0 rfl hs rfl rfl rfl rfl rfl rfl rfl rfl rfl ?_);replace hs:=hs;rintro g1 hs ah;obtain⟨aq,aC,aP,aH⟩:=dE ah aq aC aP aH
 obtain⟨g2,bR,aU,ah,aL⟩:=hs.a_ (i:=0) rfl;replace hs:=aU;clear aU;rw[←bR];obtain⟨aq,aC,aP,aH⟩:=dE ah aq aC aP aH
 have dO:=aL;clear aL
 replace hs:St g _ [.obj bm (ct (iv []))]:=hs
 apply cf;refine aX rfl ?_;apply aB;refine dx 3 [.z aC] (St.start _) rfl ?_
 refine an rfl rfl (ay HC aI rfl rfl rfl rfl rfl (vt _ _ b.C7 (NB time) _ aH (hb 2) (fun g' x _ h=>de (first:=#[]) (args:=[fv x]) (captured:=#[.pointer (some ⟨b3,0,none⟩)]) L_ rfl (NC x time b3 g' (aP.mono h)))) ?_);rintro g1 _ aN aT;replace hs:=hs.call aN;have ah:=aN.le;obtain⟨aq,aC,aP,dO⟩:=dE ah aq aC aP dO
 unfold wM
 generalize dK wJ (b.C7.filter (NB time))=l at*
 obtain⟨a,c,rfl⟩:=aT.isSlice
 have hlen:=aT.dU
 unfold maxLen at hlen
 clear aH aC aP aN
 refine ba rfl ?_;apply aG
 refine bS (fun m a' w=> ∃(i:Nat) (g':G),w=g'.w∧St g g' [.obj bm (ct (iv ((l.take i).foldl (fun m f=>tq f m) [])))]∧G.le g g'∧Rs g' (.slice a l.length c) l∧EP g' b5 0 [.map (some bm)]∧i≤l.length∧m=l.length-i∧
   Fr 25 [] [(5,.pointer (some ⟨b5,0,none⟩)),(6,.func (.func 195) #[] #[.pointer (some ⟨b5,0,none⟩)]),(14,.slice a l.length c),(15,.int .i64 (l.length:Nat)),(16,.int .i64 (i:Nat))] a') l.length
  (fun a' ha=>⟨0,_,rfl,hs,aq,aT,dO,Nat.zero_le _,rfl,ha.keep (by(repeat (first|exact trivial|refine⟨rfl,?_⟩)))⟩) ?_
 clear hs aT aq dO
 rintro m a' _ ⟨i,g',rfl,hs,aq,aT,dO,hi,rfl,eI⟩
 revert a'
 apply cQ;refine aX rfl ?_;apply aB
 by_cases bh:i<l.length
 ·refine aJ (b:=decide ((i:Int)<(l.length:Int))) (decide_eq_true (by omega)) rfl ?_
  have ic:dA l (i:Int)=some l[i]:=cU rfl bh
  have cB:(l.take (i+1)).foldl (fun m f=>tq f m) []=tq l[i] ((l.take i).foldl (fun m f=>tq f m) []):=by
   rw[List.take_add_one,List.getElem?_eq_getElem bh,List.foldl_append];rfl
  generalize(l.take i).foldl (fun m f=>tq f m) []=M at*
  generalize l[i]=x at*
  apply aE;apply au;apply aB;apply aG;apply c_
  refine an rfl rfl (aW T.ok rfl aT (y:=x) ic rfl rfl rfl rfl rfl rfl ?_)
  rintro b q ys aL rfl
  have aC:=aL;clear aL
  refine Wm 1 [.e aC 0] (St.start _) rfl ?_
  refine an rfl rfl (aK T.ok rfl hs rfl rfl ?_);clear hs;rintro b8 g1 hs ah;obtain⟨aq,dO,aT⟩:=ef ah aq dO aT
  refine bg rfl (aA T.ok 0 rfl hs rfl rfl rfl rfl rfl rfl rfl rfl rfl ?_);replace hs:=hs;rintro g1 hs ah;obtain⟨aq,dO,aT⟩:=ef ah aq dO aT
  obtain⟨g2,bR,aU,ah,aL⟩:=hs.a_ (i:=0) rfl;replace hs:=aU;clear aU;rw[←bR];obtain⟨aq,dO,aT⟩:=ef ah aq dO aT
  have aP:=aL;clear aL
  replace hs:St g _ [.obj bm (ct (iv M))]:=hs
  apply cf;apply ar;refine Wm 2 [.z aP] (St.start _) rfl ?_
  refine an rfl rfl (dv L9 aI rfl rfl rfl rfl rfl (Jk x b5 bm M dO hs) ?_)
  clear hs
  rintro g6 _ ah ⟨rfl,hs⟩;obtain⟨aq,dO,aT⟩:=ef ah aq dO aT
  apply aD;apply bU;apply au;apply ar;refine Wp 2 rfl ?_;apply aD
  exact fun a ha=>⟨l.length-(i+1),by omega,i+1,g6,rfl,by rw[cB];exact hs,aq,aT,dO,by omega,rfl,ha.keep ⟨rfl,rfl,rfl,rfl,kI rfl (by rw[wr (by omega) (by omega)];omega),trivial⟩⟩
 ·refine aS (b:=decide ((i:Int)<(l.length:Int))) (decide_eq_false (by omega)) rfl ?_
  rw[List.take_of_length_le (by omega)]at hs
  apply bE;apply bK;apply bK;apply dc;apply au;refine nK [.z dO] (St.start _) rfl ?_
  obtain⟨g7,BZ,B0,ah,hm⟩:=DP hs (i:=0) rfl
  rw[←BZ]
  exact aF (aV rfl rfl (B0.ret ⟨bm,rfl,hm⟩))
def zV(b:fX)(mark time:Int):Int:=if mB mark then FP (wM b time) mark else 0
theorem Ib(v:Value)(b:fX)(mark time:Int)(g:G)(bI:iI g v b)(hb:DX b):CallsIn Wd 0 Tryz.prog 44 #[v,.int .i64 mark,.int .i64 time] g.w (cR g fun _ r=>r= .int .i64 (zV b mark time)):=by
 have hs:=St.start g
 have aq:=G.le.refl g
 obtain⟨sl,rfl,jr⟩:=bI
 have bI:iI g (.agg ((List.range 11).map sl).toArray) b:=⟨sl,rfl,jr⟩
 refine enter Tryz.func44 rfl Tryz.ntmps44 rfl ?_
 apply c_
 refine an rfl rfl (aR rfl hs rfl rfl ?_);clear hs;rintro b2 g1 hs ah;replace bI:=bI.mono ah
 obtain⟨g2,bR,aU,ah,aL⟩:=hs.a_ (i:=0) rfl;replace hs:=aU;clear aU;rw[←bR];replace bI:=bI.mono ah
 have aC:=aL;clear aL
 refine ba rfl ?_;apply aB;refine cP 1 rfl ?_
 refine an rfl rfl (ay wj aI rfl rfl rfl rfl rfl (tp mark _) ?_);rintro g1 _ aN rfl;replace hs:=hs.call aN;have ah:=aN.le;obtain⟨aC,bI⟩:=cC ah aC bI
 unfold zV
 cases mB mark with
 |false=>
  refine ba rfl ?_
  refine aJ rfl rfl ?_
  refine aX rfl ?_
  exact aF (aV rfl rfl (hs.ret rfl))
 |true=>
  refine ba rfl ?_
  refine aS rfl rfl ?_
  apply aE;apply au;refine dx 2 [.z aC] (St.start _) rfl ?_
  clear aN
  refine an rfl rfl (ay Lj aI rfl rfl rfl rfl rfl (QG _ b time _ bI hb) ?_);rintro g1 _ aN ⟨bm,rfl,hm⟩;replace hs:=hs.call aN;have ah:=aN.le
  refine Wp 1 rfl ?_
  clear aN
  refine an rfl rfl (ay Dd aI rfl rfl rfl rfl rfl (qT bm (wM b time) mark _ hm.2) ?_);rintro g2 _ aN rfl;replace hs:=hs.call aN
  refine ba rfl ?_
  exact aF (aV rfl rfl (hs.ret rfl))
end Go.Proofs.YtebobfdheanknaaGreatDoor
namespace Go.Proofs.YtebobfdheanknaaGreatDoor
open Go Go.K
set_option maxRecDepth 10000
attribute [local irreducible] W WL cT cn bX bA bB bD cW cG
set_option maxHeartbeats 1000000
def pF(b:fX)(w:Int):List bc:=if mB w then dK wJ (b.procs.filter fun f=>zV b f.waf f.time==w)else []
theorem Gw(x:bc)(_v:Value)(b:fX)(w:Int)(b1 b2:Nat)(sl:Nat→Value)(g:G)(aC:EP g b1 0 ((List.range 11).map sl))(aP:EP g b2 0 [.int .i64 w])(bI:iI g (.agg ((List.range 11).map sl).toArray) b)(hb:DX b):
  CallsIn Wd 0 Tryz.prog 117 #[fv x,.pointer (some ⟨b1,0,none⟩),.pointer (some ⟨b2,0,none⟩)] g.w (cR g fun _ r=>r= .bool (zV b x.waf x.time==w)):=by
 have hs:=St.start g
 have aq:=G.le.refl g
 refine enter Tryz.func117 rfl Tryz.ntmps117 rfl ?_
 apply c_
 refine an rfl rfl (aR rfl hs rfl rfl ?_);clear hs;rintro b3 g1 hs ah;obtain⟨aC,aP,bI⟩:=ef ah aC aP bI
 obtain⟨g2,bR,aU,ah,aL⟩:=hs.a_ (i:=0) rfl;replace hs:=aU;clear aU;rw[←bR];obtain⟨aC,aP,bI⟩:=ef ah aC aP bI
 have dO:=aL;clear aL
 refine ba rfl ?_;apply aB
 apply bO hs (fj []) 8 [(7,12)] (by kernel_rfl) rfl
 ·exact Dz [[],[],[1],[],[3],[0,2,4],[],[5,6]] [.z aC,.z dO,.z dO,.c KX fun g' h=>Ib (.agg ((List.range 11).map sl).toArray) b x.waf x.time g' (bI.mono h) hb,.z aP] hs (by kernel_rfl) rfl
 clear hs;intro g6 hs ah
 refine ba rfl ?_
 exact aF (aV rfl rfl (hs.ret rfl))
theorem D3(v:Value)(b:fX)(w:Int)(g:G)(bI:iI g v b)(hb:DX b):CallsIn Wd 0 Tryz.prog 45 #[v,.int .i64 w] g.w (cR g fun g' r=>Rs g' r (pF b w)):=by
 have hs:=St.start g
 have aq:=G.le.refl g
 obtain⟨sl,rfl,jr⟩:=bI
 have bI:iI g (.agg ((List.range 11).map sl).toArray) b:=⟨sl,rfl,jr⟩
 have aH:=jr 0 (by decide)
 refine enter Tryz.func45 rfl Tryz.ntmps45 rfl ?_
 apply c_
 refine an rfl rfl (aR rfl hs rfl rfl ?_);clear hs;rintro b2 g1 hs ah;obtain⟨aH,bI⟩:=cC ah aH bI
 obtain⟨g2,bR,aU,ah,aL⟩:=hs.a_ (i:=0) rfl;replace hs:=aU;clear aU;rw[←bR];obtain⟨aH,bI⟩:=cC ah aH bI
 have aC:=aL;clear aL
 skip
 refine an rfl rfl (aR rfl hs rfl rfl ?_);clear hs;rintro b3 g1 hs ah;obtain⟨aC,aH,bI⟩:=ef ah aC aH bI
 obtain⟨g2,bR,aU,ah,aL⟩:=hs.a_ (i:=0) rfl;replace hs:=aU;clear aU;rw[←bR];obtain⟨aC,aH,bI⟩:=ef ah aC aH bI
 have aP:=aL;clear aL
 refine ba rfl ?_;apply aB;refine dx 1 [.z aP] (St.start _) rfl ?_
 refine an rfl rfl (ay wj aI rfl rfl rfl rfl rfl (tp w _) ?_);rintro g1 _ aN rfl;replace hs:=hs.call aN;have ah:=aN.le;obtain⟨aC,aP,aH,bI⟩:=dE ah aC aP aH bI
 unfold pF
 cases mB w with
 |false=>
  refine ba rfl ?_
  refine aJ rfl rfl ?_
  refine aX rfl ?_
  exact aF (aV rfl rfl (hs.ret (Rs.nil _)))
 |true=>
  refine ba rfl ?_
  refine aS rfl rfl ?_
  apply aE;apply au;refine dx 3 [.z aC] (St.start _) rfl ?_
  clear aN
  refine an rfl rfl (ay HC aI rfl rfl rfl rfl rfl (vt _ _ b.procs (fun f=>zV b f.waf f.time==w) _ aH (hb 0) (fun g' x _ h=>de (first:=#[]) (args:=[fv x]) (captured:=#[.pointer (some ⟨b2,0,none⟩),.pointer (some ⟨b3,0,none⟩)]) Lk rfl (Gw x (.agg ((List.range 11).map sl).toArray) b w b2 b3 sl g' (aC.mono h) (aP.mono h) (bI.mono h) hb))) ?_);rintro g1 _ aN aT;replace hs:=hs.call aN;have ah:=aN.le
  refine ba rfl ?_
  exact aF (aV rfl rfl (hs.ret aT))
def zY(w time:Int)(f:bc):Bool:=((mB w&&f.waf==w)&&decide (f.time≤time))
def n5(w time:Int)(o:Option bc)(f:bc):Option bc:=if zY w time f&&(match o with|none=>true|some h=>decide (h.time<f.time))then some f else o
def pG(b:fX)(w time:Int):Option bc:=b.jw.foldl (n5 w time) none
def yd(g:G)(v:Value):Option bc→Prop
 |none=>v= .pointer none
 |some f=> ∃b p,v= .pointer (some ⟨b,p,none⟩)∧EP g b p (bW f)
theorem yd.mono{g g':G}{v:Value}: ∀{o:Option bc},yd g v o→g.le g'→yd g' v o
 |none,h,_=>h
 |some _,⟨b,p,e,h⟩,hle=>⟨b,p,e,h.mono hle⟩
theorem D4(v:Value)(b:fX)(w time:Int)(g:G)(bI:iI g v b):CallsIn Wd 0 Tryz.prog 26 #[v,.int .i64 w,.int .i64 time] g.w (cR g fun _ r=>r= .tuple #[.int .i64 ((pG b w time).getD gF).lot,.int .i64 ((pG b w time).getD gF).prod]):=by
 have hs:=St.start g
 have aq:=G.le.refl g
 obtain⟨sl,rfl,jr⟩:=bI
 have aH:Rs g (sl 3) b.jw:=jr 3 (by decide)
 obtain⟨a,c,uT⟩:=aH.isSlice
 have hlen:=aH.dU
 unfold maxLen at hlen
 refine enter Tryz.func26 rfl Tryz.ntmps26 rfl ?_
 apply c_
 refine an rfl rfl (aR rfl hs rfl rfl ?_);clear hs;rintro b2 g1 hs ah;obtain⟨aq,aH⟩:=cC ah aq aH
 obtain⟨g2,bR,aU,ah,aL⟩:=hs.a_ (i:=0) rfl;replace hs:=aU;clear aU;rw[←bR];obtain⟨aq,aH⟩:=cC ah aq aH
 have aC:=aL;clear aL
 refine ba rfl ?_;refine aX rfl ?_;apply aB;refine dx 2 [.z aC] (St.start _) rfl ?_
 refine cE (.slice a b.jw.length c) (t:=12) rfl uT ?_
 rw[uT]at aH
 refine ba rfl ?_;apply aG
 replace hs:St g _ []:=hs
 refine bS (fun m a' w'=> ∃(i:Nat) (v8:Value) (o:Option bc) (g':G),w'=g'.w∧St g g' []∧G.le g g'∧Rs g' (.slice a b.jw.length c) b.jw∧EP g' b2 0 ((List.range 11).map sl)∧yd g' v8 o∧i≤b.jw.length∧(b.jw.take i).foldl (n5 w time) none=o∧m=b.jw.length-i∧
   Fr 61 [] [(1,.int .i64 w),(2,.int .i64 time),(3,.pointer (some ⟨b2,0,none⟩)),(8,v8),(12,.slice a b.jw.length c),(13,.int .i64 (b.jw.length:Nat)),(14,.int .i64 (i:Nat))] a') b.jw.length
  (fun a' ha=>⟨0,.pointer none,none,_,rfl,hs,aq,aH,aC,rfl,Nat.zero_le _,rfl,rfl,ha.keep (by(repeat (first|exact trivial|refine⟨rfl,?_⟩)))⟩) ?_
 clear hs aH aq aC
 rintro m a' _ ⟨i,v8,o,g',rfl,hs,aq,aH,aC,rY,hi,ly,rfl,eI⟩
 revert a'
 apply cQ;refine aX rfl ?_;apply aB
 by_cases bh:i<b.jw.length
 ·refine aJ (b:=decide ((i:Int)<(b.jw.length:Int))) (decide_eq_true (by omega)) rfl ?_
  have ic:dA b.jw (i:Int)=some b.jw[i]:=cU rfl bh
  have cB:(b.jw.take (i+1)).foldl (n5 w time) none=n5 w time o b.jw[i]:=by
   rw[List.take_add_one,List.getElem?_eq_getElem bh,List.foldl_append,ly];rfl
  generalize b.jw[i]=x at*
  clear ly
  apply aE;apply au;apply aB;apply aG;refine cP 1 rfl ?_
  refine an rfl rfl (aW T.ok rfl aH (y:=x) ic rfl rfl rfl rfl rfl rfl ?_)
  rintro b9 q9 ys aL rfl
  have aP:=aL;clear aL
  refine Wm 1 [.e aP 0] (St.start _) rfl ?_
  refine an rfl rfl (aK T.ok rfl hs rfl rfl ?_);clear hs;rintro IL g1 hs ah;obtain⟨aq,aC,aP,aH⟩:=dE ah aq aC aP aH
  replace rY:=rY.mono ah
  refine Wp 1 rfl ?_
  refine bg rfl (aA T.ok 0 rfl hs rfl rfl rfl rfl rfl rfl rfl rfl rfl ?_);replace hs:=hs;rintro g1 hs ah;obtain⟨aq,aC,aP,aH⟩:=dE ah aq aC aP aH
  replace rY:=rY.mono ah
  obtain⟨g2,bR,aU,ah,aL⟩:=hs.a_ (i:=0) rfl;replace hs:=aU;clear aU;rw[←bR];obtain⟨aq,aC,aP,aH⟩:=dE ah aq aC aP aH
  replace rY:=rY.mono ah
  clear aP
  have aP:=aL;clear aL
  replace hs:St g _ []:=hs
  apply cf;apply aB
  have hid:=fun g'=>tp w g'
  cases h1:mB w with
  |false=>
   simp only[h1]at hid
   apply bO hs (fj (fj (fj (eJ (fe []))))) 27 [(26,45)] (by kernel_rfl) rfl
   ·exact Dz [[],[0],[1,1],[2],[3,2],[2],[4,5,2],[2,6],[7],[8],[9,8],[8],[10,11,8],[8,12],[13],[14],[15,14],[16,14,14],[17],[18,17],[17],[20,17],[21,17],[22,17],[19,23,17],[17,24,14],[14,25]] [.c wj fun g' _=>hid g'] hs (by kernel_rfl) rfl
   clear hs;intro g6 hs ah;obtain⟨aq,aC,aP,aH⟩:=dE ah aq aC aP aH
   replace rY:=rY.mono ah
   apply cf
   refine aS rfl rfl ?_
   apply aE;apply bU;apply au;apply ar;refine Wp 2 rfl ?_;apply aD
   have e:n5 w time o x=o:=by unfold n5 zY;simp[h1]
   rw[e]at cB
   exact fun a ha=>⟨b.jw.length-(i+1),by omega,i+1,v8,o,_,rfl,hs,aq,aH,aC,rY,by omega,cB,rfl,ha.keep ⟨rfl,rfl,rfl,rfl,rfl,rfl,kI rfl (by rw[wr (by omega) (by omega)];omega),trivial⟩⟩
  |true=>
   simp only[h1]at hid
   cases h2:x.waf==w with
   |false=>
    apply bO hs (gE (eJ (.e (.bool false)::fj (fj (gE []))))) 27 [(26,45)] (by kernel_rfl) rfl
    ·refine Dm [[],[0],[1,1],[2],[3,2],[2]] [.c wj fun g' _=>hid g',.z aP] hs (by kernel_rfl) rfl ?_
     refine aw (ak (js:=[(4,23),(5,24),(2,21)]) (by kernel_rfl) fun gd hf=>ai rfl (ai rfl (ai rfl (aj (az rfl (aM _ T.ok rfl ⟨gd,rfl,aZ.refl _,congrArg Value.bool h2⟩)))))) ?_
     exact Dz [[2,6],[7],[8],[9,8],[8],[10,11,8],[8,12],[13],[14],[15,14],[16,14,14],[17],[18,17],[17],[20,17],[21,17],[22,17],[19,23,17],[17,24,14],[14,25]] [] hs (by kernel_rfl) rfl
    clear hs;intro g6 hs ah;obtain⟨aq,aC,aP,aH⟩:=dE ah aq aC aP aH
    replace rY:=rY.mono ah
    apply cf
    refine aS rfl rfl ?_
    apply aE;apply bU;apply au;apply ar;refine Wp 2 rfl ?_;apply aD
    have e:n5 w time o x=o:=by unfold n5 zY;simp[h1,h2]
    rw[e]at cB
    exact fun a ha=>⟨b.jw.length-(i+1),by omega,i+1,v8,o,_,rfl,hs,aq,aH,aC,rY,by omega,cB,rfl,ha.keep ⟨rfl,rfl,rfl,rfl,rfl,rfl,kI rfl (by rw[wr (by omega) (by omega)];omega),trivial⟩⟩
   |true=>
    cases h3:decide (x.time≤time)with
    |false=>
     apply bO hs (gE (eJ (.e (.bool true)::gE (fe (.e (.bool false)::fj (gE (eJ []))))))) 27 [(26,45)] (by kernel_rfl) rfl
     ·refine Dm [[],[0],[1,1],[2],[3,2],[2]] [.c wj fun g' _=>hid g',.z aP] hs (by kernel_rfl) rfl ?_
      refine aw (ak (js:=[(4,23),(5,24),(2,21)]) (by kernel_rfl) fun gd hf=>ai rfl (ai rfl (ai rfl (aj (az rfl (aM _ T.ok rfl ⟨gd,rfl,aZ.refl _,congrArg Value.bool h2⟩)))))) ?_
      refine Dm [[2,6],[7],[8],[9,8],[8]] [.z aP] hs (by kernel_rfl) rfl ?_
      refine aw (ak (js:=[(10,29),(11,30),(8,27)]) (by kernel_rfl) fun gd hf=>ai rfl (ai rfl (ai rfl (aj (az rfl (aM _ T.ok rfl ⟨gd,rfl,aZ.refl _,congrArg Value.bool h3⟩)))))) ?_
      exact Dz [[8,12],[13],[14],[15,14],[16,14,14],[17],[18,17],[17],[20,17],[21,17],[22,17],[19,23,17],[17,24,14],[14,25]] [] hs (by kernel_rfl) rfl
     clear hs;intro g6 hs ah;obtain⟨aq,aC,aP,aH⟩:=dE ah aq aC aP aH
     replace rY:=rY.mono ah
     apply cf
     refine aS rfl rfl ?_
     apply aE;apply bU;apply au;apply ar;refine Wp 2 rfl ?_;apply aD
     have e:n5 w time o x=o:=by unfold n5 zY;simp[h1,h2,of_decide_eq_false h3]
     rw[e]at cB
     exact fun a ha=>⟨b.jw.length-(i+1),by omega,i+1,v8,o,_,rfl,hs,aq,aH,aC,rY,by omega,cB,rfl,ha.keep ⟨rfl,rfl,rfl,rfl,rfl,rfl,kI rfl (by rw[wr (by omega) (by omega)];omega),trivial⟩⟩
    |true=>
     cases o with
     |none=>
      obtain rfl:v8= .pointer none:=rY
      have he:n5 w time none x=some x:=by unfold n5 zY;rw[h1,h2,h3];rfl
      apply bO hs (gE (eJ (.e (.bool true)::gE (fe (.e (.bool true)::fj (gE (eJ []))))))) 27 [(26,45)] (by kernel_rfl) rfl
      ·refine Dm [[],[0],[1,1],[2],[3,2],[2]] [.c wj fun g' _=>hid g',.z aP] hs (by kernel_rfl) rfl ?_
       refine aw (ak (js:=[(4,23),(5,24),(2,21)]) (by kernel_rfl) fun gd hf=>ai rfl (ai rfl (ai rfl (aj (az rfl (aM _ T.ok rfl ⟨gd,rfl,aZ.refl _,congrArg Value.bool h2⟩)))))) ?_
       refine Dm [[2,6],[7],[8],[9,8],[8]] [.z aP] hs (by kernel_rfl) rfl ?_
       refine aw (ak (js:=[(10,29),(11,30),(8,27)]) (by kernel_rfl) fun gd hf=>ai rfl (ai rfl (ai rfl (aj (az rfl (aM _ T.ok rfl ⟨gd,rfl,aZ.refl _,congrArg Value.bool h3⟩)))))) ?_
       refine Dm [[8,12],[13],[14]] [] hs (by kernel_rfl) rfl ?_
       refine aw (ak (js:=[(15,34),(14,33)]) (by kernel_rfl) fun gd hf=>ai rfl (ai rfl (aj (az rfl (gS T.ok (neg:=false) rfl rfl rfl rfl rfl ⟨gd,rfl,aZ.refl _,rfl⟩))))) ?_
       exact Dz [[16,14,14],[17],[18,17],[17],[20,17],[21,17],[22,17],[19,23,17],[17,24,14],[14,25]] [] hs (by kernel_rfl) rfl
      clear hs;intro g6 hs ah;obtain⟨aq,aC,aP,aH⟩:=dE ah aq aC aP aH
      apply cf
      refine aJ rfl rfl ?_
      apply ar;refine Wm 3 [.z aC] (St.start _) rfl ?_
      refine cE (.slice a b.jw.length c) (t:=47) rfl uT ?_
      refine an rfl rfl (aW T.ok rfl aH (y:=x) ic rfl rfl rfl rfl rfl rfl ?_)
      rintro b6 q6 ys aL rfl
      refine Wp 1 rfl ?_;apply aD;apply bU;apply au;apply ar;refine Wp 2 rfl ?_;apply aD
      rw[he]at cB
      exact fun a ha=>⟨b.jw.length-(i+1),by omega,i+1,.pointer (some ⟨b6,q6,none⟩),some x,_,rfl,hs,aq,aH,aC,⟨b6,q6,rfl,aL⟩,by omega,cB,rfl,ha.keep ⟨rfl,rfl,rfl,rfl,rfl,rfl,kI rfl (by rw[wr (by omega) (by omega)];omega),trivial⟩⟩
     |some h=>
      obtain⟨b8,p8,rfl,Eg⟩:=rY
      apply bO hs (gE (eJ (.e (.bool true)::gE (fe (.e (.bool true)::fj (gE (eJ []))))))) 27 [(26,45)] (by kernel_rfl) rfl
      ·refine Dm [[],[0],[1,1],[2],[3,2],[2]] [.c wj fun g' _=>hid g',.z aP] hs (by kernel_rfl) rfl ?_
       refine aw (ak (js:=[(4,23),(5,24),(2,21)]) (by kernel_rfl) fun gd hf=>ai rfl (ai rfl (ai rfl (aj (az rfl (aM _ T.ok rfl ⟨gd,rfl,aZ.refl _,congrArg Value.bool h2⟩)))))) ?_
       refine Dm [[2,6],[7],[8],[9,8],[8]] [.z aP] hs (by kernel_rfl) rfl ?_
       refine aw (ak (js:=[(10,29),(11,30),(8,27)]) (by kernel_rfl) fun gd hf=>ai rfl (ai rfl (ai rfl (aj (az rfl (aM _ T.ok rfl ⟨gd,rfl,aZ.refl _,congrArg Value.bool h3⟩)))))) ?_
       refine Dm [[8,12],[13],[14]] [] hs (by kernel_rfl) rfl ?_
       refine aw (ak (js:=[(15,34),(14,33)]) (by kernel_rfl) fun gd hf=>ai rfl (ai rfl (aj (az rfl (gS T.ok (neg:=false) rfl rfl rfl rfl rfl ⟨gd,rfl,aZ.refl _,rfl⟩))))) ?_
       exact Dz [[16,14,14],[17],[18,17],[17],[20,17],[21,17],[22,17],[19,23,17],[17,24,14],[14,25]] [.z aP,.e Eg 5] hs (by kernel_rfl) rfl
      cases h4:decide (h.time<x.time)with
      |false=>
       have rY:yd _ (.pointer (some ⟨b8,p8,none⟩)) (some h):=⟨b8,p8,rfl,Eg⟩
       obtain⟨v8,Ul⟩: ∃v,v=Value.pointer (some ⟨b8,p8,none⟩):=⟨_,rfl⟩
       rw[←Ul]at rY⊢
       obtain⟨o,ho⟩: ∃o,o=some h:=⟨_,rfl⟩
       rw[←ho]at rY cB
       clear hs;intro g6 hs ah;obtain⟨aq,aC,aH⟩:=ef ah aq aC aH
       replace rY:=rY.mono ah
       apply cf
       refine aS rfl rfl ?_
       apply aE;apply bU;apply au;apply ar;refine Wp 2 rfl ?_;apply aD
       have e:n5 w time o x=o:=by unfold n5 zY;simp[h1,h2,h3,h4,ho]
       rw[e]at cB
       exact fun a ha=>⟨b.jw.length-(i+1),by omega,i+1,v8,o,_,rfl,hs,aq,aH,aC,rY,by omega,cB,rfl,ha.keep ⟨rfl,rfl,rfl,rfl,rfl,rfl,kI rfl (by rw[wr (by omega) (by omega)];omega),trivial⟩⟩
      |true=>
       have he:n5 w time (some h) x=some x:=by unfold n5 zY;rw[h1,h2,h3];exact if_pos h4
       clear hs;intro g6 hs ah;obtain⟨aq,aC,aH⟩:=ef ah aq aC aH
       apply cf
       refine aJ rfl rfl ?_
       apply ar;refine Wm 3 [.z aC] (St.start _) rfl ?_
       refine cE (.slice a b.jw.length c) (t:=47) rfl uT ?_
       refine an rfl rfl (aW T.ok rfl aH (y:=x) ic rfl rfl rfl rfl rfl rfl ?_)
       rintro b6 q6 ys aL rfl
       refine Wp 1 rfl ?_;apply aD;apply bU;apply au;apply ar;refine Wp 2 rfl ?_;apply aD
       rw[he]at cB
       exact fun a ha=>⟨b.jw.length-(i+1),by omega,i+1,.pointer (some ⟨b6,q6,none⟩),some x,_,rfl,hs,aq,aH,aC,⟨b6,q6,rfl,aL⟩,by omega,cB,rfl,ha.keep ⟨rfl,rfl,rfl,rfl,rfl,rfl,kI rfl (by rw[wr (by omega) (by omega)];omega),trivial⟩⟩
 ·refine aS (b:=decide ((i:Int)<(b.jw.length:Int))) (decide_eq_false (by omega)) rfl ?_
  rw[List.take_of_length_le (by omega)]at ly
  unfold pG
  rw[ly]
  clear ly
  apply bE;apply bK;apply bK;apply dc;apply au;apply aB;refine cP 1 rfl ?_
  cases o with
  |none=>
   obtain rfl:v8= .pointer none:=rY
   refine an rfl rfl (gS T.ok (neg:=false) rfl rfl rfl rfl rfl ?_)
   apply cf
   refine aJ rfl rfl ?_
   refine aX rfl ?_
   exact aF (rT rfl rfl rfl (hs.ret rfl))
  |some h=>
   obtain⟨b8,p8,rfl,Eg⟩:=rY
   refine an rfl rfl (gS T.ok (neg:=false) rfl rfl rfl rfl rfl ?_)
   apply cf
   refine aS rfl rfl ?_
   apply aE;apply au;apply aB
   refine oG (l':=[(8,.pointer (some ⟨b8,p8,none⟩))]) (by(repeat (first|exact trivial|refine⟨rfl,?_⟩))) ?_
   apply bO hs (fj (fe [])) 9 [(8,6),(7,60)] (by kernel_rfl) rfl
   ·exact Dz [[],[0],[1],[2],[],[4],[5],[6],[3,3]] [.e Eg 9,.e Eg 10] hs (by kernel_rfl) rfl
   clear hs;intro g6 hs ah
   refine ba rfl ?_
   exact aF (rT rfl rfl rfl (hs.ret rfl))
end Go.Proofs.YtebobfdheanknaaGreatDoor
namespace Go.K
open Go Go.RowKit
variable {F:Fence} {P:Program} {N:Nat} {ds:List Deferred} {l l':Env} {a:Act} {w:World} {Q:Exit→Act→World→Prop} {ops:Array Oper} {os:List Oper} {o:Oper}
variable {g0 g:G} {L:List cV} {K:Value→World→Prop} {R:Ending→World→Prop}
def wQ{α:Type}(P:Program)(jR:FuncId)(eG:Array Value)(fU:α→List Value)(A Z:List α→Prop)(g:G):Prop:=
 ∀(g1:G),g.le g1→ ∀(yv:Value) (g0:G) (I Ix:List α→List cV→G→Prop),(∀pre L g g',g.le g'→I pre L g→I pre L g')→(∀pre L g g',g.le g'→Ix pre L g→Ix pre L g')→
  (∀M pre x L g2,A (pre++[x])→g1.le g2→St g0 g2 (M++L)→I pre L g2→ir P yv (fU x) g2.w fun e w'=> ∃g3 b L',g3.w=w'∧e= .returned (.bool b)∧g2.le g3∧St g0 g3 (M++L')∧(b=true→I (pre++[x]) L' g3)∧(b=false→Ix (pre++[x]) L' g3))→
  ∀L,St g0 g1 L→I [] L g1→CallsIn Wd 0 P jR (yv::eG.toList).toArray g1.w fun e w'=> ∃g2 v L',g2.w=w'∧e= .returned v∧g1.le g2∧St g0 g2 L'∧((∃xs,Z xs∧I xs L' g2)∨ ∃pre,A pre∧Ix pre L' g2)
theorem wQ.mono{α:Type}{jR:FuncId}{eG:Array Value}{fU:α→List Value}{A Z:List α→Prop}{g g':G}(h:wQ P jR eG fU A Z g)(hle:g.le g'):wQ P jR eG fU A Z g':=fun g1 h1=>h g1 (hle.trans h1)
theorem sM.SB{α:Type}{jR:FuncId}{eG:Array Value}{fU:α→List Value}{xs:List α}(h:sM P jR eG fU xs g):wQ P jR eG fU (fun pre=>pre<+:xs) (fun ys=>ys=xs) g:=by
 intro g1 h1 yv g0 I Ix hI zo hb L hs h0
 refine CallsIn.mono (h g1 h1 yv (fun pre g=> ∃L,St g0 g L∧I pre L g) (fun pre g=> ∃L,St g0 g L∧Ix pre L g) (fun pre g g' hf ⟨L,a,b⟩=>⟨L,a.call hf,hI _ _ _ _ hf.le b⟩) (fun pre g g' hf ⟨L,a,b⟩=>⟨L,a.call hf,zo _ _ _ _ hf.le b⟩)
  (fun pre x rest g2 jm hle ⟨L,a,b⟩=>(hb [] pre x L g2 ⟨rest,by rw[jm];simp⟩ hle a b).mono ?_) ⟨L,hs,h0⟩) ?_
 ·rintro e w' ⟨g3,bv,L',a1,a2,a3,a4,a5,a6⟩
  exact⟨g3,bv,a1,a2,a3,fun h=>⟨L',a4,a5 h⟩,fun h=>⟨L',a4,a6 h⟩⟩
 ·rintro e w' ⟨g2,v,a1,a2,a3,⟨L',a4,a5⟩|⟨pre,hp,L',a4,a5⟩⟩
  ·exact⟨g2,v,L',a1,a2,a3,a4,.inl ⟨xs,rfl,a5⟩⟩
  ·exact⟨g2,v,L',a1,a2,a3,a4,.inr ⟨pre,hp,a5⟩⟩
theorem Bx{α:Type}(M:List α)(X:α){y:α}(L:List α):(M++(X::y::L)).Perm (X::y::(L++M)):=
 List.perm_middle.trans ((List.perm_middle.trans (List.perm_append_comm.cons y)).cons X)
theorem s_{α:Type}{jR:FuncId}{eG:Array Value}{fU:α→List Value}{A Z:List α→Prop}{f:Operand}{ps:Array Tmp}{assign body:Code}
  (hs:St g0 g L) (hf:ev l f=some (.func (.func jR) #[] eG)) (nh:ag P jR) (qG:wQ P jR eG fU A Z g) (sO:(ps.toList.all fun t=>Nat.blt t N)=true) (Od: ∀x,(fU x).length=ps.size)
  (I:List α→List cV→G→Prop) (Ix:Code→List α→List cV→G→Prop) (hI: ∀pre L g g',g.le g'→I pre L g→I pre L g') (zo: ∀c pre L g g',g.le g'→Ix c pre L g→Ix c pre L g')
  (h0:I [] L g) (B:List α→α→List cV→Env→G→Prop) (hB: ∀pre x L la g g',g.le g'→B pre x L la g→B pre x L la g')
  (pU: ∀lp D (ro:LoopState→Obj) pre x gr Lr M,A (pre++[x])→g.le gr→St g0 gr (.obj lp (ro .ready):: .obj D fM::(Lr++M))→I pre Lr gr→
   W {Wd with round:=some lp} P N [] assign (Exit.then (fun a w'=> ∃g2 L2 la,w'=g2.w∧gr.le g2∧St g0 g2 (.obj lp (ro .ready):: .obj D fM::(L2++M))∧B pre x L2 la g2∧Fr N [] la a) (fun _ _ _=>False)) (jE ps.toList (fU x) l) gr.w)
  (pV: ∀lp D (ro:LoopState→Obj) pre x gr Lr la M,A (pre++[x])→g.le gr→St g0 gr (.obj lp (ro .busy):: .obj D fM::(Lr++M))→B pre x Lr la gr→
   W {Wd with round:=some lp} P N [] body (Aj (fun L' g'=> ∃uL,L'=uL++M∧I (pre++[x]) uL g') (fun c L' g'=> ∃uL,L'=uL++M∧Ix c (pre++[x]) uL g') g0 gr lp D ro) la gr.w)
  (jT: ∀lp D o xs Lr ge,Z xs→g.le ge→St g0 ge (.obj lp o:: .obj D fM::Lr)→I xs Lr ge→ ∀a,Fr N (⟨.collected D,#[]⟩::ds) l a→Q .normal a ge.w)
  (yG: ∀c lp D o pre Lr ge,A pre→g.le ge→St g0 ge (.obj lp o:: .obj D fM::Lr)→Ix c pre Lr ge→W Wd P N (⟨.collected D,#[]⟩::ds) c Q l ge.w):
  W Wd P N ds (.rangeFunc f ps assign body) Q l g.w:=by
 intro a ha
 refine wpIn_rangeFunc fun fn _=>?_
 let ro:LoopState→Obj:=fun st=>iV fn a.tmps ps assign body g.w.heap.size st none
 have mK:=hs.al fM
 have aU:=mK.1.al (ro .ready)
 have cS:(g.al fM).w.heap.size=g.w.heap.size+1:=by simp[G.al]
 let g2:=(g.al fM).al (ro .ready)
 have sb:g.le g2:=mK.2.trans aU.2
 refine⟨g.w.heap.size+1,[⟨.collected g.w.heap.size,#[]⟩],g2.w,⟨.fn (.func jR) eG,#[.func (.yield (g.w.heap.size+1)) #[] #[]]⟩,g2.w,jR,(.func (.yield (g.w.heap.size+1)) #[] #[]::eG.toList).toArray,g2.w,?_,?_,fun _ _=>trivial,?_,fun h=>(by cases h),?_⟩
 ·exact run_enterLoop_outer fn a.tmps ps assign body
 ·simp only[resolve,ha.ev hf,Deferred.ofValue]
  simp[Act.eval,g2]
 ·have e:#[Value.func (.yield (g.w.heap.size+1)) #[] #[]]++eG=(.func (.yield (g.w.heap.size+1)) #[] #[]::eG.toList).toArray:=by apply Array.ext';simp
  rw[←e]
  exact gV nh _
 ·--zp tT pR,with Oe holds Bq zp rounds
  have xd:St g0 g2 (.obj (g.w.heap.size+1) (ro .ready):: .obj g.w.heap.size fM::L):=by
   have:=aU.1
   rw[cS]at this
   exact this
  refine CallsIn.mono (qG g2 sb (.func (.yield (g.w.heap.size+1)) #[] #[]) g0
   (fun pre L g'=>g.le g'∧ ∃Lr,L= .obj (g.w.heap.size+1) (ro .ready):: .obj g.w.heap.size fM::Lr∧I pre Lr g')
   (fun pre L g'=>g.le g'∧ ∃c Lr,L= .obj (g.w.heap.size+1) (iV fn a.tmps ps assign body g.w.heap.size .done (some c)):: .obj g.w.heap.size fM::Lr∧Ix c pre Lr g')
   (fun pre L ga gb hf ⟨h1,Lr,h2,h3⟩=>⟨h1.trans hf,Lr,h2,hI _ _ _ _ hf h3⟩)
   (fun pre L ga gb hf ⟨h1,c,Lr,h2,h3⟩=>⟨h1.trans hf,c,Lr,h2,zo _ _ _ _ _ hf h3⟩) ?_ _ xd ⟨sb,L,rfl,hI _ _ _ _ sb h0⟩) ?_
  ·--one round
   rintro M pre x _ gp jm Of RH ⟨oV,Lr,rfl,hi⟩
   have dm:St g0 gp (.obj (g.w.heap.size+1) (ro .ready):: .obj g.w.heap.size fM::(Lr++M)):=RH.perm (Bx M _ Lr)
   have mi:gp.w.heap[g.w.heap.size+1]? =some (ro .ready):=(dm.own 0 _ rfl).2.1
   refine⟨fn,_,assign,body,run_yield mi (by simpa [iV]using Od x),?_⟩
   refine roundIn_of_wpIn trivial ?_
   have Cv:Fr N [] (jE ps.toList (fU x) l) {tmps:=(ps.zip (#[]++(fU x).toArray)).foldl (fun tmps (x:Nat×Value)=>tmps.setIfInBounds x.1 x.2) a.tmps,defers:=[]}:=by
    have h:=xe (N:=N) ps.toList (fU x) l a.tmps sO ⟨rfl,ha.size,ha.get⟩
    have e:(ps.zip (#[]++(fU x).toArray)).foldl (fun tmps (x:Nat×Value)=>tmps.setIfInBounds x.1 x.2) a.tmps=(ps.toList.zip (fU x)).foldl (fun tmps (x:Nat×Value)=>tmps.setIfInBounds x.1 x.2) a.tmps:=by
     rw[←Array.foldl_toList];simp
    rw[e]
    exact h
   refine Go.wpIn_mono (pU _ _ ro pre x _ Lr M jm oV dm hi _ Cv) fun e a1 w1 he=>?_
   cases e with
   |normal=>
    obtain⟨gq,Lq,la,rfl,RI,Oq,Vo,xf⟩:=he
    have Ot:gq.w.heap[g.w.heap.size+1]? =some (ro .ready):=(Oq.own 0 _ rfl).2.1
    have hb:=Oq.po (i:=0) (o':=ro .busy) rfl
    have Ik:=RI.trans hb.2
    refine⟨(gq.po (g.w.heap.size+1) (ro .busy)).w,run_beginRound Ot rfl,?_⟩
    have EX:St g0 (gq.po (g.w.heap.size+1) (ro .busy)) (.obj (g.w.heap.size+1) (ro .busy):: .obj g.w.heap.size fM::(Lq++M)):=hb.1
    refine Go.wpIn_mono (pV _ _ ro pre x _ Lq la M jm (oV.trans Ik) EX (hB _ _ _ _ _ _ hb.2 Vo) a1 xf) fun e a2 w2 he=>?_
    cases e with
    |normal=>
     obtain⟨_,g',rfl,jO,fL,L',rfl,hi'⟩:=he
     have jP:g'.w.heap[g.w.heap.size+1]? =some (ro .busy):=(jO.own 0 _ rfl).2.1
     have hp:=jO.po (i:=0) (o':=ro .ready) rfl
     refine⟨_,_,run_endRound none jP,g'.po (g.w.heap.size+1) (ro .ready),true,_,rfl,rfl,(Ik.trans fL).trans hp.2,hp.1.perm (Bx M _ L').symm,fun _=>⟨((oV.trans Ik).trans fL).trans hp.2,L',rfl,hI _ _ _ _ hp.2 hi'⟩,fun h=>(by cases h)⟩
    |ret=>
     obtain⟨_,g',rfl,jO,fL,L',rfl,hi'⟩:=he
     have jP:g'.w.heap[g.w.heap.size+1]? =some (ro .busy):=(jO.own 0 _ rfl).2.1
     have hp:=jO.po (i:=0) (o':=iV fn a.tmps ps assign body g.w.heap.size .done (some .ret)) rfl
     refine⟨_,_,run_endRound (some .ret) jP,g'.po (g.w.heap.size+1) (iV fn a.tmps ps assign body g.w.heap.size .done (some .ret)),false,_,rfl,rfl,(Ik.trans fL).trans hp.2,hp.1.perm (Bx M _ L').symm,fun h=>(by cases h),
      fun _=>⟨((oV.trans Ik).trans fL).trans hp.2,.ret,L',rfl,zo _ _ _ _ _ hp.2 hi'⟩⟩
    |exit id=>
     obtain⟨_,g',rfl,jO,fL,L',rfl,hi'⟩:=he
     have jP:g'.w.heap[g.w.heap.size+1]? =some (ro .busy):=(jO.own 0 _ rfl).2.1
     have hp:=jO.po (i:=0) (o':=iV fn a.tmps ps assign body g.w.heap.size .done (some (.exit id))) rfl
     refine⟨_,_,run_endRound (some (.exit id)) jP,g'.po (g.w.heap.size+1) (iV fn a.tmps ps assign body g.w.heap.size .done (some (.exit id))),false,_,rfl,rfl,(Ik.trans fL).trans hp.2,hp.1.perm (Bx M _ L').symm,fun h=>(by cases h),
      fun _=>⟨((oV.trans Ik).trans fL).trans hp.2,.exit id,L',rfl,zo _ _ _ _ _ hp.2 hi'⟩⟩
    |goto t=>exact he.elim
    |panic c=>exact he.elim
    |outgrown=>exact he.elim
   |exit id=>exact he.elim
   |goto t=>exact he.elim
   |ret=>exact he.elim
   |panic c=>exact he.elim
   |outgrown=>exact he.elim
  ·--zp iterator has ended
   rintro e w' ⟨ge,v,_,rfl,rfl,fL,dm,h⟩
   have yH:Fr N (⟨.collected g.w.heap.size,#[]⟩::ds) l {a with defers:=[⟨.collected g.w.heap.size,#[]⟩]++a.defers}:=⟨by simp[ha.defers],ha.size,ha.get⟩
   rcases h with⟨xs,hz,hle,Lr,rfl,hi⟩|⟨pre,gD,hle,c,Lr,rfl,hi⟩
   ·have mi:ge.w.heap[g.w.heap.size+1]? =some (ro .ready):=(dm.own 0 _ rfl).2.1
    have hp:=dm.po (i:=0) (o':=iV fn a.tmps ps assign body g.w.heap.size .exhausted none) rfl
    exact⟨none,_,run_endLoop mi (by simp),jT _ _ _ xs Lr (ge.po _ _) hz (hle.trans hp.2) hp.1 (hI _ _ _ _ hp.2 hi) _ yH⟩
   ·have mi:ge.w.heap[g.w.heap.size+1]? =some (iV fn a.tmps ps assign body g.w.heap.size .done (some c)):=(dm.own 0 _ rfl).2.1
    have hp:=dm.po (i:=0) (o':=iV fn a.tmps ps assign body g.w.heap.size .exhausted (some c)) rfl
    exact⟨some c,_,run_endLoop mi (by simp),yG c _ _ _ pre Lr (ge.po _ _) gD (hle.trans hp.2) hp.1 (zo _ _ _ _ _ hp.2 hi) _ yH⟩
end Go.K
namespace Go.Proofs.YtebobfdheanknaaGreatDoor
open Go Go.K
set_option maxRecDepth 10000
attribute [local irreducible] W WL cT cn bX bA bB bD cW cG
set_option maxHeartbeats 1000000
structure oi where
 want:Int
 shift:Int
 is:Int
def oi.cells(c:oi):List Value:=[.int .i64 c.want,.int .i64 c.shift,.int .i64 c.is]
instance:El oi where
 k:=3
 pos:=by omega
 rc _ cs c:=cs=c.cells
 len h:=by rw[h];rfl
 mono _ h:=h
 one h:=by rw[h];simp[oi.cells,Value.oneCell']
abbrev oi.v(c:oi):Value:=.agg c.cells.toArray
def rZ(c:oi):Bool:=c.want==0||(decide (c.is≤c.want)&&(IntKind.i64.wrap (c.want-c.shift)==c.is))
theorem Gx(c:oi)(g:G):CallsIn Wd 0 Tryz.prog 254 #[c.v] g.w (cR g fun _ r=>r= .bool (rZ c)):=by
 have hs:=St.start g
 refine enter Tryz.func254 rfl Tryz.ntmps254 rfl ?_
 apply c_
 refine an rfl rfl (aR rfl hs rfl rfl ?_);clear hs;rintro b1 g1 hs ah;skip
 obtain⟨g2,bR,aU,ah,aL⟩:=hs.a_ (i:=0) rfl;replace hs:=aU;clear aU;rw[←bR];skip
 have aC:=aL;clear aL
 refine ba rfl ?_;refine dx 4 [.z aC] (St.start _) rfl ?_
 unfold rZ
 cases c.want==0 with
 |true=>
  refine ba rfl ?_
  exact aF (aV rfl rfl (hs.ret rfl))
 |false=>
  refine Wm 6 [.z aC,.z aC] (St.start _) rfl ?_
  cases decide (c.is≤c.want)with
  |true=>
   refine A3 [.z aC,.z aC,.z aC] (St.start _) rfl ?_
   exact aF (aV rfl rfl (hs.ret rfl))
  |false=>
   refine ba rfl ?_
   exact aF (aV rfl rfl (hs.ret rfl))
theorem Eh(c:oi)(g:G):CallsIn Wd 0 Tryz.prog 253 #[c.v] g.w (cR g fun _ r=>r= .bool (!rZ c)):=by
 have hs:=St.start g
 refine enter Tryz.func253 rfl Tryz.ntmps253 rfl ?_
 apply c_
 refine an rfl rfl (aR rfl hs rfl rfl ?_);clear hs;rintro b1 g1 hs ah;skip
 obtain⟨g2,bR,aU,ah,aL⟩:=hs.a_ (i:=0) rfl;replace hs:=aU;clear aU;rw[←bR];skip
 have aC:=aL;clear aL
 refine ba rfl ?_;refine dx 1 [.z aC] (St.start _) rfl ?_
 refine an rfl rfl (ay Mw aI rfl rfl rfl rfl rfl (Gx c _) ?_);rintro g1 _ aN rfl;replace hs:=hs.call aN;have ah:=aN.le
 refine ba rfl ?_
 exact aF (aV rfl rfl (hs.ret rfl))
theorem Ei(v:Value)(l:List oi)(g:G)(hl:Rs g v l):
  CallsIn Wd 0 Tryz.prog 288 #[v,.func (.func 253) #[] #[]] g.w (cR g fun _ r=>r= .int .i64 (lu (fun c=> !rZ c) l)):=by
 obtain⟨a,c,rfl⟩:=hl.isSlice
 have hlen:=hl.dU
 unfold maxLen at hlen
 have hs:=St.start g
 refine enter Tryz.func288 rfl Tryz.ntmps288 rfl ?_
 refine aX rfl ?_;apply aB;refine aX rfl ?_;apply aG
 refine bS (fun m a' w=> ∃(k:Nat) (g':G),w=g'.w∧St g g' []∧G.le g g'∧k≤l.length∧m=l.length-k∧(∀j (h:j<l.length),j<k→(!rZ l[j])=false)∧
  Fr 19 [] [(0,.slice a l.length c),(1,.func (.func 253) #[] #[]),(7,.int .i64 l.length),(8,.int .i64 k)] a') l.length (fun a' ha=>⟨0,g,rfl,hs,G.le.refl g,Nat.zero_le _,rfl,by simp,ha.keep (by(repeat (first|exact trivial|refine⟨rfl,?_⟩)))⟩) ?_
 clear hs
 rintro m a' _ ⟨k,g',rfl,hs,aq,hk,rfl,dy,eI⟩
 revert a'
 apply cQ;refine aX rfl ?_;apply aB
 by_cases bh:k<l.length
 ·refine aJ (b:=decide ((k:Int)<(l.length:Int))) (by simp;omega) rfl ?_
  apply aE;apply au;apply aB;apply aG;refine aX rfl ?_;refine cP 3 rfl ?_
  refine an rfl rfl (aW T.ok rfl (hl.mono aq) (y:=l[k]) (by simp[dA,bh]) rfl rfl rfl rfl rfl rfl ?_)
  rintro b q ys aL rfl
  refine Wm 1 [.e aL 0] (St.start _) rfl ?_
  skip
  refine an rfl rfl (ay Mv aI rfl rfl rfl rfl rfl (Eh l[k] _) ?_);rintro g1 _ aN rfl;replace hs:=hs.call aN;have ah:=aN.le;replace aq:=G.le.trans aq ah
  apply cf
  cases wE:rZ l[k]with
  |false=>
   refine aJ rfl rfl ?_
   refine aX rfl ?_
   exact aF (aV rfl rfl (hs.ret (by rw[oj (p:=fun c=> !rZ c) bh (by simp only[wE];rfl) dy])))
  |true=>
   refine aS rfl rfl ?_
   apply aE;apply bU;apply au;apply ar;refine Wp 2 rfl ?_;apply aD
   refine fun a ha=>⟨l.length-(k+1),by omega,k+1,_,rfl,hs,aq,by omega,rfl,?_,ha.keep ⟨rfl,rfl,rfl,kI rfl (by rw[wr (by omega) (by omega)];omega),trivial⟩⟩
   intro j hj zO
   by_cases e:j=k
   ·subst e;rw[wE];rfl
   ·exact dy j hj (by omega)
 ·refine aS (b:=decide ((k:Int)<(l.length:Int))) (by simp;omega) rfl ?_
  apply bE;apply bK;apply bK;apply dc;apply au;refine aX rfl ?_
  obtain rfl:k=l.length:=by omega
  exact aF (aV rfl rfl (hs.ret (by rw[so (p:=fun c=> !rZ c) fun j h=>dy j h h])))
theorem ye(v:Value)(l:List oi)(g:G)(hl:Rs g v l):CallsIn Wd 0 Tryz.prog 158 #[v] g.w (cR g fun _ r=>r= .bool (l.all rZ)):=by
 have h1:CallsIn Wd 0 Tryz.prog 252 #[v,.func (.func 253) #[] #[]] g.w (cR g fun _ r=>r= .bool (l.any fun c=> !rZ c)):=by
  have hs:=St.start g
  refine enter Tryz.func252 rfl Tryz.ntmps252 rfl ?_
  refine aX rfl ?_;refine cP 2 rfl ?_
  refine an rfl rfl (ay MI aI rfl rfl rfl rfl rfl (Ei _ l g hl) ?_);rintro g1 _ aN rfl;replace hs:=hs.call aN;have ah:=aN.le;skip
  refine ba rfl ?_
  exact aF (aV rfl rfl (hs.ret (by rw[←nf])))
 have hs:=St.start g
 refine enter Tryz.func158 rfl Tryz.ntmps158 rfl ?_
 refine aX rfl ?_;refine cP 1 rfl ?_
 refine an rfl rfl (ay Mu aI rfl rfl rfl rfl rfl (h1) ?_);rintro g1 _ aN rfl;replace hs:=hs.call aN;have ah:=aN.le;skip
 refine ba rfl ?_
 exact aF (aV rfl rfl (hs.ret (congrArg Value.bool (by rw[List.all_eq_not_any_not]))))
abbrev fY(f:bc)(bb:Nat):List Value:=bW f++[.pointer (some ⟨bb,0,none⟩)]
abbrev ND(f:bc)(bb:Nat):Value:=.agg (fY f bb).toArray
def wN(f:bc)(time:Int):Bool:=(f.kind==7&&decide (f.time≤time))&&decide (time≤f.til)
theorem Gy(f:bc)(bb:Nat)(time:Int)(g:G):CallsIn Wd 0 Tryz.prog 251 #[ND f bb,.int .i64 time] g.w (cR g fun _ r=>r= .bool (wN f time)):=by
 have hs:=St.start g
 refine enter Tryz.func251 rfl Tryz.ntmps251 rfl ?_
 apply c_
 refine an rfl rfl (aR rfl hs rfl rfl ?_);clear hs;rintro b1 g1 hs ah;skip
 obtain⟨g2,bR,aU,ah,aL⟩:=hs.a_ (i:=0) rfl;replace hs:=aU;clear aU;rw[←bR];skip
 have aC:=aL;clear aL
 refine ba rfl ?_;refine dx 5 [.z aC] (St.start _) rfl ?_
 unfold wN
 cases f.kind==7 with
 |false=>
  refine ba rfl ?_
  exact aF (aV rfl rfl (hs.ret rfl))
 |true=>
  refine Wm 7 [.z aC] (St.start _) rfl ?_
  cases decide (f.time≤time)with
  |false=>
   refine ba rfl ?_
   exact aF (aV rfl rfl (hs.ret rfl))
  |true=>
   refine A3 [.z aC] (St.start _) rfl ?_
   exact aF (aV rfl rfl (hs.ret rfl))
end Go.Proofs.YtebobfdheanknaaGreatDoor
namespace Go.Proofs.YtebobfdheanknaaGreatDoor
open Go Go.K
set_option maxRecDepth 10000
attribute [local irreducible] W WL cT cn bX bA bB bD cW cG
set_option maxHeartbeats 1000000
def zZ(b:fX)(f:bc)(w time:Int):List oi:=[⟨f.waf,0,w⟩,⟨f.lot,0,((pG b w time).getD gF).lot⟩]
def wO(b:fX)(f:bc)(w time:Int):Bool:=wN f time&&(zZ b f w time).all rZ
theorem Gz(f:bc)(bb:Nat)(b:fX)(sl:Nat→Value)(w time:Int)(g:G)(aC:EP g bb 0 ((List.range 11).map sl))(bI:iI g (.agg ((List.range 11).map sl).toArray) b):
  CallsIn Wd 0 Tryz.prog 157 #[ND f bb,.int .i64 w,.int .i64 time] g.w (cR g fun _ r=>r= .bool (wO b f w time)):=by
 have hs:=St.start g
 have aq:=G.le.refl g
 refine enter Tryz.func157 rfl Tryz.ntmps157 rfl ?_
 apply c_
 refine an rfl rfl (aR rfl hs rfl rfl ?_);clear hs;rintro b1 g1 hs ah;obtain⟨aC,bI⟩:=cC ah aC bI
 obtain⟨g2,bR,aU,ah,aL⟩:=hs.a_ (i:=0) rfl;replace hs:=aU;clear aU;rw[←bR];obtain⟨aC,bI⟩:=cC ah aC bI
 have aP:=aL;clear aL
 refine ba rfl ?_;refine dx 6 [.z aP,.z aC] (St.start _) rfl ?_
 refine an rfl rfl (ay IP aI rfl rfl rfl rfl rfl (D4 _ b w time _ bI) ?_);rintro g1 _ aN rfl;replace hs:=hs.call aN;have ah:=aN.le;replace aP:=aP.mono ah
 refine ba rfl ?_;refine dx 2 [.z aP] (St.start _) rfl ?_
 clear aN
 refine an rfl rfl (ay Mt aI rfl rfl rfl rfl rfl (Gy f bb time _) ?_);rintro g1 _ aN rfl;replace hs:=hs.call aN;have ah:=aN.le;replace aP:=aP.mono ah
 unfold wO
 cases wN f time with
 |false=>
  refine ba rfl ?_
  exact aF (aV rfl rfl (hs.ret rfl))
 |true=>
  refine Wm 5 [.z aP] (St.start _) rfl ?_
  refine an rfl rfl (aQ T.ok rfl (vs:=[(0,.int .i64 (f.waf)),(1,.int .i64 0),(2,.int .i64 (w))]) (cells:=(oi.mk (f.waf) 0 (w)).cells) rfl rfl rfl rfl [(0,1),(1,1),(2,1)] rfl (by kernel_rfl) ?_)
  refine Wm 4 [.z aP] (St.start _) rfl ?_
  refine an rfl rfl (aQ T.ok rfl (vs:=[(0,.int .i64 (f.lot)),(1,.int .i64 0),(2,.int .i64 (((pG b w time).getD gF).lot))]) (cells:=(oi.mk (f.lot) 0 (((pG b w time).getD gF).lot)).cells) rfl rfl rfl rfl [(0,1),(1,1),(2,1)] rfl (by kernel_rfl) ?_)
  skip
  refine an rfl rfl (bj T.ok rfl hs (vs:=[(0,(oi.mk f.waf 0 w).v),(1,(oi.mk f.lot 0 ((pG b w time).getD gF).lot).v)]) (cells:=(oi.mk f.waf 0 w).cells++(oi.mk f.lot 0 ((pG b w time).getD gF).lot).cells) rfl rfl rfl rfl rfl rfl (by decide) (by decide) (by kernel_rfl) rfl ?_);rintro bl gl hs ah
  obtain⟨gz,ik,cS,iT,B8⟩:=hs.cL (α:=oi) (xs:=zZ b f w time) (i:=0) rfl ⟨_,_,rfl,rfl,_,_,(List.append_nil _).symm,rfl,rfl⟩
  clear ah;have ah:=iT;rw[←ik];replace hs:=cS;clear cS
  skip
  clear aN
  refine an rfl rfl (ay HH aI rfl rfl rfl rfl rfl (ye _ (zZ b f w time) _ B8) ?_);rintro g1 _ aN rfl;replace hs:=hs.call aN;have ah:=aN.le
  refine ba rfl ?_
  exact aF (aV rfl rfl (hs.ret rfl))
def pE(a:fD):List Value:=[.int .i64 a.waf,.int .i64 a.step,.int .i64 a.tool,.int .i64 a.cham,.int .i64 a.rcp,.int .i64 a.rvn,.int .i64 a.time]
abbrev Gl(a:fD):Value:=.agg (pE a).toArray
def wP(f:bc)(a:fD):List oi:=[⟨f.tool,1,a.tool⟩,⟨f.cham,1,a.cham⟩,⟨f.step,1,a.step⟩,⟨f.rcp,0,a.rcp⟩,⟨f.rvn,0,a.rvn⟩]
def s8(b:fX)(f:bc)(a:fD):Bool:=wO b f a.waf a.time&&(wP f a).all rZ
theorem Gm(f:bc)(bb:Nat)(b:fX)(sl:Nat→Value)(a:fD)(g:G)(aC:EP g bb 0 ((List.range 11).map sl))(bI:iI g (.agg ((List.range 11).map sl).toArray) b):
  CallsIn Wd 0 Tryz.prog 73 #[ND f bb,Gl a] g.w (cR g fun _ r=>r= .bool (s8 b f a)):=by
 have hs:=St.start g
 have aq:=G.le.refl g
 refine enter Tryz.func73 rfl Tryz.ntmps73 rfl ?_
 apply c_
 refine an rfl rfl (aR rfl hs rfl rfl ?_);clear hs;rintro b1 g1 hs ah;obtain⟨aC,bI⟩:=cC ah aC bI
 obtain⟨g2,bR,aU,ah,aL⟩:=hs.a_ (i:=0) rfl;replace hs:=aU;clear aU;rw[←bR];obtain⟨aC,bI⟩:=cC ah aC bI
 have aP:=aL;clear aL
 skip
 refine an rfl rfl (aR rfl hs rfl rfl ?_);clear hs;rintro b2 g1 hs ah;obtain⟨aC,aP,bI⟩:=ef ah aC aP bI
 obtain⟨g2,bR,aU,ah,aL⟩:=hs.a_ (i:=0) rfl;replace hs:=aU;clear aU;rw[←bR];obtain⟨aC,aP,bI⟩:=ef ah aC aP bI
 have dO:=aL;clear aL
 refine ba rfl ?_;refine dx 5 [.z aP,.z dO,.z dO] (St.start _) rfl ?_
 refine an rfl rfl (ay LI aI rfl rfl rfl rfl rfl (Gz f bb b sl a.waf a.time _ aC bI) ?_);rintro g1 _ aN rfl;replace hs:=hs.call aN;have ah:=aN.le;obtain⟨aP,dO⟩:=cC ah aP dO
 unfold s8
 cases wO b f a.waf a.time with
 |false=>
  refine ba rfl ?_
  exact aF (aV rfl rfl (hs.ret rfl))
 |true=>
  refine Wm 6 [.z aP,.z dO] (St.start _) rfl ?_
  refine an rfl rfl (aQ T.ok rfl (vs:=[(0,.int .i64 (f.tool)),(1,.int .i64 1),(2,.int .i64 (a.tool))]) (cells:=(oi.mk (f.tool) 1 (a.tool)).cells) rfl rfl rfl rfl [(0,1),(1,1),(2,1)] rfl (by kernel_rfl) ?_)
  refine Wm 5 [.z aP,.z dO] (St.start _) rfl ?_
  refine an rfl rfl (aQ T.ok rfl (vs:=[(0,.int .i64 (f.cham)),(1,.int .i64 1),(2,.int .i64 (a.cham))]) (cells:=(oi.mk (f.cham) 1 (a.cham)).cells) rfl rfl rfl rfl [(0,1),(1,1),(2,1)] rfl (by kernel_rfl) ?_)
  refine Wm 5 [.z aP,.z dO] (St.start _) rfl ?_
  refine an rfl rfl (aQ T.ok rfl (vs:=[(0,.int .i64 (f.step)),(1,.int .i64 1),(2,.int .i64 (a.step))]) (cells:=(oi.mk (f.step) 1 (a.step)).cells) rfl rfl rfl rfl [(0,1),(1,1),(2,1)] rfl (by kernel_rfl) ?_)
  refine Wm 5 [.z aP,.z dO] (St.start _) rfl ?_
  refine an rfl rfl (aQ T.ok rfl (vs:=[(0,.int .i64 (f.rcp)),(1,.int .i64 0),(2,.int .i64 (a.rcp))]) (cells:=(oi.mk (f.rcp) 0 (a.rcp)).cells) rfl rfl rfl rfl [(0,1),(1,1),(2,1)] rfl (by kernel_rfl) ?_)
  refine Wm 5 [.z aP,.z dO] (St.start _) rfl ?_
  refine an rfl rfl (aQ T.ok rfl (vs:=[(0,.int .i64 (f.rvn)),(1,.int .i64 0),(2,.int .i64 (a.rvn))]) (cells:=(oi.mk (f.rvn) 0 (a.rvn)).cells) rfl rfl rfl rfl [(0,1),(1,1),(2,1)] rfl (by kernel_rfl) ?_)
  skip
  refine an rfl rfl (bj T.ok rfl hs (vs:=[(0,(oi.mk f.tool 1 a.tool).v),(1,(oi.mk f.cham 1 a.cham).v),(2,(oi.mk f.step 1 a.step).v),(3,(oi.mk f.rcp 0 a.rcp).v),(4,(oi.mk f.rvn 0 a.rvn).v)]) (cells:=(wP f a).flatMap oi.cells) rfl rfl rfl rfl rfl rfl (by decide) (by decide) (by kernel_rfl) rfl ?_);rintro bl gl hs ah
  obtain⟨gz,ik,cS,iT,B8⟩:=hs.cL (α:=oi) (xs:=wP f a) (i:=0) rfl ⟨_,_,rfl,rfl,_,_,rfl,rfl,_,_,rfl,rfl,_,_,rfl,rfl,_,_,(List.append_nil _).symm,rfl,rfl⟩
  clear ah;have ah:=iT;rw[←ik];replace hs:=cS;clear cS
  skip
  clear aN
  refine an rfl rfl (ay HH aI rfl rfl rfl rfl rfl (ye _ (wP f a) _ B8) ?_);rintro g1 _ aN rfl;replace hs:=hs.call aN;have ah:=aN.le
  refine ba rfl ?_
  exact aF (aV rfl rfl (hs.ret rfl))
end Go.Proofs.YtebobfdheanknaaGreatDoor
