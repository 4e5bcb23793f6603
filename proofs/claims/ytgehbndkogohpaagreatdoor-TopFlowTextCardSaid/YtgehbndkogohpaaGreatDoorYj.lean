/- Parts of the proof, from: The walks through package graph: reached, Reach. -/
import Derived.Test.YtgehbndkogohpaaGreatDoorYi
import Derived.Test.YtgehbndkogohpaaGreatDoorYb
import Derived.ChangeKeysEq
import Derived.Test.YtgehbndkogohpaaGreatDoorYd
import Derived.Test.YtgehbndkogohpaaGreatDoorYc
namespace Go.Proofs.YtgehbndkogohpaaGreatDoor
open Go Go.K
set_option maxRecDepth 10000
attribute [local irreducible] W WL cD bc bK bd bg bh cq ck
set_option maxHeartbeats 1000000
theorem cG.J1(g:G): ∀xs:List Bool,cG g (xs.map Value.bool) xs
 |[]=>rfl
 |x::xs=>⟨[.bool x],xs.map Value.bool,rfl,rfl,cG.J1 g xs⟩
theorem ml{f:bQ}(h:valid f=true):1≤f.steps.length∧f.steps.length≤40:=by unfold valid within at h;simp only[Bool.and_eq_true,decide_eq_true_eq]at h;omega
theorem rZ(v:Value)(f:bQ)(n:Int)(g:G)(dj:ff g v f)(fu:valid f=true)(h0:0≤n)(h1:n<f.steps.length):
  CallsIn Wd 0 Tryz.prog 55 #[v,.int .i64 n] g.w (cF g (km 4 g (eg f n))):=by
 obtain⟨a1,n1,c1,a2,n2,c2,rfl,aH,aU⟩:=id dj;obtain⟨_,_,e⟩:=aH.isSlice;obtain⟨rfl,rfl,rfl⟩:=Value.slice.inj e;clear e;have hlen:=ml fu;have hs:=St.start g;refine enter Tryz.func55 rfl Tryz.ntmps55 rfl ?_;apply cM;refine ak rfl rfl (aO rfl hs rfl rfl ?_);clear hs;rintro bf g1 hs ah;obtain⟨aH,aU⟩:=cf ah aH aU;refine bj rfl ?_;refine dz 3 [.o 0] hs rfl ?_;obtain⟨g2,bL,aT,ah,aL⟩:=hs.ba (i:=0) rfl;replace hs:=aT;clear aT;rw[←bL];obtain⟨aH,aU⟩:=cf ah aH aU;have aC:=aL;clear aL;skip;refine ak rfl rfl (qJ T.ok rfl hs rfl rfl rfl rfl rfl rfl (by decide) rfl (by show 1*f.steps.length≤_;omega) (by unfold maxLen;omega) ?_);rintro ob g1 hs ah;obtain⟨aC,aH,aU⟩:=dy ah aC aH aU;skip;refine ak rfl rfl (aK T.ok rfl hs rfl rfl ?_);clear hs;rintro bo g1 hs ah;obtain⟨aC,aH,aU⟩:=dy ah aC aH aU;skip;refine bA rfl (az T.ok 0 rfl hs rfl rfl rfl rfl rfl rfl rfl rfl rfl ?_);replace hs:=hs;rintro g1 hs ah;obtain⟨aC,aH,aU⟩:=dy ah aC aH aU;obtain⟨g2,bL,aT,ah,aL⟩:=hs.ba (i:=0) rfl;replace hs:=aT;clear aT;rw[←bL];obtain⟨aC,aH,aU⟩:=dy ah aC aH aU;have aR:=aL;clear aL;apply bW;apply cM;refine ak rfl rfl (aK T.ok rfl hs rfl rfl ?_);clear hs;rintro bv g1 hs ah;obtain⟨aC,aR,aH,aU⟩:=eS ah aC aR aH aU;apply bW;refine cN 1 rfl ?_;refine bA rfl (az T.ok 0 rfl hs rfl rfl rfl rfl rfl rfl rfl rfl rfl ?_);replace hs:=hs;rintro g1 hs ah;obtain⟨aC,aR,aH,aU⟩:=eS ah aC aR aH aU;obtain⟨g2,bL,aT,ah,aL⟩:=hs.ba (i:=0) rfl;replace hs:=aT;clear aT;rw[←bL];obtain⟨aC,aR,aH,aU⟩:=eS ah aC aR aH aU;have cU:=aL;clear aL;apply bW;refine dz 2 [.z cU] (St.start _) rfl ?_;have yS:(List.replicate f.steps.length [Value.bool false]).flatten=(List.replicate f.steps.length false).map Value.bool:=by simp
 have dH:St g g2 [pT ob f.steps.length (List.replicate f.steps.length false)]:=by unfold pT;rw[←yS];exact hs
 have Bp:uG g2 f ob f.steps.length bo bf bv:=⟨aR,⟨_,aC,_,_,_,_,_,_,rfl,aH,aU⟩,cU⟩
 have n4:=Io f fu ob _ bo bf bv rfl f.steps.length g g2 _ 0 _ n dH rfl Bp (by simp) h0 (by rw[List.getElem?_replicate,if_pos (by omega)]) (by simp);have K_:=cW (first:=#[]) (args:=[.int .i64 n]) (captured:=#[.pointer (some ⟨bo,0,none⟩),.pointer (some ⟨bf,0,none⟩),.pointer (some ⟨bv,0,none⟩)]) Jq rfl n4;refine ak rfl rfl (eo rfl rfl rfl rfl rfl rfl (K_.mono ?_));rintro _ _ ⟨g5,rfl,rfl,DC,ah⟩;refine⟨_,rfl,?_⟩;replace hs:=DC;replace aR:=aR.mono ah;apply bW;refine l_ [.z aR] (St.start _) rfl ?_;refine aI (aX rfl rfl (hs.ret ?_));exact hs.nK (i:=0) rfl (cG.J1 _ _)
theorem Bq(l:List Bool)(k:Nat)(h:k<l.length):jX 0 (l.take (k+1))=jX 0 (l.take k)++(if l[k]then [(k:Int)]else []):=by
 have gen: ∀(l:List Bool) (j k:Nat) (h:k<l.length),jX j (l.take (k+1))=jX j (l.take k)++(if l[k]then [((j+k:Nat):Int)]else []):=by
  intro l
  induction l with
  |nil=>intro j k h;simp at h
  |cons b r ih=>
   intro j k h;cases k with
   |zero=>simp[jX]
   |succ k=>
    simp only[List.take_succ_cons,jX];rw[ih (j+1) k (by simpa using h)];simp[Nat.add_assoc,Nat.add_comm 1 k]
 simpa using gen l 0 k h
theorem wN(l:List Bool)(j:Nat):(jX j l).length≤l.length:=by
 induction l generalizing j with
 |nil=>simp[jX]
 |cons b r ih=>have:=ih (j+1);simp only[jX];split<;>simp<;>omega
theorem gU(f:bQ)(n:Int):(eg f n).length=f.steps.length:=by unfold eg;rw[(sw f _ _ _).1];simp
theorem CC(v:Value)(f:bQ)(n:Int)(g:G)(dj:ff g v f):
  CallsIn Wd 0 Tryz.prog 53 #[v,.int .i64 n] g.w (cF g (km 3 g (reach f n))):=by
 obtain⟨a1,n1,c1,a2,n2,c2,rfl,aH,aU⟩:=id dj;obtain⟨_,_,e⟩:=aH.isSlice;obtain⟨rfl,rfl,rfl⟩:=Value.slice.inj e;clear e;have hs:=St.start g;refine enter Tryz.func53 rfl Tryz.ntmps53 rfl ?_;apply cM;refine ak rfl rfl (aO rfl hs rfl rfl ?_);clear hs;rintro b1 g1 hs ah;replace dj:=dj.mono ah;refine bj rfl ?_;apply aD;refine dz 2 [.o 0] hs rfl ?_;refine ak rfl rfl (bD T.ok rfl hs (vs:=[(0,.int .i64 n)]) (cells:=[.int .i64 n]) rfl rfl rfl rfl rfl rfl (by decide) (by decide) (by kernel_rfl) rfl ?_);rintro b2 g2 hs ah;replace dj:=dj.mono ah;obtain⟨g3,pf,vn,qI,ny⟩:=hs.cK (α:=Int) (xs:=[n]) (i:=0) rfl (cG.ints _ [n]);clear ah;have ah:=qI;rw[←pf];replace hs:=vn;replace dj:=dj.mono ah;skip;refine ak rfl rfl (au EB aJ rfl rfl rfl rfl rfl (xY _ _ f [n] _ dj ny) ?_);rintro g1 _ aP rfl;replace hs:=hs.call aP;have ah:=aP.le;replace dj:=dj.mono ah;refine bj rfl ?_;cases hg:given f [n]with
 |false=>
  refine aM rfl rfl ?_;refine aY rfl ?_;refine aI (aX rfl rfl (hs.ret ?_));unfold reach;rw[hg];exact km.nil _ _ _ _
 |true=>
  refine aV rfl rfl ?_;have KP:(0≤n∧n<f.steps.length)∧valid f=true:=by unfold given at hg;simp only[Bool.and_eq_true,List.any_cons,List.any_nil,Bool.or_false,Bool.not_eq_true',oM,Bool.or_eq_false_iff,decide_eq_false_iff_not]at hg;exact⟨by omega,hg.1⟩
  have PH:=ml KP.2;apply aF;apply ar;apply aD;refine dz 2 [.o 0] hs rfl ?_;refine ak rfl rfl (au Kz aJ rfl rfl rfl rfl rfl (rZ _ f n _ dj KP.2 KP.1.1 KP.1.2) ?_);rintro g4 v ki dT;obtain⟨g5,WW,DC,WX,rM⟩:=hs.nU ki dT;replace hs:=DC;rw[←WW];obtain⟨ab,cb,rfl⟩:=rM.isSlice;have J2:=gU f n;generalize yY:eg f n=bs at*;replace hs:=(hs.drop 0).iN 3 1 none;refine bj rfl ?_;apply aG;refine bM (fun m a' w=> ∃(k:Nat) (g':G) (v:Value),w=g'.w∧St g g' [.row 3 1 v (jX 0 (bs.take k)).length ((jX 0 (bs.take k)).map (Value.int .i64))]∧G.le g5 g'∧k≤bs.length∧m=bs.length-k∧
   Fr 28 [] [(4,v),(14,.slice ab bs.length cb),(15,.int .i64 bs.length),(16,.int .i64 k)] a') bs.length (fun a' ha=>⟨0,_,_,rfl,hs,G.le.refl _,Nat.zero_le _,rfl,ha.keep (by(repeat (first|exact trivial|refine⟨rfl,?_⟩)))⟩) ?_
  clear hs;rintro m a' _ ⟨k,g',v,rfl,hs,aq,hk,rfl,eF⟩;have bS:=rM.mono aq;revert a';apply cI;refine aY rfl ?_;apply aD;by_cases bC:k<bs.length
  ·refine aM (b:=decide ((k:Int)<(bs.length:Int))) (by simp;omega) rfl ?_;have Pc:=wN (bs.take k) 0;rw[List.length_take]at Pc;have wA:=Bq bs k bC;apply aF;apply ar;apply aD;apply aG;refine cN 1 rfl ?_;refine ak rfl rfl (aW T.ok rfl bS (y:=bs[k]) (by simp[dS,bC]) rfl rfl rfl rfl rfl rfl ?_);rintro b p ys aL rfl;refine Wm 1 [.e aL 0] (St.start _) rfl ?_;refine bj rfl ?_;refine aY rfl ?_;cases hb:bs[k]with
   |false=>
    refine aV rfl rfl ?_;rw[hb,if_neg (by simp),List.append_nil]at wA;apply aF;apply bR;apply ar;apply aA;refine Wp 2 rfl ?_;apply aE;exact fun a ha=>⟨bs.length-(k+1),by omega,k+1,_,v,rfl,by rw[wA];exact hs,aq,by omega,rfl,ha.keep ⟨rfl,rfl,rfl,kI rfl (by rw[wr (by omega) (by omega)];omega),trivial⟩⟩
   |true=>
    refine aM rfl rfl ?_;rw[hb,if_pos rfl]at wA;apply aA;refine Wp 2 rfl ?_;refine ak rfl rfl (bD T.ok rfl hs (vs:=[(0,.int .i64 k)]) (cells:=[.int .i64 k]) rfl rfl rfl rfl rfl rfl (by decide) (by decide) (by kernel_rfl) rfl ?_);rintro b2 g2 hs ah;replace aq:=G.le.trans aq ah;skip;refine ak rfl rfl (cd T.ok 1 rfl hs rfl rfl rfl rfl rfl rfl rfl (by decide) rfl (Src.fL (hs.own 0 _ rfl).1).2 (by simp[Value.oneCell']) (by show((jX 0 (bs.take k)).length+1)*8≤_;omega) (by unfold maxLen;omega) ?_);rintro a' c' g3 hs ah;replace aq:=G.le.trans aq ah;refine Wp 1 rfl ?_;apply aE;apply bR;apply ar;apply aA;refine Wp 2 rfl ?_;apply aE;exact fun a ha=>⟨bs.length-(k+1),by omega,k+1,_,_,rfl,by rw[wA];simpa using hs.drop 0,aq,by omega,rfl,ha.keep ⟨rfl,rfl,rfl,kI rfl (by rw[wr (by omega) (by omega)];omega),trivial⟩⟩
  refine aV (b:=decide ((k:Int)<(bs.length:Int))) (by simp;omega) rfl ?_;obtain rfl:k=bs.length:=by omega
  apply bF;apply bG;apply bG;apply c_;apply ar;refine aY rfl ?_;refine aI (aX rfl rfl (hs.ret ?_));unfold reach;rw[hg,if_pos rfl,yY];rw[List.take_length]at hs;exact hs.nK (i:=0) rfl (cG.ints _ _)
end Go.Proofs.YtgehbndkogohpaaGreatDoor
namespace Go.Proofs.YtgehbndkogohpaaGreatDoor
open Go Go.K
set_option maxRecDepth 10000
attribute [local irreducible] W WL cD bc bK bd bg bh cq ck
set_option maxHeartbeats 1000000
def iw(xs:List Int):List Value:=xs.map (Value.int .i64)
theorem DG(xs:List Int)(n:Nat):(iw xs).take n=iw (xs.take n):=by simp[iw]
theorem mL{α:Type}(p:α→Bool)(l:List α):(lQ p l= -1∧ ∀x∈l,p x=false)∨ ∃k,∃h:k<l.length,lQ p l=k∧p l[k]=true∧ ∀j (h:j<l.length),j<k→p l[j]=false:=by
 unfold lQ;cases h:l.any p with
 |false=>exact .inl ⟨rfl,fun x hx=>by simpa using(List.any_eq_false.1 h) x hx⟩
 |true=>
  refine .inr ⟨l.findIdx p,?_,rfl,?_,?_⟩
  ·obtain⟨x,hx,hp⟩:=List.any_eq_true.1 h;exact List.findIdx_lt_length_of_exists ⟨x,hx,hp⟩
  ·exact List.findIdx_getElem
  intro j hj bC;simpa using List.not_of_lt_findIdx bC
theorem uE{α:Type}{L:List α}{i:Nat}{e:α}(h:L[i]? =some e):L.set i e=L:=by
 apply List.ext_getElem?;intro j;rw[List.getElem?_set];split
 ·rename_i h';subst h';rw[h];simp[(List.getElem?_eq_some_iff.1 h).1]
 rfl
theorem pg{α:Type}{cs:List α}{i:Nat}{x:α}(h:i<cs.length):(cs.set i x).take (i+1)=cs.take i++[x]:=by rw[List.set_eq_take_append_cons_drop,if_pos h,show cs.take i++x::cs.drop (i+1)=(cs.take i++[x])++cs.drop (i+1)from by simp];exact List.take_left' (by simp;omega)
theorem x7{p:Int→Bool}(xs:List Int)(k:Nat)(h:k<xs.length)(hp:p xs[k]=true)(dx: ∀j (h:j<xs.length),j<k→p xs[j]=false):
  xs.take k=(xs.take (k+1)).filter (fun x=> !p x):=by
 rw[List.take_succ_eq_append_getElem h,List.filter_append];have:(xs.take k).filter (fun x=> !p x)=xs.take k:=by rw[List.filter_eq_self];intro x hx;obtain⟨j,hj,rfl⟩:=List.mem_iff_getElem.1 hx;simp only[List.length_take]at hj;rw[List.getElem_take,dx j (by omega) (by omega)];rfl
 rw[this];simp[hp]
theorem x8(p:Int→Bool)(g0 g:G)(L:List cS)(i:Nat)(v fv:Value)(xs:List Int)(hs:St g0 g L)(hi:L[i]? =some (.row 3 1 v xs.length (iw xs)))(hlen:xs.length≤1000000)
  (hp: ∀(g':G) (x:Int),x∈xs→g.le g'→iE Tryz.prog fv [.int .i64 x] g'.w (cF g' fun _ r=>r= .bool (p x))):
  CallsIn Wd 0 Tryz.prog 130 #[v,fv] g.w fun e w'=> ∃g' v',g'.w=w'∧e= .returned v'∧g.le g'∧St g0 g' (L.set i (.row 3 1 v' (xs.filter fun x=> !p x).length (iw (xs.filter fun x=> !p x)))):=by
 have aq:=G.le.refl g;have MC:i<L.length:=(List.getElem?_eq_some_iff.1 hi).1;obtain⟨ad,cap,rfl⟩:=(hs.own i _ hi).1.form;refine enter Tryz.func130 rfl Tryz.ntmps130 rfl ?_;refine aY rfl ?_;refine cN 2 rfl ?_;obtain⟨gf,SU,Mx,rM,Cm⟩:=hs.Pb (α:=Int) hi (cG.ints _ _);rw[←SU];refine ak rfl rfl (au JB aJ rfl rfl rfl rfl rfl (uC _ _ xs p gf rM (fun g' x hx hle=>hp g' x hx (Mx.trans hle))) ?_);rintro g2 _ xN rfl;obtain⟨g3,pf,eW⟩:=Cm g2 xN;rw[←pf];replace hs:=hs.call eW;have ah:=eW.le;replace aq:=G.le.trans aq ah;refine bj rfl ?_;apply aD;refine aY rfl ?_;rcases mL p xs with⟨tB,dx⟩|⟨k0,AH,tB,xL,dx⟩
 ·refine aM (b:=lQ p xs== -1) (by simp[tB]) rfl ?_;refine aY rfl ?_;refine aI ?_;apply eD;refine aX rfl rfl ?_;have KU:(xs.filter fun x=> !p x)=xs:=List.filter_eq_self.2 fun x hx=>by simp[dx x hx]
  refine⟨g3,_,rfl,rfl,aq,?_⟩;rw[KU,uE hi];exact hs
 refine aV (b:=lQ p xs== -1) (by simp only[tB,beq_eq_false_iff_ne];omega) rfl ?_;rw[tB];obtain⟨⟨b0,p0,rfl⟩,rP⟩:(∃b p,ad=some ⟨b,p,none⟩)∧xs.length≤cap∧cap≤maxLen:=by
  rcases(hs.own i _ hi).1.2 with⟨h,_⟩|⟨b,q,c,cur,e1,_,_,h1,h2,_⟩
  ·omega
  simp only[Value.slice.injEq]at e1;obtain⟨rfl,_,rfl⟩:=e1;exact⟨⟨b,q,rfl⟩,h1,h2⟩
 unfold maxLen at rP;apply aF;apply ar;apply aD;refine aY rfl ?_;apply aG;refine bM (fun m a' w=> ∃(j i':Nat) (cs:List Int) (g':G),w=g'.w∧St g0 g' (L.set i (.row 3 1 (.slice (some ⟨b0,p0,none⟩) xs.length cap) xs.length (iw cs)))∧G.le g g'∧j≤xs.length∧m=xs.length-j∧
  cs.length=xs.length∧i'<j∧cs.take i'=(xs.take j).filter (fun x=> !p x)∧cs.drop j=xs.drop j∧
  Fr 42 [] [(0,.slice (some ⟨b0,p0,none⟩) xs.length cap),(1,fv),(5,.int .i64 i'),(6,.int .i64 j)] a') (xs.length-(k0+1))
  (fun a' ha=>⟨k0+1,k0,xs,g3,rfl,by rw[uE hi];exact hs,aq,AH,rfl,rfl,Nat.lt_succ_self _,x7 xs k0 AH xL dx,rfl,ha.keep ⟨rfl,rfl,rfl,kI rfl (by rw[wr (by omega) (by omega)];omega),trivial⟩⟩) ?_
 clear hs aq;rintro m a' _ ⟨j,i',cs,g',rfl,hs,aq,hj,rfl,fr,vv,fP,Fi,eF⟩;have PT:(L.set i (.row 3 1 (.slice (some ⟨b0,p0,none⟩) xs.length cap) xs.length (iw cs)))[i]? =some (.row 3 1 (.slice (some ⟨b0,p0,none⟩) xs.length cap) xs.length (iw cs)):=by simp[MC]
 revert a';apply cI;apply aD;refine aY rfl ?_;by_cases bC:j<xs.length
 ·refine aM (b:=decide ((j:Int)<(xs.length:Int))) (by simp;omega) rfl ?_;have SV:cs[j]? =some xs[j]:=by have:=congrArg (fun l=>l[0]?) Fi;simpa [List.getElem?_eq_getElem bC]using this
  apply aF;apply ar;apply aD;apply aG;refine cN 2 rfl ?_;refine ak rfl rfl (dC T.ok rfl (hs.own i _ PT).1 (by omega) (by omega) rfl rfl rfl rfl rfl rfl ?_);rintro b q hh;obtain⟨rfl,rfl⟩:b0=b∧p0=q:=by simpa using hh
  refine ak rfl rfl (dL T.ok (j*1) rfl (hs.own i _ PT).1 rfl (v:=.int .i64 xs[j]) (by show(iw cs)[j*1]? =_;rw[Nat.mul_one];simp[iw,SV]) ?_);refine bj rfl ?_;refine cN 2 rfl ?_;refine ak rfl rfl (eE rfl rfl rfl rfl rfl rfl (hp _ _ (List.getElem_mem bC) aq) ?_);rintro g4 _ ki rfl;replace hs:=hs.call ki;have ah:=ki.le;replace aq:=G.le.trans aq ah;refine bj rfl ?_;have HW:(xs.take (j+1)).filter (fun x=> !p x)=(xs.take j).filter (fun x=> !p x)++(if p xs[j]then []else [xs[j]]):=by rw[List.take_succ_eq_append_getElem bC,List.filter_append];cases SW:p xs[j]<;>simp[SW]
  have Fj:cs.drop (j+1)=xs.drop (j+1):=by have:=congrArg (List.drop 1) Fi;simpa [List.drop_drop]using this
  cases hb:p xs[j]with
  |true=>
   refine aV rfl rfl ?_;rw[hb,if_pos rfl,List.append_nil]at HW;apply aF;apply bR;apply ar;apply aA;refine Wp 3 rfl ?_;apply aE;exact fun a ha=>⟨xs.length-(j+1),by omega,j+1,i',cs,_,rfl,hs,aq,by omega,rfl,fr,by omega,by rw[fP,HW],Fj,ha.keep ⟨rfl,rfl,rfl,kI rfl (by rw[wr (by omega) (by omega)];omega),trivial⟩⟩
  |false=>
   refine aM rfl rfl ?_;rw[hb,if_neg (by simp)]at HW;refine cN 3 rfl ?_;refine ak rfl rfl (dC T.ok rfl (hs.own i _ PT).1 (by omega) (by omega) rfl rfl rfl rfl rfl rfl ?_);rintro b q hh;obtain⟨rfl,rfl⟩:b0=b∧p0=q:=by simpa using hh
   refine bA rfl (gT T.ok i (i'*1) (us:=[.int .i64 xs[j]]) rfl hs PT rfl rfl rfl rfl rfl rfl (by simp) (by simp[iw];omega) (xs':=iw (cs.set i' xs[j])) ?_ ?_)
   ·rw[Nat.mul_one];unfold lh iw;rw[List.map_set,List.set_eq_take_append_cons_drop];simp[fr,show i'<xs.length from by omega]
   rintro g5 hs ah;replace aq:=G.le.trans aq ah;apply bW;apply aA;refine Wp 3 rfl ?_;apply aE;apply bR;apply ar;apply aA;refine Wp 3 rfl ?_;apply aE;exact fun a ha=>⟨xs.length-(j+1),by omega,j+1,i'+1,cs.set i' xs[j],_,rfl,by rw[List.set_set]at hs;exact hs,aq,by omega,rfl,by simp[fr],by omega,
    by rw[HW,←fP,pg (by omega)],
    by rw[List.drop_set_of_lt (by omega)];exact Fj,ha.keep ⟨rfl,rfl,kI rfl (by rw[wr (by omega) (by omega)];omega),kI rfl (by rw[wr (by omega) (by omega)];omega),trivial⟩⟩
 refine aV (b:=decide ((j:Int)<(xs.length:Int))) (by simp;omega) rfl ?_;obtain rfl:j=xs.length:=by omega
 rw[List.take_length]at fP;apply bF;apply bG;apply bG;apply c_;apply ar;refine cN 2 rfl ?_;refine ak rfl rfl (kF T.ok rfl rfl rfl rfl rfl (a:=i') (b:=xs.length) ⟨_,rfl⟩ rfl (by omega) (by omega) ?_);refine bA rfl (wE T.ok i (a:=i') (xs':=iw (cs.take i')++(List.replicate (xs.length-i') [Value.int .i64 0]).flatten) rfl hs PT rfl rfl rfl rfl rfl (by decide) rfl (by decide) ?_ (by omega) (by rw[Nat.mul_one,DG];rfl) ?_)
 ·by_cases SX:cap=i'
  ·exact .inl (by omega)
  right;rw[if_neg SX];simp[Addr.add_lit]
 rintro g5 hs ah;replace aq:=G.le.trans aq ah;rw[List.set_set]at hs;apply bW;refine cN 2 rfl ?_;refine ak rfl rfl (kF T.ok rfl rfl rfl rfl rfl (a:=0) (b:=i') rfl ⟨_,rfl⟩ (by omega) (by omega) ?_);refine bj rfl ?_;refine aI ?_;skip;refine aX rfl rfl ?_;have Tf: ∀e,(L.set i e)[i]? =some e:=fun e=>by simp[MC]
 have uj:=hs.zx (i:=i) (a:=i') (Tf _) (by omega);refine⟨_,_,rfl,rfl,aq,?_⟩;have hl:(xs.filter fun x=> !p x).length=i':=by rw[←fP,List.length_take];omega
 rw[List.set_set]at uj;rw[hl,←fP];have he:List.take (i'*1) (iw (cs.take i')++(List.replicate (xs.length-i') [Value.int .i64 0]).flatten)=iw (cs.take i'):=by rw[List.take_left' (by simp[iw];omega)]
 rw[he]at uj;exact uj
theorem Ip(n:Int)(f:bQ)(b:Nat)(cs:List Value)(g:G)(aC:EP g b 0 cs)(hc:rV g cs f)(h0:0≤n)(h1:n<f.steps.length):
  CallsIn Wd 0 Tryz.prog 131 #[.int .i64 n,.pointer (some ⟨b,0,none⟩)] g.w (cF g fun _ r=>r= .bool (!zo (cn f n))):=by
 obtain⟨a1,n1,c1,a2,n2,c2,rfl,aH,aU⟩:=hc;obtain⟨_,_,e⟩:=aH.isSlice;obtain⟨rfl,rfl,rfl⟩:=Value.slice.inj e;clear e;have hs:=St.start g;refine enter Tryz.func131 rfl Tryz.ntmps131 rfl ?_;refine aY rfl ?_;refine dz 3 [.z aC] (St.start _) rfl ?_;refine ak rfl rfl (aW T.ok rfl aH (y:=cn f n) (by unfold cn;rw[cZ (j:=n.toNat) (by omega) (by omega)];simp[List.getD_eq_getElem?_getD,show n.toNat<f.steps.length from by omega]) rfl rfl rfl rfl rfl rfl ?_);rintro b q ys aL d_;have Ic:fV _ (.agg ys.toArray) (cn f n):=⟨ys,rfl,d_⟩
 obtain⟨b1,b2,b3,b4,b5,b6,rfl,_,_⟩:=d_;refine Wm 1 [.e aL 0] (St.start _) rfl ?_;skip;refine ak rfl rfl (au No aJ rfl rfl rfl rfl rfl (H9 _ _ _ Ic) ?_);rintro g1 _ aP rfl;replace hs:=hs.call aP;have ah:=aP.le;refine bj rfl ?_;exact aI (aX rfl rfl (hs.ret rfl))
theorem zJ{l:List Bool}{j:Nat}{x:Int}(h:x∈jX j l):(j:Int)≤x∧x<j+l.length:=by
 induction l generalizing j with
 |nil=>simp[jX]at h
 |cons b r ih=>
  simp only[jX,List.mem_append]at h;rcases h with h|h
  ·split at h
   ·simp at h;subst h;simp;omega
   simp at h
  have:=ih h;simp at this⊢;omega
theorem lD{f:bQ}{n x:Int}(h:x∈reach f n):0≤x∧x<f.steps.length:=by
 unfold reach at h;split at h
 ·have:=zJ h;rw[gU]at this;omega
 simp at h
theorem wL(f:bQ)(n:Int):(reach f n).length≤40:=by
 unfold reach;split
 ·rename_i h;have h1:=wN (eg f n) 0;rw[gU]at h1;have:valid f=true:=by unfold given at h;simp only[Bool.and_eq_true]at h;exact h.1
  have:=ml this;omega
 simp
theorem Le(v:Value)(f:bQ)(g:G)(dj:ff g v f):
  CallsIn Wd 0 Tryz.prog 54 #[v] g.w (cF g (km 3 g (ends f))):=by
 obtain⟨a1,n1,c1,a2,n2,c2,rfl,aH,aU⟩:=id dj;have hs:=St.start g;refine enter Tryz.func54 rfl Tryz.ntmps54 rfl ?_;apply cM;refine ak rfl rfl (aO rfl hs rfl rfl ?_);clear hs;rintro b1 g1 hs ah;obtain⟨aH,aU,dj⟩:=dy ah aH aU dj;refine bj rfl ?_;refine dz 1 [.o 0] hs rfl ?_;obtain⟨g2,bL,aT,ah,aL⟩:=hs.ba (i:=0) rfl;replace hs:=aT;clear aT;rw[←bL];obtain⟨aH,aU,dj⟩:=dy ah aH aU dj;have aC:=aL;clear aL;skip;refine ak rfl rfl (au M4 aJ rfl rfl rfl rfl rfl (CC _ f 0 _ dj) ?_);rintro g4 v ki ⟨cells,h1,h2⟩;replace hs:=hs.ft ki h1;have ah:=ki.le;obtain⟨aC,aH,aU⟩:=dy ah aC aH aU;have Tg:cells=iw (reach f 0):=by
  have key: ∀(xs:List Int) (cells:List Value),cG g4 cells xs→cells=iw xs:=by
   intro xs
   induction xs with
   |nil=>intro cells h;exact h
   |cons x xs ih=>rintro cells ⟨c1,c2,rfl,h1,h2⟩;rw[ih _ h2,show c1=[Value.int .i64 x]from h1];rfl
  exact key _ _ h2
 subst Tg;refine Wp 1 rfl ?_;have hl:=wL f 0;have Th:=x8 (fun x=> !zo (cn f x)) g g4 _ 0 v (.func (.func 131) #[] #[.pointer (some ⟨b1,0,none⟩)]) (reach f 0) hs rfl (by omega)
  (fun g' x hx hle=>cW Nn rfl (Ip x f _ _ g' (aC.mono hle) ⟨_,_,_,_,_,_,rfl,aH.mono hle,aU.mono hle⟩ (lD hx).1 (lD hx).2))
 refine ak rfl rfl (n5 Nl aJ rfl rfl rfl rfl rfl (Th.mono ?_));rintro _ _ ⟨g5,v',rfl,rfl,ah,DC⟩;refine⟨_,rfl,?_⟩;refine bj rfl ?_;refine aI (aX rfl rfl (DC.ret ?_));have he:(reach f 0).filter (fun x=> !(!zo (cn f x)))=ends f:=by unfold ends;simp
 rw[he]at DC;exact DC.nK (i:=0) rfl (cG.ints _ _)
end Go.Proofs.YtgehbndkogohpaaGreatDoor
namespace Go.Proofs.YtgehbndkogohpaaGreatDoor
open Go Go.K
set_option maxRecDepth 10000
attribute [local irreducible] W WL cD bc bK bd bg bh cq ck
set_option maxHeartbeats 4000000
theorem qE{xs ys:Array Value}{f h:Nat→Int}(w:World): ∀is:List Nat,(∀i∈is,xs[i*1]? =some (.int .i64 (f i))∧ys[i*1]? =some (.int .i64 (h i)))→(Op.eqItems 9999 3 1 xs ys is).run Tryz.prog w= .ok (is.all fun i=>f i==h i) w
 |[],_=>rfl
 |i::is,hi=>by
  have hp: ∀(xs:Array Value) (j:Nat) (z:Int),xs[j]? =some (.int .i64 z)→(part 3 xs j).run Tryz.prog w= .ok (.int .i64 z) w:=fun xs j z h=>by simp[part,iX T.ok (show tl T 3=some _ from rfl),sX,h]
  obtain⟨h1,h2⟩:=hi i (List.mem_cons_self ..);simp only[Op.eqItems,Sem.run_bind];rw[hp _ _ _ h1];simp only[Result.andThen_ok];rw[hp _ _ _ h2];simp only[Result.andThen_ok];rw[run_equalIn_int w 9998 3 .i64 .i64 (f i) (h i) (by kernel_rfl)];simp only[Result.andThen_ok];have ih:=qE (xs:=xs) (ys:=ys) (f:=f) (h:=h) w is fun j hj=>hi j (List.mem_cons_of_mem _ hj);cases he:f i==h i with
  |false=>simp[he]
  |true=>simp[he,ih]
theorem SS(a b c d a' b' c' d':Int)(w:World):(Op.equal 299 (.agg #[.int .i64 a,.int .i64 b,.int .i64 c,.int .i64 d]) (.agg #[.int .i64 a',.int .i64 b',.int .i64 c',.int .i64 d'])).run Tryz.prog w= .ok (a==a'&&(b==b'&&(c==c'&&d==d'))) w:=by
 obtain⟨⟨dd,hu,he⟩,_⟩:=T.ok.at (show tl T 299=some _ from rfl);obtain rfl:=KD.A8 he;obtain⟨_,inf,h1,h2,_⟩:=T.ok.at (show tl T 3=some _ from rfl);have hc:Tryz.prog.cellsOf 3=1:=by unfold Program.cellsOf;rw[h1];exact h2
 show(Op.equalIn (9999+1) _ _ _).run _ w=_;rw[run_equalIn_array w 9999 _ _ hu h1,hc,show List.range 4=[0,1,2,3]from rfl];rw[qE (f:=fun i=>[a,b,c,d].getD i 0) (h:=fun i=>[a',b',c',d'].getD i 0) w]
 ·simp
 intro i hi;have:i=0∨i=1∨i=2∨i=3:=by simpa using hi
 rcases this with rfl|rfl|rfl|rfl<;>exact⟨rfl,rfl⟩
def zu(fo:Value)(p:bH→Bool)(l:List bH)(g:G):Prop:=∀(g':G) (x:bH),x∈l→g.le g'→iE Tryz.prog fo [fv x] g'.w (cF g' fun _ r=>r= .bool (p x))
theorem zu.mono{fo:Value}{p:bH→Bool}{l:List bH}{g g':G}(h:zu fo p l g)(hle:g.le g'):zu fo p l g':=fun g2 x hx h2=>h g2 x hx (hle.trans h2)
theorem uf(v fo:Value)(l:List bH)(p:bH→Bool)(g:G)(hl:Rs g v l)(hp:zu fo p l g):
  CallsIn Wd 0 Tryz.prog 33 #[v,fo] g.w (cF g fun _ r=>r= .int .i64 (lQ p l)):=by
 obtain⟨a,c,rfl⟩:=hl.isSlice;have hlen:=hl.dJ;unfold maxLen at hlen;have hs:=St.start g;refine enter Tryz.func33 rfl Tryz.ntmps33 rfl ?_;refine aY rfl ?_;apply aD;refine aY rfl ?_;apply aG;refine bM (fun m a' w=> ∃(k:Nat) (g':G),w=g'.w∧St g g' []∧G.le g g'∧k≤l.length∧m=l.length-k∧(∀j (h:j<l.length),j<k→p l[j]=false)∧
  Fr 19 [] [(0,.slice a l.length c),(1,fo),(7,.int .i64 l.length),(8,.int .i64 k)] a') l.length (fun a' ha=>⟨0,g,rfl,hs,G.le.refl g,Nat.zero_le _,rfl,by simp,ha.keep (by(repeat (first|exact trivial|refine⟨rfl,?_⟩)))⟩) ?_
 clear hs;rintro m a' _ ⟨k,g',rfl,hs,aq,hk,rfl,dx,eF⟩;revert a';apply cI;refine aY rfl ?_;apply aD;by_cases bC:k<l.length
 ·refine aM (b:=decide ((k:Int)<(l.length:Int))) (by simp;omega) rfl ?_;apply aF;apply ar;apply aD;apply aG;refine aY rfl ?_;refine cN 3 rfl ?_;refine ak rfl rfl (aW T.ok rfl (hl.mono aq) (y:=l[k]) (by simp[dS,bC]) rfl rfl rfl rfl rfl rfl ?_);rintro b q ys aL rfl;refine Wm 1 [.e aL 0] (St.start _) rfl ?_;skip;refine ak rfl rfl (eE rfl rfl rfl rfl rfl rfl (hp _ _ (List.getElem_mem bC) aq) ?_);rintro g1 _ aP rfl;replace hs:=hs.call aP;have ah:=aP.le;replace aq:=G.le.trans aq ah;apply bW;cases xL:p l[k]with
  |true=>
   refine aM rfl rfl ?_;refine aY rfl ?_;exact aI (aX rfl rfl (hs.ret (by rw[tz bC xL dx])))
  |false=>
   refine aV rfl rfl ?_;apply aF;apply bR;apply ar;apply aA;refine Wp 2 rfl ?_;apply aE;refine fun a ha=>⟨l.length-(k+1),by omega,k+1,_,rfl,hs,aq,by omega,rfl,?_,ha.keep ⟨rfl,rfl,rfl,kI rfl (by rw[wr (by omega) (by omega)];omega),trivial⟩⟩
   intro j hj Ci;by_cases e:j=k
   ·subst e;exact xL
   exact dx j hj (by omega)
 refine aV (b:=decide ((k:Int)<(l.length:Int))) (by simp;omega) rfl ?_;apply bF;apply bG;apply bG;apply c_;apply ar;refine aY rfl ?_;obtain rfl:k=l.length:=by omega
 exact aI (aX rfl rfl (hs.ret (by rw[tA fun j h=>dx j h h])))
theorem HL{α:Type}{p:α→Bool}{l:List α}(h: ∀x∈l,p x=false):l.find? p=none:=List.find?_eq_none.2 fun x hx=>by simp[h x hx]
theorem HM{α:Type}{p:α→Bool}{l:List α}{k:Nat}(h:k<l.length)(hp:p l[k]=true)(dx: ∀j (h:j<l.length),j<k→p l[j]=false):l.find? p=some l[k]:=
 List.find?_eq_some_iff_getElem.2 ⟨hp,k,h,rfl,fun j hj=>by simp[dx j (by omega) hj]⟩
theorem Cj(v fo:Value)(l:List bH)(p:bH→Bool)(g:G)(hl:Rs g v l)(hp:zu fo p l g):
  CallsIn Wd 0 Tryz.prog 214 #[v,fo] g.w (cF g fun _ r=>r= .tuple #[fv ((l.find? p).getD iy),.bool (l.find? p).isSome]):=by
 obtain⟨a,c,rfl⟩:=hl.isSlice;have aH:=hl;have hlen:=hl.dJ;unfold maxLen at hlen;have hs:=St.start g;have aq:=G.le.refl g;refine enter Tryz.func214 rfl Tryz.ntmps214 rfl ?_;apply cM;refine ak rfl rfl (aK T.ok rfl hs rfl rfl ?_);clear hs;rintro b4 g1 hs ah;obtain⟨aq,aH⟩:=cf ah aq aH;refine bj rfl ?_;apply aD;refine cN 2 rfl ?_;refine ak rfl rfl (au Kv aJ rfl rfl rfl rfl rfl (uf _ _ l p _ aH (hp.mono aq)) ?_);rintro g1 _ aP rfl;replace hs:=hs.call aP;have ah:=aP.le;replace aH:=aH.mono ah;refine bj rfl ?_;refine aY rfl ?_;rcases mL p l with⟨hf,dx⟩|⟨k,hk,hf,xL,dx⟩
 ·refine aV (b:=decide (0≤lQ p l)) (by rw[hf];rfl) rfl ?_;rw[HL dx];apply aF;apply ar;apply cM;refine ak rfl rfl (aK T.ok rfl hs rfl rfl ?_);clear hs;rintro b7 g1 hs ah;replace aH:=aH.mono ah;apply bW;refine dz 1 [.o 0] hs rfl ?_;refine bA rfl (az T.ok 1 rfl hs rfl rfl rfl rfl rfl rfl rfl rfl rfl ?_);replace hs:=hs;rintro g1 hs ah;replace aH:=aH.mono ah;refine bj rfl ?_;exact aI (sy T.ok 1 rfl hs rfl rfl rfl rfl (hs.ret rfl))
 refine aM (b:=decide (0≤lQ p l)) (by rw[hf];simp) rfl ?_;rw[HM hk xL dx];refine cN 2 rfl ?_;refine ak rfl rfl (aW T.ok rfl aH (y:=l[k]) (by rw[hf];exact cZ rfl hk) rfl rfl rfl rfl rfl rfl ?_);rintro b q ys aL rfl;refine Wm 1 [.e aL 0] (St.start _) rfl ?_;refine bA rfl (az T.ok 0 rfl hs rfl rfl rfl rfl rfl rfl rfl rfl rfl ?_);replace hs:=hs;rintro g1 hs ah;refine bj rfl ?_;exact aI (sy T.ok 0 rfl hs rfl rfl rfl rfl (hs.ret rfl))
theorem HN(x:bH)(n:Int)(b1:Nat)(g:G)(aC:EP g b1 0 [.int .i64 n]):CallsIn Wd 0 Tryz.prog 215 #[fv x,.pointer (some ⟨b1,0,none⟩)] g.w (cF g fun _ r=>r= .bool (x.prod==n)):=by have hs:=St.start g;refine enter Tryz.func215 rfl Tryz.ntmps215 rfl ?_;apply cM;refine ak rfl rfl (aO rfl hs rfl rfl ?_);clear hs;rintro b2 g1 hs ah;replace aC:=aC.mono ah;obtain⟨g2,bL,aT,ah,aL⟩:=hs.ba (i:=0) rfl;replace hs:=aT;clear aT;rw[←bL];replace aC:=aC.mono ah;have aR:=aL;clear aL;refine bj rfl ?_;refine l_ [.z aR,.z aC] (St.start _) rfl ?_;exact aI (aX rfl rfl (hs.ret rfl))
theorem HO(v:Value)(b:gn)(n:Int)(g:G)(bV:mG g v b):CallsIn Wd 0 Tryz.prog 107 #[v,.int .i64 n] g.w (cF g fun _ r=>r= .tuple #[fv ((b.lZ.find? fun f=>f.prod==n).getD iy),.bool (b.lZ.find? fun f=>f.prod==n).isSome]):=by have hs:=St.start g;have aq:=G.le.refl g;obtain⟨sl,rfl,kx⟩:=bV;have aH:=kx 4 (by decide);refine enter Tryz.func107 rfl Tryz.ntmps107 rfl ?_;apply cM;refine ak rfl rfl (aO rfl hs rfl rfl ?_);clear hs;rintro b2 g1 hs ah;replace aH:=aH.mono ah;obtain⟨g2,bL,aT,ah,aL⟩:=hs.ba (i:=0) rfl;replace hs:=aT;clear aT;rw[←bL];replace aH:=aH.mono ah;have aC:=aL;clear aL;skip;refine ak rfl rfl (aO rfl hs rfl rfl ?_);clear hs;rintro b3 g1 hs ah;obtain⟨aC,aH⟩:=cf ah aC aH;obtain⟨g2,bL,aT,ah,aL⟩:=hs.ba (i:=0) rfl;replace hs:=aT;clear aT;rw[←bL];obtain⟨aC,aH⟩:=cf ah aC aH;have aR:=aL;clear aL;skip;refine ak rfl rfl (aK T.ok rfl hs rfl rfl ?_);clear hs;rintro b4 g1 hs ah;obtain⟨aC,aR,aH⟩:=dy ah aC aR aH;refine bj rfl ?_;refine dz 3 [.z aC] (St.start _) rfl ?_;refine ak rfl rfl (au Jy aJ rfl rfl rfl rfl rfl (Cj _ _ b.lZ (fun f=>f.prod==n) _ aH (fun g' x _ h=>cW (first:=#[]) (args:=[fv x]) (captured:=#[.pointer (some ⟨b3,0,none⟩)]) N_ rfl (HN x n b3 g' (aR.mono h)))) ?_);rintro g1 _ aP rfl;replace hs:=hs.call aP;have ah:=aP.le;refine Wp 2 rfl ?_;refine bA rfl (az T.ok 0 rfl hs rfl rfl rfl rfl rfl rfl rfl rfl rfl ?_);replace hs:=hs;rintro g1 hs ah;refine bj rfl ?_;exact aI (sy T.ok 0 rfl hs rfl rfl rfl rfl (hs.ret rfl))
def pd(tool cham rcp rvn time:Int)(x:bH):Bool:=((x.tool==tool&&(x.cham==cham&&(x.rcp==rcp&&x.rvn==rvn)))&&decide (x.time≤time))&&decide (time≤x.til)
theorem HP(x:bH)(tool cham rcp rvn time:Int)(b1 b2:Nat)(g:G)(aC:EP g b1 0 [.int .i64 tool,.int .i64 cham,.int .i64 rcp,.int .i64 rvn])(aR:EP g b2 0 [.int .i64 time]):CallsIn Wd 0 Tryz.prog 251 #[fv x,.pointer (some ⟨b1,0,none⟩),.pointer (some ⟨b2,0,none⟩)] g.w (cF g fun _ r=>r= .bool (pd tool cham rcp rvn time x)):=by
 have hs:=St.start g;refine enter Tryz.func251 rfl Tryz.ntmps251 rfl ?_;apply cM;refine ak rfl rfl (aO rfl hs rfl rfl ?_);clear hs;rintro b3 g1 hs ah;obtain⟨aC,aR⟩:=cf ah aC aR;obtain⟨g2,bL,aT,ah,aL⟩:=hs.ba (i:=0) rfl;replace hs:=aT;clear aT;rw[←bL];obtain⟨aC,aR⟩:=cf ah aC aR;have cU:=aL;clear aL;refine bj rfl ?_;refine dz 8 [.z cU,.z cU,.z cU,.z cU] (St.start _) rfl ?_;refine ak rfl rfl (iR T.ok rfl (vs:=[(0,.int .i64 x.tool),(1,.int .i64 x.cham),(2,.int .i64 x.rcp),(3,.int .i64 x.rvn)]) (cells:=[.int .i64 x.tool,.int .i64 x.cham,.int .i64 x.rcp,.int .i64 x.rvn]) rfl rfl rfl rfl rfl (by kernel_rfl) ?_);refine Wm 1 [.z aC] (St.start _) rfl ?_;refine ak rfl rfl (oH (neg:=false) rfl rfl rfl (by kernel_rfl) (SS x.tool x.cham x.rcp x.rvn tool cham rcp rvn _) ?_);unfold pd;cases(x.tool==tool&&(x.cham==cham&&(x.rcp==rcp&&x.rvn==rvn)))with
 |false=>
  refine bj rfl ?_;exact aI (aX rfl rfl (hs.ret rfl))
 |true=>
  refine Wm 7 [.z cU,.z aR] (St.start _) rfl ?_;cases decide (x.time≤time)with
  |false=>
   refine bj rfl ?_;exact aI (aX rfl rfl (hs.ret rfl))
  |true=>
   refine Dk [.z aR,.z cU] (St.start _) rfl ?_;exact aI (aX rfl rfl (hs.ret rfl))
theorem KR(v:Value)(b:gn)(tool cham rcp rvn time:Int)(g:G)(bV:mG g v b):CallsIn Wd 0 Tryz.prog 191 #[v,.int .i64 tool,.int .i64 cham,.int .i64 rcp,.int .i64 rvn,.int .i64 time] g.w (cF g fun _ r=>r= .bool (b.nh.any (pd tool cham rcp rvn time))):=by have hs:=St.start g;have aq:=G.le.refl g;obtain⟨sl,rfl,kx⟩:=bV;have aH:=kx 5 (by decide);refine enter Tryz.func191 rfl Tryz.ntmps191 rfl ?_;apply cM;refine ak rfl rfl (aO rfl hs rfl rfl ?_);clear hs;rintro b2 g1 hs ah;replace aH:=aH.mono ah;obtain⟨g2,bL,aT,ah,aL⟩:=hs.ba (i:=0) rfl;replace hs:=aT;clear aT;rw[←bL];replace aH:=aH.mono ah;have aC:=aL;clear aL;skip;refine ak rfl rfl (aO rfl hs rfl rfl ?_);clear hs;rintro b3 g1 hs ah;obtain⟨aC,aH⟩:=cf ah aC aH;obtain⟨g2,bL,aT,ah,aL⟩:=hs.ba (i:=0) rfl;replace hs:=aT;clear aT;rw[←bL];obtain⟨aC,aH⟩:=cf ah aC aH;have aR:=aL;clear aL;refine bj rfl ?_;refine cN 4 rfl ?_;refine ak rfl rfl (iR T.ok rfl (vs:=[(0,.int .i64 tool),(1,.int .i64 cham),(2,.int .i64 rcp),(3,.int .i64 rvn)]) (cells:=[.int .i64 tool,.int .i64 cham,.int .i64 rcp,.int .i64 rvn]) rfl rfl rfl rfl rfl (by kernel_rfl) ?_);skip;refine ak rfl rfl (aK T.ok rfl hs rfl rfl ?_);clear hs;rintro b4 g1 hs ah;obtain⟨aC,aR,aH⟩:=dy ah aC aR aH;refine bA rfl (az T.ok 0 rfl hs rfl rfl rfl rfl rfl rfl rfl rfl rfl ?_);replace hs:=hs;rintro g1 hs ah;obtain⟨aC,aR,aH⟩:=dy ah aC aR aH;obtain⟨g2,bL,aT,ah,aL⟩:=hs.ba (i:=0) rfl;replace hs:=aT;clear aT;rw[←bL];obtain⟨aC,aR,aH⟩:=dy ah aC aR aH;have cU:=aL;clear aL;apply bW;refine dz 3 [.z aC] (St.start _) rfl ?_;refine ak rfl rfl (au Jy aJ rfl rfl rfl rfl rfl (Cj _ _ b.nh (pd tool cham rcp rvn time) _ aH (fun g' x _ h=>cW (first:=#[]) (args:=[fv x]) (captured:=#[.pointer (some ⟨b4,0,none⟩),.pointer (some ⟨b3,0,none⟩)]) Oy rfl (HP x tool cham rcp rvn time b4 b3 g' (cU.mono h) (aR.mono h)))) ?_);rintro g1 _ aP rfl;replace hs:=hs.call aP;have ah:=aP.le;refine Wp 3 rfl ?_;refine ak rfl rfl (aK T.ok rfl hs rfl rfl ?_);clear hs;rintro b5 g1 hs ah;skip;refine bA rfl (az T.ok 0 rfl hs rfl rfl rfl rfl rfl rfl rfl rfl rfl ?_);replace hs:=hs;rintro g1 hs ah;refine bj rfl ?_;refine aY rfl ?_;exact aI (aX rfl rfl (hs.ret (congrArg Value.bool (by rw[Bool.eq_iff_iff,List.find?_isSome,List.any_eq_true]))))
end Go.Proofs.YtgehbndkogohpaaGreatDoor
namespace Go.Proofs.YtgehbndkogohpaaGreatDoor
open Go Go.K
set_option maxRecDepth 10000
attribute [local irreducible] W WL cD bc bK bd bg bh cq ck
set_option maxHeartbeats 4000000
theorem lA{g:G}: ∀{xs:List bH} {cs:List Value},cG g cs xs→cs=fl xs
 |[],_,h=>h
 |x::xs,_,⟨c1,c2,e,h1,h2⟩=>by obtain rfl:c1=cg x:=h1;rw[e,lA h2,ve];rfl
def Wz(fo:Value)(g:G):Prop:=∀(g':G) (x:bH),g.le g'→iE Tryz.prog fo [fv x] g'.w (cF g' fun _ r=>r=fv x)
def Pr:Bool→Nat
 |false=>196
 |true=>200
theorem Ps(tw:Bool):ag Tryz.prog (Pr tw):=by
 cases tw
 ·exact N3
 exact N7
theorem ur(tw:Bool)(v fa fo:Value)(l:List bH)(p:bH→Bool)(g:G)(aH:Rs g v l)(hl:l.length≤1000000)(ha:Wz fa g)(hp:zu fo p l g):
  CallsIn Wd 0 Tryz.prog (Pr tw) #[v,fa,fo] g.w (cF g fun g' r=>km (lN (!tw)) g (l.filter p) g' r):=by
 cases tw
 case' false=>let tw:=false
 case' true=>let tw:=true
 all_goals
  have hs:=(St.start g).iN (lN (!tw)) 19 none;have aq:=G.le.refl g;obtain⟨a,c,rfl⟩:=aH.isSlice
  first|refine enter Tryz.func196 rfl Tryz.ntmps196 rfl ?_|refine enter Tryz.func200 rfl Tryz.ntmps200 rfl ?_
  refine aY rfl ?_;refine aY rfl ?_;apply aD;refine aY rfl ?_;apply aG;refine bM (fun m a' w=> ∃(i:Nat) (ad:Option Addr) (cc:Nat) (g':G),w=g'.w∧St g g' [.row (lN (!tw)) 19 (.slice ad ((l.take i).filter p).length cc) ((l.take i).filter p).length (fl ((l.take i).filter p))]∧G.le g g'∧Rs g' (.slice a l.length c) l∧i≤l.length∧m=l.length-i∧
    Fr 27 [] [(1,fa),(2,fo),(7,.slice ad ((l.take i).filter p).length cc),(10,.slice a l.length c),(11,.int .i64 (l.length:Nat)),(12,.int .i64 (i:Nat))] a') l.length
   (fun a' ha=>⟨0,none,0,g,rfl,hs,aq,aH,Nat.zero_le _,rfl,ha.keep (by(repeat (first|exact trivial|refine⟨rfl,?_⟩)))⟩) ?_
  clear hs aH aq;rintro m a' _ ⟨i,ad,cc,g',rfl,hs,aq,aH,hi,rfl,eF⟩;revert a';apply cI;refine aY rfl ?_;apply aD;by_cases bC:i<l.length
  ·refine aM (b:=decide ((i:Int)<(l.length:Int))) (decide_eq_true (by omega)) rfl ?_;have jG:dS l (i:Int)=some l[i]:=cZ rfl bC;have fP:(l.take (i+1)).filter p=(l.take i).filter p++(if p l[i]then [l[i]]else []):=by rw[List.take_add_one,List.getElem?_eq_getElem bC,List.filter_append];congr 1;simp only[Option.toList_some,List.filter_cons,List.filter_nil]
   have xO:l[i]∈l:=List.getElem_mem bC;have Q2:((l.take i).filter p).length≤i:=Nat.le_trans (List.length_filter_le ..) (by rw[List.length_take];omega);generalize(l.take i).filter p=out at*;generalize l[i]=x at*;apply aF;apply ar;apply aD;apply aG;apply cM;refine ak rfl rfl (aW T.ok rfl aH (y:=x) jG rfl rfl rfl rfl rfl rfl ?_);rintro b q ys aL rfl;have aC:=aL;clear aL;refine Wm 1 [.e aC 0] (St.start _) rfl ?_;refine ak rfl rfl (aK T.ok rfl hs rfl rfl ?_);clear hs;rintro b9 g1 hs ah;obtain⟨aq,aH⟩:=cf ah aq aH;refine bA rfl (az T.ok 0 rfl hs rfl rfl rfl rfl rfl rfl rfl rfl rfl ?_);replace hs:=hs;rintro g1 hs ah;obtain⟨aq,aH⟩:=cf ah aq aH;obtain⟨g2,bL,aT,ah,aL⟩:=hs.ba (i:=0) rfl;replace hs:=aT;clear aT;rw[←bL];obtain⟨aq,aH⟩:=cf ah aq aH;have aR:=aL;clear aL;clear aC;apply bW;refine dz 2 [.z aR] (St.start _) rfl ?_;refine ak rfl rfl (eE rfl rfl rfl rfl rfl rfl (hp _ x xO aq) ?_);rintro g1 _ aP rfl;replace hs:=hs.call aP;have ah:=aP.le;obtain⟨aq,aR,aH⟩:=dy ah aq aR aH;cases UL:p x with
   |true=>
    apply bW;refine aM rfl rfl ?_;apply aA;refine Wm 3 [.z aR] (St.start _) rfl ?_;refine ak rfl rfl (eE rfl rfl rfl rfl rfl rfl (ha _ x aq) ?_);clear aP;rintro g1 _ aP rfl;replace hs:=hs.call aP;have ah:=aP.le;obtain⟨aq,aH⟩:=cf ah aq aH;skip;refine ak rfl rfl (bD T.ok rfl hs (vs:=[(0,fv x)]) (cells:=cg x) rfl rfl rfl rfl rfl rfl (by decide) (by decide) (by kernel_rfl) rfl ?_);rintro bl gl hs ah;obtain⟨aq,aH⟩:=cf ah aq aH;obtain⟨gz,iQ,cP,jq,Dt⟩:=hs.cK (α:=bH) (xs:=[x]) (i:=0) rfl ⟨cg x,[],(List.append_nil _).symm,rfl,rfl⟩;clear ah;have ah:=jq;rw[←iQ];replace hs:=cP;clear cP;obtain⟨aq,aH⟩:=cf ah aq aH;obtain⟨_,news,hn,g_⟩:=Src.lq Dt;obtain⟨c1,c2,rfl,rfl,rfl⟩:=hn;rw[List.append_nil]at g_;refine ak rfl rfl (cd T.ok 0 rfl hs rfl rfl rfl rfl rfl rfl rfl (by decide) rfl g_ (El.one (α:=bH) (g:=gz) (x:=x) rfl) (by show(out.length+1)*160≤_;omega) (by show out.length+1≤maxLen;unfold maxLen;omega) ?_);clear hs;intro a6 c6 g6 hs ah;obtain⟨aq,aH⟩:=cf ah aq aH;replace hs:St g g6 [.row (lN (!tw)) 19 (.slice a6 (out.length+1) c6) (out.length+1) (fl out++cg x)]:=hs;have e:(l.take (i+1)).filter p=out++[x]:=by rw[fP,UL];rfl
    have e2:fl out++cg x=fl (out++[x]):=by rw[lP];exact congrArg (fl out++ ·) (List.append_nil _).symm
    rw[e2]at hs;refine Wp 1 rfl ?_;apply aE;apply bR;apply ar;apply aA;refine Wp 2 rfl ?_;apply aE;refine fun a ha=>⟨l.length-(i+1),by omega,i+1,a6,c6,g6,rfl,?_,aq,aH,by omega,rfl,?_⟩
    ·rw[e,List.length_append];exact hs
    rw[e,List.length_append];exact ha.keep ⟨rfl,rfl,rfl,rfl,rfl,kI rfl (by rw[wr (by omega) (by omega)];omega),trivial⟩
   |false=>
    apply bW;refine aV rfl rfl ?_;apply aF;apply bR;apply ar;apply aA;refine Wp 2 rfl ?_;apply aE;have e:(l.take (i+1)).filter p=out:=by rw[fP,UL];exact List.append_nil _
    refine fun a ha=>⟨l.length-(i+1),by omega,i+1,ad,cc,_,rfl,?_,aq,aH,by omega,rfl,?_⟩
    ·rw[e];exact hs
    rw[e];exact ha.keep ⟨rfl,rfl,rfl,rfl,rfl,kI rfl (by rw[wr (by omega) (by omega)];omega),trivial⟩
  refine aV (b:=decide ((i:Int)<(l.length:Int))) (decide_eq_false (by omega)) rfl ?_;rw[List.take_of_length_le (by omega)]at hs⊢;apply bF;apply bG;apply bG;apply c_;apply ar;refine aY rfl ?_;exact aI (aX rfl rfl (hs.ret ⟨_,hs.own 0 _ rfl,cG.fl _ _⟩))
def xQ(f:bH):Int×Int:=(f.time,f.idn)
theorem Pt(x:bH)(g:G):CallsIn Wd 0 Tryz.prog 197 #[fv x] g.w (cF g fun _ r=>r=fv x):=by have hs:=St.start g;refine enter Tryz.func197 rfl Tryz.ntmps197 rfl ?_;apply cM;refine ak rfl rfl (aO rfl hs rfl rfl ?_);clear hs;rintro b1 g1 hs ah;skip;obtain⟨g2,bL,aT,ah,aL⟩:=hs.ba (i:=0) rfl;replace hs:=aT;clear aT;rw[←bL];skip;have aC:=aL;clear aL;skip;refine ak rfl rfl (aK T.ok rfl hs rfl rfl ?_);clear hs;rintro b2 g1 hs ah;replace aC:=aC.mono ah;apply bW;refine dz 1 [.z aC] (St.start _) rfl ?_;refine bA rfl (az T.ok 0 rfl hs rfl rfl rfl rfl rfl rfl rfl rfl rfl ?_);replace hs:=hs;rintro g1 hs ah;apply bW;exact aI (kC T.ok 0 rfl hs rfl rfl rfl (hs.ret rfl))
theorem Pu(x:bH)(g:G):CallsIn Wd 0 Tryz.prog 201 #[fv x] g.w (cF g fun _ r=>r=fv x):=by have hs:=St.start g;refine enter Tryz.func201 rfl Tryz.ntmps201 rfl ?_;apply cM;refine ak rfl rfl (aO rfl hs rfl rfl ?_);clear hs;rintro b1 g1 hs ah;skip;obtain⟨g2,bL,aT,ah,aL⟩:=hs.ba (i:=0) rfl;replace hs:=aT;clear aT;rw[←bL];skip;have aC:=aL;clear aL;skip;refine ak rfl rfl (aK T.ok rfl hs rfl rfl ?_);clear hs;rintro b2 g1 hs ah;replace aC:=aC.mono ah;apply bW;refine dz 1 [.z aC] (St.start _) rfl ?_;refine bA rfl (az T.ok 0 rfl hs rfl rfl rfl rfl rfl rfl rfl rfl rfl ?_);replace hs:=hs;rintro g1 hs ah;apply bW;exact aI (kC T.ok 0 rfl hs rfl rfl rfl (hs.ret rfl))
theorem Pv(x:bH)(g:G):CallsIn Wd 0 Tryz.prog 202 #[fv x] g.w (cF g fun _ r=>r= .bool true):=by have hs:=St.start g;refine enter Tryz.func202 rfl Tryz.ntmps202 rfl ?_;apply cM;refine ak rfl rfl (aO rfl hs rfl rfl ?_);clear hs;rintro b1 g1 hs ah;skip;refine bj rfl ?_;refine aY rfl ?_;exact aI (aX rfl rfl (hs.ret rfl))
theorem K1(x y:bH)(g:G):CallsIn Wd 0 Tryz.prog 199 #[fv x,fv y] g.w (cF g fun _ r=>r= .int .i64 (rJ (xQ x) (xQ y))):=by
 have hs:=St.start g;refine enter Tryz.func199 rfl Tryz.ntmps199 rfl ?_;apply cM;refine ak rfl rfl (aO rfl hs rfl rfl ?_);clear hs;rintro b1 g1 hs ah;skip;obtain⟨g2,bL,aT,ah,aL⟩:=hs.ba (i:=0) rfl;replace hs:=aT;clear aT;rw[←bL];skip;have aR:=aL;clear aL;skip;refine ak rfl rfl (aO rfl hs rfl rfl ?_);clear hs;rintro b2 g1 hs ah;replace aR:=aR.mono ah;obtain⟨g2,bL,aT,ah,aL⟩:=hs.ba (i:=0) rfl;replace hs:=aT;clear aT;rw[←bL];replace aR:=aR.mono ah;have cU:=aL;clear aL;refine bj rfl ?_;apply aD;apply bP hs (eO (eQ (.f (Fact.rs [fE x.time y.time,fE x.idn y.idn])::fe []))) 12 [(11,16)] (by kernel_rfl) rfl
 ·refine Dm [[],[0],[],[2],[1,3],[],[5],[],[7],[6,8]] [.z aR,.z cU,.c AR fun g _=>pO x.time y.time g,.z aR,.z cU,.c AR fun g _=>pO x.idn y.idn g] hs (by kernel_rfl) rfl ?_;refine ay (an (js:=[(4,9),(9,14)]) (by kernel_rfl) fun gd hf=>ai rfl (ai rfl (aj (aB rfl (bD T.ok rfl (St.start gd) (vs:=[(0,.int .i64 (fE x.time y.time)),(1,.int .i64 (fE x.idn y.idn))]) (cells:=[fE x.time y.time,fE x.idn y.idn].map (Value.int .i64)) rfl rfl rfl rfl rfl rfl (by decide) (by decide) (by kernel_rfl) rfl fun b g' jo _=>?_))))) ?_
  ·obtain⟨g2,e1,e2,e3⟩:=pI (α:=Int) jo (cG.ints g' [fE x.time y.time,fE x.idn y.idn]);exact⟨g2,e1,e2,e3⟩
  refine ay (an (js:=[(10,15)]) (by kernel_rfl) fun gd hf=>aZ fun v h=>aj (aB rfl (au KC aJ rfl rfl rfl rfl rfl (KL v [fE x.time y.time,fE x.idn y.idn] _ h) fun g' v h1 h2=>⟨g',rfl,h1,h2⟩))) ?_;exact fD
 clear hs;intro g6 hs ah;refine bj rfl ?_;exact aI (aX rfl rfl (hs.ret rfl))
theorem wH(v fo:Value)(l:List bH)(p:bH→Bool)(g:G)(aH:Rs g v l)(hl:l.length≤1000000)(hp:zu fo p l g):
  CallsIn Wd 0 Tryz.prog 102 #[v,fo] g.w (cF g fun g' r=>Rs g' r (dN xQ (l.filter p))):=by
 have hs:=St.start g;have aq:=G.le.refl g;obtain⟨a,c,rfl⟩:=aH.isSlice;refine enter Tryz.func102 rfl Tryz.ntmps102 rfl ?_;refine aY rfl ?_;refine cN 2 rfl ?_;refine ak rfl rfl (au (Ps false) aJ rfl rfl rfl rfl rfl (ur false _ (.func (.func 197) #[] #[]) fo l p _ aH hl (fun g' x _=>cW (first:=#[]) (args:=[fv x]) (captured:=#[]) N4 rfl (Pt x g')) hp) ?_);rintro g1 v1 aP ⟨cells,hh,hr⟩;obtain rfl:=lA hr;obtain⟨a1,c1,rfl⟩:=hh.1.form;have yS:(l.filter p).length≤1000000:=Nat.le_trans (List.length_filter_le ..) hl;replace hs:=hs.ft aP hh;have ah:=aP.le;clear hr hh aP;replace hs:St g g1 [fy (lN true) a1 (l.filter p).length c1 (l.filter p)]:=hs;refine bj rfl ?_;refine cN 1 rfl ?_;refine ak rfl rfl (du (O3 true) aJ rfl rfl rfl rfl rfl (wu true (kf:=xQ) (l.filter p) rfl (by omega) (fun g' _ x y=>cW (first:=#[]) (args:=[fv x,fv y]) (captured:=#[]) N6 rfl (K1 x y g')) hs) ?_);clear hs;rintro g6 _ ah ⟨rfl,hs⟩;have hn:(l.filter p).length=(dN xQ (l.filter p)).length:=(fT _).symm;rw[hn]at yS hs⊢;generalize dN xQ (l.filter p)=xs at*;obtain⟨g7,KQ,Hf,ah,rM⟩:=hs.cK (α:=bH) (xs:=xs) (i:=0) rfl (cG.fl _ _);rw[←KQ];clear hs;replace hs:=Hf;clear Hf;clear KQ;replace hs:St g g7 []:=hs;apply bW;refine cN 1 rfl ?_;refine ak rfl rfl (au (Ps true) aJ rfl rfl rfl rfl rfl (ur true _ (.func (.func 201) #[] #[]) (.func (.func 202) #[] #[]) xs (fun _=>true) _ rM yS (fun g' x _=>cW (first:=#[]) (args:=[fv x]) (captured:=#[]) N8 rfl (Pu x g')) (fun g' x _ _=>cW (first:=#[]) (args:=[fv x]) (captured:=#[]) N9 rfl (Pv x g'))) ?_);rintro g8 v8 Fm h8;rw[show xs.filter (fun _=>true)=xs from List.filter_eq_self.2 fun _ _=>rfl]at h8;obtain⟨g9,Hh,Ch,ah,SZ⟩:=hs.nU Fm h8;have ah:=Fm.le.trans ah;rw[←Hh];clear hs;replace hs:=Ch;clear Ch;clear Hh;refine bj rfl ?_;exact aI (aX rfl rfl (hs.ret SZ))
end Go.Proofs.YtgehbndkogohpaaGreatDoor
namespace Go.K
open Go Go.RowKit Go.MapKept
variable {F:Fence} {P:Program} {N:Nat} {ds:List Deferred} {l:Env} {w:World} {Q:Exit→Act→World→Prop} {o:Oper} {g0 g:G} {L:List cS} {K:Value→World→Prop}
variable {κ:Type} [DecidableEq κ] [fk κ]
omit [fk κ] in
def uw(a:κ)(z:Value)(cu:List (κ×Value)):List (κ×Value):=match mf a cu 0 with|some _=>cu|none=>cu++[(a,z)]
omit [fk κ] in
def xR(a:κ)(cu:List (κ×Value)):Nat:=match mf a cu 0 with|some p=>p.1|none=>cu.length
omit [fk κ] in
theorem H2(a:κ)(z:Value)(cu:List (κ×Value)): ∃v,(uw a z cu)[xR a cu]? =some (a,v):=by
 unfold uw xR;cases hm:mf a cu 0 with
 |none=>exact⟨z,by simp⟩
 |some p=>
  obtain⟨_,n,h3,h4,_⟩:=oU (i:=p.1) (v:=p.2) hm;exact⟨p.2,by show cu[p.1]? =_;rw[h3,Nat.zero_add];exact h4⟩
omit [fk κ] in
theorem FC(a:κ)(z x:Value)(cu:List (κ×Value)):(uw a z cu).set (xR a cu) (a,x)=jk a x cu:=by
 unfold uw xR;cases hm:mf a cu 0 with
 |none=>rw[(qY hm).2 x];simp
 |some p=>
  obtain⟨_,n,h3,_,h5⟩:=oU (i:=p.1) (v:=p.2) hm;rw[h5 x];simp only[h3,Nat.zero_add]
theorem yq{T:TypeId}{z:Value}(ht:qy κ P T z){b:Nat}{cu:List (κ×Value)}(hb:w.heap[b]? =some (eA cu))(a:κ):
  (Instr.mapEntry T (.map (some b)) (fk.enc a)).run P w= .ok (.tuple #[(iD a cu).getD z,.int .i64 (xR a cu:Nat)]) (w.putObj b (eA (uw a z cu))):=by
 obtain⟨k,e,h1,h2,h3⟩:=ht.kt;have hf:=run_findKey (P:=P) (w:=w) (l:=lY 0 cu) h2 (mZ a cu 0 0);simp only[Instr.mapEntry,Sem.run_bind,run_underlying h1,Result.andThen_ok,MapKept.run_getObj_map hb,run_checkKey h2 (fk.key a),List.toList_toArray];rw[show(Instr.findKey k (fk.enc a) (lY 0 cu)).run P w=_ from hf];cases hm:mf a cu 0 with
 |none=>
  simp only[Result.andThen_ok,Sem.run_bind,h3];rw[run_setObj_map _ hb];simp only[Result.andThen_ok,Sem.run_pure];unfold uw xR;rw[hm,(qY hm).1];unfold World.putObj eA;rw[ym];simp[lY,goInt]
 |some p=>
  obtain⟨i,v⟩:=p;obtain⟨hg,n,h4,h5,h6⟩:=oU hm;obtain rfl:i=n:=by omega
  have h7:(lY 0 cu)[i]? =some {key:=fk.enc a,val:=v,born:=i}:=by rw[jO,h5];simp
  simp only[Result.andThen_ok,List.getElem?_toArray,h7,Option.map_some,Option.getD_some,Instr.keyThatStays,fk.bits,if_true,Sem.run_bind,Sem.run_pure];rw[run_setObj_map _ hb];simp only[Result.andThen_ok];unfold uw xR;rw[hm,hg];unfold World.putObj eA;have e:(lY 0 cu).toArray.modify i (fun e=>{e with key:=fk.enc a})=(lY 0 cu).toArray:=by
   apply Array.ext';rw[Array.toList_modify];simp only[List.toList_toArray];apply List.ext_getElem?;intro j;rw[List.getElem?_modify];by_cases hj:i=j
   ·subst hj;rw[h7];simp
   simp[hj]
  rw[e];rfl
theorem uY{T:TypeId}{b:Nat}{cu:List (κ×Value)}(hb:w.heap[b]? =some (eA cu)){n:Nat}{a:κ}{v:Value}(hn:cu[n]? =some (a,v))(x:Value):
  (Instr.entryStore T (.map (some b)) (.int .i64 (n:Nat)) x).run P w= .ok () (w.putObj b (eA (cu.set n (a,x)))):=by
 have ha:(asInt (.int .i64 (n:Nat))).run P w= .ok (n:Int) w:=by simp[asInt,asIntOf]
 simp only[Instr.entryStore,Sem.run_bind,Result.andThen_ok,MapKept.run_getObj_map hb,ha];have hi:(lY 0 cu).toArray.findIdx? (fun e=>(e.born:Int)==(n:Int))=some n:=by
  have bC:=(List.getElem?_eq_some_iff.1 hn).1;rw[List.findIdx?_toArray,List.findIdx?_eq_some_iff_getElem];refine⟨by rw[CO];exact bC,?_,?_⟩
  ·have:=jO cu 0 n;rw[hn]at this;rw[(List.getElem?_eq_some_iff.1 this).2];simp
  intro j hj;have:=jO cu 0 j;rw[List.getElem?_eq_getElem (by omega:j<cu.length)]at this;rw[(List.getElem?_eq_some_iff.1 this).2];simp;omega
 rw[hi];simp only[Result.andThen_ok];rw[run_setObj_map _ hb];unfold World.putObj eA;congr 3;rw[List.length_set];congr 1;apply Array.ext';rw[Array.toList_modify];simp only[List.toList_toArray];apply List.ext_getElem?;intro j;rw[List.getElem?_modify,jO,jO,List.getElem?_set];by_cases hj:n=j
 ·subst hj;obtain⟨bC,hv⟩:=List.getElem?_eq_some_iff.1 hn;simp[bC,hv]
 simp[hj]
theorem xS{T:TypeId}{z:Value}(ht:qy κ P T z)(i:Nat){m kk:Operand}{b:Nat}{cu:List (κ×Value)}{a:κ}(ho:o.op= .mapEntry T m kk)(hs:St g0 g L)(hi:L[i]? =some (.obj b (eA cu)))
  (hm:ev l m=some (.map (some b))) (hk:ev l kk=some (fk.enc a)) (k: ∀g',St g0 g' (L.set i (.obj b (eA (uw a z cu))))→g.le g'→K (.tuple #[(iD a cu).getD z,.int .i64 (xR a cu:Nat)]) g'.w):cD F P N ds o l g.w Q K:=by
 have hh:=(hs.own i _ hi).2.1;have h:=hs.po hi (o':=eA (uw a z cu));have hr:=yq ht hh a;refine bO (w':=(g.po b (eA (uw a z cu))).w) (fun c=>⟨by rw[ho];simp,by rw[ho];simp⟩) (fun ac ha=>?_) (k _ h.1 h.2);simp only[execOp,ho,ha.ev hm,ha.ev hk,Sem.run_bind,hr];rfl
theorem ux{T:TypeId}(i:Nat){m s x:Operand}{b n:Nat}{cu:List (κ×Value)}{a:κ}{v u:Value}(ho:o.op= .entryStore T m s x)(hs:St g0 g L)(hi:L[i]? =some (.obj b (eA cu)))(hn:cu[n]? =some (a,u))
  (hm:ev l m=some (.map (some b))) (hk:ev l s=some (.int .i64 (n:Nat))) (hx:ev l x=some v) (k: ∀g',St g0 g' (L.set i (.obj b (eA (cu.set n (a,v)))))→g.le g'→K undef g'.w):cD F P N ds o l g.w Q K:=by
 have hh:=(hs.own i _ hi).2.1;have h:=hs.po hi (o':=eA (cu.set n (a,v)));have hr:=uY (P:=P) (T:=T) hh hn v;refine qO (w':=(g.po b (eA (cu.set n (a,v)))).w) (fun c=>⟨by rw[ho];simp,by rw[ho];simp⟩) (fun ac ha=>?_) (k _ h.1 h.2);simp only[execOp,ho,ha.ev hm,ha.ev hk,ha.ev hx,Sem.run_bind,hr];rfl
end Go.K
namespace Go.Proofs.YtgehbndkogohpaaGreatDoor
open Go Go.K
set_option maxRecDepth 10000
attribute [local irreducible] W WL cD bc bK bd bg bh cq ck
set_option maxHeartbeats 1000000
def ky(n:Int):Bool:=decide (1≤n)&&decide (n≤1000000)
theorem uu(n:Int)(g:G):CallsIn Wd 0 Tryz.prog 99 #[.int .i64 n] g.w (cF g fun _ r=>r= .bool (ky n)):=by
 have hs:=St.start g;refine enter Tryz.func99 rfl Tryz.ntmps99 rfl ?_;refine aY rfl ?_;refine cN 3 rfl ?_;unfold ky;cases decide (1≤n)with
 |true=>
  refine bj rfl ?_;exact aI (aX rfl rfl (hs.ret rfl))
 |false=>
  refine bj rfl ?_;exact aI (aX rfl rfl (hs.ret rfl))
abbrev MP:=List (Int×Int)
def iv(m:MP):List (Int×Value):=m.map fun p=>(p.1,.int .i64 p.2)
def ig(a:Int):MP→Option Int
 |[]=>none
 |(k,v)::r=>if a=k then some v else ig a r
def ip(a x:Int):MP→MP
 |[]=>[(a,x)]
 |(k,v)::r=>if a=k then(k,x)::r else(k,v)::ip a x r
theorem FA(a:Int): ∀m:MP,iD a (iv m)=(ig a m).map (Value.int .i64)
 |[]=>rfl
 |(k,v)::r=>by
  show(if a=k then some (Value.int .i64 v)else iD a (iv r))=(if a=k then some v else ig a r).map _;split
  ·rfl
  exact FA a r
theorem Bf(a x:Int): ∀m:MP,jk a (.int .i64 x) (iv m)=iv (ip a x m)
 |[]=>rfl
 |(k,v)::r=>by
  show(if a=k then(k,.int .i64 x)::iv r else(k,.int .i64 v)::jk a (.int .i64 x) (iv r))=iv (if a=k then(k,x)::r else(k,v)::ip a x r);split
  ·rfl
  rw[Bf a x r];rfl
def Hi(m:MP)(k:Int):Int:=(ig k m).getD k
theorem FB:qy Int Tryz.prog 169 (.int .i64 0):=by have h:=zc (P:=Tryz.prog) (κ:=Int) T.ok (T:=169) rfl rfl rfl rfl rfl;exact h
theorem rT(b:Nat)(m:MP)(k:Int)(g:G)(hm:g.w.heap[b]? =some (eA (iv m))):CallsIn Wd 0 Tryz.prog 101 #[.map (some b),.int .i64 k] g.w (cF g fun _ r=>r= .int .i64 (Hi m k)):=by
 have hs:=St.start g;refine enter Tryz.func101 rfl Tryz.ntmps101 rfl ?_;refine aY rfl ?_;apply aD;refine cN 2 rfl ?_;refine ak rfl rfl (mF FB rfl hm rfl (a:=k) rfl ?_);have hg:=FA k m;unfold Hi;cases HK:ig k m with
 |none=>
  rw[HK]at hg;refine cY (.tuple #[.int .i64 0,.bool false]) (t:=10) rfl (by rw[hg];rfl) ?_;refine bj rfl ?_;refine aY rfl ?_;refine aV rfl rfl ?_;apply aF;apply ar;refine aY rfl ?_;exact aI (aX rfl rfl (hs.ret rfl))
 |some z=>
  rw[HK]at hg;refine cY (.tuple #[.int .i64 z,.bool true]) (t:=10) rfl (by rw[hg];rfl) ?_;refine bj rfl ?_;refine aY rfl ?_;refine aM rfl rfl ?_;refine aY rfl ?_;exact aI (aX rfl rfl (hs.ret rfl))
def uv(f:bH)(m:MP):MP:=ip f.oth (Hi m f.waf) (ip f.waf (Hi m f.oth) m)
theorem K2(x:bH)(b1 bm:Nat)(m:MP){g0 g:G}{L:List cS}(aC:EP g b1 0 [.map (some bm)])(hs:St g0 g (.obj bm (eA (iv m))::L)):
  CallsIn Wd 0 Tryz.prog 194 #[fv x,.pointer (some ⟨b1,0,none⟩)] g.w (ek g fun g' r=>r= .tuple #[]∧St g0 g' (.obj bm (eA (iv (uv x m)))::L)):=by
 have aq:=G.le.refl g;refine enter Tryz.func194 rfl Tryz.ntmps194 rfl ?_;apply cM;refine ak rfl rfl (aO rfl hs rfl rfl ?_);clear hs;rintro b2 g1 hs ah;obtain⟨aq,aC⟩:=cf ah aq aC;obtain⟨g2,bL,aT,ah,aL⟩:=hs.ba (i:=0) rfl;replace hs:=aT;clear aT;rw[←bL];obtain⟨aq,aC⟩:=cf ah aq aC;have aR:=aL;clear aL;replace hs:St g0 _ (.obj bm (eA (iv m))::L):=hs;apply bW;obtain⟨u,hu⟩:=H2 x.waf (.int .i64 0) (iv m);apply qz (eO (.e (.int .i64 x.oth):: .e (.int .i64 (Hi m x.oth))::eQ (.e (.int .i64 x.waf):: .e (.int .i64 (Hi m x.waf)):: .e (.tuple #[((iD x.waf (iv m)).getD (.int .i64 0)),.int .i64 (xR x.waf (iv m):Nat)])::fe (.f Fact.any::[])))) 17 [(3,6),(5,8),(13,16)] [14,16] [[0,1,2,6,7,8,9,10,11,12,13],[0,1,2,6,7,8,9,10,11,12,13,14,15]]
  (fun s=>match s with|0=> .obj bm (eA (iv m))::L|1=> .obj bm (eA (uw x.waf (.int .i64 0) (iv m)))::L|_+2=> .obj bm (eA (jk x.waf (.int .i64 (Hi m x.oth)) (iv m)))::L) hs (by kernel_rfl) ⟨dk,trivial⟩
 ·refine Lm [[],[],[1],[],[],[4],[],[],[7]] [.z aC,.z aR,.z aC,.z aR,.z aC,.z aR] (by kernel_rfl) rfl ?_;refine dm (lj 0 0 (js:=[(6,9),(8,11)]) (by kernel_rfl) (by kernel_rfl) ?_) ?_
  ·intro s g' _ h1 hf hJ;obtain rfl:s=0:=by omega
   exact ai rfl (ai rfl (aj (aB rfl (au Ey aJ rfl rfl rfl rfl rfl (rT bm m (x.oth) g' (hJ.own 0 _ rfl).2.1) fun g3 v h1 h2=>⟨g3,rfl,h1,h2⟩))))
  refine Lm [[],[],[11]] [.z aC,.z aR] (by kernel_rfl) rfl ?_;refine dm (lj 0 0 (js:=[(10,13),(12,15)]) (by kernel_rfl) (by kernel_rfl) ?_) ?_
  ·intro s g' _ h1 hf hJ;obtain rfl:s=0:=by omega
   exact ai rfl (ai rfl (aj (aB rfl (au Ey aJ rfl rfl rfl rfl rfl (rT bm m (x.waf) g' (hJ.own 0 _ rfl).2.1) fun g3 v h1 h2=>⟨g3,rfl,h1,h2⟩))))
  refine dm (wq 0 (js:=[(0,3),(2,5)]) (by kernel_rfl) rfl fun g' hf hJ=>ai rfl (ai rfl (aj (rK rfl (xS FB 0 rfl hJ rfl rfl (a:=x.waf) rfl fun g3 hs hle=>⟨g3,rfl,⟨hle,hs⟩,rfl⟩))))) ?_;refine Lm [[14]] [] (by kernel_rfl) rfl ?_;refine dm (wq 1 (js:=[(0,3),(15,18),(9,12),(0,3),(9,12)]) (by kernel_rfl) rfl fun g' hf hJ=>ai rfl (ai rfl (ai rfl (ai rfl (ai rfl (aj (rK rfl (ux 0 rfl hJ rfl hu rfl rfl rfl fun g3 hs hle=>⟨g3,rfl,⟨hle,?_⟩,trivial⟩)))))))) ?_
  ·rw[FC]at hs;exact hs
  exact zl
 clear hs;intro g6 hs ah;replace aq:=G.le.trans aq ah;refine ai rfl (ai rfl (ai rfl (aj ?_)));refine bA rfl (dK FB 0 (.inl rfl) hs rfl rfl (a:=x.oth) rfl rfl ?_);clear hs;intro g7 hs ah;replace aq:=G.le.trans aq ah;replace hs:St g0 g7 (.obj bm (eA (jk x.oth (.int .i64 (Hi m x.waf)) (jk x.waf (.int .i64 (Hi m x.oth)) (iv m))))::L):=hs;rw[Bf,Bf]at hs;apply aE;exact kD rfl (ek.intro aq ⟨rfl,hs⟩)
def Pw(time:Int)(f:bH):Bool:=(ky f.waf&&ky f.oth)&&decide (f.time≤time)
theorem Px(x:bH)(time:Int)(b1:Nat)(g:G)(aC:EP g b1 0 [.int .i64 time]):CallsIn Wd 0 Tryz.prog 195 #[fv x,.pointer (some ⟨b1,0,none⟩)] g.w (cF g fun _ r=>r= .bool (Pw time x)):=by
 have hs:=St.start g;have aq:=G.le.refl g;refine enter Tryz.func195 rfl Tryz.ntmps195 rfl ?_;apply cM;refine ak rfl rfl (aO rfl hs rfl rfl ?_);clear hs;rintro b2 g1 hs ah;replace aC:=aC.mono ah;obtain⟨g2,bL,aT,ah,aL⟩:=hs.ba (i:=0) rfl;replace hs:=aT;clear aT;rw[←bL];replace aC:=aC.mono ah;have aR:=aL;clear aL;refine bj rfl ?_;refine dz 2 [.z aR] (St.start _) rfl ?_;refine ak rfl rfl (au xx aJ rfl rfl rfl rfl rfl (uu x.waf _) ?_);rintro g1 _ aP rfl;replace hs:=hs.call aP;have ah:=aP.le;obtain⟨aC,aR⟩:=cf ah aC aR;unfold Pw;cases ky x.waf with
 |false=>
  refine bj rfl ?_;exact aI (aX rfl rfl (hs.ret rfl))
 |true=>
  refine Wm 3 [.z aR] (St.start _) rfl ?_;clear aP;refine ak rfl rfl (au xx aJ rfl rfl rfl rfl rfl (uu x.oth _) ?_);rintro g1 _ aP rfl;replace hs:=hs.call aP;have ah:=aP.le;obtain⟨aC,aR⟩:=cf ah aC aR;cases ky x.oth with
  |false=>
   refine bj rfl ?_;exact aI (aX rfl rfl (hs.ret rfl))
  |true=>
   refine Dk [.z aR,.z aC] (St.start _) rfl ?_;exact aI (aX rfl rfl (hs.ret rfl))
def Fc(b:gn):Prop:=∀i,(b.ls i).length≤1000000
def uy(b:gn)(time:Int):MP:=(dN xQ (b.vX.filter (Pw time))).foldl (fun m f=>uv f m) []
theorem S0(v:Value)(b:gn)(time:Int)(g:G)(bV:mG g v b)(hb:Fc b):CallsIn Wd 0 Tryz.prog 100 #[v,.int .i64 time] g.w (cF g fun g' r=> ∃bm,r= .map (some bm)∧rL g' bm (iv (uy b time))):=by
 have hs:=St.start g;have aq:=G.le.refl g;obtain⟨sl,rfl,kx⟩:=bV;have aH:=kx 2 (by decide);refine enter Tryz.func100 rfl Tryz.ntmps100 rfl ?_;apply cM;refine ak rfl rfl (aO rfl hs rfl rfl ?_);clear hs;rintro b2 g1 hs ah;obtain⟨aq,aH⟩:=cf ah aq aH;obtain⟨g2,bL,aT,ah,aL⟩:=hs.ba (i:=0) rfl;replace hs:=aT;clear aT;rw[←bL];obtain⟨aq,aH⟩:=cf ah aq aH;have aC:=aL;clear aL;skip;refine ak rfl rfl (aO rfl hs rfl rfl ?_);clear hs;rintro b3 g1 hs ah;obtain⟨aq,aC,aH⟩:=dy ah aq aC aH;obtain⟨g2,bL,aT,ah,aL⟩:=hs.ba (i:=0) rfl;replace hs:=aT;clear aT;rw[←bL];obtain⟨aq,aC,aH⟩:=dy ah aq aC aH;have aR:=aL;clear aL;refine bj rfl ?_;apply cM;refine ak rfl rfl (jV (κ:=Int) rfl hs ?_);clear hs;intro bm g1 hs ah;obtain⟨aq,aC,aR,aH⟩:=eS ah aq aC aR aH;refine ak rfl rfl (aK T.ok rfl hs rfl rfl ?_);clear hs;rintro b5 g1 hs ah;obtain⟨aq,aC,aR,aH⟩:=eS ah aq aC aR aH;refine bA rfl (az T.ok 0 rfl hs rfl rfl rfl rfl rfl rfl rfl rfl rfl ?_);replace hs:=hs;rintro g1 hs ah;obtain⟨aq,aC,aR,aH⟩:=eS ah aq aC aR aH;obtain⟨g2,bL,aT,ah,aL⟩:=hs.ba (i:=0) rfl;replace hs:=aT;clear aT;rw[←bL];obtain⟨aq,aC,aR,aH⟩:=eS ah aq aC aR aH;have cU:=aL;clear aL;replace hs:St g _ [.obj bm (eA (iv []))]:=hs;apply bW;refine aY rfl ?_;apply aD;refine dz 3 [.z aC] (St.start _) rfl ?_;refine ak rfl rfl (au Jl aJ rfl rfl rfl rfl rfl (wH _ _ b.vX (Pw time) _ aH (hb 2) (fun g' x _ h=>cW (first:=#[]) (args:=[fv x]) (captured:=#[.pointer (some ⟨b3,0,none⟩)]) N2 rfl (Px x time b3 g' (aR.mono h)))) ?_);rintro g1 _ aP aU;replace hs:=hs.call aP;have ah:=aP.le;obtain⟨aq,aC,aR,cU⟩:=eS ah aq aC aR cU;unfold uy;generalize dN xQ (b.vX.filter (Pw time))=l at*;obtain⟨a,c,rfl⟩:=aU.isSlice;have hlen:=aU.dJ;unfold maxLen at hlen;clear aH aC aR aP;refine bj rfl ?_;apply aG;refine bM (fun m a' w=> ∃(i:Nat) (g':G),w=g'.w∧St g g' [.obj bm (eA (iv ((l.take i).foldl (fun m f=>uv f m) [])))]∧G.le g g'∧Rs g' (.slice a l.length c) l∧EP g' b5 0 [.map (some bm)]∧i≤l.length∧m=l.length-i∧
   Fr 25 [] [(5,.pointer (some ⟨b5,0,none⟩)),(6,.func (.func 194) #[] #[.pointer (some ⟨b5,0,none⟩)]),(14,.slice a l.length c),(15,.int .i64 (l.length:Nat)),(16,.int .i64 (i:Nat))] a') l.length
  (fun a' ha=>⟨0,_,rfl,hs,aq,aU,cU,Nat.zero_le _,rfl,ha.keep (by(repeat (first|exact trivial|refine⟨rfl,?_⟩)))⟩) ?_
 clear hs aU aq cU;rintro m a' _ ⟨i,g',rfl,hs,aq,aU,cU,hi,rfl,eF⟩;revert a';apply cI;refine aY rfl ?_;apply aD;by_cases bC:i<l.length
 ·refine aM (b:=decide ((i:Int)<(l.length:Int))) (decide_eq_true (by omega)) rfl ?_;have jG:dS l (i:Int)=some l[i]:=cZ rfl bC;have fP:(l.take (i+1)).foldl (fun m f=>uv f m) []=uv l[i] ((l.take i).foldl (fun m f=>uv f m) []):=by rw[List.take_add_one,List.getElem?_eq_getElem bC,List.foldl_append];rfl
  generalize(l.take i).foldl (fun m f=>uv f m) []=M at*;generalize l[i]=x at*;apply aF;apply ar;apply aD;apply aG;apply cM;refine ak rfl rfl (aW T.ok rfl aU (y:=x) jG rfl rfl rfl rfl rfl rfl ?_);rintro b q ys aL rfl;have aC:=aL;clear aL;refine Wm 1 [.e aC 0] (St.start _) rfl ?_;refine ak rfl rfl (aK T.ok rfl hs rfl rfl ?_);clear hs;rintro b8 g1 hs ah;obtain⟨aq,cU,aU⟩:=dy ah aq cU aU;refine bA rfl (az T.ok 0 rfl hs rfl rfl rfl rfl rfl rfl rfl rfl rfl ?_);replace hs:=hs;rintro g1 hs ah;obtain⟨aq,cU,aU⟩:=dy ah aq cU aU;obtain⟨g2,bL,aT,ah,aL⟩:=hs.ba (i:=0) rfl;replace hs:=aT;clear aT;rw[←bL];obtain⟨aq,cU,aU⟩:=dy ah aq cU aU;have aR:=aL;clear aL;replace hs:St g _ [.obj bm (eA (iv M))]:=hs;apply bW;apply aA;refine Wm 2 [.z aR] (St.start _) rfl ?_;refine ak rfl rfl (du N1 aJ rfl rfl rfl rfl rfl (K2 x b5 bm M cU hs) ?_);clear hs;rintro g6 _ ah ⟨rfl,hs⟩;obtain⟨aq,cU,aU⟩:=dy ah aq cU aU;apply aE;apply bR;apply ar;apply aA;refine Wp 2 rfl ?_;apply aE;exact fun a ha=>⟨l.length-(i+1),by omega,i+1,g6,rfl,by rw[fP];exact hs,aq,aU,cU,by omega,rfl,ha.keep ⟨rfl,rfl,rfl,rfl,kI rfl (by rw[wr (by omega) (by omega)];omega),trivial⟩⟩
 refine aV (b:=decide ((i:Int)<(l.length:Int))) (decide_eq_false (by omega)) rfl ?_;rw[List.take_of_length_le (by omega)]at hs;apply bF;apply bG;apply bG;apply c_;apply ar;refine l_ [.z cU] (St.start _) rfl ?_;obtain⟨g7,KQ,Hf,ah,hm⟩:=E6 hs (i:=0) rfl;rw[←KQ];exact aI (aX rfl rfl (Hf.ret ⟨bm,rfl,hm⟩))
def vC(b:gn)(mark time:Int):Int:=if ky mark then Hi (uy b time) mark else 0
theorem JX(v:Value)(b:gn)(mark time:Int)(g:G)(bV:mG g v b)(hb:Fc b):CallsIn Wd 0 Tryz.prog 31 #[v,.int .i64 mark,.int .i64 time] g.w (cF g fun _ r=>r= .int .i64 (vC b mark time)):=by
 have hs:=St.start g;have aq:=G.le.refl g;obtain⟨sl,rfl,kx⟩:=bV;have bV:mG g (.agg ((List.range 11).map sl).toArray) b:=⟨sl,rfl,kx⟩
 refine enter Tryz.func31 rfl Tryz.ntmps31 rfl ?_;apply cM;refine ak rfl rfl (aO rfl hs rfl rfl ?_);clear hs;rintro b2 g1 hs ah;replace bV:=bV.mono ah;obtain⟨g2,bL,aT,ah,aL⟩:=hs.ba (i:=0) rfl;replace hs:=aT;clear aT;rw[←bL];replace bV:=bV.mono ah;have aC:=aL;clear aL;refine bj rfl ?_;apply aD;refine cN 1 rfl ?_;refine ak rfl rfl (au xx aJ rfl rfl rfl rfl rfl (uu mark _) ?_);rintro g1 _ aP rfl;replace hs:=hs.call aP;have ah:=aP.le;obtain⟨aC,bV⟩:=cf ah aC bV;unfold vC;cases ky mark with
 |false=>
  refine bj rfl ?_;refine aM rfl rfl ?_;refine aY rfl ?_;exact aI (aX rfl rfl (hs.ret rfl))
 |true=>
  refine bj rfl ?_;refine aV rfl rfl ?_;apply aF;apply ar;refine dz 2 [.z aC] (St.start _) rfl ?_;clear aP;refine ak rfl rfl (au M9 aJ rfl rfl rfl rfl rfl (S0 _ b time _ bV hb) ?_);rintro g1 _ aP ⟨bm,rfl,hm⟩;replace hs:=hs.call aP;have ah:=aP.le;refine Wp 1 rfl ?_;clear aP;refine ak rfl rfl (au Ey aJ rfl rfl rfl rfl rfl (rT bm (uy b time) mark _ hm.2) ?_);rintro g2 _ aP rfl;replace hs:=hs.call aP;refine bj rfl ?_;exact aI (aX rfl rfl (hs.ret rfl))
end Go.Proofs.YtgehbndkogohpaaGreatDoor
namespace Go.Proofs.YtgehbndkogohpaaGreatDoor
open Go Go.K
set_option maxRecDepth 10000
attribute [local irreducible] W WL cD bc bK bd bg bh cq ck
set_option maxHeartbeats 1000000
def mc(b:gn)(w:Int):List bH:=if ky w then dN xQ (b.procs.filter fun f=>vC b f.waf f.time==w)else []
theorem H3(x:bH)(_v:Value)(b:gn)(w:Int)(b1 b2:Nat)(sl:Nat→Value)(g:G)(aC:EP g b1 0 ((List.range 11).map sl))(aR:EP g b2 0 [.int .i64 w])(bV:mG g (.agg ((List.range 11).map sl).toArray) b)(hb:Fc b):
  CallsIn Wd 0 Tryz.prog 103 #[fv x,.pointer (some ⟨b1,0,none⟩),.pointer (some ⟨b2,0,none⟩)] g.w (cF g fun _ r=>r= .bool (vC b x.waf x.time==w)):=by
 have hs:=St.start g;have aq:=G.le.refl g;refine enter Tryz.func103 rfl Tryz.ntmps103 rfl ?_;apply cM;refine ak rfl rfl (aO rfl hs rfl rfl ?_);clear hs;rintro b3 g1 hs ah;obtain⟨aC,aR,bV⟩:=dy ah aC aR bV;obtain⟨g2,bL,aT,ah,aL⟩:=hs.ba (i:=0) rfl;replace hs:=aT;clear aT;rw[←bL];obtain⟨aC,aR,bV⟩:=dy ah aC aR bV;have cU:=aL;clear aL;refine bj rfl ?_;apply aD;apply bP hs (eO []) 8 [(7,12)] (by kernel_rfl) rfl
 ·exact Dz [[],[],[1],[],[3],[0,2,4],[],[5,6]] [.z aC,.z cU,.z cU,.c MV fun g' h=>JX (.agg ((List.range 11).map sl).toArray) b x.waf x.time g' (bV.mono h) hb,.z aR] hs (by kernel_rfl) rfl
 clear hs;intro g6 hs ah;refine bj rfl ?_;exact aI (aX rfl rfl (hs.ret rfl))
theorem Fl(v:Value)(b:gn)(w:Int)(g:G)(bV:mG g v b)(hb:Fc b):CallsIn Wd 0 Tryz.prog 32 #[v,.int .i64 w] g.w (cF g fun g' r=>Rs g' r (mc b w)):=by
 have hs:=St.start g;have aq:=G.le.refl g;obtain⟨sl,rfl,kx⟩:=bV;have bV:mG g (.agg ((List.range 11).map sl).toArray) b:=⟨sl,rfl,kx⟩
 have aH:=kx 0 (by decide);refine enter Tryz.func32 rfl Tryz.ntmps32 rfl ?_;apply cM;refine ak rfl rfl (aO rfl hs rfl rfl ?_);clear hs;rintro b2 g1 hs ah;obtain⟨aH,bV⟩:=cf ah aH bV;obtain⟨g2,bL,aT,ah,aL⟩:=hs.ba (i:=0) rfl;replace hs:=aT;clear aT;rw[←bL];obtain⟨aH,bV⟩:=cf ah aH bV;have aC:=aL;clear aL;skip;refine ak rfl rfl (aO rfl hs rfl rfl ?_);clear hs;rintro b3 g1 hs ah;obtain⟨aC,aH,bV⟩:=dy ah aC aH bV;obtain⟨g2,bL,aT,ah,aL⟩:=hs.ba (i:=0) rfl;replace hs:=aT;clear aT;rw[←bL];obtain⟨aC,aH,bV⟩:=dy ah aC aH bV;have aR:=aL;clear aL;refine bj rfl ?_;apply aD;refine dz 1 [.z aR] (St.start _) rfl ?_;refine ak rfl rfl (au xx aJ rfl rfl rfl rfl rfl (uu w _) ?_);rintro g1 _ aP rfl;replace hs:=hs.call aP;have ah:=aP.le;obtain⟨aC,aR,aH,bV⟩:=eS ah aC aR aH bV;unfold mc;cases ky w with
 |false=>
  refine bj rfl ?_;refine aM rfl rfl ?_;refine aY rfl ?_;exact aI (aX rfl rfl (hs.ret (Rs.nil _)))
 |true=>
  refine bj rfl ?_;refine aV rfl rfl ?_;apply aF;apply ar;refine dz 3 [.z aC] (St.start _) rfl ?_;clear aP;refine ak rfl rfl (au Jl aJ rfl rfl rfl rfl rfl (wH _ _ b.procs (fun f=>vC b f.waf f.time==w) _ aH (hb 0) (fun g' x _ h=>cW (first:=#[]) (args:=[fv x]) (captured:=#[.pointer (some ⟨b2,0,none⟩),.pointer (some ⟨b3,0,none⟩)]) M_ rfl (H3 x (.agg ((List.range 11).map sl).toArray) b w b2 b3 sl g' (aC.mono h) (aR.mono h) (bV.mono h) hb))) ?_);rintro g1 _ aP aU;replace hs:=hs.call aP;have ah:=aP.le;refine bj rfl ?_;exact aI (aX rfl rfl (hs.ret aU))
def uz(w time:Int)(f:bH):Bool:=((ky w&&f.waf==w)&&decide (f.time≤time))
def nw(w time:Int)(o:Option bH)(f:bH):Option bH:=if uz w time f&&(match o with|none=>true|some h=>decide (h.time<f.time))then some f else o
def nV(b:gn)(w time:Int):Option bH:=b.iz.foldl (nw w time) none
def zB(g:G)(v:Value):Option bH→Prop
 |none=>v= .pointer none
 |some f=> ∃b p,v= .pointer (some ⟨b,p,none⟩)∧EP g b p (cg f)
theorem zB.mono{g g':G}{v:Value}: ∀{o:Option bH},zB g v o→g.le g'→zB g' v o
 |none,h,_=>h
 |some _,⟨b,p,e,h⟩,hle=>⟨b,p,e,h.mono hle⟩
theorem JV(v:Value)(b:gn)(w time:Int)(g:G)(bV:mG g v b):CallsIn Wd 0 Tryz.prog 106 #[v,.int .i64 w,.int .i64 time] g.w (cF g fun _ r=>r= .tuple #[.int .i64 ((nV b w time).getD iy).lot,.int .i64 ((nV b w time).getD iy).prod]):=by
 have hs:=St.start g;have aq:=G.le.refl g;obtain⟨sl,rfl,kx⟩:=bV;have aH:Rs g (sl 3) b.iz:=kx 3 (by decide);obtain⟨a,c,vD⟩:=aH.isSlice;have hlen:=aH.dJ;unfold maxLen at hlen;refine enter Tryz.func106 rfl Tryz.ntmps106 rfl ?_;apply cM;refine ak rfl rfl (aO rfl hs rfl rfl ?_);clear hs;rintro b2 g1 hs ah;obtain⟨aq,aH⟩:=cf ah aq aH;obtain⟨g2,bL,aT,ah,aL⟩:=hs.ba (i:=0) rfl;replace hs:=aT;clear aT;rw[←bL];obtain⟨aq,aH⟩:=cf ah aq aH;have aC:=aL;clear aL;refine bj rfl ?_;refine aY rfl ?_;apply aD;refine dz 2 [.z aC] (St.start _) rfl ?_;refine cY (.slice a b.iz.length c) (t:=12) rfl vD ?_;rw[vD]at aH;refine bj rfl ?_;apply aG;replace hs:St g _ []:=hs;refine bM (fun m a' w'=> ∃(i:Nat) (v8:Value) (o:Option bH) (g':G),w'=g'.w∧St g g' []∧G.le g g'∧Rs g' (.slice a b.iz.length c) b.iz∧EP g' b2 0 ((List.range 11).map sl)∧zB g' v8 o∧i≤b.iz.length∧(b.iz.take i).foldl (nw w time) none=o∧m=b.iz.length-i∧
   Fr 61 [] [(1,.int .i64 w),(2,.int .i64 time),(3,.pointer (some ⟨b2,0,none⟩)),(8,v8),(12,.slice a b.iz.length c),(13,.int .i64 (b.iz.length:Nat)),(14,.int .i64 (i:Nat))] a') b.iz.length
  (fun a' ha=>⟨0,.pointer none,none,_,rfl,hs,aq,aH,aC,rfl,Nat.zero_le _,rfl,rfl,ha.keep (by(repeat (first|exact trivial|refine⟨rfl,?_⟩)))⟩) ?_
 clear hs aH aq aC;rintro m a' _ ⟨i,v8,o,g',rfl,hs,aq,aH,aC,s8,hi,vm,rfl,eF⟩;revert a';apply cI;refine aY rfl ?_;apply aD;by_cases bC:i<b.iz.length
 ·refine aM (b:=decide ((i:Int)<(b.iz.length:Int))) (decide_eq_true (by omega)) rfl ?_;have jG:dS b.iz (i:Int)=some b.iz[i]:=cZ rfl bC;have fP:(b.iz.take (i+1)).foldl (nw w time) none=nw w time o b.iz[i]:=by rw[List.take_add_one,List.getElem?_eq_getElem bC,List.foldl_append,vm];rfl
  generalize b.iz[i]=x at*;clear vm;apply aF;apply ar;apply aD;apply aG;refine cN 1 rfl ?_;refine ak rfl rfl (aW T.ok rfl aH (y:=x) jG rfl rfl rfl rfl rfl rfl ?_);rintro b9 q9 ys aL rfl;have aR:=aL;clear aL;refine Wm 1 [.e aR 0] (St.start _) rfl ?_;refine ak rfl rfl (aK T.ok rfl hs rfl rfl ?_);clear hs;rintro VD g1 hs ah;obtain⟨aq,aC,aR,aH⟩:=eS ah aq aC aR aH;replace s8:=s8.mono ah;refine Wp 1 rfl ?_;refine bA rfl (az T.ok 0 rfl hs rfl rfl rfl rfl rfl rfl rfl rfl rfl ?_);replace hs:=hs;rintro g1 hs ah;obtain⟨aq,aC,aR,aH⟩:=eS ah aq aC aR aH;replace s8:=s8.mono ah;obtain⟨g2,bL,aT,ah,aL⟩:=hs.ba (i:=0) rfl;replace hs:=aT;clear aT;rw[←bL];obtain⟨aq,aC,aR,aH⟩:=eS ah aq aC aR aH;replace s8:=s8.mono ah;clear aR;have aR:=aL;clear aL;replace hs:St g _ []:=hs;apply bW;apply aD;have hid:=fun g'=>uu w g';cases h1:ky w with
  |false=>
   simp only[h1]at hid;apply bP hs (eO (eO (eO (eQ (fe []))))) 27 [(26,45)] (by kernel_rfl) rfl
   ·exact Dz [[],[0],[1,1],[2],[3,2],[2],[4,5,2],[2,6],[7],[8],[9,8],[8],[10,11,8],[8,12],[13],[14],[15,14],[16,14,14],[17],[18,17],[17],[20,17],[21,17],[22,17],[19,23,17],[17,24,14],[14,25]] [.c xx fun g' _=>hid g'] hs (by kernel_rfl) rfl
   clear hs;intro g6 hs ah;obtain⟨aq,aC,aR,aH⟩:=eS ah aq aC aR aH;replace s8:=s8.mono ah;apply bW;refine aV rfl rfl ?_;apply aF;apply bR;apply ar;apply aA;refine Wp 2 rfl ?_;apply aE;have e:nw w time o x=o:=by unfold nw uz;simp[h1]
   rw[e]at fP;exact fun a ha=>⟨b.iz.length-(i+1),by omega,i+1,v8,o,_,rfl,hs,aq,aH,aC,s8,by omega,fP,rfl,ha.keep ⟨rfl,rfl,rfl,rfl,rfl,rfl,kI rfl (by rw[wr (by omega) (by omega)];omega),trivial⟩⟩
  |true=>
   simp only[h1]at hid;cases h2:x.waf==w with
   |false=>
    apply bP hs (iY (eQ (.e (.bool false)::eO (eO (iY []))))) 27 [(26,45)] (by kernel_rfl) rfl
    ·refine Dm [[],[0],[1,1],[2],[3,2],[2]] [.c xx fun g' _=>hid g',.z aR] hs (by kernel_rfl) rfl ?_;refine ay (an (js:=[(4,23),(5,24),(2,21)]) (by kernel_rfl) fun gd hf=>ai rfl (ai rfl (ai rfl (aj (aB rfl (aN _ T.ok rfl ⟨gd,rfl,a_.refl _,congrArg Value.bool h2⟩)))))) ?_;exact Dz [[2,6],[7],[8],[9,8],[8],[10,11,8],[8,12],[13],[14],[15,14],[16,14,14],[17],[18,17],[17],[20,17],[21,17],[22,17],[19,23,17],[17,24,14],[14,25]] [] hs (by kernel_rfl) rfl
    clear hs;intro g6 hs ah;obtain⟨aq,aC,aR,aH⟩:=eS ah aq aC aR aH;replace s8:=s8.mono ah;apply bW;refine aV rfl rfl ?_;apply aF;apply bR;apply ar;apply aA;refine Wp 2 rfl ?_;apply aE;have e:nw w time o x=o:=by unfold nw uz;simp[h1,h2]
    rw[e]at fP;exact fun a ha=>⟨b.iz.length-(i+1),by omega,i+1,v8,o,_,rfl,hs,aq,aH,aC,s8,by omega,fP,rfl,ha.keep ⟨rfl,rfl,rfl,rfl,rfl,rfl,kI rfl (by rw[wr (by omega) (by omega)];omega),trivial⟩⟩
   |true=>
    cases h3:decide (x.time≤time)with
    |false=>
     apply bP hs (iY (eQ (.e (.bool true)::iY (fe (.e (.bool false)::eO (iY (eQ []))))))) 27 [(26,45)] (by kernel_rfl) rfl
     ·refine Dm [[],[0],[1,1],[2],[3,2],[2]] [.c xx fun g' _=>hid g',.z aR] hs (by kernel_rfl) rfl ?_;refine ay (an (js:=[(4,23),(5,24),(2,21)]) (by kernel_rfl) fun gd hf=>ai rfl (ai rfl (ai rfl (aj (aB rfl (aN _ T.ok rfl ⟨gd,rfl,a_.refl _,congrArg Value.bool h2⟩)))))) ?_;refine Dm [[2,6],[7],[8],[9,8],[8]] [.z aR] hs (by kernel_rfl) rfl ?_;refine ay (an (js:=[(10,29),(11,30),(8,27)]) (by kernel_rfl) fun gd hf=>ai rfl (ai rfl (ai rfl (aj (aB rfl (aN _ T.ok rfl ⟨gd,rfl,a_.refl _,congrArg Value.bool h3⟩)))))) ?_;exact Dz [[8,12],[13],[14],[15,14],[16,14,14],[17],[18,17],[17],[20,17],[21,17],[22,17],[19,23,17],[17,24,14],[14,25]] [] hs (by kernel_rfl) rfl
     clear hs;intro g6 hs ah;obtain⟨aq,aC,aR,aH⟩:=eS ah aq aC aR aH;replace s8:=s8.mono ah;apply bW;refine aV rfl rfl ?_;apply aF;apply bR;apply ar;apply aA;refine Wp 2 rfl ?_;apply aE;have e:nw w time o x=o:=by unfold nw uz;simp[h1,h2,of_decide_eq_false h3]
     rw[e]at fP;exact fun a ha=>⟨b.iz.length-(i+1),by omega,i+1,v8,o,_,rfl,hs,aq,aH,aC,s8,by omega,fP,rfl,ha.keep ⟨rfl,rfl,rfl,rfl,rfl,rfl,kI rfl (by rw[wr (by omega) (by omega)];omega),trivial⟩⟩
    |true=>
     cases o with
     |none=>
      obtain rfl:v8= .pointer none:=s8;have he:nw w time none x=some x:=by unfold nw uz;rw[h1,h2,h3];rfl
      apply bP hs (iY (eQ (.e (.bool true)::iY (fe (.e (.bool true)::eO (iY (eQ []))))))) 27 [(26,45)] (by kernel_rfl) rfl
      ·refine Dm [[],[0],[1,1],[2],[3,2],[2]] [.c xx fun g' _=>hid g',.z aR] hs (by kernel_rfl) rfl ?_;refine ay (an (js:=[(4,23),(5,24),(2,21)]) (by kernel_rfl) fun gd hf=>ai rfl (ai rfl (ai rfl (aj (aB rfl (aN _ T.ok rfl ⟨gd,rfl,a_.refl _,congrArg Value.bool h2⟩)))))) ?_;refine Dm [[2,6],[7],[8],[9,8],[8]] [.z aR] hs (by kernel_rfl) rfl ?_;refine ay (an (js:=[(10,29),(11,30),(8,27)]) (by kernel_rfl) fun gd hf=>ai rfl (ai rfl (ai rfl (aj (aB rfl (aN _ T.ok rfl ⟨gd,rfl,a_.refl _,congrArg Value.bool h3⟩)))))) ?_;refine Dm [[8,12],[13],[14]] [] hs (by kernel_rfl) rfl ?_;refine ay (an (js:=[(15,34),(14,33)]) (by kernel_rfl) fun gd hf=>ai rfl (ai rfl (aj (aB rfl (dw T.ok (neg:=false) rfl rfl rfl rfl rfl ⟨gd,rfl,a_.refl _,rfl⟩))))) ?_;exact Dz [[16,14,14],[17],[18,17],[17],[20,17],[21,17],[22,17],[19,23,17],[17,24,14],[14,25]] [] hs (by kernel_rfl) rfl
      clear hs;intro g6 hs ah;obtain⟨aq,aC,aR,aH⟩:=eS ah aq aC aR aH;apply bW;refine aM rfl rfl ?_;apply aA;refine Wm 3 [.z aC] (St.start _) rfl ?_;refine cY (.slice a b.iz.length c) (t:=47) rfl vD ?_;refine ak rfl rfl (aW T.ok rfl aH (y:=x) jG rfl rfl rfl rfl rfl rfl ?_);rintro b6 q6 ys aL rfl;refine Wp 1 rfl ?_;apply aE;apply bR;apply ar;apply aA;refine Wp 2 rfl ?_;apply aE;rw[he]at fP;exact fun a ha=>⟨b.iz.length-(i+1),by omega,i+1,.pointer (some ⟨b6,q6,none⟩),some x,_,rfl,hs,aq,aH,aC,⟨b6,q6,rfl,aL⟩,by omega,fP,rfl,ha.keep ⟨rfl,rfl,rfl,rfl,rfl,rfl,kI rfl (by rw[wr (by omega) (by omega)];omega),trivial⟩⟩
     |some h=>
      obtain⟨b8,p8,rfl,FD⟩:=s8;apply bP hs (iY (eQ (.e (.bool true)::iY (fe (.e (.bool true)::eO (iY (eQ []))))))) 27 [(26,45)] (by kernel_rfl) rfl
      ·refine Dm [[],[0],[1,1],[2],[3,2],[2]] [.c xx fun g' _=>hid g',.z aR] hs (by kernel_rfl) rfl ?_;refine ay (an (js:=[(4,23),(5,24),(2,21)]) (by kernel_rfl) fun gd hf=>ai rfl (ai rfl (ai rfl (aj (aB rfl (aN _ T.ok rfl ⟨gd,rfl,a_.refl _,congrArg Value.bool h2⟩)))))) ?_;refine Dm [[2,6],[7],[8],[9,8],[8]] [.z aR] hs (by kernel_rfl) rfl ?_;refine ay (an (js:=[(10,29),(11,30),(8,27)]) (by kernel_rfl) fun gd hf=>ai rfl (ai rfl (ai rfl (aj (aB rfl (aN _ T.ok rfl ⟨gd,rfl,a_.refl _,congrArg Value.bool h3⟩)))))) ?_;refine Dm [[8,12],[13],[14]] [] hs (by kernel_rfl) rfl ?_;refine ay (an (js:=[(15,34),(14,33)]) (by kernel_rfl) fun gd hf=>ai rfl (ai rfl (aj (aB rfl (dw T.ok (neg:=false) rfl rfl rfl rfl rfl ⟨gd,rfl,a_.refl _,rfl⟩))))) ?_;exact Dz [[16,14,14],[17],[18,17],[17],[20,17],[21,17],[22,17],[19,23,17],[17,24,14],[14,25]] [.z aR,.e FD 5] hs (by kernel_rfl) rfl
      cases h4:decide (h.time<x.time)with
      |false=>
       have s8:zB _ (.pointer (some ⟨b8,p8,none⟩)) (some h):=⟨b8,p8,rfl,FD⟩
       obtain⟨v8,WA⟩: ∃v,v=Value.pointer (some ⟨b8,p8,none⟩):=⟨_,rfl⟩
       rw[←WA]at s8⊢;obtain⟨o,ho⟩: ∃o,o=some h:=⟨_,rfl⟩
       rw[←ho]at s8 fP;clear hs;intro g6 hs ah;obtain⟨aq,aC,aH⟩:=dy ah aq aC aH;replace s8:=s8.mono ah;apply bW;refine aV rfl rfl ?_;apply aF;apply bR;apply ar;apply aA;refine Wp 2 rfl ?_;apply aE;have e:nw w time o x=o:=by unfold nw uz;simp[h1,h2,h3,h4,ho]
       rw[e]at fP;exact fun a ha=>⟨b.iz.length-(i+1),by omega,i+1,v8,o,_,rfl,hs,aq,aH,aC,s8,by omega,fP,rfl,ha.keep ⟨rfl,rfl,rfl,rfl,rfl,rfl,kI rfl (by rw[wr (by omega) (by omega)];omega),trivial⟩⟩
      |true=>
       have he:nw w time (some h) x=some x:=by unfold nw uz;rw[h1,h2,h3];exact if_pos h4
       clear hs;intro g6 hs ah;obtain⟨aq,aC,aH⟩:=dy ah aq aC aH;apply bW;refine aM rfl rfl ?_;apply aA;refine Wm 3 [.z aC] (St.start _) rfl ?_;refine cY (.slice a b.iz.length c) (t:=47) rfl vD ?_;refine ak rfl rfl (aW T.ok rfl aH (y:=x) jG rfl rfl rfl rfl rfl rfl ?_);rintro b6 q6 ys aL rfl;refine Wp 1 rfl ?_;apply aE;apply bR;apply ar;apply aA;refine Wp 2 rfl ?_;apply aE;rw[he]at fP;exact fun a ha=>⟨b.iz.length-(i+1),by omega,i+1,.pointer (some ⟨b6,q6,none⟩),some x,_,rfl,hs,aq,aH,aC,⟨b6,q6,rfl,aL⟩,by omega,fP,rfl,ha.keep ⟨rfl,rfl,rfl,rfl,rfl,rfl,kI rfl (by rw[wr (by omega) (by omega)];omega),trivial⟩⟩
 refine aV (b:=decide ((i:Int)<(b.iz.length:Int))) (decide_eq_false (by omega)) rfl ?_;rw[List.take_of_length_le (by omega)]at vm;unfold nV;rw[vm];clear vm;apply bF;apply bG;apply bG;apply c_;apply ar;apply aD;refine cN 1 rfl ?_;cases o with
 |none=>
  obtain rfl:v8= .pointer none:=s8;refine ak rfl rfl (dw T.ok (neg:=false) rfl rfl rfl rfl rfl ?_);apply bW;refine aM rfl rfl ?_;refine aY rfl ?_;exact aI (rH rfl rfl rfl (hs.ret rfl))
 |some h=>
  obtain⟨b8,p8,rfl,FD⟩:=s8;refine ak rfl rfl (dw T.ok (neg:=false) rfl rfl rfl rfl rfl ?_);apply bW;refine aV rfl rfl ?_;apply aF;apply ar;apply aD;refine pP (l':=[(8,.pointer (some ⟨b8,p8,none⟩))]) (by(repeat (first|exact trivial|refine⟨rfl,?_⟩))) ?_;apply bP hs (eO (fe [])) 9 [(8,6),(7,60)] (by kernel_rfl) rfl
  ·exact Dz [[],[0],[1],[2],[],[4],[5],[6],[3,3]] [.e FD 9,.e FD 10] hs (by kernel_rfl) rfl
  clear hs;intro g6 hs ah;refine bj rfl ?_;exact aI (rH rfl rfl rfl (hs.ret rfl))
end Go.Proofs.YtgehbndkogohpaaGreatDoor
namespace Go.K
open Go Go.RowKit
variable {F:Fence} {P:Program} {N:Nat} {ds:List Deferred} {l l':Env} {a:Act} {w:World} {Q:Exit→Act→World→Prop} {ops:Array Oper} {os:List Oper} {o:Oper}
variable {g0 g:G} {L:List cS} {K:Value→World→Prop} {R:Ending→World→Prop}
def xW{α:Type}(P:Program)(jW:FuncId)(eI:Array Value)(fY:α→List Value)(A Z:List α→Prop)(g:G):Prop:=
 ∀(g1:G),g.le g1→ ∀(yv:Value) (g0:G) (I Ix:List α→List cS→G→Prop),(∀pre L g g',g.le g'→I pre L g→I pre L g')→(∀pre L g g',g.le g'→Ix pre L g→Ix pre L g')→
  (∀M pre x L g2,A (pre++[x])→g1.le g2→St g0 g2 (M++L)→I pre L g2→iE P yv (fY x) g2.w fun e w'=> ∃g3 b L',g3.w=w'∧e= .returned (.bool b)∧g2.le g3∧St g0 g3 (M++L')∧(b=true→I (pre++[x]) L' g3)∧(b=false→Ix (pre++[x]) L' g3))→
  ∀L,St g0 g1 L→I [] L g1→CallsIn Wd 0 P jW (yv::eI.toList).toArray g1.w fun e w'=> ∃g2 v L',g2.w=w'∧e= .returned v∧g1.le g2∧St g0 g2 L'∧((∃xs,Z xs∧I xs L' g2)∨ ∃pre,A pre∧Ix pre L' g2)
theorem xW.mono{α:Type}{jW:FuncId}{eI:Array Value}{fY:α→List Value}{A Z:List α→Prop}{g g':G}(h:xW P jW eI fY A Z g)(hle:g.le g'):xW P jW eI fY A Z g':=fun g1 h1=>h g1 (hle.trans h1)
theorem tT.UG{α:Type}{jW:FuncId}{eI:Array Value}{fY:α→List Value}{xs:List α}(h:tT P jW eI fY xs g):xW P jW eI fY (fun pre=>pre<+:xs) (fun ys=>ys=xs) g:=by
 intro g1 h1 yv g0 I Ix hI AL hb L hs h0;refine CallsIn.mono (h g1 h1 yv (fun pre g=> ∃L,St g0 g L∧I pre L g) (fun pre g=> ∃L,St g0 g L∧Ix pre L g) (fun pre g g' hf ⟨L,a,b⟩=>⟨L,a.call hf,hI _ _ _ _ hf.le b⟩) (fun pre g g' hf ⟨L,a,b⟩=>⟨L,a.call hf,AL _ _ _ _ hf.le b⟩)
  (fun pre x rest g2 jf hle ⟨L,a,b⟩=>(hb [] pre x L g2 ⟨rest,by rw[jf];simp⟩ hle a b).mono ?_) ⟨L,hs,h0⟩) ?_
 ·rintro e w' ⟨g3,bv,L',a1,a2,a3,a4,a5,a6⟩;exact⟨g3,bv,a1,a2,a3,fun h=>⟨L',a4,a5 h⟩,fun h=>⟨L',a4,a6 h⟩⟩
 rintro e w' ⟨g2,v,a1,a2,a3,⟨L',a4,a5⟩|⟨pre,hp,L',a4,a5⟩⟩
 ·exact⟨g2,v,L',a1,a2,a3,a4,.inl ⟨xs,rfl,a5⟩⟩
 exact⟨g2,v,L',a1,a2,a3,a4,.inr ⟨pre,hp,a5⟩⟩
theorem CQ{α:Type}(M:List α)(X:α){y:α}(L:List α):(M++(X::y::L)).Perm (X::y::(L++M)):=
 List.perm_middle.trans ((List.perm_middle.trans (List.perm_append_comm.cons y)).cons X)
theorem uh{α:Type}{jW:FuncId}{eI:Array Value}{fY:α→List Value}{A Z:List α→Prop}{f:Operand}{ps:Array Tmp}{assign body:Code}
  (hs:St g0 g L) (hf:ev l f=some (.func (.func jW) #[] eI)) (n4:ag P jW) (rE:xW P jW eI fY A Z g) (lL:(ps.toList.all fun t=>Nat.blt t N)=true) (Qc: ∀x,(fY x).length=ps.size)
  (I:List α→List cS→G→Prop) (Ix:Code→List α→List cS→G→Prop) (hI: ∀pre L g g',g.le g'→I pre L g→I pre L g') (AL: ∀c pre L g g',g.le g'→Ix c pre L g→Ix c pre L g')
  (h0:I [] L g) (B:List α→α→List cS→Env→G→Prop) (hB: ∀pre x L la g g',g.le g'→B pre x L la g→B pre x L la g')
  (qQ: ∀lp D (ro:LoopState→Obj) pre x gr Lr M,A (pre++[x])→g.le gr→St g0 gr (.obj lp (ro .ready):: .obj D fK::(Lr++M))→I pre Lr gr→
   W {Wd with round:=some lp} P N [] assign (Exit.then (fun a w'=> ∃g2 L2 la,w'=g2.w∧gr.le g2∧St g0 g2 (.obj lp (ro .ready):: .obj D fK::(L2++M))∧B pre x L2 la g2∧Fr N [] la a) (fun _ _ _=>False)) (oe ps.toList (fY x) l) gr.w)
  (qR: ∀lp D (ro:LoopState→Obj) pre x gr Lr la M,A (pre++[x])→g.le gr→St g0 gr (.obj lp (ro .busy):: .obj D fK::(Lr++M))→B pre x Lr la gr→
   W {Wd with round:=some lp} P N [] body (By (fun L' g'=> ∃vt,L'=vt++M∧I (pre++[x]) vt g') (fun c L' g'=> ∃vt,L'=vt++M∧Ix c (pre++[x]) vt g') g0 gr lp D ro) la gr.w)
  (iT: ∀lp D o xs Lr ge,Z xs→g.le ge→St g0 ge (.obj lp o:: .obj D fK::Lr)→I xs Lr ge→ ∀a,Fr N (⟨.collected D,#[]⟩::ds) l a→Q .normal a ge.w)
  (zU: ∀c lp D o pre Lr ge,A pre→g.le ge→St g0 ge (.obj lp o:: .obj D fK::Lr)→Ix c pre Lr ge→W Wd P N (⟨.collected D,#[]⟩::ds) c Q l ge.w):
  W Wd P N ds (.rangeFunc f ps assign body) Q l g.w:=by
 intro a ha;refine wpIn_rangeFunc fun fn _=>?_;let ro:LoopState→Obj:=fun st=>jg fn a.tmps ps assign body g.w.heap.size st none
 have nz:=hs.al fK;have aT:=nz.1.al (ro .ready);have cP:(g.al fK).w.heap.size=g.w.heap.size+1:=by simp[G.al]
 let g2:=(g.al fK).al (ro .ready)
 have tg:g.le g2:=nz.2.trans aT.2;refine⟨g.w.heap.size+1,[⟨.collected g.w.heap.size,#[]⟩],g2.w,⟨.fn (.func jW) eI,#[.func (.yield (g.w.heap.size+1)) #[] #[]]⟩,g2.w,jW,(.func (.yield (g.w.heap.size+1)) #[] #[]::eI.toList).toArray,g2.w,?_,?_,fun _ _=>trivial,?_,fun h=>(by cases h),?_⟩
 ·exact run_enterLoop_outer fn a.tmps ps assign body
 ·simp only[resolve,ha.ev hf,Deferred.ofValue];simp[Act.eval,g2]
 ·have e:#[Value.func (.yield (g.w.heap.size+1)) #[] #[]]++eI=(.func (.yield (g.w.heap.size+1)) #[] #[]::eI.toList).toArray:=by apply Array.ext';simp
  rw[←e];exact h_ n4 _
 --yZ uO qL,with Qd holds CJ yZ rounds
 have Bz:St g0 g2 (.obj (g.w.heap.size+1) (ro .ready):: .obj g.w.heap.size fK::L):=by have:=aT.1;rw[cP]at this;exact this
 refine CallsIn.mono (rE g2 tg (.func (.yield (g.w.heap.size+1)) #[] #[]) g0
  (fun pre L g'=>g.le g'∧ ∃Lr,L= .obj (g.w.heap.size+1) (ro .ready):: .obj g.w.heap.size fK::Lr∧I pre Lr g')
  (fun pre L g'=>g.le g'∧ ∃c Lr,L= .obj (g.w.heap.size+1) (jg fn a.tmps ps assign body g.w.heap.size .done (some c)):: .obj g.w.heap.size fK::Lr∧Ix c pre Lr g')
  (fun pre L ga gb hf ⟨h1,Lr,h2,h3⟩=>⟨h1.trans hf,Lr,h2,hI _ _ _ _ hf h3⟩)
  (fun pre L ga gb hf ⟨h1,c,Lr,h2,h3⟩=>⟨h1.trans hf,c,Lr,h2,AL _ _ _ _ _ hf h3⟩) ?_ _ Bz ⟨tg,L,rfl,hI _ _ _ _ tg h0⟩) ?_
 ·--one round
  rintro M pre x _ gp jf Qe TX ⟨pW,Lr,rfl,hi⟩;have dH:St g0 gp (.obj (g.w.heap.size+1) (ro .ready):: .obj g.w.heap.size fK::(Lr++M)):=TX.perm (CQ M _ Lr);have mU:gp.w.heap[g.w.heap.size+1]? =some (ro .ready):=(dH.own 0 _ rfl).2.1;refine⟨fn,_,assign,body,run_yield mU (by simpa [jg]using Qc x),?_⟩;refine roundIn_of_wpIn trivial ?_;have Bv:Fr N [] (oe ps.toList (fY x) l) {tmps:=(ps.zip (#[]++(fY x).toArray)).foldl (fun tmps (x:Nat×Value)=>tmps.setIfInBounds x.1 x.2) a.tmps,defers:=[]}:=by
   have h:=yg (N:=N) ps.toList (fY x) l a.tmps lL ⟨rfl,ha.size,ha.get⟩;have e:(ps.zip (#[]++(fY x).toArray)).foldl (fun tmps (x:Nat×Value)=>tmps.setIfInBounds x.1 x.2) a.tmps=(ps.toList.zip (fY x)).foldl (fun tmps (x:Nat×Value)=>tmps.setIfInBounds x.1 x.2) a.tmps:=by rw[←Array.foldl_toList];simp
   rw[e];exact h
  refine Go.wpIn_mono (qQ _ _ ro pre x _ Lr M jf pW dH hi _ Bv) fun e a1 w1 he=>?_;cases e with
  |normal=>
   obtain⟨gq,Lq,la,rfl,TY,Qn,XE,yh⟩:=he;have Qo:gq.w.heap[g.w.heap.size+1]? =some (ro .ready):=(Qn.own 0 _ rfl).2.1;have hb:=Qn.po (i:=0) (o':=ro .busy) rfl;have J2:=TY.trans hb.2;refine⟨(gq.po (g.w.heap.size+1) (ro .busy)).w,run_beginRound Qo rfl,?_⟩;have Gf:St g0 (gq.po (g.w.heap.size+1) (ro .busy)) (.obj (g.w.heap.size+1) (ro .busy):: .obj g.w.heap.size fK::(Lq++M)):=hb.1;refine Go.wpIn_mono (qR _ _ ro pre x _ Lq la M jf (pW.trans J2) Gf (hB _ _ _ _ _ _ hb.2 XE) a1 yh) fun e a2 w2 he=>?_;cases e with
   |normal=>
    obtain⟨_,g',rfl,j7,fw,L',rfl,hi'⟩:=he;have j8:g'.w.heap[g.w.heap.size+1]? =some (ro .busy):=(j7.own 0 _ rfl).2.1;have hp:=j7.po (i:=0) (o':=ro .ready) rfl;refine⟨_,_,run_endRound none j8,g'.po (g.w.heap.size+1) (ro .ready),true,_,rfl,rfl,(J2.trans fw).trans hp.2,hp.1.perm (CQ M _ L').symm,fun _=>⟨((pW.trans J2).trans fw).trans hp.2,L',rfl,hI _ _ _ _ hp.2 hi'⟩,fun h=>(by cases h)⟩
   |ret=>
    obtain⟨_,g',rfl,j7,fw,L',rfl,hi'⟩:=he;have j8:g'.w.heap[g.w.heap.size+1]? =some (ro .busy):=(j7.own 0 _ rfl).2.1;have hp:=j7.po (i:=0) (o':=jg fn a.tmps ps assign body g.w.heap.size .done (some .ret)) rfl;refine⟨_,_,run_endRound (some .ret) j8,g'.po (g.w.heap.size+1) (jg fn a.tmps ps assign body g.w.heap.size .done (some .ret)),false,_,rfl,rfl,(J2.trans fw).trans hp.2,hp.1.perm (CQ M _ L').symm,fun h=>(by cases h),
     fun _=>⟨((pW.trans J2).trans fw).trans hp.2,.ret,L',rfl,AL _ _ _ _ _ hp.2 hi'⟩⟩
   |exit id=>
    obtain⟨_,g',rfl,j7,fw,L',rfl,hi'⟩:=he;have j8:g'.w.heap[g.w.heap.size+1]? =some (ro .busy):=(j7.own 0 _ rfl).2.1;have hp:=j7.po (i:=0) (o':=jg fn a.tmps ps assign body g.w.heap.size .done (some (.exit id))) rfl;refine⟨_,_,run_endRound (some (.exit id)) j8,g'.po (g.w.heap.size+1) (jg fn a.tmps ps assign body g.w.heap.size .done (some (.exit id))),false,_,rfl,rfl,(J2.trans fw).trans hp.2,hp.1.perm (CQ M _ L').symm,fun h=>(by cases h),
     fun _=>⟨((pW.trans J2).trans fw).trans hp.2,.exit id,L',rfl,AL _ _ _ _ _ hp.2 hi'⟩⟩
   |goto t=>exact he.elim
   |panic c=>exact he.elim
   |outgrown=>exact he.elim
  |exit id=>exact he.elim
  |goto t=>exact he.elim
  |ret=>exact he.elim
  |panic c=>exact he.elim
  |outgrown=>exact he.elim
 --yZ iterator has ended
 rintro e w' ⟨ge,v,_,rfl,rfl,fw,dH,h⟩;have zV:Fr N (⟨.collected g.w.heap.size,#[]⟩::ds) l {a with defers:=[⟨.collected g.w.heap.size,#[]⟩]++a.defers}:=⟨by simp[ha.defers],ha.size,ha.get⟩
 rcases h with⟨xs,hz,hle,Lr,rfl,hi⟩|⟨pre,gj,hle,c,Lr,rfl,hi⟩
 ·have mU:ge.w.heap[g.w.heap.size+1]? =some (ro .ready):=(dH.own 0 _ rfl).2.1;have hp:=dH.po (i:=0) (o':=jg fn a.tmps ps assign body g.w.heap.size .exhausted none) rfl;exact⟨none,_,run_endLoop mU (by simp),iT _ _ _ xs Lr (ge.po _ _) hz (hle.trans hp.2) hp.1 (hI _ _ _ _ hp.2 hi) _ zV⟩
 have mU:ge.w.heap[g.w.heap.size+1]? =some (jg fn a.tmps ps assign body g.w.heap.size .done (some c)):=(dH.own 0 _ rfl).2.1;have hp:=dH.po (i:=0) (o':=jg fn a.tmps ps assign body g.w.heap.size .exhausted (some c)) rfl;exact⟨some c,_,run_endLoop mU (by simp),zU c _ _ _ pre Lr (ge.po _ _) gj (hle.trans hp.2) hp.1 (AL _ _ _ _ _ hp.2 hi) _ zV⟩
end Go.K
namespace Go.Proofs.YtgehbndkogohpaaGreatDoor
open Go Go.K
set_option maxRecDepth 10000
attribute [local irreducible] W WL cD bc bK bd bg bh cq ck
set_option maxHeartbeats 1000000
structure ph where
 want:Int
 shift:Int
 is:Int
def ph.cells(c:ph):List Value:=[.int .i64 c.want,.int .i64 c.shift,.int .i64 c.is]
instance:El ph where
 k:=3
 pos:=by omega
 rc _ cs c:=cs=c.cells
 len h:=by rw[h];rfl
 mono _ h:=h
 one h:=by rw[h];simp[ph.cells,Value.oneCell']
abbrev ph.v(c:ph):Value:=.agg c.cells.toArray
def s9(c:ph):Bool:=c.want==0||(decide (c.is≤c.want)&&(IntKind.i64.wrap (c.want-c.shift)==c.is))
theorem H4(c:ph)(g:G):CallsIn Wd 0 Tryz.prog 222 #[c.v] g.w (cF g fun _ r=>r= .bool (s9 c)):=by
 have hs:=St.start g;refine enter Tryz.func222 rfl Tryz.ntmps222 rfl ?_;apply cM;refine ak rfl rfl (aO rfl hs rfl rfl ?_);clear hs;rintro b1 g1 hs ah;skip;obtain⟨g2,bL,aT,ah,aL⟩:=hs.ba (i:=0) rfl;replace hs:=aT;clear aT;rw[←bL];skip;have aC:=aL;clear aL;refine bj rfl ?_;refine dz 4 [.z aC] (St.start _) rfl ?_;unfold s9;cases c.want==0 with
 |true=>
  refine bj rfl ?_;exact aI (aX rfl rfl (hs.ret rfl))
 |false=>
  refine Wm 6 [.z aC,.z aC] (St.start _) rfl ?_;cases decide (c.is≤c.want)with
  |true=>
   refine Dk [.z aC,.z aC,.z aC] (St.start _) rfl ?_;exact aI (aX rfl rfl (hs.ret rfl))
  |false=>
   refine bj rfl ?_;exact aI (aX rfl rfl (hs.ret rfl))
theorem FE(c:ph)(g:G):CallsIn Wd 0 Tryz.prog 221 #[c.v] g.w (cF g fun _ r=>r= .bool (!s9 c)):=by have hs:=St.start g;refine enter Tryz.func221 rfl Tryz.ntmps221 rfl ?_;apply cM;refine ak rfl rfl (aO rfl hs rfl rfl ?_);clear hs;rintro b1 g1 hs ah;skip;obtain⟨g2,bL,aT,ah,aL⟩:=hs.ba (i:=0) rfl;replace hs:=aT;clear aT;rw[←bL];skip;have aC:=aL;clear aL;refine bj rfl ?_;refine dz 1 [.z aC] (St.start _) rfl ?_;refine ak rfl rfl (au Od aJ rfl rfl rfl rfl rfl (H4 c _) ?_);rintro g1 _ aP rfl;replace hs:=hs.call aP;have ah:=aP.le;refine bj rfl ?_;exact aI (aX rfl rfl (hs.ret rfl))
theorem FF(v:Value)(l:List ph)(g:G)(hl:Rs g v l):
  CallsIn Wd 0 Tryz.prog 264 #[v,.func (.func 221) #[] #[]] g.w (cF g fun _ r=>r= .int .i64 (lQ (fun c=> !s9 c) l)):=by
 obtain⟨a,c,rfl⟩:=hl.isSlice;have hlen:=hl.dJ;unfold maxLen at hlen;have hs:=St.start g;refine enter Tryz.func264 rfl Tryz.ntmps264 rfl ?_;refine aY rfl ?_;apply aD;refine aY rfl ?_;apply aG;refine bM (fun m a' w=> ∃(k:Nat) (g':G),w=g'.w∧St g g' []∧G.le g g'∧k≤l.length∧m=l.length-k∧(∀j (h:j<l.length),j<k→(!s9 l[j])=false)∧
  Fr 19 [] [(0,.slice a l.length c),(1,.func (.func 221) #[] #[]),(7,.int .i64 l.length),(8,.int .i64 k)] a') l.length (fun a' ha=>⟨0,g,rfl,hs,G.le.refl g,Nat.zero_le _,rfl,by simp,ha.keep (by(repeat (first|exact trivial|refine⟨rfl,?_⟩)))⟩) ?_
 clear hs;rintro m a' _ ⟨k,g',rfl,hs,aq,hk,rfl,dx,eF⟩;revert a';apply cI;refine aY rfl ?_;apply aD;by_cases bC:k<l.length
 ·refine aM (b:=decide ((k:Int)<(l.length:Int))) (by simp;omega) rfl ?_;apply aF;apply ar;apply aD;apply aG;refine aY rfl ?_;refine cN 3 rfl ?_;refine ak rfl rfl (aW T.ok rfl (hl.mono aq) (y:=l[k]) (by simp[dS,bC]) rfl rfl rfl rfl rfl rfl ?_);rintro b q ys aL rfl;refine Wm 1 [.e aL 0] (St.start _) rfl ?_;skip;refine ak rfl rfl (au Oc aJ rfl rfl rfl rfl rfl (FE l[k] _) ?_);rintro g1 _ aP rfl;replace hs:=hs.call aP;have ah:=aP.le;replace aq:=G.le.trans aq ah;apply bW;cases xL:s9 l[k]with
  |false=>
   refine aM rfl rfl ?_;refine aY rfl ?_;exact aI (aX rfl rfl (hs.ret (by rw[tz (p:=fun c=> !s9 c) bC (by simp only[xL];rfl) dx])))
  |true=>
   refine aV rfl rfl ?_;apply aF;apply bR;apply ar;apply aA;refine Wp 2 rfl ?_;apply aE;refine fun a ha=>⟨l.length-(k+1),by omega,k+1,_,rfl,hs,aq,by omega,rfl,?_,ha.keep ⟨rfl,rfl,rfl,kI rfl (by rw[wr (by omega) (by omega)];omega),trivial⟩⟩
   intro j hj Ci;by_cases e:j=k
   ·subst e;rw[xL];rfl
   exact dx j hj (by omega)
 refine aV (b:=decide ((k:Int)<(l.length:Int))) (by simp;omega) rfl ?_;apply bF;apply bG;apply bG;apply c_;apply ar;refine aY rfl ?_;obtain rfl:k=l.length:=by omega
 exact aI (aX rfl rfl (hs.ret (by rw[tA (p:=fun c=> !s9 c) fun j h=>dx j h h])))
theorem zC(v:Value)(l:List ph)(g:G)(hl:Rs g v l):CallsIn Wd 0 Tryz.prog 114 #[v] g.w (cF g fun _ r=>r= .bool (l.all s9)):=by
 have h1:CallsIn Wd 0 Tryz.prog 220 #[v,.func (.func 221) #[] #[]] g.w (cF g fun _ r=>r= .bool (l.any fun c=> !s9 c)):=by have hs:=St.start g;refine enter Tryz.func220 rfl Tryz.ntmps220 rfl ?_;refine aY rfl ?_;refine cN 2 rfl ?_;refine ak rfl rfl (au OD aJ rfl rfl rfl rfl rfl (FF _ l g hl) ?_);rintro g1 _ aP rfl;replace hs:=hs.call aP;have ah:=aP.le;skip;refine bj rfl ?_;exact aI (aX rfl rfl (hs.ret (by rw[←nX])))
 have hs:=St.start g;refine enter Tryz.func114 rfl Tryz.ntmps114 rfl ?_;refine aY rfl ?_;refine cN 1 rfl ?_;refine ak rfl rfl (au Ob aJ rfl rfl rfl rfl rfl (h1) ?_);rintro g1 _ aP rfl;replace hs:=hs.call aP;have ah:=aP.le;skip;refine bj rfl ?_;exact aI (aX rfl rfl (hs.ret (congrArg Value.bool (by rw[List.all_eq_not_any_not]))))
abbrev fr(f:bH)(bb:Nat):List Value:=cg f++[.pointer (some ⟨bb,0,none⟩)]
abbrev Py(f:bH)(bb:Nat):Value:=.agg (fr f bb).toArray
def xT(f:bH)(time:Int):Bool:=(f.kind==7&&decide (f.time≤time))&&decide (time≤f.til)
theorem H5(f:bH)(bb:Nat)(time:Int)(g:G):CallsIn Wd 0 Tryz.prog 219 #[Py f bb,.int .i64 time] g.w (cF g fun _ r=>r= .bool (xT f time)):=by
 have hs:=St.start g;refine enter Tryz.func219 rfl Tryz.ntmps219 rfl ?_;apply cM;refine ak rfl rfl (aO rfl hs rfl rfl ?_);clear hs;rintro b1 g1 hs ah;skip;obtain⟨g2,bL,aT,ah,aL⟩:=hs.ba (i:=0) rfl;replace hs:=aT;clear aT;rw[←bL];skip;have aC:=aL;clear aL;refine bj rfl ?_;refine dz 5 [.z aC] (St.start _) rfl ?_;unfold xT;cases f.kind==7 with
 |false=>
  refine bj rfl ?_;exact aI (aX rfl rfl (hs.ret rfl))
 |true=>
  refine Wm 7 [.z aC] (St.start _) rfl ?_;cases decide (f.time≤time)with
  |false=>
   refine bj rfl ?_;exact aI (aX rfl rfl (hs.ret rfl))
  |true=>
   refine Dk [.z aC] (St.start _) rfl ?_;exact aI (aX rfl rfl (hs.ret rfl))
end Go.Proofs.YtgehbndkogohpaaGreatDoor
namespace Go.Proofs.YtgehbndkogohpaaGreatDoor
open Go Go.K
set_option maxRecDepth 10000
attribute [local irreducible] W WL cD bc bK bd bg bh cq ck
set_option maxHeartbeats 1000000
def Bg(b:gn)(f:bH)(w time:Int):List ph:=[⟨f.waf,0,w⟩,⟨f.lot,0,((nV b w time).getD iy).lot⟩]
def xU(b:gn)(f:bH)(w time:Int):Bool:=xT f time&&(Bg b f w time).all s9
theorem H6(f:bH)(bb:Nat)(b:gn)(sl:Nat→Value)(w time:Int)(g:G)(aC:EP g bb 0 ((List.range 11).map sl))(bV:mG g (.agg ((List.range 11).map sl).toArray) b):
  CallsIn Wd 0 Tryz.prog 113 #[Py f bb,.int .i64 w,.int .i64 time] g.w (cF g fun _ r=>r= .bool (xU b f w time)):=by
 have hs:=St.start g;have aq:=G.le.refl g;refine enter Tryz.func113 rfl Tryz.ntmps113 rfl ?_;apply cM;refine ak rfl rfl (aO rfl hs rfl rfl ?_);clear hs;rintro b1 g1 hs ah;obtain⟨aC,bV⟩:=cf ah aC bV;obtain⟨g2,bL,aT,ah,aL⟩:=hs.ba (i:=0) rfl;replace hs:=aT;clear aT;rw[←bL];obtain⟨aC,bV⟩:=cf ah aC bV;have aR:=aL;clear aL;refine bj rfl ?_;refine dz 6 [.z aR,.z aC] (St.start _) rfl ?_;refine ak rfl rfl (au Jm aJ rfl rfl rfl rfl rfl (JV _ b w time _ bV) ?_);rintro g1 _ aP rfl;replace hs:=hs.call aP;have ah:=aP.le;replace aR:=aR.mono ah;refine bj rfl ?_;refine dz 2 [.z aR] (St.start _) rfl ?_;clear aP;refine ak rfl rfl (au Oa aJ rfl rfl rfl rfl rfl (H5 f bb time _) ?_);rintro g1 _ aP rfl;replace hs:=hs.call aP;have ah:=aP.le;replace aR:=aR.mono ah;unfold xU;cases xT f time with
 |false=>
  refine bj rfl ?_;exact aI (aX rfl rfl (hs.ret rfl))
 |true=>
  refine Wm 5 [.z aR] (St.start _) rfl ?_;refine ak rfl rfl (aQ T.ok rfl (vs:=[(0,.int .i64 (f.waf)),(1,.int .i64 0),(2,.int .i64 (w))]) (cells:=(ph.mk (f.waf) 0 (w)).cells) rfl rfl rfl rfl [(0,1),(1,1),(2,1)] rfl (by kernel_rfl) ?_);refine Wm 4 [.z aR] (St.start _) rfl ?_;refine ak rfl rfl (aQ T.ok rfl (vs:=[(0,.int .i64 (f.lot)),(1,.int .i64 0),(2,.int .i64 (((nV b w time).getD iy).lot))]) (cells:=(ph.mk (f.lot) 0 (((nV b w time).getD iy).lot)).cells) rfl rfl rfl rfl [(0,1),(1,1),(2,1)] rfl (by kernel_rfl) ?_);skip;refine ak rfl rfl (bD T.ok rfl hs (vs:=[(0,(ph.mk f.waf 0 w).v),(1,(ph.mk f.lot 0 ((nV b w time).getD iy).lot).v)]) (cells:=(ph.mk f.waf 0 w).cells++(ph.mk f.lot 0 ((nV b w time).getD iy).lot).cells) rfl rfl rfl rfl rfl rfl (by decide) (by decide) (by kernel_rfl) rfl ?_);rintro bl gl hs ah;obtain⟨gz,iQ,cP,jq,Dt⟩:=hs.cK (α:=ph) (xs:=Bg b f w time) (i:=0) rfl ⟨_,_,rfl,rfl,_,_,(List.append_nil _).symm,rfl,rfl⟩;clear ah;have ah:=jq;rw[←iQ];replace hs:=cP;clear cP;skip;clear aP;refine ak rfl rfl (au Jn aJ rfl rfl rfl rfl rfl (zC _ (Bg b f w time) _ Dt) ?_);rintro g1 _ aP rfl;replace hs:=hs.call aP;have ah:=aP.le;refine bj rfl ?_;exact aI (aX rfl rfl (hs.ret rfl))
def vz(a:jJ):List Value:=[.int .i64 a.waf,.int .i64 a.step,.int .i64 a.tool,.int .i64 a.cham,.int .i64 a.rcp,.int .i64 a.rvn,.int .i64 a.time]
abbrev HR(a:jJ):Value:=.agg (vz a).toArray
def xV(f:bH)(a:jJ):List ph:=[⟨f.tool,1,a.tool⟩,⟨f.cham,1,a.cham⟩,⟨f.step,1,a.step⟩,⟨f.rcp,0,a.rcp⟩,⟨f.rvn,0,a.rvn⟩]
def ug(b:gn)(f:bH)(a:jJ):Bool:=xU b f a.waf a.time&&(xV f a).all s9
theorem HS(f:bH)(bb:Nat)(b:gn)(sl:Nat→Value)(a:jJ)(g:G)(aC:EP g bb 0 ((List.range 11).map sl))(bV:mG g (.agg ((List.range 11).map sl).toArray) b):
  CallsIn Wd 0 Tryz.prog 40 #[Py f bb,HR a] g.w (cF g fun _ r=>r= .bool (ug b f a)):=by
 have hs:=St.start g;have aq:=G.le.refl g;refine enter Tryz.func40 rfl Tryz.ntmps40 rfl ?_;apply cM;refine ak rfl rfl (aO rfl hs rfl rfl ?_);clear hs;rintro b1 g1 hs ah;obtain⟨aC,bV⟩:=cf ah aC bV;obtain⟨g2,bL,aT,ah,aL⟩:=hs.ba (i:=0) rfl;replace hs:=aT;clear aT;rw[←bL];obtain⟨aC,bV⟩:=cf ah aC bV;have aR:=aL;clear aL;skip;refine ak rfl rfl (aO rfl hs rfl rfl ?_);clear hs;rintro b2 g1 hs ah;obtain⟨aC,aR,bV⟩:=dy ah aC aR bV;obtain⟨g2,bL,aT,ah,aL⟩:=hs.ba (i:=0) rfl;replace hs:=aT;clear aT;rw[←bL];obtain⟨aC,aR,bV⟩:=dy ah aC aR bV;have cU:=aL;clear aL;refine bj rfl ?_;refine dz 5 [.z aR,.z cU,.z cU] (St.start _) rfl ?_;refine ak rfl rfl (au Nd aJ rfl rfl rfl rfl rfl (H6 f bb b sl a.waf a.time _ aC bV) ?_);rintro g1 _ aP rfl;replace hs:=hs.call aP;have ah:=aP.le;obtain⟨aR,cU⟩:=cf ah aR cU;unfold ug;cases xU b f a.waf a.time with
 |false=>
  refine bj rfl ?_;exact aI (aX rfl rfl (hs.ret rfl))
 |true=>
  refine Wm 6 [.z aR,.z cU] (St.start _) rfl ?_;refine ak rfl rfl (aQ T.ok rfl (vs:=[(0,.int .i64 (f.tool)),(1,.int .i64 1),(2,.int .i64 (a.tool))]) (cells:=(ph.mk (f.tool) 1 (a.tool)).cells) rfl rfl rfl rfl [(0,1),(1,1),(2,1)] rfl (by kernel_rfl) ?_);refine Wm 5 [.z aR,.z cU] (St.start _) rfl ?_;refine ak rfl rfl (aQ T.ok rfl (vs:=[(0,.int .i64 (f.cham)),(1,.int .i64 1),(2,.int .i64 (a.cham))]) (cells:=(ph.mk (f.cham) 1 (a.cham)).cells) rfl rfl rfl rfl [(0,1),(1,1),(2,1)] rfl (by kernel_rfl) ?_);refine Wm 5 [.z aR,.z cU] (St.start _) rfl ?_;refine ak rfl rfl (aQ T.ok rfl (vs:=[(0,.int .i64 (f.step)),(1,.int .i64 1),(2,.int .i64 (a.step))]) (cells:=(ph.mk (f.step) 1 (a.step)).cells) rfl rfl rfl rfl [(0,1),(1,1),(2,1)] rfl (by kernel_rfl) ?_);refine Wm 5 [.z aR,.z cU] (St.start _) rfl ?_;refine ak rfl rfl (aQ T.ok rfl (vs:=[(0,.int .i64 (f.rcp)),(1,.int .i64 0),(2,.int .i64 (a.rcp))]) (cells:=(ph.mk (f.rcp) 0 (a.rcp)).cells) rfl rfl rfl rfl [(0,1),(1,1),(2,1)] rfl (by kernel_rfl) ?_);refine Wm 5 [.z aR,.z cU] (St.start _) rfl ?_;refine ak rfl rfl (aQ T.ok rfl (vs:=[(0,.int .i64 (f.rvn)),(1,.int .i64 0),(2,.int .i64 (a.rvn))]) (cells:=(ph.mk (f.rvn) 0 (a.rvn)).cells) rfl rfl rfl rfl [(0,1),(1,1),(2,1)] rfl (by kernel_rfl) ?_);skip;refine ak rfl rfl (bD T.ok rfl hs (vs:=[(0,(ph.mk f.tool 1 a.tool).v),(1,(ph.mk f.cham 1 a.cham).v),(2,(ph.mk f.step 1 a.step).v),(3,(ph.mk f.rcp 0 a.rcp).v),(4,(ph.mk f.rvn 0 a.rvn).v)]) (cells:=(xV f a).flatMap ph.cells) rfl rfl rfl rfl rfl rfl (by decide) (by decide) (by kernel_rfl) rfl ?_);rintro bl gl hs ah;obtain⟨gz,iQ,cP,jq,Dt⟩:=hs.cK (α:=ph) (xs:=xV f a) (i:=0) rfl ⟨_,_,rfl,rfl,_,_,rfl,rfl,_,_,rfl,rfl,_,_,rfl,rfl,_,_,(List.append_nil _).symm,rfl,rfl⟩;clear ah;have ah:=jq;rw[←iQ];replace hs:=cP;clear cP;skip;clear aP;refine ak rfl rfl (au Jn aJ rfl rfl rfl rfl rfl (zC _ (xV f a) _ Dt) ?_);rintro g1 _ aP rfl;replace hs:=hs.call aP;have ah:=aP.le;refine bj rfl ?_;exact aI (aX rfl rfl (hs.ret rfl))
end Go.Proofs.YtgehbndkogohpaaGreatDoor
