/- Parts of the proof, from: The walks through package hold: who has released a hold, the holds of a base. -/
import Derived.Test.YtebobfdheanknaaGreatDoorYj
import Derived.Test.YtebobfdheanknaaGreatDoorYd
import Derived.Test.YtebobfdheanknaaGreatDoorYi
import Derived.Test.YtebobfdheanknaaGreatDoorYg
import Derived.Test.YtebobfdheanknaaGreatDoorYc
namespace Go.Proofs.YtebobfdheanknaaGreatDoor
open Go Go.K
set_option maxRecDepth 10000
attribute [local irreducible] W WL cT cn bX bA bB bD cW cG
set_option maxHeartbeats 1000000
def yf(id time:Int)(n:Int)(r:bc):Int:=if r.oth==id&&decide (r.time≤time)then bX .i64 n r.par else n
def tv(b:fX)(id time:Int):Int:=b.jS.foldl (yf id time) 0
theorem Ca(bb:Nat)(b:fX)(sl:Nat→Value)(id time:Int)(g:G)(aC:EP g bb 0 ((List.range 11).map sl))(aH:Rs g (sl 7) b.jS):
  CallsIn Wd 0 Tryz.prog 159 #[.pointer (some ⟨bb,0,none⟩),.int .i64 id,.int .i64 time] g.w (cR g fun _ r=>r= .int .i64 (tv b id time)):=by
 have hs:=St.start g
 have aq:=G.le.refl g
 obtain⟨a,c,uT⟩:=aH.isSlice
 have hlen:=aH.dU
 unfold maxLen at hlen
 refine enter Tryz.func159 rfl Tryz.ntmps159 rfl ?_
 refine aX rfl ?_;apply aB;refine dx 4 [.z aC] (St.start _) rfl ?_
 refine cE (.slice a b.jS.length c) (t:=12) rfl uT ?_
 rw[uT]at aH
 refine ba rfl ?_;apply aG
 refine bS (fun m a' w'=> ∃(i:Nat) (n:Int) (g':G),w'=g'.w∧St g g' []∧G.le g g'∧Rs g' (.slice a b.jS.length c) b.jS∧i≤b.jS.length∧(b.jS.take i).foldl (yf id time) 0=n∧m=b.jS.length-i∧
   Fr 34 [] [(1,.int .i64 id),(2,.int .i64 time),(6,.int .i64 n),(12,.slice a b.jS.length c),(13,.int .i64 (b.jS.length:Nat)),(14,.int .i64 (i:Nat))] a') b.jS.length
  (fun a' ha=>⟨0,0,_,rfl,hs,aq,aH,Nat.zero_le _,rfl,rfl,ha.keep (by(repeat (first|exact trivial|refine⟨rfl,?_⟩)))⟩) ?_
 clear hs aH aq aC
 rintro m a' _ ⟨i,n,g',rfl,hs,aq,aH,hi,ly,rfl,eI⟩
 revert a'
 apply cQ;refine aX rfl ?_;apply aB
 by_cases bh:i<b.jS.length
 ·refine aJ (b:=decide ((i:Int)<(b.jS.length:Int))) (decide_eq_true (by omega)) rfl ?_
  have ic:dA b.jS (i:Int)=some b.jS[i]:=cU rfl bh
  have cB:(b.jS.take (i+1)).foldl (yf id time) 0=yf id time n b.jS[i]:=by
   rw[List.take_add_one,List.getElem?_eq_getElem bh,List.foldl_append,ly];rfl
  generalize b.jS[i]=x at*
  clear ly
  apply aE;apply au;apply aB;apply aG;apply c_
  refine an rfl rfl (aW T.ok rfl aH (y:=x) ic rfl rfl rfl rfl rfl rfl ?_)
  rintro b9 q9 ys aL rfl
  have aC:=aL;clear aL
  refine Wm 1 [.e aC 0] (St.start _) rfl ?_
  refine an rfl rfl (aK T.ok rfl hs rfl rfl ?_);clear hs;rintro b8 g1 hs ah;obtain⟨aq,aH⟩:=cC ah aq aH
  refine bg rfl (aA T.ok 0 rfl hs rfl rfl rfl rfl rfl rfl rfl rfl rfl ?_);replace hs:=hs;rintro g1 hs ah;obtain⟨aq,aH⟩:=cC ah aq aH
  obtain⟨g2,bR,aU,ah,aL⟩:=hs.a_ (i:=0) rfl;replace hs:=aU;clear aU;rw[←bR];obtain⟨aq,aH⟩:=cC ah aq aH
  have aP:=aL;clear aL
  clear aC
  replace hs:St g _ []:=hs
  apply cf;refine dx 5 [.z aP] (St.start _) rfl ?_
  unfold yf at cB
  cases h1:x.oth==id with
  |false=>
   rw[h1]at cB
   refine ba rfl ?_
   refine aS rfl rfl ?_
   apply aE;apply bU;apply au;apply ar;refine Wp 2 rfl ?_;apply aD
   exact fun a ha=>⟨b.jS.length-(i+1),by omega,i+1,n,_,rfl,hs,aq,aH,by omega,cB,rfl,ha.keep ⟨rfl,rfl,rfl,rfl,rfl,kI rfl (by rw[wr (by omega) (by omega)];omega),trivial⟩⟩
  |true=>
   rw[h1]at cB
   refine A3 [.z aP] (St.start _) rfl ?_
   cases h2:decide (x.time≤time)with
   |false=>
    rw[h2]at cB
    refine aS rfl rfl ?_
    apply aE;apply bU;apply au;apply ar;refine Wp 2 rfl ?_;apply aD
    exact fun a ha=>⟨b.jS.length-(i+1),by omega,i+1,n,_,rfl,hs,aq,aH,by omega,cB,rfl,ha.keep ⟨rfl,rfl,rfl,rfl,rfl,kI rfl (by rw[wr (by omega) (by omega)];omega),trivial⟩⟩
   |true=>
    rw[h2]at cB
    refine aJ rfl rfl ?_
    apply ar;refine Wm 5 [.z aP] (St.start _) rfl ?_;apply aD;apply bU;apply au;apply ar;refine Wp 2 rfl ?_;apply aD
    exact fun a ha=>⟨b.jS.length-(i+1),by omega,i+1,_,_,rfl,hs,aq,aH,by omega,cB,rfl,ha.keep ⟨rfl,rfl,rfl,rfl,rfl,kI rfl (by rw[wr (by omega) (by omega)];omega),trivial⟩⟩
 ·refine aS (b:=decide ((i:Int)<(b.jS.length:Int))) (decide_eq_false (by omega)) rfl ?_
  rw[List.take_of_length_le (by omega)]at ly
  unfold tv
  rw[ly]
  apply bE;apply bK;apply bK;apply dc;apply au;refine aX rfl ?_
  exact aF (aV rfl rfl (hs.ret rfl))
def A6(b:fX)(f:bc)(time:Int):Bool:=bB .i64 f.par (tv b f.idn time)==0
theorem I'(f:bc)(bb:Nat)(b:fX)(sl:Nat→Value)(time:Int)(g:G)(aC:EP g bb 0 ((List.range 11).map sl))(aH:Rs g (sl 7) b.jS):
  CallsIn Wd 0 Tryz.prog 74 #[ND f bb,.int .i64 time] g.w (cR g fun _ r=>r= .bool (A6 b f time)):=by
 have hs:=St.start g
 have aq:=G.le.refl g
 refine enter Tryz.func74 rfl Tryz.ntmps74 rfl ?_
 apply c_
 refine an rfl rfl (aR rfl hs rfl rfl ?_);clear hs;rintro b1 g1 hs ah;obtain⟨aC,aH⟩:=cC ah aC aH
 obtain⟨g2,bR,aU,ah,aL⟩:=hs.a_ (i:=0) rfl;replace hs:=aU;clear aU;rw[←bR];obtain⟨aC,aH⟩:=cC ah aC aH
 have aP:=aL;clear aL
 refine ba rfl ?_;apply aB
 apply bO hs (fj (gE [])) 12 [(11,16)] (by kernel_rfl) rfl
 ·exact Dz [[],[0],[1],[],[3],[],[5],[6],[],[4,7,8],[2,9],[10]] [.z aP,.z aP,.z aP,.c LJ fun g' h=>Ca bb b sl f.idn time g' (aC.mono h) (aH.mono h)] hs (by kernel_rfl) rfl
 clear hs;intro g6 hs ah
 refine ba rfl ?_
 exact aF (aV rfl rfl (hs.ret rfl))
def s9(b:fX):List bc:=b.holds.filter fun f=>f.kind==7
theorem DY(bp bb:Nat)(b:fX)(sl:Nat→Value)(g:G)(Nt:EP g bp 0 [.pointer (some ⟨bb,0,none⟩)])(Un:EP g bb 0 ((List.range 11).map sl))(Jf:Rs g (sl 6) b.holds):
  sM Tryz.prog 156 #[.pointer (some ⟨bp,0,none⟩)] (fun f=>[ND f bb]) (s9 b) g:=by
 obtain⟨a,c,uT⟩:=Jf.isSlice
 intro g1 hle yv J Jx hJ Qf hy zC
 have hlen:=Jf.dU
 unfold maxLen at hlen
 have aq:=G.le.refl g1
 have aC:=Nt.mono hle;have HY:=Jf.mono hle;have aP:=Un.mono hle
 have qE:=aC
 refine enter Tryz.func156 rfl Tryz.ntmps156 rfl ?_
 refine dx 4 [.z aC,.z aP] (St.start _) rfl ?_
 refine cE (.slice a b.holds.length c) (t:=8) rfl uT ?_
 rw[uT]at HY
 refine ba rfl ?_;apply aG
 refine bS (fun m a' w=> ∃(k:Nat) (g':G),w=g'.w∧G.le g1 g'∧k≤b.holds.length∧m=b.holds.length-k∧J ((b.holds.take k).filter fun f=>f.kind==7) g'∧
   Fr 26 [] [(0,yv),(1,.pointer (some ⟨bp,0,none⟩)),(8,.slice a b.holds.length c),(9,.int .i64 (b.holds.length:Nat)),(10,.int .i64 (k:Nat))] a') b.holds.length
  (fun a' ha=>⟨0,g1,rfl,aq,Nat.zero_le _,rfl,zC,ha.keep (by(repeat (first|exact trivial|refine⟨rfl,?_⟩)))⟩) ?_
 clear aC aq aP
 rintro m a' _ ⟨k,g',rfl,aq,hk,rfl,pj,eI⟩
 have aC:=qE.mono aq;have eg:=HY.mono aq
 have hs:=St.start g'
 revert a'
 apply cQ;refine aX rfl ?_;apply aB
 by_cases bh:k<b.holds.length
 ·refine aJ (b:=decide ((k:Int)<(b.holds.length:Int))) (by simp;omega) rfl ?_
  have ic:=cU (n:=((k:Nat):Int)) rfl bh
  have qF:b.holds.filter (fun f=>f.kind==7)=(b.holds.take k).filter (fun f=>f.kind==7)++([b.holds[k]].filter (fun f=>f.kind==7)++(b.holds.drop (k+1)).filter (fun f=>f.kind==7)):=by
   conv=>lhs;rw[←List.take_append_drop k b.holds,List.drop_eq_getElem_cons bh]
   rw[List.filter_append,←List.singleton_append,List.filter_append]
  have cB:(b.holds.take (k+1)).filter (fun f=>f.kind==7)=(b.holds.take k).filter (fun f=>f.kind==7)++[b.holds[k]].filter (fun f=>f.kind==7):=by
   rw[List.take_succ_eq_append_getElem bh,List.filter_append]
  generalize b.holds[k]=x at*
  apply aE;apply au;apply aB;apply aG;apply c_
  refine an rfl rfl (aW T.ok rfl eg (y:=x) ic rfl rfl rfl rfl rfl rfl ?_)
  rintro bq pq ys aL rfl
  have aP:=aL;clear aL
  refine Wm 1 [.e aP 0] (St.start _) rfl ?_
  refine an rfl rfl (aK T.ok rfl hs rfl rfl ?_);clear hs;rintro bx g1 hs ah;obtain⟨aq,aC,aP⟩:=ef ah aq aC aP
  skip
  refine bg rfl (aA T.ok 0 rfl hs rfl rfl rfl rfl rfl rfl rfl rfl rfl ?_);replace hs:=hs;rintro g1 hs ah;obtain⟨aq,aC,aP⟩:=ef ah aq aC aP
  obtain⟨g2,bR,aU,ah,aL⟩:=hs.a_ (i:=0) rfl;replace hs:=aU;clear aU;rw[←bR];obtain⟨aq,aC,aP⟩:=ef ah aq aC aP
  clear aP
  have aP:=aL;clear aL
  replace hs:St g' _ []:=hs
  apply cf;refine dx 4 [.z aP] (St.start _) rfl ?_
  cases h7:x.kind==7 with
  |false=>
   rw[List.filter_cons,h7]at cB
   refine ba rfl ?_
   refine aS rfl rfl ?_
   apply aE;apply bU;apply au;apply ar;refine Wp 2 rfl ?_;apply aD
   refine fun a ha=>⟨b.holds.length-(k+1),by omega,k+1,_,rfl,aq,by omega,rfl,?_,ha.keep ⟨rfl,rfl,rfl,rfl,kI rfl (by rw[wr (by omega) (by omega)];omega),trivial⟩⟩
   rw[cB]
   simpa using hJ _ _ _ hs.mS pj
  |true=>
   rw[List.filter_cons,h7]at cB qF
   refine Wm 3 [.z aP,.z aC] (St.start _) rfl ?_
   refine an rfl rfl (aQ T.ok rfl (vs:=[(0,fv x),(1,.pointer (some ⟨bb,0,none⟩))]) (cells:=fY x bb) rfl rfl rfl rfl [(0,19),(19,1)] rfl (by kernel_rfl) ?_)
   have FI:=hJ _ _ _ hs.mS pj
   refine an rfl rfl (eT rfl rfl rfl rfl rfl rfl ((hy _ x _ _ qF aq FI).mono ?_))
   rintro _ _ ⟨g5,bv,rfl,rfl,ah,ht,hf⟩
   refine⟨_,rfl,?_⟩
   clear hs FI
   replace aq:=G.le.trans aq ah
   cases bv with
   |false=>
    refine ba rfl ?_
    refine aJ rfl rfl ?_
    skip
    refine aF ?_;apply iq;apply eF;apply eF;apply iq;refine rR rfl ?_
    exact⟨g5,_,rfl,rfl,aq,.inr ⟨_,⟨(b.holds.drop (k+1)).filter (fun f=>f.kind==7),by rw[List.append_assoc];exact qF.symm⟩,hf rfl⟩⟩
   |true=>
    refine ba rfl ?_
    refine aS rfl rfl ?_
    apply aE;apply bU;apply au;apply ar;refine Wp 2 rfl ?_;apply aD
    exact fun a ha=>⟨b.holds.length-(k+1),by omega,k+1,_,rfl,aq,by omega,rfl,by rw[cB];exact ht rfl,ha.keep ⟨rfl,rfl,rfl,rfl,kI rfl (by rw[wr (by omega) (by omega)];omega),trivial⟩⟩
 ·refine aS (b:=decide ((k:Int)<(b.holds.length:Int))) (by simp;omega) rfl ?_
  apply bE;apply bK;apply bK;apply dc
  refine mv rfl ⟨g',_,rfl,rfl,aq,.inl ?_⟩
  rw[List.take_of_length_le (by omega)]at pj
  exact pj
end Go.Proofs.YtebobfdheanknaaGreatDoor
namespace Go.Proofs.YtebobfdheanknaaGreatDoor
open Go Go.K
set_option maxRecDepth 10000
attribute [local irreducible] W WL cT cn bX bA bB bD cW cG
set_option maxHeartbeats 1000000
def mF(m:List Int):List (Int×Value):=m.map fun k=>(k,.agg #[])
theorem Ej(m:List Int):(mF m).length=m.length:=List.length_map ..
theorem GA{m:List Int}{j:Nat}{q:Int×Value}(h:(mF m)[j]? =some q): ∃k,m[j]? =some k∧q=(k,.agg #[]):=by
 unfold mF at h
 rw[List.getElem?_map]at h
 cases hm:m[j]? with
 |none=>rw[hm]at h;cases h
 |some p=>rw[hm]at h;exact⟨p,rfl,(Option.some.inj h).symm⟩
def x7(a:Int)(m:List Int):List Int:=if a∈m then m else m++[a]
theorem x8(a:Int): ∀m:List Int,iX a (.agg #[]) (mF m)=mF (x7 a m)
 |[]=>rfl
 |k::r=>by
  show(if a=k then(k,.agg #[])::mF r else(k,.agg #[])::iX a (.agg #[]) (mF r))=mF (x7 a (k::r))
  unfold x7
  by_cases h:a=k
  ·subst h;rw[if_pos rfl,if_pos (List.mem_cons_self ..)];rfl
  ·rw[if_neg h,x8 a r]
   unfold x7
   by_cases h2:a∈r
   ·rw[if_pos h2,if_pos (List.mem_cons_of_mem _ h2)];rfl
   ·rw[if_neg h2,if_neg (by simp[h,h2])];rfl
theorem Nc:qJ Int Tryz.prog 122 (.agg #[]):=by
 have h:=zw (P:=Tryz.prog) (κ:=Int) T.ok (T:=122) rfl rfl rfl rfl rfl
 exact h
theorem Gn(bp bm:Nat)(m:List Int)(g:G)(Nt:EP g bp 0 [.map (some bm)])(mk:sR g bm (mF m)):
  wQ Tryz.prog 161 #[.pointer (some ⟨bp,0,none⟩)] (fun k:Int=>[.int .i64 k]) (fun pre=>pre.length≤m.length) (fun xs=>xs.Perm m) g:=by
 intro g1 hle yv g0 I Ix hI zo hy L hs OZ
 have aq:=G.le.refl g1
 have aC:=Nt.mono hle;have kz:=mk.mono hle
 refine enter Tryz.func161 rfl Tryz.ntmps161 rfl ?_
 refine dx 1 [.z aC] (St.start _) rfl ?_
 refine an rfl rfl (qM Nc rfl kz.2 rfl hs ?_)
 clear hs;intro r1 g2 hs ah
 replace OZ:=hI _ _ _ _ ah OZ
 replace aq:=G.le.trans aq ah;replace kz:=kz.mono ah
 apply cf;apply aG
 refine bS (fun n a' w=> ∃(seen:Array Nat) (L':List cV) (g':G),w=g'.w∧St g0 g' ([.obj r1 (wB bm (mF m).length seen)]++L')∧G.le g1 g'∧sR g' bm (mF m)∧seen.toList.Nodup∧(∀j∈seen.toList,j<m.length)∧n=m.length-seen.toList.length∧I (qw m seen.toList) L' g'∧
   Fr 14 [] [(0,yv),(5,.pointer (some ⟨r1,0,none⟩))] a') m.length
  (fun a' ha=>⟨#[],L,g2,rfl,hs,aq,kz,by simp,by simp,rfl,OZ,ha.keep (by(repeat (first|exact trivial|refine⟨rfl,?_⟩)))⟩) ?_
 clear hs aq kz aC OZ
 rintro n a' _ ⟨seen,L',g',rfl,hs,aq,kz,AN,bh,rfl,pj,eI⟩
 have H5:=ky _ _ AN bh
 revert a'
 apply cQ;apply c_
 refine an rfl rfl (sT 0 rfl hs rfl kz.2 rfl (fun dh=>?_) (fun j q g6 hq hj H6 ah=>?_))
 ·have rX:(qw m seen.toList).Perm m:=AO AN bh fun j hj=>by simpa using dh j (by rw[Ej];exact hj)
  refine ba rfl ?_;apply aB
  refine aS rfl rfl ?_
  apply bE;apply bK;apply bK;apply dc
  exact mv rfl ⟨g',_,L',rfl,rfl,aq,hs.drop 0,.inl ⟨_,rX,pj⟩⟩
 ·obtain⟨k,hk,rfl⟩:=GA hq
  have OU:j<m.length:=(List.getElem?_eq_some_iff.1 hk).1
  have wC:(seen.toList++[j]).Nodup:=List.nodup_append.2 ⟨AN,by simp,by intro a ha b hb;rw[List.mem_singleton.1 hb];rintro rfl;exact hj (by simpa using ha)⟩
  have rW: ∀k∈seen.toList++[j],k<m.length:=by intro k hk;rcases List.mem_append.1 hk with hk|hk;exact bh k hk;rw[List.mem_singleton.1 hk];exact OU
  have BY:=ky _ _ wC rW
  have QH:=Nat.le_trans (wh m (seen.toList++[j])) BY
  rw[sH hk]at QH
  rw[List.length_append,List.length_singleton]at BY
  clear hs
  replace hs:St g0 g6 ([.obj r1 (wB bm (mF m).length (seen.push j))]++L'):=H6
  replace pj:=hI _ _ _ _ ah pj
  clear H6;replace aq:=G.le.trans aq ah;replace kz:=kz.mono ah
  refine ba rfl ?_;apply aB
  refine aJ rfl rfl ?_
  apply aE;apply au;apply aG;apply c_
  refine an rfl rfl (qN 0 rfl hs rfl kz.2 rfl hq ?_)
  refine ba rfl ?_;refine cP 2 rfl ?_
  refine an rfl rfl (eT rfl rfl rfl rfl rfl rfl ((hy _ _ k _ _ QH aq hs pj).mono ?_))
  rintro _ _ ⟨g7,bv,L7,rfl,rfl,ah,B0,ht,hf⟩
  refine⟨_,rfl,?_⟩
  clear hs;replace hs:=B0;clear B0
  replace aq:=G.le.trans aq ah;replace kz:=kz.mono ah
  cases bv with
  |false=>
   refine ba rfl ?_
   refine aJ rfl rfl ?_
   skip
   refine aF ?_;apply iq;apply eF;apply iq;refine rR rfl ?_
   exact⟨g7,_,L7,rfl,rfl,aq,hs.drop 0,.inr ⟨_,QH,hf rfl⟩⟩
  |true=>
   refine ba rfl ?_
   refine aS rfl rfl ?_
   apply aE;apply bU
   exact fun a ha=>⟨m.length-(seen.push j).toList.length,by rw[Array.toList_push,List.length_append,List.length_singleton];omega,seen.push j,L7,_,rfl,hs,aq,kz,by rw[Array.toList_push];exact wC,by rw[Array.toList_push];exact rW,rfl,by rw[Array.toList_push,sH hk];exact ht rfl,ha.keep (by(repeat (first|exact trivial|refine⟨rfl,?_⟩)))⟩
theorem Jb(bm:Nat)(_m:List Int)(g:G):CallsIn Wd 0 Tryz.prog 76 #[.map (some bm)] g.w (cR g fun g' r=> ∃bp,r= .func (.func 161) #[] #[.pointer (some ⟨bp,0,none⟩)]∧EP g' bp 0 [.map (some bm)]):=by
 have hs:=St.start g
 refine enter Tryz.func76 rfl Tryz.ntmps76 rfl ?_
 apply c_
 refine an rfl rfl (aR rfl hs rfl rfl ?_);clear hs;rintro b1 g1 hs ah;skip
 obtain⟨g2,bR,aU,ah,aL⟩:=hs.a_ (i:=0) rfl;replace hs:=aU;clear aU;rw[←bR];skip
 have aC:=aL;clear aL
 refine ba rfl ?_;refine aX rfl ?_
 exact aF (aV rfl rfl (hs.ret ⟨b1,rfl,aC⟩))
theorem wR{jR:FuncId}{eG:Array Value}(fY:ag Tryz.prog jR){A Z:List Int→Prop}(hA: ∀pre,A pre→pre.length≤1000000)(g:G)(qG:wQ Tryz.prog jR eG (fun x:Int=>[.int .i64 x]) A Z g):
  CallsIn Wd 0 Tryz.prog 255 #[.slice none 0 0,.func (.func jR) #[] eG] g.w (cR g fun g' r=> ∃xs,Z xs∧jZ 3 g xs g' r):=by
 have hs:=St.start g
 have aq:=G.le.refl g
 refine qH Tryz.func255 rfl Tryz.ntmps255 rfl ?_
 apply c_
 refine an rfl rfl (aR rfl hs rfl rfl ?_);clear hs;rintro bo g1 hs ah;replace aq:=G.le.trans aq ah
 replace hs:=hs.gI 3 1 none
 refine ba rfl ?_;apply aB;refine aX rfl ?_;apply aG
 refine s_ (N:=13) hs rfl fY (qG.mono aq) rfl (fun _=>rfl)
  (fun pre L _=> ∃v,L=[.row 3 1 v pre.length (eB pre),.obj bo (.cells #[v] 23 (0,0))]) (fun _ _ _ _=>False)
  (fun _ _ _ _ _ h=>h) (fun _ _ _ _ _ _ h=>h) ⟨_,rfl⟩ (fun pre x L la _=>la=[(5,.int .i64 x),(2,.pointer (some ⟨bo,0,none⟩))]∧ ∃v,L=[.row 3 1 v pre.length (eB pre),.obj bo (.cells #[v] 23 (0,0))]) (fun _ _ _ _ _ _ _ h=>h) ?_ ?_ ?_ ?_
 ·rintro lp D ro pre x gr Lr M jm hle hs hI
  apply ar;refine Wp 1 rfl ?_;apply aD
  exact fun a ha=>⟨gr,Lr,_,rfl,G.le.refl _,hs,⟨rfl,hI⟩,ha.keep (by(repeat (first|exact trivial|refine⟨rfl,?_⟩)))⟩
 ·rintro lp D ro pre x gr Lr la M jm hle hs ⟨rfl,v,rfl⟩
  have cN:=G.le.refl gr
  have AX:=hA _ jm
  rw[List.length_append,List.length_singleton]at AX
  obtain⟨av,cv,rfl⟩:=(hs.own 2 _ rfl).1.form
  apply aG;apply ar;refine Wm 2 [.o 3] hs rfl ?_
  refine an rfl rfl (bj T.ok rfl hs (vs:=[(0,.int .i64 x)]) (cells:=[.int .i64 x]) rfl rfl rfl rfl rfl rfl (by decide) (by decide) (by kernel_rfl) rfl ?_);rintro b2 g2 hs ah;replace cN:=G.le.trans cN ah
  skip
  refine an rfl rfl (b_ T.ok 3 rfl hs rfl rfl rfl rfl rfl rfl rfl (by decide) rfl (Src.gK (hs.own 0 _ rfl).1).2 (by simp[Value.oneCell']) (by show(pre.length+1)*8≤_;omega) (by unfold maxLen;omega) ?_);rintro a9 c9 g3 hs ah;replace cN:=G.le.trans cN ah
  skip
  refine bg rfl (aA T.ok 4 rfl hs rfl rfl rfl rfl rfl rfl rfl rfl rfl ?_);replace hs:=hs;rintro g1 hs ah;replace cN:=G.le.trans cN ah
  apply aD;apply bU
  exact fun a ha=>⟨_,_,rfl,hs.drop 0,cN,[.row 3 1 (.slice a9 (pre.length+1) c9) (pre.length+1) (eB pre++[.int .i64 x]),.obj bo (.cells #[.slice a9 (pre.length+1) c9] 23 (0,0))],rfl,.slice a9 (pre.length+1) c9,by simp[eB]⟩
 ·rintro lp D o xs Lr ge hz hle hs ⟨v,rfl⟩
  obtain⟨av,cv,rfl⟩:=(hs.own 2 _ rfl).1.form
  apply bU;apply au;refine nK [.o 3] hs rfl ?_
  refine aF ?_;skip
  refine DZ 1 rfl hs rfl rfl (fun g' iS fL=>?_)
  exact iS.ret ⟨xs,hz,eB xs,iS.own 1 _ rfl,cO.ints _ _⟩
 ·rintro c lp D o pre Lr ge _ _ _ h
  exact h.elim
theorem z7{jR:FuncId}{eG:Array Value}(fY:ag Tryz.prog jR){A Z:List Int→Prop}(hA: ∀pre,A pre→pre.length≤1000000)(g:G)(qG:wQ Tryz.prog jR eG (fun x:Int=>[.int .i64 x]) A Z g):
  CallsIn Wd 0 Tryz.prog 160 #[.func (.func jR) #[] eG] g.w (cR g fun g' r=> ∃xs,Z xs∧jZ 3 g xs g' r):=by
 refine enter Tryz.func160 rfl Tryz.ntmps160 rfl ?_
 refine aX rfl ?_;refine cP 1 rfl ?_
 refine an rfl rfl (ay Mx aI rfl rfl rfl rfl rfl (wR fY hA g qG) ?_)
 rintro g1 r aN ⟨xs,hz,dZ⟩
 refine ba rfl ?_
 exact aF (aV rfl rfl ⟨g1,r,rfl,aN,rfl,xs,hz,dZ⟩)
end Go.Proofs.YtebobfdheanknaaGreatDoor
namespace Go.Proofs.YtebobfdheanknaaGreatDoor
open Go Go.K
set_option maxRecDepth 10000
attribute [local irreducible] W WL cT cn bX bA bB bD cW cG
set_option maxHeartbeats 1000000
theorem cO.pH{g:G}: ∀{xs:List Int} {cells:List Value},cO g cells xs→cells=iz xs
 |[],_,h=>h
 |x::xs,_,⟨c1,c2,e,h1,h2⟩=>by rw[e,cO.pH h2,show c1=[Value.int .i64 x]from h1];rfl
theorem Bb(v:Value)(xs:List Int)(g:G)(aH:Rs g v xs)(hlen:xs.length≤1000000):
  CallsIn Wd 0 Tryz.prog 131 #[v] g.w (cR g (jZ 3 g xs)):=by
 obtain⟨ad,n,c,rfl,hn,hc,hr⟩:=id aH
 have hs:=St.start g
 have aq:=G.le.refl g
 refine enter Tryz.func131 rfl Tryz.ntmps131 rfl ?_
 refine aX rfl ?_;apply aB;refine cP 1 rfl ?_
 refine an rfl rfl (fS T.ok (neg:=false) rfl rfl rfl rfl rfl ?_)
 apply cf
 cases ad with
 |none=>
  refine aJ rfl rfl ?_
  refine aX rfl ?_
  refine aF (aV rfl rfl (hs.ret ?_))
  have:xs=[]:=by
   rcases hr with h|⟨b,o,cells,h,_⟩
   ·exact List.eq_nil_of_length_eq_zero (by omega)
   ·cases h
  subst this
  exact jZ.nil _ _ _ _
 |some ad=>
  refine aS rfl rfl ?_
  apply aE;apply au;apply c_
  refine an rfl rfl (bj T.ok rfl hs (vs:=[]) (cells:=[]) rfl rfl rfl rfl rfl rfl (by decide) (by decide) (by kernel_rfl) rfl ?_);rintro b2 g2 hs ah;replace aH:=aH.mono ah
  refine Wp 1 rfl ?_
  obtain⟨hm,news,eK,gn⟩:=Src.jq aH
  subst hm
  obtain rfl:=cO.pH eK
  refine an rfl rfl (b_ T.ok 0 rfl hs rfl rfl rfl rfl rfl rfl rfl (by decide) rfl gn (by simp[iz,Value.oneCell']) (by show(0+xs.length)*8≤_;omega) (by unfold maxLen;omega) ?_);rintro a' c' g3 hs ah
  refine ba rfl ?_
  exact aF (aV rfl rfl (hs.ret (hs.mR (i:=0) rfl (cO.ints _ _))))
end Go.Proofs.YtebobfdheanknaaGreatDoor
namespace Go.Proofs.YtebobfdheanknaaGreatDoor
open Go Go.K
set_option maxRecDepth 10000
attribute [local irreducible] W WL cT cn bX bA bB bD cW cG
set_option maxHeartbeats 1000000
def jJ(xs:List Int):List Int:=xs.mergeSort fun x y=>decide (x≤y)
theorem vu(xs:List Int):(jJ xs).length=xs.length:=by unfold jJ;exact List.length_mergeSort _
theorem vv(xs:List Int):zj (fun x=>(x,0)) (jJ xs):=by
 have h:=List.pairwise_mergeSort (le:=fun x y:Int=>decide (x≤y)) (by intro a b c h1 h2;simp at*;omega) (by intro a b;simp;omega) xs
 refine List.Pairwise.imp (fun {a b} h=>?_) h
 simp only[decide_eq_true_eq]at h
 rw[iC];simp only;omega
theorem z8{xs ys:List Int}(h:xs.Perm ys):jJ xs=jJ ys:=
 ox (((List.mergeSort_perm xs _).trans h).trans (List.mergeSort_perm ys _).symm) (vv xs) (vv ys) fun _ _ _ _ e=>congrArg Prod.fst e
theorem zR{ad:Option Addr}{n c:Nat}{zs:List Int}{g0 g:G}{L:List cV}(hl:zs.length≤1000000)(hs:St g0 g (.row 3 1 (.slice ad n c) n (eB zs)::L)):
  CallsIn Wd 0 Tryz.prog 49 #[.slice ad n c] g.w (eu g fun g' r=>r= .tuple #[]∧St g0 g' (.row 3 1 (.slice ad n c) n (eB (jJ zs))::L)):=by
 have hr:=hs.own 0 _ rfl
 by_cases h0:n=0
 ·subst h0
  have hz:zs=[]:=by
   have:=hr.1.1
   rw[lO,Nat.zero_mul]at this
   exact List.eq_nil_of_length_eq_zero this
  subst hz
  refine callsIn_wide.2 ((Tryz.slices_Sort_int_none ad c g.w).mono ?_)
  rintro e w' ⟨rfl,rfl⟩
  refine⟨g,_,rfl,rfl,G.le.refl g,rfl,?_⟩
  have e0:jJ []=[]:=by unfold jJ;simp
  rw[e0];exact hs
 ·obtain⟨bk,off,rfl⟩:=hr.1.pos h0
  obtain⟨hH,zQ,rfl,nd,oJ⟩:=hr.1.D8 h0
  refine callsIn_wide.2 ((Tryz.slices_Sort_int bk off c zs g.w hH zQ (by omega)).mono ?_)
  rintro e w' ⟨rfl,q,os,rfl⟩
  obtain⟨g2,bR,aU,ah⟩:=hs.putRow (i:=0) (q:=q) (os:=os) (d:=jJ zs) rfl h0 (vu zs)
  exact⟨g2,_,bR,rfl,ah,rfl,aU⟩
theorem B3{jR:FuncId}{eG:Array Value}(fY:ag Tryz.prog jR){A:List Int→Prop}{m:List Int}(hA: ∀pre,A pre→pre.length≤1000000)(hm:m.length≤1000000)(g:G)(qG:wQ Tryz.prog jR eG (fun x:Int=>[.int .i64 x]) A (fun xs=>xs.Perm m) g):
  CallsIn Wd 0 Tryz.prog 75 #[.func (.func jR) #[] eG] g.w (cR g fun g' r=>jZ 3 g (jJ m) g' r):=by
 have hs:=St.start g
 refine enter Tryz.func75 rfl Tryz.ntmps75 rfl ?_
 refine aX rfl ?_;refine cP 1 rfl ?_
 refine an rfl rfl (ay LK aI rfl rfl rfl rfl rfl (z7 fY hA g qG) ?_)
 rintro g1 r aN ⟨xs,hp,cells,dZ,eK⟩
 obtain rfl:cells=eB xs:=cO.pH eK
 obtain⟨ad,c,rfl⟩:=dZ.1.form
 replace hs:=hs.gJ aN dZ
 clear eK dZ
 have lG:=hp.length_eq
 refine ba rfl ?_;refine cP 1 rfl ?_
 refine an rfl rfl (dv IU aI rfl rfl rfl rfl rfl (zR (zs:=xs) (by omega) hs) ?_)
 clear hs
 rintro g6 _ ah ⟨rfl,hs⟩
 rw[z8 hp]at hs
 apply cf;refine aX rfl ?_
 refine aF (aV rfl rfl (hs.ret ⟨eB (jJ m),?_,cO.ints _ _⟩))
 rw[vu,←lG]
 exact hs.own 0 _ rfl
end Go.Proofs.YtebobfdheanknaaGreatDoor
namespace Go.Proofs.YtebobfdheanknaaGreatDoor
open Go Go.K
set_option maxRecDepth 10000
attribute [local irreducible] W WL cT cn bX bA bB bD cW cG
set_option maxHeartbeats 1000000
theorem Gk(bb:Nat)(g:G):CallsIn Wd 0 Tryz.prog 72 #[.pointer (some ⟨bb,0,none⟩)] g.w (cR g fun g' r=> ∃bp,r= .func (.func 156) #[] #[.pointer (some ⟨bp,0,none⟩)]∧EP g' bp 0 [.pointer (some ⟨bb,0,none⟩)]):=by
 have hs:=St.start g
 refine enter Tryz.func72 rfl Tryz.ntmps72 rfl ?_
 apply c_
 refine an rfl rfl (aR rfl hs rfl rfl ?_);clear hs;rintro b1 g1 hs ah;skip
 obtain⟨g2,bR,aU,ah,aL⟩:=hs.a_ (i:=0) rfl;replace hs:=aU;clear aU;rw[←bR];skip
 have aC:=aL;clear aL
 refine ba rfl ?_;refine aX rfl ?_
 exact aF (aV rfl rfl (hs.ret ⟨b1,rfl,aC⟩))
def mX(b:fX)(a:fD)(m:List Int)(f:bc):List Int:=if s8 b f a&& !A6 b f a.time then x7 f.idn m else m
def H8(b:fX)(a:fD):List Int:=(s9 b).foldl (mX b a) []
def oI(b:fX)(a:fD):List Int:=jJ (H8 b a)
theorem vq(b:fX)(a:fD): ∀(l:List bc) (m:List Int),(l.foldl (mX b a) m).length≤m.length+l.length
 |[],m=>Nat.le_refl _
 |f::l,m=>by
  rw[List.foldl_cons]
  have ih:=vq b a l (mX b a m f)
  have h1:(mX b a m f).length≤m.length+1:=by
   unfold mX x7
   split
   ·split
    ·omega
    ·simp
   ·omega
  rw[List.length_cons];omega
def rm(b:fX)(a:fD)(sl:Nat→Value)(bm b2 b3 b5:Nat)(g:G)(pre:List bc)(L:List cV)(g':G):Prop:=
 L=[.obj bm (ct (mF (pre.foldl (mX b a) [])))]∧EP g' b5 0 [.map (some bm)]∧EP g' b2 0 ((List.range 11).map sl)∧EP g' b3 0 (pE a)∧iI g' (.agg ((List.range 11).map sl).toArray) b∧Rs g' (sl 7) b.jS∧G.le g g'
theorem rm.mono{b:fX}{a:fD}{sl:Nat→Value}{bm b2 b3 b5:Nat}{g:G}(pre:List bc)(L:List cV)(g1 g2:G)(hle:g1.le g2)(h:rm b a sl bm b2 b3 b5 g pre L g1):rm b a sl bm b2 b3 b5 g pre L g2:=by
 obtain⟨e,h1,h2,h3,h4,h5,h6⟩:=h
 exact⟨e,h1.mono hle,h2.mono hle,h3.mono hle,h4.mono hle,h5.mono hle,h6.trans hle⟩
theorem A7(v:Value)(b:fX)(a:fD)(g:G)(bI:iI g v b)(hb:DX b):CallsIn Wd 0 Tryz.prog 32 #[v,Gl a] g.w (cR g fun g' r=>Rs g' r (oI b a)):=by
 have hs:=St.start g
 have aq:=G.le.refl g
 obtain⟨sl,rfl,jr⟩:=bI
 have bI:iI g (.agg ((List.range 11).map sl).toArray) b:=⟨sl,rfl,jr⟩
 have aH:Rs g (sl 6) b.holds:=jr 6 (by decide)
 have aT:Rs g (sl 7) b.jS:=jr 7 (by decide)
 refine qH Tryz.func32 rfl Tryz.ntmps32 rfl ?_
 apply c_
 refine an rfl rfl (aR rfl hs rfl rfl ?_);clear hs;rintro b2 g1 hs ah;obtain⟨aq,aH,aT,bI⟩:=dE ah aq aH aT bI
 obtain⟨g2,bR,aU,ah,aL⟩:=hs.a_ (i:=0) rfl;replace hs:=aU;clear aU;rw[←bR];obtain⟨aq,aH,aT,bI⟩:=dE ah aq aH aT bI
 have aC:=aL;clear aL
 skip
 refine an rfl rfl (aR rfl hs rfl rfl ?_);clear hs;rintro b3 g1 hs ah;obtain⟨aq,aC,aH,aT,bI⟩:=kN ah aq aC aH aT bI
 obtain⟨g2,bR,aU,ah,aL⟩:=hs.a_ (i:=0) rfl;replace hs:=aU;clear aU;rw[←bR];obtain⟨aq,aC,aH,aT,bI⟩:=kN ah aq aC aH aT bI
 have aP:=aL;clear aL
 refine ba rfl ?_;apply c_
 refine an rfl rfl (jH (κ:=Int) rfl hs ?_)
 clear hs;intro bm g1 hs ah;obtain⟨aq,aC,aP,aH,aT,bI⟩:=iu ah aq aC aP aH aT bI
 refine an rfl rfl (aK T.ok rfl hs rfl rfl ?_);clear hs;rintro b5 g1 hs ah;obtain⟨aq,aC,aP,aH,aT,bI⟩:=iu ah aq aC aP aH aT bI
 refine bg rfl (aA T.ok 0 rfl hs rfl rfl rfl rfl rfl rfl rfl rfl rfl ?_);replace hs:=hs;rintro g1 hs ah;obtain⟨aq,aC,aP,aH,aT,bI⟩:=iu ah aq aC aP aH aT bI
 obtain⟨g2,bR,aU,ah,aL⟩:=hs.a_ (i:=0) rfl;replace hs:=aU;clear aU;rw[←bR];obtain⟨aq,aC,aP,aH,aT,bI⟩:=iu ah aq aC aP aH aT bI
 have dO:=aL;clear aL
 replace hs:St g _ [.obj bm (ct (mF []))]:=hs
 apply cf;apply aB;apply c_
 refine an rfl rfl (ay PR (fun _=>trivial) rfl rfl rfl rfl rfl (Gk b2 _) ?_)
 rintro g6 _ mY ⟨bp,rfl,Qu⟩
 replace hs:=hs.call mY;have ah:=mY.le;obtain⟨aq,aC,aP,dO,aH,aT⟩:=iu ah aq aC aP dO aH aT;replace bI:=bI.mono ah
 apply cf;apply aG
 refine s_ (N:=28) hs rfl LH (DY bp b2 b sl g6 Qu aC aH).SB rfl (fun _=>rfl)
  (rm b a sl bm b2 b3 b5 g) (fun _ _ _ _=>False) rm.mono (fun _ _ _ _ _ _ h=>h) ⟨rfl,dO,aC,aP,bI,aT,aq⟩
  (fun pre x L la g'=>(∃b6,la=[(5,.pointer (some ⟨b5,0,none⟩)),(3,.pointer (some ⟨b3,0,none⟩)),(6,.pointer (some ⟨b6,0,none⟩))]∧EP g' b6 0 (fY x b2))∧rm b a sl bm b2 b3 b5 g pre L g')
  (fun _ _ _ _ _ _ hle ⟨⟨b6,e,h1⟩,h2⟩=>⟨⟨b6,e,h1.mono hle⟩,rm.mono _ _ _ _ hle h2⟩) ?_ ?_ ?_ ?_
 ·rintro lp D ro pre x gr Lr M jm hle hs hI
  have cN:=G.le.refl gr
  apply ar
  refine an rfl rfl (aK T.ok rfl hs rfl rfl ?_);clear hs;rintro b6 g1 hs ah;replace cN:=G.le.trans cN ah
  refine bg rfl (aA T.ok 0 rfl hs rfl rfl rfl rfl rfl rfl rfl rfl rfl ?_);replace hs:=hs;rintro g1 hs ah;replace cN:=G.le.trans cN ah
  obtain⟨g2,bR,aU,ah,aL⟩:=hs.a_ (i:=0) rfl;replace hs:=aU;clear aU;rw[←bR];replace cN:=G.le.trans cN ah
  apply aD
  exact fun a ha=>⟨_,Lr,_,rfl,cN,hs,⟨⟨b6,rfl,aL⟩,rm.mono _ _ _ _ cN hI⟩,ha.keep (by(repeat (first|exact trivial|refine⟨rfl,?_⟩)))⟩
 ·rintro lp D ro pre x gr Lr la M jm hle hs ⟨⟨b6,rfl,aC⟩,rfl,aP,dL,dO,bI,aT,aq⟩
  have cN:=G.le.refl gr
  have B2:(pre++[x]).foldl (mX b a) []=if s8 b x a&& !A6 b x a.time then x7 x.idn (pre.foldl (mX b a) [])else pre.foldl (mX b a) []:=by rw[List.foldl_append];rfl
  generalize pre.foldl (mX b a) []=M0 at*
  apply aG;refine dx 2 [.z aC,.z dO] (St.start _) rfl ?_
  refine an rfl rfl (ay PS (fun _=>trivial) rfl rfl rfl rfl rfl (CallsIn.qx rfl rfl rfl (Gm x b2 b sl a _ dL bI)) ?_)
  rintro g7 _ uM rfl;replace hs:=hs.call uM;have ah:=uM.le;obtain⟨aq,cN,aC,aP,dO,aT⟩:=iu ah aq cN aC aP dO aT;obtain⟨dL,bI⟩:=cC ah dL bI
  cases h1:s8 b x a with
  |false=>
   rw[h1]at B2
   refine ba rfl ?_
   refine aS rfl rfl ?_
   apply aE;apply bU
   exact fun a' ha=>⟨_,_,rfl,hs,cN,[.obj bm (ct (mF (M0)))],rfl,by rw[B2];rfl,aP,dL,dO,bI,aT,aq⟩
  |true=>
   rw[h1]at B2
   refine Wm 4 [.z aC,.z dO] (St.start _) rfl ?_
   clear uM
   refine an rfl rfl (ay PT (fun _=>trivial) rfl rfl rfl rfl rfl (CallsIn.qx rfl rfl rfl (I' x b2 b sl a.time _ dL aT)) ?_)
   rintro g8 _ uM rfl;replace hs:=hs.call uM;have ah:=uM.le;obtain⟨aq,cN,aC,aP,dO,aT⟩:=iu ah aq cN aC aP dO aT;obtain⟨dL,bI⟩:=cC ah dL bI
   cases h2:A6 b x a.time with
   |true=>
    rw[h2]at B2
    refine ba rfl ?_
    refine aS rfl rfl ?_
    apply aE;apply bU
    exact fun a' ha=>⟨_,_,rfl,hs,cN,[.obj bm (ct (mF (M0)))],rfl,by rw[B2];rfl,aP,dL,dO,bI,aT,aq⟩
   |false=>
    rw[h2]at B2
    refine ba rfl ?_
    refine aJ rfl rfl ?_
    apply ar;refine Wm 4 [.z aP,.z aC] (St.start _) rfl ?_
    refine an rfl rfl (aQ T.ok rfl (vs:=[]) (cells:=[]) rfl rfl rfl rfl [] rfl (by kernel_rfl) ?_)
    refine bg rfl (dC Nc 2 (.inl rfl) hs rfl rfl (a:=x.idn) rfl rfl ?_)
    clear hs;intro g9 hs ah;obtain⟨aq,cN,aC,aP,dO,aT⟩:=iu ah aq cN aC aP dO aT;obtain⟨dL,bI⟩:=cC ah dL bI
    replace hs:St g g9 (.obj lp (ro .busy):: .obj D fM::([.obj bm (ct (iX x.idn (.agg #[]) (mF M0)))]++M)):=hs
    rw[x8]at hs
    apply aD;apply bU
    exact fun a' ha=>⟨_,_,rfl,hs,cN,[.obj bm (ct (mF (x7 x.idn M0)))],rfl,by rw[B2];rfl,aP,dL,dO,bI,aT,aq⟩
 ·rintro lp D o xs Lr ge rfl hle hs ⟨rfl,aC,_,_,_,_,aq⟩
  have hM:=vq b a (s9 b) []
  have hh:(s9 b).length≤1000000:=Nat.le_trans (List.length_filter_le ..) (hb 6)
  unfold oI H8
  generalize(s9 b).foldl (mX b a) []=m at*
  have Ja:m.length≤1000000:=by simp only[List.length_nil]at hM;omega
  obtain⟨g8,xD,qO,ah,kz⟩:=DP hs (i:=2) rfl
  rw[←xD];clear hs;replace hs:=qO;clear qO;replace aC:=aC.mono ah;clear xD
  apply bU;apply au;refine dx 1 [.z aC] (St.start _) rfl ?_
  refine an rfl rfl (ay PV (fun _=>trivial) rfl rfl rfl rfl rfl (Jb bm m _) ?_)
  rintro g9 _ H9 ⟨bq,rfl,Ud⟩;replace hs:=hs.call H9;have ah:=H9.le;replace kz:=kz.mono ah
  skip
  refine an rfl rfl (ay PU (fun _=>trivial) rfl rfl rfl rfl rfl (B3 LL (fun pre h=>Nat.le_trans h Ja) Ja _ (Gn bq bm m _ Ud kz)) ?_)
  rintro g10 v10 Nd uH
  obtain⟨g11,Nf,Ng,ah,py⟩:=hs.mZ Nd uH
  have ah:=Nd.le.trans ah
  rw[←Nf];clear hs;replace hs:=Ng;clear Ng;clear Nf
  refine ba rfl ?_
  refine aF ?_;skip
  exact DZ 1 rfl hs rfl rfl (fun g' iS fL=>iS.ret (py.mono fL))
 ·rintro c lp D o pre Lr ge _ _ _ h
  exact h.elim
end Go.Proofs.YtebobfdheanknaaGreatDoor
namespace Go.Proofs.YtebobfdheanknaaGreatDoor
open Go Go.K
set_option maxRecDepth 10000
attribute [local irreducible] W WL cT cn bX bA bB bD cW cG
set_option maxHeartbeats 1000000
theorem zP(g:G)(xs:List bc): ∀u∈fl xs,u.oneCell'=true:=cO.one (cO.fl g xs)
theorem D0(v:Value)(xs:List bc)(g:G)(aH:Rs g v xs)(hlen:xs.length≤1000000):
  CallsIn Wd 0 Tryz.prog 128 #[v] g.w (cR g (jZ 54 g xs)):=by
 obtain⟨ad,n,c,rfl,hn,hc,hr⟩:=id aH
 have hs:=St.start g
 have aq:=G.le.refl g
 refine enter Tryz.func128 rfl Tryz.ntmps128 rfl ?_
 refine aX rfl ?_;apply aB;refine cP 1 rfl ?_
 refine an rfl rfl (fS T.ok (neg:=false) rfl rfl rfl rfl rfl ?_)
 apply cf
 cases ad with
 |none=>
  refine aJ rfl rfl ?_
  refine aX rfl ?_
  refine aF (aV rfl rfl (hs.ret ?_))
  have:xs=[]:=by
   rcases hr with h|⟨b,o,cells,h,_⟩
   ·exact List.eq_nil_of_length_eq_zero (by omega)
   ·cases h
  subst this
  exact jZ.nil _ _ _ _
 |some ad=>
  refine aS rfl rfl ?_
  apply aE;apply au;apply c_
  refine an rfl rfl (bj T.ok rfl hs (vs:=[]) (cells:=[]) rfl rfl rfl rfl rfl rfl (by decide) (by decide) (by kernel_rfl) rfl ?_);rintro b2 g2 hs ah;replace aH:=aH.mono ah
  refine Wp 1 rfl ?_
  obtain⟨hm,news,eK,gn⟩:=Src.jq aH
  subst hm
  obtain rfl:=kX eK
  refine an rfl rfl (b_ T.ok 0 rfl hs rfl rfl rfl rfl rfl rfl rfl (by decide) rfl gn (zP g xs) (by show(0+xs.length)*160≤_;omega) (by unfold maxLen;omega) ?_);rintro a' c' g3 hs ah
  refine ba rfl ?_
  exact aF (aV rfl rfl (hs.ret (hs.mR (i:=0) rfl (cO.fl _ _))))
theorem uP{p:bc→Bool}(xs:List bc)(k:Nat)(h:k<xs.length)(hp:p xs[k]=true)(dy: ∀j (h:j<xs.length),j<k→p xs[j]=false):
  xs.take k=(xs.take (k+1)).filter (fun x=> !p x):=by
 rw[List.take_succ_eq_append_getElem h,List.filter_append]
 have:(xs.take k).filter (fun x=> !p x)=xs.take k:=by
  rw[List.filter_eq_self]
  intro x hx
  obtain⟨j,hj,rfl⟩:=List.mem_iff_getElem.1 hx
  simp only[List.length_take]at hj
  rw[List.getElem_take,dy j (by omega) (by omega)];rfl
 rw[this];simp[hp]
theorem Gp(xs:List bc)(i:Nat):(fl xs).take (i*19)=fl (xs.take i):=by
 rcases Nat.lt_or_ge xs.length i with h|h
 ·rw[List.take_of_length_le (l:=xs) (by omega),List.take_of_length_le]
  rw[mc];show xs.length*19≤_;omega
 ·have e:=mc (xs.take i)
  rw[List.length_take,Nat.min_eq_left h]at e
  conv=>lhs;rw[←List.take_append_drop i xs,lr]
  exact List.take_left' e
theorem B4(p:bc→Bool)(g0 g:G)(L:List cV)(v fo:Value)(xs:List bc)(hs:St g0 g (.row 54 19 v xs.length (fl xs)::L))(hlen:xs.length≤1000000)(hp:x6 fo p xs g):
  CallsIn Wd 0 Tryz.prog 127 #[v,fo] g.w (eu g fun g' v'=>St g0 g' (.row 54 19 v' (xs.filter fun x=> !p x).length (fl (xs.filter fun x=> !p x))::L)):=by
 have aq:=G.le.refl g
 obtain⟨ad,cap,rfl⟩:=(hs.own 0 _ rfl).1.form
 refine enter Tryz.func127 rfl Tryz.ntmps127 rfl ?_
 refine aX rfl ?_;refine cP 2 rfl ?_
 obtain⟨gf,Nh,H_,py,td⟩:=hs.Jc (α:=bc) (i:=0) rfl (cO.fl _ _)
 rw[←Nh]
 refine an rfl rfl (ay IS aI rfl rfl rfl rfl rfl (sZ _ _ xs p gf py (hp.mono H_)) ?_)
 rintro g2 _ wF rfl
 obtain⟨g3,sq,ff⟩:=td g2 wF
 rw[←sq]
 replace hs:=hs.call ff
 have ah:=ff.le;replace aq:=G.le.trans aq ah
 refine ba rfl ?_;apply aB;refine aX rfl ?_
 rcases mb p xs with⟨su,dy⟩|⟨k0,zl,su,wE,dy⟩
 ·refine aJ (b:=lu p xs== -1) (by simp[su]) rfl ?_
  refine aX rfl ?_
  have Jd:(xs.filter fun x=> !p x)=xs:=List.filter_eq_self.2 fun x hx=>by simp[dy x hx]
  rw[Jd]
  exact aF (aV rfl rfl (eu.intro aq hs))
 ·refine aS (b:=lu p xs== -1) (by simp only[su,beq_eq_false_iff_ne];omega) rfl ?_
  rw[su]
  obtain⟨⟨b0,p0,rfl⟩,qP⟩:(∃b p,ad=some ⟨b,p,none⟩)∧xs.length≤cap∧cap≤maxLen:=by
   rcases(hs.own 0 _ rfl).1.2 with⟨h,_⟩|⟨b,q,c,cur,e1,_,_,h1,h2,_⟩
   ·omega
   ·simp only[Value.slice.injEq]at e1
    obtain⟨rfl,_,rfl⟩:=e1
    exact⟨⟨b,q,rfl⟩,h1,h2⟩
  unfold maxLen at qP
  apply aE;apply au;apply aB;refine aX rfl ?_;apply aG
  refine bS (fun m a' w=> ∃(j i':Nat) (cs:List bc) (g':G),w=g'.w∧St g0 g' (eP 54 (some ⟨b0,p0,none⟩) xs.length cap cs::L)∧G.le g g'∧j≤xs.length∧m=xs.length-j∧
   cs.length=xs.length∧i'<j∧cs.take i'=(xs.take j).filter (fun x=> !p x)∧cs.drop j=xs.drop j∧
   Fr 42 [] [(0,.slice (some ⟨b0,p0,none⟩) xs.length cap),(1,fo),(5,.int .i64 i'),(6,.int .i64 j)] a') (xs.length-(k0+1))
   (fun a' ha=>⟨k0+1,k0,xs,g3,rfl,hs,aq,zl,rfl,rfl,Nat.lt_succ_self _,uP xs k0 zl wE dy,rfl,ha.keep ⟨rfl,rfl,rfl,kI rfl (by rw[wr (by omega) (by omega)];omega),trivial⟩⟩) ?_
  clear hs aq
  rintro m a' _ ⟨j,i',cs,g',rfl,hs,aq,hj,rfl,fY,zK,cB,H',eI⟩
  revert a'
  apply cQ;apply aB;refine aX rfl ?_
  by_cases bh:j<xs.length
  ·refine aJ (b:=decide ((j:Int)<(xs.length:Int))) (by simp;omega) rfl ?_
   have Qv:cs[j]? =some xs[j]:=by
    have:=congrArg (fun l=>l[0]?) H'
    simpa [List.getElem?_eq_getElem bh]using this
   apply aE;apply au;apply aB;apply aG;refine cP 2 rfl ?_
   refine an rfl rfl (cZ (α:=bc) 0 rfl hs rfl (by omega) (by omega) rfl rfl rfl rfl rfl rfl ?_)
   rintro b q hh;obtain⟨rfl,rfl⟩:b0=b∧p0=q:=by simpa using hh
   rw[Int.toNat_natCast]
   refine an rfl rfl (dR (α:=bc) 0 rfl hs rfl rfl (j:=j) Qv rfl rfl rfl ?_)
   have qQ:=List.getElem_mem bh
   have Gq:(xs.take (j+1)).filter (fun x=> !p x)=(xs.take j).filter (fun x=> !p x)++(if p xs[j]then []else [xs[j]]):=by
    rw[List.take_succ_eq_append_getElem bh,List.filter_append]
    cases Qw:p xs[j]<;>simp[Qw]
   have D1:cs.drop (j+1)=xs.drop (j+1):=by
    have:=congrArg (List.drop 1) H'
    simpa [List.drop_drop]using this
   generalize xs[j]=x at*
   refine an rfl rfl (aK T.ok rfl hs rfl rfl ?_);clear hs;rintro b7 g1 hs ah;replace aq:=G.le.trans aq ah
   refine bg rfl (aA T.ok 0 rfl hs rfl rfl rfl rfl rfl rfl rfl rfl rfl ?_);replace hs:=hs;rintro g1 hs ah;replace aq:=G.le.trans aq ah
   obtain⟨g2,bR,aU,ah,aL⟩:=hs.a_ (i:=0) rfl;replace hs:=aU;clear aU;rw[←bR];replace aq:=G.le.trans aq ah
   have aC:=aL;clear aL
   replace hs:St g0 _ (eP 54 (some ⟨b0,p0,none⟩) xs.length cap cs::L):=hs
   apply cf;refine dx 2 [.z aC] (St.start _) rfl ?_
   refine an rfl rfl (eA rfl rfl rfl rfl rfl rfl (hp _ x qQ aq) ?_);rintro g4 _ kL rfl;replace hs:=hs.call kL;have ah:=kL.le;obtain⟨aq,aC⟩:=cC ah aq aC
   cases hb:p x with
   |true=>
    refine ba rfl ?_
    refine aS rfl rfl ?_
    rw[hb,if_pos rfl,List.append_nil]at Gq
    apply aE;apply bU;apply au;apply ar;refine Wp 3 rfl ?_;apply aD
    exact fun a ha=>⟨xs.length-(j+1),by omega,j+1,i',cs,_,rfl,hs,aq,by omega,rfl,fY,by omega,by rw[cB,Gq],D1,ha.keep ⟨rfl,rfl,rfl,kI rfl (by rw[wr (by omega) (by omega)];omega),trivial⟩⟩
   |false=>
    refine ba rfl ?_
    refine aJ rfl rfl ?_
    rw[hb,if_neg (by simp)]at Gq
    refine dx 3 [.z aC] (St.start _) rfl ?_
    refine an rfl rfl (cZ (α:=bc) 0 rfl hs rfl (by omega) (by omega) rfl rfl rfl rfl rfl rfl ?_)
    rintro b q hh;obtain⟨rfl,rfl⟩:b0=b∧p0=q:=by simpa using hh
    rw[Int.toNat_natCast]
    refine bg rfl (fZ (α:=bc) 0 rfl hs rfl rfl rfl (v:=x) (j:=i') (by omega) rfl rfl ?_)
    clear hs;intro g5 hs ah;replace aq:=G.le.trans aq ah
    replace hs:St g0 g5 (eP 54 (some ⟨b0,p0,none⟩) xs.length cap (cs.set i' x)::L):=hs
    apply cf;apply ar;refine Wp 3 rfl ?_;apply aD;apply bU;apply au;apply ar;refine Wp 3 rfl ?_;apply aD
    exact fun a ha=>⟨xs.length-(j+1),by omega,j+1,i'+1,cs.set i' x,_,rfl,hs,aq,by omega,rfl,by simp[fY],by omega,
     by rw[Gq,←cB,og (by omega)],
     by rw[List.drop_set_of_lt (by omega)];exact D1,ha.keep ⟨rfl,rfl,kI rfl (by rw[wr (by omega) (by omega)];omega),kI rfl (by rw[wr (by omega) (by omega)];omega),trivial⟩⟩
  ·refine aS (b:=decide ((j:Int)<(xs.length:Int))) (by simp;omega) rfl ?_
   obtain rfl:j=xs.length:=by omega
   rw[List.take_length]at cB
   apply bE;apply bK;apply bK;apply dc;apply au;refine cP 2 rfl ?_
   refine an rfl rfl (j2 T.ok rfl rfl rfl rfl rfl (a:=i') (b:=xs.length) ⟨_,rfl⟩ rfl (by omega) (by omega) ?_)
   refine bg rfl (vr T.ok 0 (a:=i') (xs':=fl (cs.take i')++(List.replicate (xs.length-i') (bW gF)).flatten) rfl hs rfl rfl rfl rfl rfl rfl (by decide) rfl (by decide) ?_ (by omega) (by rw[Gp];rfl) ?_)
   ·by_cases Qx:cap=i'
    ·exact .inl (by omega)
    ·right;rw[if_neg Qx];simp[Addr.add_lit]
   clear hs;rintro g5 hs ah;replace aq:=G.le.trans aq ah
   apply cf;refine cP 2 rfl ?_
   refine an rfl rfl (j2 T.ok rfl rfl rfl rfl rfl (a:=0) (b:=i') rfl ⟨_,rfl⟩ (by omega) (by omega) ?_)
   refine ba rfl ?_
   refine aF (aV rfl rfl (eu.intro aq ?_))
   have tf:=hs.x9 (i:=0) (a:=i') rfl (by omega)
   have hl:(xs.filter fun x=> !p x).length=i':=by rw[←cB,List.length_take];omega
   rw[hl,←cB]
   have he:List.take (i'*19) (fl (cs.take i')++(List.replicate (xs.length-i') (bW gF)).flatten)=fl (cs.take i'):=by
    rw[List.take_left' (by rw[mc,List.length_take];show _*19=_;omega)]
   rw[he]at tf
   exact tf
def jb(b:fX)(w time:Int):List bc:=(pF b w).filter fun f=> !decide (time<f.time)
theorem qR{b:fX}(hb:DX b)(w:Int):(pF b w).length≤1000000:=by
 unfold pF
 split
 ·rw[fR];exact Nat.le_trans (List.length_filter_le ..) (hb 0)
 ·simp
theorem D2(x:bc)(time:Int)(b1:Nat)(g:G)(aC:EP g b1 0 [.int .i64 time]):CallsIn Wd 0 Tryz.prog 129 #[fv x,.pointer (some ⟨b1,0,none⟩)] g.w (cR g fun _ r=>r= .bool (decide (time<x.time))):=by
 have hs:=St.start g
 refine enter Tryz.func129 rfl Tryz.ntmps129 rfl ?_
 apply c_
 refine an rfl rfl (aR rfl hs rfl rfl ?_);clear hs;rintro b2 g1 hs ah;replace aC:=aC.mono ah
 obtain⟨g2,bR,aU,ah,aL⟩:=hs.a_ (i:=0) rfl;replace hs:=aU;clear aU;rw[←bR];replace aC:=aC.mono ah
 have aP:=aL;clear aL
 refine ba rfl ?_;refine nK [.z aP,.z aC] (St.start _) rfl ?_
 exact aF (aV rfl rfl (hs.ret rfl))
theorem wG(v:Value)(b:fX)(w time:Int)(g:G)(bI:iI g v b)(hb:DX b):CallsIn Wd 0 Tryz.prog 55 #[v,.int .i64 w,.int .i64 time] g.w (cR g fun g' r=>Rs g' r (jb b w time)):=by
 have hs:=St.start g
 have aq:=G.le.refl g
 obtain⟨sl,rfl,jr⟩:=bI
 have bI:iI g (.agg ((List.range 11).map sl).toArray) b:=⟨sl,rfl,jr⟩
 refine enter Tryz.func55 rfl Tryz.ntmps55 rfl ?_
 apply c_
 refine an rfl rfl (aR rfl hs rfl rfl ?_);clear hs;rintro b2 g1 hs ah;replace bI:=bI.mono ah
 obtain⟨g2,bR,aU,ah,aL⟩:=hs.a_ (i:=0) rfl;replace hs:=aU;clear aU;rw[←bR];replace bI:=bI.mono ah
 have aC:=aL;clear aL
 skip
 refine an rfl rfl (aR rfl hs rfl rfl ?_);clear hs;rintro b3 g1 hs ah;obtain⟨aC,bI⟩:=cC ah aC bI
 obtain⟨g2,bR,aU,ah,aL⟩:=hs.a_ (i:=0) rfl;replace hs:=aU;clear aU;rw[←bR];obtain⟨aC,bI⟩:=cC ah aC bI
 have aP:=aL;clear aL
 refine ba rfl ?_;refine dx 2 [.z aC] (St.start _) rfl ?_
 refine an rfl rfl (ay KY aI rfl rfl rfl rfl rfl (D3 _ b w _ bI hb) ?_);rintro g1 _ aN aH;replace hs:=hs.call aN;have ah:=aN.le;replace aP:=aP.mono ah
 have Ku:=qR hb w
 unfold jb
 generalize pF b w=h at*
 clear aN
 refine an rfl rfl (ay Lp aI rfl rfl rfl rfl rfl (D0 _ h _ aH Ku) ?_)
 rintro g6 v6 mY ⟨cells,hh,hr⟩
 obtain rfl:=kX hr
 replace hs:=hs.gJ mY hh;have ah:=mY.le;replace aP:=aP.mono ah
 clear hr hh mY
 refine Wp 1 rfl ?_
 refine an rfl rfl (dv Wv aI rfl rfl rfl rfl rfl (B4 (fun f=>decide (time<f.time)) g _ _ v6 _ h hs Ku (fun g' x _ hle=>de (first:=#[]) (args:=[fv x]) (captured:=#[.pointer (some ⟨b3,0,none⟩)]) Lt rfl (D2 x time b3 g' (aP.mono hle)))) ?_)
 clear hs
 rintro g7 v7 ah hs
 obtain⟨g8,xD,qO,ah,py⟩:=hs.cL (α:=bc) (i:=0) rfl (cO.fl _ _)
 rw[←xD];clear hs;replace hs:=qO;clear qO;clear xD
 refine ba rfl ?_
 exact aF (aV rfl rfl (hs.ret py))
end Go.Proofs.YtebobfdheanknaaGreatDoor
namespace Go.Proofs.YtebobfdheanknaaGreatDoor
def iO(l:List Int):Int:=l.getLastD 0
def ma(live:List Bool)(first:Int)(l:List Int):List Int→List (List Int)→List Bool→Option (List (List Int)×List Bool)
 |[],q,seen=>some (q,seen)
 |n::r,q,seen=>
  if n=first then none
  else if first<n∧live.getD n.toNat false=true∧seen.getD n.toNat true=false then ma live first l r (q++[l++[n]]) (seen.set n.toNat true)
  else ma live first l r q seen
def x5(f:bV)(live:List Bool)(first:Int):Nat→List (List Int)→List Bool→List Int
 |_,[],_=>[]
 |0,_::_,_=>[]
 |k+1,l::rest,seen=>
  match ma live first l (dG f (iO l)).next rest seen with
  |none=>l
  |some (q,g_)=>x5 f live first k q g_
def pA(f:bV)(live:List Bool)(first:Int):List Int:=x5 f live first (1+f.steps.length) [[first]] (List.replicate f.steps.length false)
end Go.Proofs.YtebobfdheanknaaGreatDoor
namespace Go.Proofs.YtebobfdheanknaaGreatDoor
open Go Go.K
set_option maxRecDepth 10000
attribute [local irreducible] W WL cT cn bX bA bB bD cW cG
set_option maxHeartbeats 2000000
def GV(v:Value)(n:Nat)(cells:List Value):cV:=.row 23 1 v n cells
def Bi(off:Nat)(s:Step):Fact:=
 ⟨fun v g=> ∃b p ys,v= .pointer (some ⟨b,p+off,none⟩)∧EP g b p ys∧pB g ys s,fun _ _ _ hf ⟨b,p,ys,e,h1,h2⟩=>⟨b,p,ys,e,h1.mono hf.le,El.mono (α:=Step) hf.le h2⟩⟩
def JD(n:Int):Fact:=
 ⟨fun v g=> ∃b p,v= .pointer (some ⟨b,p,none⟩)∧EP g b p [.int .i64 n],fun _ _ _ hf ⟨b,p,e,h1⟩=>⟨b,p,e,h1.mono hf.le⟩⟩
theorem GQ(v lv:Value)(f:bV)(live:List Bool)(first:Int)(g:G)(fk:fA g v f)(bT:Rs g lv live)(iG:valid f=true)(x_:live.length=f.steps.length)(h0:0≤first)(h1:first<f.steps.length):
  CallsIn Wd 0 Tryz.prog 70 #[v,lv,.int .i64 first] g.w (cR g fun g' r=>Rs g' r (pA f live first)):=by
 obtain⟨a1,n1,c1,a2,n2,c2,rfl,aH,aT⟩:=id fk
 obtain⟨_,_,e⟩:=aH.isSlice;obtain⟨rfl,rfl,rfl⟩:=Value.slice.inj e;clear e
 obtain⟨a3,c3,rfl⟩:=bT.isSlice
 have QR:=nQ iG
 have hs:=St.start g
 have aq:=G.le.refl g
 refine enter Tryz.func70 rfl Tryz.ntmps70 rfl ?_
 apply c_
 refine an rfl rfl (aR rfl hs rfl rfl ?_);clear hs;rintro bf g1 hs ah;obtain⟨aH,aT,bT⟩:=ef ah aH aT bT
 obtain⟨g2,bR,aU,ah,aL⟩:=hs.a_ (i:=0) rfl;replace hs:=aU;clear aU;rw[←bR];obtain⟨aH,aT,bT⟩:=ef ah aH aT bT
 have aC:=aL;clear aL
 refine ba rfl ?_;refine cP 1 rfl ?_
 refine an rfl rfl (bj T.ok rfl hs (vs:=[(0,.int .i64 first)]) (cells:=[.int .i64 first]) rfl rfl rfl rfl rfl rfl (by decide) (by decide) (by kernel_rfl) rfl ?_);rintro b2 g2 hs ah;obtain⟨aC,aH,aT,bT⟩:=dE ah aC aH aT bT
 obtain⟨g3,sq,Bh,yq,pP⟩:=hs.cL (α:=Int) (xs:=[first]) (i:=0) rfl (cO.ints _ [first])
 clear ah;have ah:=yq;rw[←sq];replace hs:=Bh;obtain⟨aC,aH,aT,bT⟩:=dE ah aC aH aT bT
 skip
 refine an rfl rfl (bj T.ok rfl hs (vs:=[(0,.slice (some ⟨b2,0,none⟩) 1 1)]) (cells:=[.slice (some ⟨b2,0,none⟩) 1 1]) rfl rfl rfl rfl rfl rfl (by decide) (by decide) (by kernel_rfl) rfl ?_);rintro b3 g4 hs ah;obtain⟨aC,aH,aT,bT⟩:=dE ah aC aH aT bT
 replace pP:=pP.mono ah
 refine ba rfl ?_;refine dx 3 [.z aC] (St.start _) rfl ?_
 refine an rfl rfl (yr T.ok rfl hs rfl rfl rfl rfl rfl rfl (by decide) rfl (by show 1*f.steps.length≤_;omega) (by unfold maxLen;omega) ?_);rintro ob g1 hs ah;obtain⟨aC,aH,aT,bT⟩:=dE ah aC aH aT bT
 replace pP:=pP.mono ah
 refine ba rfl ?_;apply aB;apply aG
 have xR:(List.replicate f.steps.length [Value.bool false]).flatten=(List.replicate f.steps.length false).map Value.bool:=by simp
 have dm:St g g1 [tG ob f.steps.length (List.replicate f.steps.length false),GV (.slice (some ⟨b3,0,none⟩) 1 1) 1 [.slice (some ⟨b2,0,none⟩) 1 1]]:=by
  unfold tG GV;rw[←xR];exact hs
 clear hs
 have qE:=aC;have qz:=aH;have Jw:=bT;have cN:=G.le.refl g1
 refine bS (fun m a' w=> ∃(q:List (List Int)) (cells:List Value) (seen:List Bool) (qv:Value) (g':G),w=g'.w∧St g g' [tG ob f.steps.length seen,GV qv q.length cells]∧G.le g1 g'∧cO g' cells q∧
   m=q.length+seen.count false∧seen.length=f.steps.length∧(∀l∈q,l≠[]∧0≤iO l∧iO l<f.steps.length∧l.length+m≤f.steps.length+2)∧
   x5 f live first m q seen=pA f live first∧
   Fr 75 [] [(1,.slice a3 live.length c3),(2,.int .i64 first),(3,.pointer (some ⟨bf,0,none⟩)),(7,qv),(8,.slice (some ⟨ob,0,none⟩) f.steps.length f.steps.length)] a') (1+f.steps.length)
  (fun a' ha=>⟨[[first]],_,_,_,g1,rfl,dm,cN,⟨[_],[],rfl,⟨_,rfl,pP⟩,rfl⟩,by simp,by simp,by intro l hl;simp at hl;subst hl;refine⟨by simp,h0,h1,by simp;omega⟩,rfl,ha.keep (by(repeat (first|exact trivial|refine⟨rfl,?_⟩)))⟩) ?_
 clear dm aq cN
 rintro m a' _ ⟨q,cells,seen,qv,g',rfl,hs,cN,eK,rfl,jr,hq,dy,eI⟩
 have aC:=qE.mono cN;have aH:=qz.mono cN;have bT:=Jw.mono cN
 obtain⟨qa,qc,rfl⟩:=(hs.own 1 _ rfl).1.form
 revert a'
 apply cQ;apply aB;refine aX rfl ?_
 cases q with
 |nil=>
  refine aS (b:=decide ((0:Int)<([]:List (List Int)).length)) (by simp) rfl ?_
  apply bE;apply bK;apply bK;apply dc;apply au;refine aX rfl ?_
  refine aF (aV rfl rfl (hs.ret ?_))
  rw[←dy,x5]
  exact Rs.nil _
 |cons l rest=>
  refine aJ (b:=decide ((0:Int)<(l::rest).length)) (by simp) rfl ?_
  obtain⟨_,JE,rfl,⟨vl,rfl,pP⟩,Bj⟩:=eK
  obtain⟨C2,MR,sP,O5⟩:=hq l List.mem_cons_self
  have SW:0<l.length:=List.length_pos_iff.2 C2
  have Kr:(l::rest).length+seen.count false=(rest.length+seen.count false)+1:=by simp;omega
  rw[Kr]at dy O5
  rw[x5]at dy
  have UG:=(hs.own 1 _ rfl).1
  have qP:(l::rest).length≤qc:=by
   rcases UG.2 with⟨h,_⟩|⟨b,p,cap,cur,e1,_,_,h2,_⟩
   ·simp at h
   ·simp only[Value.slice.injEq]at e1;omega
  apply aE;apply au;apply aG;refine cP 1 rfl ?_
  refine an rfl rfl (iy T.ok rfl (hs.own 1 _ rfl).1 (by decide) (by simp) rfl rfl rfl rfl rfl rfl ?_)
  rintro bq pq rfl
  refine an rfl rfl (iP T.ok (Int.toNat 0*1) rfl (hs.own 1 _ rfl).1 rfl (v:=vl) rfl ?_)
  refine ba rfl ?_;refine cP 1 rfl ?_
  refine an rfl rfl (j2 T.ok rfl rfl rfl rfl rfl (a:=1) (b:=(l::rest).length) ⟨_,rfl⟩ rfl (by simp) qP ?_)
  replace hs:=hs.cutFrom (i:=1) (a:=1) rfl (by simp)
  refine ba rfl ?_;apply aB
  obtain⟨al,cl,rfl⟩:=pP.isSlice
  have QX:=pP.dU
  unfold maxLen at QX
  have NW:dA l (IntKind.i64.wrap ((l.length:Int)-1))=some (iO l):=by
   rw[cU (j:=l.length-1) (by rw[wr (by omega) (by omega)];omega) (by omega)]
   unfold iO
   rw[List.getLastD_eq_getLast?,List.getLast?_eq_getElem?,List.getElem?_eq_getElem (by omega)];rfl
  apply ed (gE (eJ (.f (JD (iO l))::(fe (.f (Bi 0 (dG f (iO l)))::(.f (Bi 4 (dG f (iO l)))::(.f (Fact.rs (dG f (iO l)).next)::(eJ [])))))))) 13 [(10,37),(11,38),(12,39),(2,29)] (by kernel_rfl)
  ·refine Dm [[],[0],[],[],[3],[4]] [.e aC 2] (St.start _) (by kernel_rfl) rfl ?_
   refine aw (ak (js:=[(2,29),(5,32)]) (by kernel_rfl) fun gd hf=>?_) ?_
   ·have eH:=(G.bJ _).trans hf.le
    refine ai rfl ?_;refine ai rfl ?_
    apply aj
    refine az rfl ?_
    refine aW T.ok rfl (pP.mono eH) (y:=iO l) NW rfl rfl rfl rfl rfl rfl ?_
    intro b p ys aL eK
    exact⟨_,rfl,aZ.refl _,b,p,rfl,by rw[←show ys=[Value.int .i64 (iO l)]from eK];exact aL⟩
   refine aw (ak (js:=[(6,33)]) (by kernel_rfl) fun gd hf=>?_) ?_
   ·skip
    refine aY fun v6 h6=>?_
    apply aj
    obtain⟨b,p,rfl,aL⟩:=h6
    refine az rfl ?_
    refine cp T.ok 0 rfl aL rfl rfl ?_
    refine⟨_,rfl,aZ.refl _,?_⟩
    exact rfl
   refine aw (ak (js:=[(1,28),(7,34)]) (by kernel_rfl) fun gd hf=>?_) ?_
   ·have eH:=(G.bJ _).trans hf.le
    refine ai rfl ?_;refine ai rfl ?_
    apply aj
    refine az rfl ?_
    refine aW T.ok rfl (aH.mono eH) (y:=dG f (iO l)) (by unfold dG;rw[cU (j:=(iO l).toNat) (by omega) (by omega)];simp[List.getD_eq_getElem?_getD,show(iO l).toNat<f.steps.length from by omega]) rfl rfl rfl rfl rfl rfl ?_
    intro b p ys aL eK
    exact⟨_,rfl,aZ.refl _,b,p,ys,rfl,aL,eK⟩
   refine aw (ak (js:=[(8,35)]) (by kernel_rfl) fun gd hf=>?_) ?_
   ·skip
    refine aY fun v8 h8=>?_
    apply aj
    obtain⟨b,p,ys,rfl,aL,eK⟩:=h8
    refine az rfl ?_
    refine aM _ T.ok rfl ?_
    exact⟨_,rfl,aZ.refl _,b,p,ys,rfl,aL,eK⟩
   refine aw (ak (js:=[(9,36)]) (by kernel_rfl) fun gd hf=>?_) ?_
   ·skip
    refine aY fun v9 h9=>?_
    apply aj
    obtain⟨b,p,ys,rfl,aL,eK⟩:=h9
    obtain⟨b1,b2,b3,b4,b5,b6,rfl,A0,UH⟩:=eK
    refine az rfl ?_
    refine cp T.ok 4 rfl aL rfl rfl ?_
    exact⟨_,rfl,aZ.refl _,UH⟩
   refine aw (ak (js:=[(10,37)]) (by kernel_rfl) fun gd hf=>?_) ?_
   ·skip
    refine aY fun v10 uH=>?_
    apply aj
    obtain⟨a5,c5,rfl⟩:=Rs.isSlice uH
    refine az rfl ?_
    refine aM _ T.ok rfl ?_
    refine⟨_,rfl,aZ.refl _,?_⟩
    exact rfl
   exact Dy [[]] (by kernel_rfl) rfl
  intro g1 aN;refine aY fun v10 uH=>?_;refine ai rfl ?_;refine ai rfl ?_;refine ai rfl ?_;apply aj
  replace hs:=hs.dr.call aN;have ah:=(G.bJ _).trans aN.le;obtain⟨cN,aC,aH,bT⟩:=dE ah cN aC aH bT
  replace pP:=pP.mono ah
  replace Bj:=Bj.mono ah
  have bN:Rs g1 v10 (dG f (iO l)).next:=uH
  obtain⟨a5,c5,rfl⟩:=bN.isSlice
  have jn:=sX (oH iG MR sP)
  have UI:=sU (oH iG MR sP)
  generalize UJ:(dG f (iO l)).next=nx at*
  have QY:=pP;have QZ:=aH;have EB:=bT;have Jy:=bN;have wV:=aC
  have ie:=G.le.refl g1
  apply cf;apply aG
  refine bS (fun m a' w=> ∃(k:Nat) (q':List (List Int)) (oO:List Value) (g_:List Bool) (Q0:Value) (g':G),w=g'.w∧St g g' [tG ob f.steps.length g_,GV Q0 q'.length oO]∧G.le g1 g'∧cO g' oO q'∧
    k≤nx.length∧m=nx.length-k∧g_.length=f.steps.length∧q'.length+g_.count false=rest.length+seen.count false∧
    (∀l'∈q',l'≠[]∧0≤iO l'∧iO l'<f.steps.length∧l'.length+(rest.length+seen.count false)≤f.steps.length+2)∧
    ma live first l (nx.drop k) q' g_=ma live first l nx rest seen∧
    Fr 75 [] [(1,.slice a3 live.length c3),(2,.int .i64 first),(3,.pointer (some ⟨bf,0,none⟩)),(7,Q0),(8,.slice (some ⟨ob,0,none⟩) f.steps.length f.steps.length),(9,.slice al l.length cl),(37,.slice a5 nx.length c5),(38,.int .i64 nx.length),(39,.int .i64 k)] a') nx.length
   (fun a' ha=>⟨0,rest,JE,seen,_,g1,rfl,hs,ie,Bj,Nat.zero_le _,rfl,jr,rfl,fun l' CV=>?_,by rw[List.drop_zero],ha.keep (by(repeat (first|exact trivial|refine⟨rfl,?_⟩)))⟩) ?_
  ·obtain⟨x1,x2,x3,x4⟩:=hq l' (List.mem_cons_of_mem _ CV)
   exact⟨x1,x2,x3,by rw[Kr]at x4;omega⟩
  clear hs ie Bj pP aH bT bN aC
  rintro m a' _ ⟨k,q',oO,g_,Q0,g',rfl,hs,ie,lz,hk,rfl,JF,NX,Q1,Bk,eI⟩
  have aC:=wV.mono ie;have aH:=QZ.mono ie;have bT:=EB.mono ie;have bN:=Jy.mono ie;have aT:=QY.mono ie
  obtain⟨Wx,Wy,rfl⟩:=(hs.own 1 _ rfl).1.form
  revert a'
  apply cQ;refine aX rfl ?_;apply aB
  by_cases bh:k<nx.length
  ·refine aJ (b:=decide ((k:Int)<(nx.length:Int))) (by simp;omega) rfl ?_
   rw[List.drop_eq_getElem_cons bh,ma]at Bk
   obtain⟨KE,C1⟩:=jn nx[k] (List.getElem_mem bh)
   apply aE;apply au;apply aB;apply aG;apply c_
   refine an rfl rfl (aW T.ok rfl bN (y:=nx[k]) (by simp[dA,bh]) rfl rfl rfl rfl rfl rfl ?_)
   rintro b p ys aL rfl
   refine Wm 1 [.e aL 0] (St.start _) rfl ?_
   refine ba rfl ?_;apply aB;refine aX rfl ?_
   by_cases CY:nx[k]=first
   ·refine aJ (b:=nx[k]==first) (by simp[CY]) rfl ?_
    rw[if_pos CY]at Bk
    refine aX rfl ?_
    refine aF (aV rfl rfl (hs.ret ?_))
    rw[←Bk]at dy
    rw[←dy]
    exact aT
   ·refine aS (b:=nx[k]==first) (by simp[CY]) rfl ?_
    rw[if_neg CY]at Bk
    have FJ:nx[k].toNat<live.length:=by omega
    have GW:nx[k].toNat<g_.length:=by omega
    have UK:live.getD nx[k].toNat false=live[nx[k].toNat]:=by rw[List.getD_eq_getElem?_getD,List.getElem?_eq_getElem FJ];rfl
    have UL:g_.getD nx[k].toNat true=g_[nx[k].toNat]:=by rw[List.getD_eq_getElem?_getD,List.getElem?_eq_getElem GW];rfl
    rw[UK,UL]at Bk
    apply aE;apply au;refine cP 4 rfl ?_
    refine cw (want:=true) (x:=live[nx[k].toNat]) 4 aI rfl rfl rfl rfl (.inl ⟨rfl,rfl,rfl⟩) rfl rfl rfl rfl (fun hb Q' eE=>?_) (fun g' hf=>?_)
    ·refine Wp 2 rfl ?_
     refine an rfl rfl (aW T.ok rfl bT (y:=live[nx[k].toNat]) (cU (by omega) FJ) rfl rfl rfl rfl rfl rfl ?_)
     rintro b p ys aL rfl
     refine Wm 1 [.e aL 0] (St.start _) rfl ?_
     apply aD
     exact fun a ha=>eE _ a (aZ.refl _) (ha.keep (by(repeat (first|exact trivial|refine⟨rfl,?_⟩))))
    replace hs:=hs.call hf;have ah:=hf.le;replace aT:=aT.mono ah
    replace lz:=lz.mono ah;replace ie:=ie.trans ah
    refine Wp 1 rfl ?_
    refine cw (want:=true) (x:=!g_[nx[k].toNat]) 5 aI rfl rfl rfl rfl (.inl ⟨rfl,rfl,rfl⟩) rfl rfl rfl rfl (fun hb Q' eE=>?_) (fun g' hf=>?_)
    ·refine Wp 2 rfl ?_
     refine an rfl rfl (iy T.ok rfl (hs.own 0 _ rfl).1 KE (by omega) rfl rfl rfl rfl rfl rfl ?_)
     rintro b p hh;obtain⟨rfl,rfl⟩:ob=b∧0=p:=by simpa using hh
     refine an rfl rfl (iP T.ok (nx[k].toNat*1) rfl (hs.own 0 _ rfl).1 rfl (v:=.bool (g_[nx[k].toNat])) (by show(List.map Value.bool _)[nx[k].toNat*1]? =_;rw[Nat.mul_one,List.getElem?_map,List.getElem?_eq_getElem GW];rfl) ?_)
     refine Wp 1 rfl ?_;apply aD
     exact fun a ha=>eE _ a (aZ.refl _) (ha.keep (by(repeat (first|exact trivial|refine⟨rfl,?_⟩))))
    replace hs:=hs.call hf;have ah:=hf.le;replace aT:=aT.mono ah
    replace lz:=lz.mono ah;replace ie:=ie.trans ah
    apply cf
    by_cases tA:first<nx[k]∧live[nx[k].toNat]=true∧g_[nx[k].toNat]=false
    ·refine aJ (b:=(decide (first<nx[k])&&live[nx[k].toNat])&& !g_[nx[k].toNat]) (by simp[tA]) rfl ?_
     rw[if_pos tA]at Bk
     have UM:=O5
     refine cP 2 rfl ?_
     refine an rfl rfl (iy T.ok rfl (hs.own 0 _ rfl).1 KE (by omega) rfl rfl rfl rfl rfl rfl ?_)
     rintro b p hh;obtain⟨rfl,rfl⟩:ob=b∧0=p:=by simpa using hh
     refine bg rfl (kD T.ok 0 (nx[k].toNat*1) (us:=[.bool true]) rfl hs rfl rfl rfl rfl rfl rfl rfl (by decide) (by simp;omega) (xs':=(g_.set nx[k].toNat true).map Value.bool) ?_ ?_)
     ·rw[Nat.mul_one,List.map_set]
      unfold lF
      rw[List.set_eq_take_append_cons_drop]
      simp[GW]
     rintro g5 hs ah;replace aT:=aT.mono ah
     replace lz:=lz.mono ah;replace ie:=ie.trans ah
     apply cf;apply ar;refine Wp 2 rfl ?_
     refine an rfl rfl (ay HD aI rfl rfl rfl rfl rfl (Bb _ l _ aT (by omega)) ?_);rintro g6 v mY ⟨Q2,UN,NY⟩
     replace hs:=hs.gJ mY UN
     have ah:=mY.le
     replace lz:=lz.mono ah;replace ie:=ie.trans ah
     obtain⟨ca,cc,rfl⟩:=(hs.own 0 _ rfl).1.form
     refine Wp 1 rfl ?_
     refine an rfl rfl (bj T.ok rfl hs (vs:=[(0,.int .i64 nx[k])]) (cells:=[.int .i64 nx[k]]) rfl rfl rfl rfl rfl rfl (by decide) (by decide) (by kernel_rfl) rfl ?_);rintro b2 g7 hs ah
     replace lz:=lz.mono ah;replace ie:=ie.trans ah;replace NY:=NY.mono ah
     skip
     refine an rfl rfl (b_ T.ok 1 rfl hs rfl rfl rfl rfl rfl rfl rfl (by decide) rfl (Src.gK (hs.own 0 _ rfl).1).2 (by simp[Value.oneCell']) (by show(l.length+1)*8≤_;omega) (by unfold maxLen;omega) ?_);rintro a' c' g8 hs ah
     replace lz:=lz.mono ah;replace ie:=ie.trans ah;replace NY:=NY.mono ah
     obtain⟨g9,OY,FL,Q3,CW⟩:=hs.cL (α:=Int) (xs:=l++[nx[k]]) (i:=1) rfl (cO.app (cO.ints _ [nx[k]]) NY)
     clear ah;have ah:=Q3;rw[←OY];replace hs:=FL
     replace lz:=lz.mono ah;replace ie:=ie.trans ah
     skip
     refine an rfl rfl (bj T.ok rfl hs (vs:=[(0,.slice a' (l.length+1) c')]) (cells:=[.slice a' (l.length+1) c']) rfl rfl rfl rfl rfl rfl (by decide) (by decide) (by kernel_rfl) rfl ?_);rintro b3 g10 hs ah
     replace lz:=lz.mono ah;replace ie:=ie.trans ah;replace CW:=CW.mono ah
     skip
     have mG:g_.count false≤g_.length:=List.count_le_length
     refine an rfl rfl (b_ T.ok 3 rfl hs rfl rfl rfl rfl rfl rfl rfl (by decide) rfl (Src.gK (hs.own 0 _ rfl).1).2 (by simp[Value.oneCell']) (by show(q'.length+1)*24≤_;omega) (by unfold maxLen;omega) ?_);rintro a9 c9 g11 hs ah
     replace lz:=lz.mono ah;replace ie:=ie.trans ah;replace CW:=CW.mono ah
     refine Wp 1 rfl ?_;apply aD;apply bU;apply au;apply ar;refine Wp 2 rfl ?_;apply aD
     have UO:cO g11 (oO++[Value.slice a' (l.length+1) c']) (q'++[l++[nx[k]]]):=cO.app (α:=List Int) (ys:=[l++[nx[k]]]) (ds:=[Value.slice a' (l.length+1) c']) ⟨[Value.slice a' (l.length+1) c'],[],rfl,(show ∃v,[Value.slice a' (l.length+1) c']=[v]∧Rs g11 v (l++[nx[k]])from⟨_,rfl,CW⟩),rfl⟩ lz
     refine fun a ha=>⟨nx.length-(k+1),by omega,k+1,q'++[l++[nx[k]]],oO++[.slice a' (l.length+1) c'],g_.set nx[k].toNat true,.slice a9 (q'.length+1) c9,_,rfl,?_,ie,
      UO,by omega,rfl,by simp[JF],?_,?_,Bk,ha.keep ⟨rfl,rfl,rfl,rfl,rfl,rfl,rfl,rfl,kI rfl (by rw[wr (by omega) (by omega)];omega),trivial⟩⟩
     ·have hd:=(hs.drop 0).drop 0
      have:(q'++[l++[nx[k]]]).length=q'.length+1:=by simp
      rw[this]
      exact hd
     ·have:=pz (o:=g_) (i:=nx[k].toNat) (by rw[List.getElem?_eq_getElem GW,tA.2.2])
      simp;omega
     ·intro l' CV
      rcases List.mem_append.1 CV with h|h
      ·exact Q1 l' h
      ·simp at h;subst h
       refine⟨by simp,?_,?_,by simp;omega⟩
       ·simpa [iO]using KE
       ·simpa [iO]using C1
    ·refine aS (b:=(decide (first<nx[k])&&live[nx[k].toNat])&& !g_[nx[k].toNat]) ?_ rfl ?_
     ·rw[Bool.eq_false_iff];intro h;simp only[Bool.and_eq_true,decide_eq_true_eq,Bool.not_eq_true']at h;exact tA ⟨h.1.1,h.1.2,h.2⟩
     rw[if_neg tA]at Bk
     apply aE;apply bU;apply au;apply ar;refine Wp 2 rfl ?_;apply aD
     exact fun a ha=>⟨nx.length-(k+1),by omega,k+1,q',oO,g_,_,_,rfl,hs,ie,lz,by omega,rfl,JF,NX,Q1,Bk,ha.keep ⟨rfl,rfl,rfl,rfl,rfl,rfl,rfl,rfl,kI rfl (by rw[wr (by omega) (by omega)];omega),trivial⟩⟩
  ·refine aS (b:=decide ((k:Int)<(nx.length:Int))) (by simp;omega) rfl ?_
   obtain rfl:k=nx.length:=by omega
   rw[List.drop_length,ma]at Bk
   apply bE;apply bK;apply bK;apply dc;apply bU
   rw[←Bk]at dy
   exact fun a ha=>⟨_,by rw[Kr];exact Nat.lt_succ_self _,q',oO,g_,_,_,rfl,hs,cN.trans ie,lz,NX.symm,JF,Q1,dy,ha.keep (by(repeat (first|exact trivial|refine⟨rfl,?_⟩)))⟩
end Go.Proofs.YtebobfdheanknaaGreatDoor
namespace Go.Proofs.YtebobfdheanknaaGreatDoor
def alive(f:bV)(n:Int):Bool:=(ends f).any fun e=>(ee f n).getD e.toNat false
def vp(f:bV)(l:List Int):Option Int:=l.find? fun n=> !alive f n
def sY(f:bV)(I_:List Int)(n:Int):List Int:=
 if 0<(pA f (ee f 0) n).length∧(I_=[]∨(pA f (ee f 0) n).length<I_.length)then pA f (ee f 0) n else I_
def lN(f:bV)(l:List Int):List Int:=l.foldl (sY f) []
def check(f:bV):Int×List Int:=
 match vp f (reach f 0)with
 |some n=>(1,[n])
 |none=>if lN f (reach f 0)=[]then(0,[])else(2,lN f (reach f 0))
theorem zM(f:bV)(l:List Int)(n:Int):lN f (l++[n])=sY f (lN f l) n:=by
 unfold lN;rw[List.foldl_append];rfl
def E8(o:List Bool)(m:Int):Prop:=o.getD m.toNat false=true
def Jv(f:bV)(m:Int):Prop:=0≤m∧m<f.steps.length
inductive C6(f:bV):Int→Int→Prop where
 |refl (a:Int):C6 f a a
 |step {a b c:Int}:C6 f a b→c∈jy (dG f b)→C6 f a c
theorem C6.trans{f:bV}{a b c:Int}(h:C6 f a b)(r:C6 f b c):C6 f a c:=by
 induction r with
 |refl=>exact h
 |step _ h2 ih=>exact .step ih h2
theorem C6.head{f:bV}{a b c:Int}(h:b∈jy (dG f a))(r:C6 f b c):C6 f a c:=C6.trans (.step (.refl a) h) r
structure WY(f:bV)(src:Int→Prop)(o o':List Bool):Prop where
 len:o'.length=o.length
 mono: ∀m,Jv f m→E8 o m→E8 o' m
 fresh: ∀m,Jv f m→E8 o' m→ ¬E8 o m→(∃b,src b∧C6 f b m)∧ ∀c∈jy (dG f m),E8 o' c
theorem Cj{f:bV}{n:Int}:given f [n]=true↔valid f=true∧Jv f n:=by
 unfold given nN Jv
 simp
end Go.Proofs.YtebobfdheanknaaGreatDoor
namespace Go.Proofs.YtebobfdheanknaaGreatDoor
open Go Go.K
set_option maxRecDepth 10000
attribute [local irreducible] W WL cT cn bX bA bB bD cW cG
set_option maxHeartbeats 4000000
def Bf(g:G)(v:Value)(p:Int×List Int):Prop:=∃a n c,v= .agg #[.int .i64 p.1,.slice a n c]∧Rs g (.slice a n c) p.2
theorem Bf.mono{g g':G}{v:Value}{p:Int×List Int}(hle:g.le g')(h:Bf g v p):Bf g' v p:=by
 obtain⟨a,n,c,e,h1⟩:=h
 exact⟨a,n,c,e,h1.mono hle⟩
def vA(g:G)(v:Value)(l:List Int):Prop:=(l=[]∧v= .slice none 0 0)∨(l≠[]∧ ∃a c,v= .slice (some a) l.length c∧Rs g v l)
theorem vA.mono{g g':G}{v:Value}{l:List Int}(h:vA g v l)(hle:g.le g'):vA g' v l:=by
 rcases h with h|⟨h1,a,c,h2,h3⟩
 ·exact .inl h
 ·exact .inr ⟨h1,a,c,h2,h3.mono hle⟩
theorem vA.of{g:G}{v:Value}{l:List Int}(h:Rs g v l)(h0:l≠[]):vA g v l:=by
 obtain⟨a,n,c,rfl,rfl,_,h3⟩:=id h
 rcases h3 with h3|⟨b,o,cells,rfl,_⟩
 ·exact absurd (List.eq_nil_of_length_eq_zero h3) h0
 ·exact .inr ⟨h0,_,_,rfl,h⟩
theorem A_(v:Value)(f:bV)(g:G)(fk:fA g v f):
  CallsIn Wd 0 Tryz.prog 29 #[v] g.w (cR g fun g' r=>Bf g' r (check f)):=by
 obtain⟨a1,n1,c1,a2,n2,c2,rfl,aH,aT⟩:=id fk
 obtain⟨_,_,e⟩:=aH.isSlice;obtain⟨rfl,rfl,rfl⟩:=Value.slice.inj e;clear e
 have hs:=St.start g
 have aq:=G.le.refl g
 refine enter Tryz.func29 rfl Tryz.ntmps29 rfl ?_
 apply c_
 refine an rfl rfl (aR rfl hs rfl rfl ?_);clear hs;rintro bf g1 hs ah;obtain⟨aT,fk⟩:=cC ah aT fk
 obtain⟨g2,bR,aU,ah,aL⟩:=hs.a_ (i:=0) rfl;replace hs:=aU;clear aU;rw[←bR];obtain⟨aT,fk⟩:=cC ah aT fk
 have aC:=aL;clear aL
 skip
 refine an rfl rfl (aK T.ok rfl hs rfl rfl ?_);clear hs;rintro br g1 hs ah;obtain⟨aC,aT,fk⟩:=ef ah aC aT fk
 apply cf;refine GO ?_;apply aB
 apply ed (fe (.f (Fact.rs (reach f 0))::(fe (.f (Fact.rs (ends f))::(.f (Fact.rs (reach f 0))::(.f (Fact.rs (ends f))::[])))))) 6 [(4,3),(5,4)] (by kernel_rfl)
 ·refine Dm [[]] [.e aC 0] (St.start _) (by kernel_rfl) rfl ?_
  refine aw (ak (js:=[(0,14)]) (by kernel_rfl) fun gd hf=>?_) ?_
  ·have eH:=(G.bJ _).trans hf.le
   refine ai rfl ?_
   apply aj
   refine az rfl ?_
   refine ay K4 aI rfl rfl rfl rfl rfl (Bg _ f 0 _ (fk.mono eH)) fun g' v h1 h2=>?_
   obtain⟨g2,e1,e2,e3,e4⟩:=(St.start gd).mZ h1 h2
   exact⟨g2,e1,e2.mS,e4⟩
  refine Dm [[]] [.e aC 0] (St.start _) (by kernel_rfl) rfl ?_
  refine aw (ak (js:=[(2,16)]) (by kernel_rfl) fun gd hf=>?_) ?_
  ·have eH:=(G.bJ _).trans hf.le
   refine ai rfl ?_
   apply aj
   refine az rfl ?_
   refine ay PN aI rfl rfl rfl rfl rfl (Ju _ f _ (fk.mono eH)) fun g' v h1 h2=>?_
   obtain⟨g2,e1,e2,e3,e4⟩:=(St.start gd).mZ h1 h2
   exact⟨g2,e1,e2.mS,e4⟩
  refine aw (ak (js:=[(1,15),(1,15)]) (by kernel_rfl) fun gd hf=>?_) ?_
  ·skip
   refine aY fun v1 h1=>?_;refine aY fun v1 h1=>?_
   apply aj
   refine az rfl ?_
   refine aM _ T.ok rfl ?_
   exact⟨_,rfl,aZ.refl _,h1⟩
  refine aw (ak (js:=[(3,17),(3,17)]) (by kernel_rfl) fun gd hf=>?_) ?_
  ·skip
   refine aY fun v3 h3=>?_;refine aY fun v3 h3=>?_
   apply aj
   refine az rfl ?_
   refine aM _ T.ok rfl ?_
   exact⟨_,rfl,aZ.refl _,h3⟩
  exact fJ
 intro g1 aN;refine aY fun v4 h4=>?_;refine aY fun v5 h5=>?_;apply aj
 replace hs:=hs.dr.call aN;have ah:=(G.bJ _).trans aN.le;obtain⟨aC,aT,fk⟩:=ef ah aC aT fk
 have bT:Rs g1 v4 (reach f 0):=h4
 have bN:Rs g1 v5 (ends f):=h5
 obtain⟨al,cl,rfl⟩:=bT.isSlice
 obtain⟨ae,ce,rfl⟩:=bN.isSlice
 have x_:=vB f 0
 have KB:(ends f).length≤40:=by unfold ends;exact Nat.le_trans (List.length_filter_le _ _) x_
 have SQ: ∀x∈reach f 0,valid f=true∧Jv f x:=fun x hx=>by
  have h1:=kZ hx
  unfold reach at hx
  split at hx
  ·rename_i hg;exact⟨(Cj.1 hg).1,h1⟩
  ·simp at hx
 have UB: ∀x∈ends f,Jv f x:=fun x hx=>by
  unfold ends at hx
  exact kZ (List.mem_filter.1 hx).1
 clear h4 h5
 apply cf;apply aB;refine GP ?_;apply au;apply aB;refine aX rfl ?_;apply aG
 have QK:=fk;have qE:=aC;have Jw:=bT;have Jy:=bN;have ie:=G.le.refl g1
 refine bS (fun m a' w=> ∃(k:Nat) (g2:G),w=g2.w∧St g g2 [.obj br (.cells [.int .i64 0,.slice none 0 0].toArray 61 (0,0))]∧G.le g1 g2∧k≤(reach f 0).length∧m=(reach f 0).length-k∧vp f ((reach f 0).drop k)=vp f (reach f 0)∧
   Fr 74 [] [(1,.pointer (some ⟨bf,0,none⟩)),(2,.pointer (some ⟨br,0,none⟩)),(3,.slice al (reach f 0).length cl),(4,.slice ae (ends f).length ce),(18,.slice al (reach f 0).length cl),(19,.int .i64 (reach f 0).length),(20,.int .i64 k)] a') (reach f 0).length
  (fun a' ha=>⟨0,g1,rfl,hs,ie,Nat.zero_le _,rfl,by rw[List.drop_zero],ha.keep (by(repeat (first|exact trivial|refine⟨rfl,?_⟩)))⟩) ?_
 clear hs ie aC aH aT bT bN fk
 rintro m a' _ ⟨k,g2,rfl,hs,ie,hk,rfl,dy,eI⟩
 have aC:=qE.mono ie;have fk:=QK.mono ie;have bT:=Jw.mono ie;have bN:=Jy.mono ie
 revert a'
 apply cQ;refine aX rfl ?_;apply aB
 by_cases bh:k<(reach f 0).length
 ·refine aJ (b:=decide ((k:Int)<((reach f 0).length:Int))) (by simp;omega) rfl ?_
  rw[List.drop_eq_getElem_cons bh]at dy
  unfold vp at dy
  rw[List.find?_cons]at dy
  obtain⟨iG,C0⟩:=SQ _ (List.getElem_mem bh)
  generalize fu:(reach f 0)[k]=n at*
  apply aE;apply au;apply aB;apply aG;apply c_
  refine an rfl rfl (aW T.ok rfl bT (y:=n) (by rw[cU (j:=k) rfl bh,fu]) rfl rfl rfl rfl rfl rfl ?_)
  rintro b p ys aL rfl
  refine Wm 1 [.e aL 0] (St.start _) rfl ?_
  refine ba rfl ?_;refine dx 2 [.z aC] (St.start _) rfl ?_
  refine an rfl rfl (ay IX aI rfl rfl rfl rfl rfl (qV _ f n _ fk iG C0.1 C0.2) ?_);rintro g3 v ff dZ
  obtain⟨g4,KC,FT,QL,pP⟩:=hs.mZ ff dZ
  have ah:=ff.le.trans QL;rw[←KC];replace hs:=FT;obtain⟨aC,bT,bN,fk⟩:=dE ah aC bT bN fk
  replace ie:=ie.trans ah
  obtain⟨am,cm,rfl⟩:=pP.isSlice
  rw[gM]at pP
  rw[gM]
  refine ba rfl ?_;apply aB;refine aX rfl ?_;apply aG
  have Jz:=fk;have wV:=aC;have EB:=bT;have QM:=bN;have QN:=pP;have r8:=G.le.refl g4
  refine bS (fun m a' w=> ∃(j:Nat) (g5:G),w=g5.w∧St g g5 [.obj br (.cells [.int .i64 0,.slice none 0 0].toArray 61 (0,0))]∧G.le g4 g5∧j≤(ends f).length∧m=(ends f).length-j∧alive f n=((ends f).drop j).any (fun e=>(ee f n).getD e.toNat false)∧
    Fr 74 [] [(1,.pointer (some ⟨bf,0,none⟩)),(2,.pointer (some ⟨br,0,none⟩)),(3,.slice al (reach f 0).length cl),(4,.slice ae (ends f).length ce),(18,.slice al (reach f 0).length cl),(19,.int .i64 (reach f 0).length),(20,.int .i64 k),
     (6,.int .i64 n),(7,.slice am f.steps.length cm),(27,.slice ae (ends f).length ce),(28,.int .i64 (ends f).length),(29,.int .i64 j)] a') (ends f).length
   (fun a' ha=>⟨0,g4,rfl,hs,r8,Nat.zero_le _,rfl,rfl,ha.keep (by(repeat (first|exact trivial|refine⟨rfl,?_⟩)))⟩) ?_
  clear hs r8 aC bT bN fk pP
  rintro m a' _ ⟨j,g5,rfl,hs,r8,hj,rfl,zI,eI⟩
  have aC:=wV.mono r8;have fk:=Jz.mono r8;have bT:=EB.mono r8;have bN:=QM.mono r8;have aT:=QN.mono r8
  revert a'
  apply cQ;refine aX rfl ?_;apply aB
  by_cases JA:j<(ends f).length
  ·refine aJ (b:=decide ((j:Int)<((ends f).length:Int))) (by simp;omega) rfl ?_
   rw[List.drop_eq_getElem_cons JA,List.any_cons]at zI
   have JB:=UB _ (List.getElem_mem JA)
   generalize Je:(ends f)[j]=e at*
   have NP:e.toNat<(ee f n).length:=by rw[gM];have:=JB.1;have:=JB.2;omega
   have NQ:(ee f n).getD e.toNat false=(ee f n)[e.toNat]:=by rw[List.getD_eq_getElem?_getD,List.getElem?_eq_getElem NP];rfl
   rw[NQ]at zI
   apply aE;apply au;apply aB;apply aG;apply c_
   refine an rfl rfl (aW T.ok rfl bN (y:=e) (by rw[cU (j:=j) rfl JA,Je]) rfl rfl rfl rfl rfl rfl ?_)
   rintro b p ys aL rfl
   refine Wm 1 [.e aL 0] (St.start _) rfl ?_
   refine ba rfl ?_;refine cP 2 rfl ?_
   refine an rfl rfl (aW T.ok rfl aT (y:=(ee f n)[e.toNat]) (cU (by have:=JB.1;omega) NP) rfl rfl rfl rfl rfl rfl ?_)
   rintro b p ys aL rfl
   refine Wm 1 [.e aL 0] (St.start _) rfl ?_
   apply cf
   cases hb:(ee f n)[e.toNat]with
   |true=>
    rw[hb,Bool.true_or]at zI
    refine aJ rfl rfl ?_
    apply bE;((with_reducible refine NR ?_ ?_);exact rfl);apply bK;apply bK;((with_reducible refine NR ?_ ?_);exact rfl);apply bK;apply dc;apply au;apply ar;refine Wp 2 rfl ?_;apply aD
    exact fun a ha=>⟨(reach f 0).length-(k+1),by omega,k+1,_,rfl,hs,ie.trans r8,by omega,rfl,by unfold vp;rw[←dy,zI];rfl,ha.keep ⟨rfl,rfl,rfl,rfl,rfl,rfl,kI rfl (by rw[wr (by omega) (by omega)];omega),trivial⟩⟩
   |false=>
    rw[hb,Bool.false_or]at zI
    refine aS rfl rfl ?_
    apply aE;apply bU;apply au;apply ar;refine Wp 2 rfl ?_;apply aD
    exact fun a ha=>⟨(ends f).length-(j+1),by omega,j+1,_,rfl,hs,r8,by omega,rfl,zI,ha.keep ⟨rfl,rfl,rfl,rfl,rfl,rfl,rfl,rfl,rfl,rfl,rfl,kI rfl (by rw[wr (by omega) (by omega)];omega),trivial⟩⟩
  ·refine aS (b:=decide ((j:Int)<((ends f).length:Int))) (by simp;omega) rfl ?_
   rw[List.drop_of_length_le (by omega)]at zI
   rw[show alive f n=false from zI]at dy
   apply bE;apply bK;apply bK;apply dc;apply au;refine cP 1 rfl ?_
   refine an rfl rfl (bj T.ok rfl hs (vs:=[(0,.int .i64 n)]) (cells:=[.int .i64 n]) rfl rfl rfl rfl rfl rfl (by decide) (by decide) (by kernel_rfl) rfl ?_);rintro b2 g2 hs ah;obtain⟨aC,bT,bN,fk⟩:=dE ah aC bT bN fk
   obtain⟨g3,sq,Bh,yq,CW⟩:=hs.cL (α:=Int) (xs:=[n]) (i:=0) rfl (cO.ints _ [n])
   clear ah;have ah:=yq;rw[←sq];replace hs:=Bh;obtain⟨aC,bT,bN,fk⟩:=dE ah aC bT bN fk
   skip
   refine an rfl rfl (aQ T.ok rfl (vs:=[(0,.int .i64 1),(1,.slice (some ⟨b2,0,none⟩) 1 1)]) (cells:=[.int .i64 1,.slice (some ⟨b2,0,none⟩) 1 1]) rfl rfl rfl rfl [(0,1),(1,1)] rfl (by kernel_rfl) ?_)
   skip
   refine bg rfl (aA T.ok 0 rfl hs rfl rfl rfl rfl rfl rfl rfl rfl rfl ?_);replace hs:=hs;rintro g9 hs ah;obtain⟨aC,bT,bN,fk⟩:=dE ah aC bT bN fk
   replace CW:=CW.mono ah
   apply cf
   refine aF ?_
   apply iq;apply eF;apply eF;apply iq;apply eF;apply JC
   refine kJ T.ok 0 rfl hs rfl rfl rfl (hs.ret ?_)
   have Ba:check f=(1,[n]):=by unfold check vp;rw[←dy];rfl
   rw[Ba]
   exact⟨_,_,_,rfl,CW⟩
 ·refine aS (b:=decide ((k:Int)<((reach f 0).length:Int))) (by simp;omega) rfl ?_
  rw[List.drop_of_length_le (by omega)]at dy
  apply bE;apply bK;apply bK;apply dc;apply au;refine aX rfl ?_;apply aB;refine aX rfl ?_;apply aG
  have Jz:=fk;have wV:=aC;have EB:=bT;have r8:=G.le.refl g2
  refine bS (fun m a' w=> ∃(j:Nat) (bv:Value) (g5:G),w=g5.w∧St g g5 [.obj br (.cells [.int .i64 0,.slice none 0 0].toArray 61 (0,0))]∧G.le g2 g5∧j≤(reach f 0).length∧m=(reach f 0).length-j∧vA g5 bv (lN f ((reach f 0).take j))∧
    Fr 74 [] [(1,.pointer (some ⟨bf,0,none⟩)),(2,.pointer (some ⟨br,0,none⟩)),(10,bv),(42,.slice al (reach f 0).length cl),(43,.int .i64 (reach f 0).length),(44,.int .i64 j)] a') (reach f 0).length
   (fun a' ha=>⟨0,_,g2,rfl,hs,r8,Nat.zero_le _,rfl,.inl ⟨rfl,rfl⟩,ha.keep (by(repeat (first|exact trivial|refine⟨rfl,?_⟩)))⟩) ?_
  clear hs r8 aC bT bN fk
  rintro m a' _ ⟨j,bv,g5,rfl,hs,r8,hj,rfl,vC,eI⟩
  have aC:=wV.mono r8;have fk:=Jz.mono r8;have bT:=EB.mono r8
  revert a'
  apply cQ;refine aX rfl ?_;apply aB
  by_cases JA:j<(reach f 0).length
  ·refine aJ (b:=decide ((j:Int)<((reach f 0).length:Int))) (by simp;omega) rfl ?_
   have xE:=zM f ((reach f 0).take j) (reach f 0)[j]
   rw[←List.take_succ_eq_append_getElem JA]at xE
   obtain⟨iG,C0⟩:=SQ _ (List.getElem_mem JA)
   have SR:Jv f 0:=⟨by omega,by have:=C0.1;have:=C0.2;omega⟩
   generalize fu:(reach f 0)[j]=n at*
   apply aE;apply au;apply aB;apply aG;apply c_
   refine an rfl rfl (aW T.ok rfl bT (y:=n) (by rw[cU (j:=j) rfl JA,fu]) rfl rfl rfl rfl rfl rfl ?_)
   rintro b p ys aL rfl
   refine Wm 1 [.e aL 0] (St.start _) rfl ?_
   refine ba rfl ?_;apply aB
   apply ed (eJ (.f (Fact.rs (ee f 0))::(fe (.f (Fact.rs (pA f (ee f 0) n))::(.f (Fact.rs (pA f (ee f 0) n))::[]))))) 6 [(5,13)] (by kernel_rfl)
   ·refine Dm [[],[]] [.e aC 0,.e aC 0] (St.start _) (by kernel_rfl) rfl ?_
    refine aw (ak (js:=[(1,49)]) (by kernel_rfl) fun gd hf=>?_) ?_
    ·have eH:=(G.bJ _).trans hf.le
     refine ai rfl ?_
     apply aj
     refine az rfl ?_
     refine ay IX aI rfl rfl rfl rfl rfl (qV _ f 0 _ (fk.mono eH) iG SR.1 SR.2) fun g' v h1 h2=>?_
     obtain⟨g2,e1,e2,e3,e4⟩:=(St.start gd).mZ h1 h2
     exact⟨g2,e1,e2.mS,e4⟩
    refine Dx [[]] (by kernel_rfl) rfl ?_
    refine aw (ak (js:=[(0,48),(2,50),(3,51),(2,50)]) (by kernel_rfl) fun gd hf=>?_) ?_
    ·have eH:=(G.bJ _).trans hf.le
     refine ai rfl ?_;refine aY fun v2 h2=>?_;refine ai rfl ?_;refine aY fun v2 h2=>?_
     apply aj
     refine az rfl ?_
     refine ay PO aI rfl rfl rfl rfl rfl (GQ _ _ f (ee f 0) n _ (fk.mono eH) h2 iG (gM f 0) C0.1 C0.2) fun g' v h1 h2=>?_
     exact⟨g',rfl,h1,h2⟩
    refine aw (ak (js:=[(4,52),(4,52),(4,52)]) (by kernel_rfl) fun gd hf=>?_) ?_
    ·skip
     refine aY fun v4 h4=>?_;refine aY fun v4 h4=>?_;refine aY fun v4 h4=>?_
     apply aj
     refine az rfl ?_
     refine aM _ T.ok rfl ?_
     exact⟨_,rfl,aZ.refl _,h4⟩
    exact fJ
   intro g1 aN;refine aY fun v5 h5=>?_;apply aj
   replace hs:=hs.dr.call aN;have ah:=(G.bJ _).trans aN.le
   replace r8:=r8.trans ah
   replace vC:=vC.mono ah
   have bN:Rs g1 v5 (pA f (ee f 0) n):=h5
   clear h5
   unfold sY at xE
   generalize Ww:pA f (ee f 0) n=cy at*
   obtain⟨ac,cc,rfl⟩:=bN.isSlice
   apply cf;refine cP 4 rfl ?_
   by_cases Ck:0<cy.length
   ·refine cM 56 (b':=true) (decide_eq_true (by omega)) rfl ?_
    have SS:cy≠[]:=List.length_pos_iff.1 Ck
    rcases vC with⟨Ii,rfl⟩|⟨Ii,ab,cb,rfl,NS⟩
    ·rw[if_pos ⟨Ck,.inl Ii⟩]at xE
     refine Wp 1 rfl ?_
     refine an rfl rfl (fS T.ok (neg:=false) rfl rfl rfl rfl rfl ?_)
     refine ba rfl ?_
     refine aJ rfl rfl ?_
     apply ar;refine Wp 2 rfl ?_;apply aD;apply bU;apply au;apply ar;refine Wp 2 rfl ?_;apply aD
     exact fun a ha=>⟨(reach f 0).length-(j+1),by omega,j+1,_,_,rfl,hs,r8,by omega,rfl,by rw[xE];exact .of bN SS,ha.keep ⟨rfl,rfl,rfl,rfl,rfl,kI rfl (by rw[wr (by omega) (by omega)];omega),trivial⟩⟩
    ·refine Wp 1 rfl ?_
     refine an rfl rfl (fS T.ok (neg:=false) rfl rfl rfl rfl rfl ?_)
     refine ba rfl ?_
     by_cases fY:cy.length<(lN f ((reach f 0).take j)).length
     ·rw[if_pos ⟨Ck,.inr fY⟩]at xE
      refine aJ (b:=decide ((cy.length:Int)<((lN f ((reach f 0).take j)).length:Int))) (by simp;omega) rfl ?_
      apply ar;refine Wp 2 rfl ?_;apply aD;apply bU;apply au;apply ar;refine Wp 2 rfl ?_;apply aD
      exact fun a ha=>⟨(reach f 0).length-(j+1),by omega,j+1,_,_,rfl,hs,r8,by omega,rfl,by rw[xE];exact .of bN SS,ha.keep ⟨rfl,rfl,rfl,rfl,rfl,kI rfl (by rw[wr (by omega) (by omega)];omega),trivial⟩⟩
     ·rw[if_neg (fun h=>h.2.elim Ii fY)]at xE
      refine aS (b:=decide ((cy.length:Int)<((lN f ((reach f 0).take j)).length:Int))) (by simp;omega) rfl ?_
      apply aE;apply bU;apply au;apply ar;refine Wp 2 rfl ?_;apply aD
      exact fun a ha=>⟨(reach f 0).length-(j+1),by omega,j+1,_,_,rfl,hs,r8,by omega,rfl,by rw[xE];exact .inr ⟨Ii,_,_,rfl,NS⟩,ha.keep ⟨rfl,rfl,rfl,rfl,rfl,kI rfl (by rw[wr (by omega) (by omega)];omega),trivial⟩⟩
   ·refine cM 56 (b':=false) (decide_eq_false (by omega)) rfl ?_
    rw[if_neg (fun h=>Ck h.1)]at xE
    refine ba rfl ?_
    refine aS rfl rfl ?_
    apply aE;apply bU;apply au;apply ar;refine Wp 2 rfl ?_;apply aD
    exact fun a ha=>⟨(reach f 0).length-(j+1),by omega,j+1,_,_,rfl,hs,r8,by omega,rfl,by rw[xE];exact vC,ha.keep ⟨rfl,rfl,rfl,rfl,rfl,kI rfl (by rw[wr (by omega) (by omega)];omega),trivial⟩⟩
  ·refine aS (b:=decide ((j:Int)<((reach f 0).length:Int))) (by simp;omega) rfl ?_
   rw[List.take_of_length_le (by omega)]at vC
   apply bE;apply bK;apply bK;apply dc;apply au;apply aB;refine cP 1 rfl ?_
   have Ba:check f=if lN f (reach f 0)=[]then(0,[])else(2,lN f (reach f 0)):=by unfold check;rw[←dy];rfl
   rcases vC with⟨Ii,rfl⟩|⟨Ii,ab,cb,rfl,NS⟩
   ·rw[if_pos Ii]at Ba
    refine an rfl rfl (fS T.ok (neg:=false) rfl rfl rfl rfl rfl ?_)
    apply cf
    refine aJ rfl rfl ?_
    apply c_
    refine an rfl rfl (aQ T.ok rfl (vs:=[]) (cells:=[.int .i64 0,.slice none 0 0]) rfl rfl rfl rfl [(0,1),(1,1)] rfl (by kernel_rfl) ?_)
    skip
    refine bg rfl (aA T.ok 0 rfl hs rfl rfl rfl rfl rfl rfl rfl rfl rfl ?_);replace hs:=hs;rintro g9 hs ah
    apply cf
    refine aF ?_
    apply eF;apply JC
    refine kJ T.ok 0 rfl hs rfl rfl rfl (hs.ret ?_)
    rw[Ba]
    exact⟨_,_,_,rfl,Rs.nil _⟩
   ·rw[if_neg Ii]at Ba
    refine an rfl rfl (fS T.ok (neg:=false) rfl rfl rfl rfl rfl ?_)
    apply cf
    refine aS rfl rfl ?_
    apply aE;apply au;refine cP 1 rfl ?_
    refine an rfl rfl (aQ T.ok rfl (vs:=[(0,.int .i64 2),(1,.slice (some ab) (lN f (reach f 0)).length cb)]) (cells:=[.int .i64 2,.slice (some ab) (lN f (reach f 0)).length cb]) rfl rfl rfl rfl [(0,1),(1,1)] rfl (by kernel_rfl) ?_)
    skip
    refine bg rfl (aA T.ok 0 rfl hs rfl rfl rfl rfl rfl rfl rfl rfl rfl ?_);replace hs:=hs;rintro g9 hs ah
    replace NS:=NS.mono ah
    apply cf
    refine aF ?_
    apply JC
    refine kJ T.ok 0 rfl hs rfl rfl rfl (hs.ret ?_)
    rw[Ba]
    exact⟨_,_,_,rfl,NS⟩
end Go.Proofs.YtebobfdheanknaaGreatDoor
namespace Go.Proofs.YtebobfdheanknaaGreatDoor
open Go Go.K
set_option maxRecDepth 10000
attribute [local irreducible] W WL cT cn bX bA bB bD cW cG
set_option maxHeartbeats 1000000
def tg:bV:=⟨0,0,[],[]⟩
def Kv(g:G)(cs:List Value)(o:Option bV)(h:List bc):Prop:=
 ∃a1 n1 c1 a2 n2 c2 a3 c3,cs=[.int .i64 (o.getD tg).ck,.int .i64 (o.getD tg).cu,.slice a1 n1 c1,.slice a2 n2 c2,.bool o.isSome,.slice a3 h.length c3]∧Rs g (.slice a1 n1 c1) (o.getD tg).steps∧Rs g (.slice a2 n2 c2) (o.getD tg).windows∧Rs g (.slice a3 h.length c3) h
theorem Kv.mono{g g':G}{cs:List Value}{o:Option bV}{h:List bc}(k:Kv g cs o h)(hle:g.le g'):Kv g' cs o h:=by
 obtain⟨a1,n1,c1,a2,n2,c2,a3,c3,e,h1,h2,h3⟩:=k
 exact⟨a1,n1,c1,a2,n2,c2,a3,c3,e,h1.mono hle,h2.mono hle,h3.mono hle⟩
def FM(g:G)(v:Value)(o:Option bV)(h:List bc):Prop:=∃cs,v= .agg cs.toArray∧Kv g cs o h
theorem FM.mono{g g':G}{v:Value}{o:Option bV}{h:List bc}(k:FM g v o h)(hle:g.le g'):FM g' v o h:=by
 obtain⟨cs,e,k⟩:=k;exact⟨cs,e,k.mono hle⟩
def fB(b:fX)(w time:Int):Option bV:=
 if((pG b w time).getD gF).prod=0 then none
 else match b.oc.find? fun f=>f.prod==((pG b w time).getD gF).prod with
  |none=>none
  |some t=>match lx t.text with
   | .inl f=>if(check f).1=0 then some f else none
   | .inr _=>none
def SC(b:fX):Prop:=∀f∈b.oc,f.text.length≤999999
theorem A8(v u:Value)(b:fX)(w time:Int)(h:List bc)(g:G)(bI:iI g v b)(aH:Rs g u h)(hb:SC b)(bM:iw g):CallsIn Wd 0 Tryz.prog 57 #[v,.int .i64 w,.int .i64 time,u] g.w (cR g fun g' r=>FM g' r (fB b w time) h):=by
 have hs:=St.start g
 have aq:=G.le.refl g
 obtain⟨sl,rfl,jr⟩:=bI
 have bI:iI g (.agg ((List.range 11).map sl).toArray) b:=⟨sl,rfl,jr⟩
 obtain⟨a3,c3,rfl⟩:=aH.isSlice
 refine enter Tryz.func57 rfl Tryz.ntmps57 rfl ?_
 apply c_
 refine an rfl rfl (aR rfl hs rfl rfl ?_);clear hs;rintro b4 g1 hs ah;obtain⟨aH,bI,bM⟩:=ef ah aH bI bM
 obtain⟨g2,bR,aU,ah,aL⟩:=hs.a_ (i:=0) rfl;replace hs:=aU;clear aU;rw[←bR];obtain⟨aH,bI,bM⟩:=ef ah aH bI bM
 have aC:=aL;clear aL
 skip
 refine an rfl rfl (aK T.ok rfl hs rfl rfl ?_);clear hs;rintro b8 g1 hs ah;obtain⟨aC,aH,bI,bM⟩:=dE ah aC aH bI bM
 apply cf;refine cP 1 rfl ?_
 refine an rfl rfl (aQ T.ok rfl (vs:=[(2,.slice a3 h.length c3)]) (cells:=[.int .i64 0,.int .i64 0,.slice none 0 0,.slice none 0 0,.bool false,.slice a3 h.length c3]) rfl rfl rfl rfl [(0,4),(4,1),(5,1)] rfl (by kernel_rfl) ?_)
 skip
 refine an rfl rfl (aK T.ok rfl hs rfl rfl ?_);clear hs;rintro b9 g1 hs ah;obtain⟨aC,aH,bI,bM⟩:=dE ah aC aH bI bM
 refine bg rfl (aA T.ok 0 rfl hs rfl rfl rfl rfl rfl rfl rfl rfl rfl ?_);replace hs:=hs;rintro g1 hs ah;obtain⟨aC,aH,bI,bM⟩:=dE ah aC aH bI bM
 apply cf;refine dx 3 [.z aC] (St.start _) rfl ?_
 refine an rfl rfl (ay IP aI rfl rfl rfl rfl rfl (D4 _ b w time _ bI) ?_);rintro g1 _ aN rfl;replace hs:=hs.call aN;have ah:=aN.le;obtain⟨aC,aH,bI,bM⟩:=dE ah aC aH bI bM
 have zn:fB b w time=if((pG b w time).getD gF).prod=0 then none else match b.oc.find? fun f=>f.prod==((pG b w time).getD gF).prod with
  |none=>none
  |some t=>match lx t.text with
   | .inl f=>if(check f).1=0 then some f else none
   | .inr _=>none:=rfl
 generalize((pG b w time).getD gF).prod=pr at zn⊢
 clear aN
 refine ba rfl ?_;apply aB;refine aX rfl ?_
 by_cases Gs:pr=0
 ·rw[if_pos Gs]at zn
  rw[zn]
  refine aJ (b:=pr==0) (by simp[Gs]) rfl ?_
  refine dx 1 [.o 0] hs rfl ?_
  refine bg rfl (aA T.ok 1 rfl hs rfl rfl rfl rfl rfl rfl rfl rfl rfl ?_);replace hs:=hs;rintro g1 hs ah;obtain⟨aC,aH,bI,bM⟩:=dE ah aC aH bI bM
  apply cf
  refine aF (kJ T.ok 1 rfl hs rfl rfl rfl (hs.ret ⟨_,rfl,none,0,0,none,0,0,a3,c3,rfl,Rs.nil _,Rs.nil _,aH⟩))
 rw[if_neg Gs]at zn
 refine aS (b:=pr==0) (by simp[Gs]) rfl ?_
 apply aE;apply au;refine dx 2 [.z aC] (St.start _) rfl ?_
 refine an rfl rfl (ay KR aI rfl rfl rfl rfl rfl (A5 _ b pr _ bI) ?_);rintro g1 _ aN rfl;replace hs:=hs.call aN;have ah:=aN.le;obtain⟨aH,bM⟩:=cC ah aH bM
 clear aN
 cases B2:b.oc.find? (fun f=>f.prod==pr)with
 |none=>
  rw[B2]at zn
  rw[show fB b w time=none from zn]
  refine Wp 3 rfl ?_
  refine an rfl rfl (aK T.ok rfl hs rfl rfl ?_);clear hs;rintro BO g1 hs ah;obtain⟨aH,bM⟩:=cC ah aH bM
  skip
  refine bg rfl (aA T.ok 0 rfl hs rfl rfl rfl rfl rfl rfl rfl rfl rfl ?_);replace hs:=hs;rintro g1 hs ah;obtain⟨aH,bM⟩:=cC ah aH bM
  obtain⟨g2,bR,aU,ah,aL⟩:=hs.a_ (i:=0) rfl;replace hs:=aU;clear aU;rw[←bR];obtain⟨aH,bM⟩:=cC ah aH bM
  clear aL
  refine ba rfl ?_;apply aB;refine aX rfl ?_
  refine aJ rfl rfl ?_
  refine dx 1 [.o 0] hs rfl ?_
  refine bg rfl (aA T.ok 1 rfl hs rfl rfl rfl rfl rfl rfl rfl rfl rfl ?_);replace hs:=hs;rintro g1 hs ah;obtain⟨aH,bM⟩:=cC ah aH bM
  apply cf
  refine aF (kJ T.ok 1 rfl hs rfl rfl rfl (hs.ret ⟨_,rfl,none,0,0,none,0,0,a3,c3,rfl,Rs.nil _,Rs.nil _,aH⟩))
 |some t=>
  rw[B2]at zn
  replace zn:fB b w time=match lx t.text with| .inl f=>if(check f).1=0 then some f else none| .inr _=>none:=zn
  have Ni:=hb t (List.mem_of_find?_eq_some B2)
  refine Wp 3 rfl ?_
  refine an rfl rfl (aK T.ok rfl hs rfl rfl ?_);clear hs;rintro BO g1 hs ah;obtain⟨aH,bM⟩:=cC ah aH bM
  skip
  refine bg rfl (aA T.ok 0 rfl hs rfl rfl rfl rfl rfl rfl rfl rfl rfl ?_);replace hs:=hs;rintro g1 hs ah;obtain⟨aH,bM⟩:=cC ah aH bM
  obtain⟨g2,bR,aU,ah,aL⟩:=hs.a_ (i:=0) rfl;replace hs:=aU;clear aU;rw[←bR];obtain⟨aH,bM⟩:=cC ah aH bM
  have aP:=aL;clear aL
  refine ba rfl ?_;apply aB;refine aX rfl ?_
  refine aS rfl rfl ?_
  apply aE;apply au;refine dx 2 [.z aP] (St.start _) rfl ?_
  refine an rfl rfl (ay KS aI rfl rfl rfl rfl rfl (A9 t.text _ Ni bM) ?_)
  rintro g6 v6 mY h6
  replace hs:=hs.call mY;have ah:=mY.le;replace aH:=aH.mono ah
  unfold ke at h6
  cases rX:lx t.text with
  |inr k=>
   rw[rX]at h6 zn
   rw[show fB b w time=none from zn]
   obtain rfl:=h6
   refine Wp 4 rfl ?_
   refine an rfl rfl (aK T.ok rfl hs rfl rfl ?_);clear hs;rintro Pq g1 hs ah;replace aH:=aH.mono ah
   skip
   refine bg rfl (aA T.ok 0 rfl hs rfl rfl rfl rfl rfl rfl rfl rfl rfl ?_);replace hs:=hs;rintro g1 hs ah;replace aH:=aH.mono ah
   obtain⟨g2,bR,aU,ah,aL⟩:=hs.a_ (i:=0) rfl;replace hs:=aU;clear aU;rw[←bR];replace aH:=aH.mono ah
   clear aL
   refine ba rfl ?_;apply aB;refine aX rfl ?_
   refine aS rfl rfl ?_
   apply aE;apply au;refine dx 1 [.o 0] hs rfl ?_
   refine bg rfl (aA T.ok 1 rfl hs rfl rfl rfl rfl rfl rfl rfl rfl rfl ?_);replace hs:=hs;rintro g1 hs ah;replace aH:=aH.mono ah
   apply cf
   refine aF (kJ T.ok 1 rfl hs rfl rfl rfl (hs.ret ⟨_,rfl,none,0,0,none,0,0,a3,c3,rfl,Rs.nil _,Rs.nil _,aH⟩))
  |inl f=>
   rw[rX]at h6 zn
   replace zn:fB b w time=if(check f).1=0 then some f else none:=zn
   obtain⟨v7,rfl,a1,n1,c1,a2,n2,c2,rfl,aT,bT⟩:=h6
   refine Wp 4 rfl ?_
   refine an rfl rfl (aK T.ok rfl hs rfl rfl ?_);clear hs;rintro Pq g1 hs ah;obtain⟨aH,aT,bT⟩:=ef ah aH aT bT
   skip
   refine bg rfl (aA T.ok 0 rfl hs rfl rfl rfl rfl rfl rfl rfl rfl rfl ?_);replace hs:=hs;rintro g1 hs ah;obtain⟨aH,aT,bT⟩:=ef ah aH aT bT
   obtain⟨g2,bR,aU,ah,aL⟩:=hs.a_ (i:=0) rfl;replace hs:=aU;clear aU;rw[←bR];obtain⟨aH,aT,bT⟩:=ef ah aH aT bT
   have dO:=aL;clear aL
   refine ba rfl ?_;apply aB;refine dx 4 [.z dO] (St.start _) rfl ?_
   clear mY
   refine an rfl rfl (ay KT aI rfl rfl rfl rfl rfl (A_ _ f _ ⟨a1,n1,c1,a2,n2,c2,rfl,aT,bT⟩) ?_)
   rintro g8 v8 D5 ⟨a6,n6,c6,rfl,_⟩
   replace hs:=hs.call D5;have ah:=D5.le;obtain⟨dO,aH,aT,bT⟩:=dE ah dO aH aT bT
   refine ba rfl ?_
   by_cases Ba:(check f).1=0
   ·refine aJ (b:=(check f).1==0) (by simp[Ba]) rfl ?_
    apply ar;refine Wm 2 [.z dO] (St.start _) rfl ?_
    refine bg rfl (aA T.ok 0 rfl hs rfl rfl rfl rfl rfl rfl rfl rfl rfl ?_);replace hs:=hs;rintro g1 hs ah;obtain⟨aH,aT,bT⟩:=ef ah aH aT bT
    refine Wp 1 rfl ?_
    refine bg rfl (aA T.ok 0 rfl hs rfl rfl rfl rfl rfl rfl rfl rfl rfl ?_);replace hs:=hs;rintro g1 hs ah;obtain⟨aH,aT,bT⟩:=ef ah aH aT bT
    apply cf;refine dx 1 [.o 0] hs rfl ?_
    refine bg rfl (aA T.ok 1 rfl hs rfl rfl rfl rfl rfl rfl rfl rfl rfl ?_);replace hs:=hs;rintro g1 hs ah;obtain⟨aH,aT,bT⟩:=ef ah aH aT bT
    apply cf
    refine aF (kJ T.ok 1 rfl hs rfl rfl rfl (hs.ret ?_))
    rw[zn,if_pos Ba]
    exact⟨_,rfl,a1,n1,c1,a2,n2,c2,a3,c3,rfl,aT,bT,aH⟩
   ·refine aS (b:=(check f).1==0) (by simp[Ba]) rfl ?_
    apply aE;apply au;refine dx 1 [.o 0] hs rfl ?_
    refine bg rfl (aA T.ok 1 rfl hs rfl rfl rfl rfl rfl rfl rfl rfl rfl ?_);replace hs:=hs;rintro g1 hs ah;replace aH:=aH.mono ah
    apply cf
    refine aF (kJ T.ok 1 rfl hs rfl rfl rfl (hs.ret ?_))
    rw[zn,if_neg Ba]
    exact⟨_,rfl,none,0,0,none,0,0,a3,c3,rfl,Rs.nil _,Rs.nil _,aH⟩
end Go.Proofs.YtebobfdheanknaaGreatDoor
namespace Go.K
open Go Go.RowKit
variable {F:Fence} {P:Program} {N:Nat} {ds:List Deferred} {l:Env} {w:World} {Q:Exit→Act→World→Prop} {o:Oper} {g:G} {K:Value→World→Prop}
theorem Rs.at{α:Type}[El α]{ad:Option Addr}{n c i:Nat}{xs:List α}{x:α}(h:Rs g (.slice ad n c) xs)(hx:xs[i]? =some x): ∃b p ys,ad=some ⟨b,p,none⟩∧EP g b (p+i*El.k α) ys∧El.rc g ys x:=by
 obtain⟨a,m,c',e,hn,_,hr⟩:=h
 obtain⟨rfl,rfl,rfl⟩:=Value.slice.inj e
 have bh:=(List.getElem?_eq_some_iff.1 hx).1
 rcases hr with h0|⟨b,p,cells,rfl,oS,eK,hc⟩
 ·omega
 ·obtain⟨ys,h1,h2,_⟩:=eK.at hx
  exact⟨b,p,ys,rfl,⟨oS,fun j y hy=>by rw[Nat.add_assoc];exact hc _ _ (h2 j y hy)⟩,h1⟩
theorem fT{tb:Tb}(dn:tb.ok P){t e:Nat}{i j:TI}{x ix:Operand}{kk:IntKind}{z:Int}{b p n c:Nat}(ho:o.op= .indexAddr t x ix)(hx:ev l x=some (.slice (some ⟨b,p,none⟩) n c))(G_:ev l ix=some (.int kk z))(h0:0≤z)(bh:z.toNat<n)(hi:tl tb t=some i)(hd:i.desc= .slice e)(hj:tl tb e=some j)
  (k:K (.pointer (some ⟨b,p+z.toNat*j.size,none⟩)) w):cT F P N ds o l w Q K:=by
 refine bG (fun c=>⟨by rw[ho];simp,by rw[ho];simp⟩) (fun a ha=>?_) k
 simp only[execOp,ho,ha.ev hx,ha.ev G_,Sem.run_bind,nv dn hi hd hj h0 bh];rfl
end Go.K
