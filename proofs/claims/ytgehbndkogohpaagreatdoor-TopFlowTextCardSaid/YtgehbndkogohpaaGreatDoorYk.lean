/- Parts of the proof, from: The walks through package hold: who has released a hold, the holds of a base. -/
import Derived.Test.YtgehbndkogohpaaGreatDoorYj
import Derived.Test.YtgehbndkogohpaaGreatDoorYd
import Derived.Test.YtgehbndkogohpaaGreatDoorYi
import Derived.Test.YtgehbndkogohpaaGreatDoorYg
import Derived.Test.YtgehbndkogohpaaGreatDoorYc
namespace Go.Proofs.YtgehbndkogohpaaGreatDoor
open Go Go.K
set_option maxRecDepth 10000
attribute [local irreducible] W WL cD bc bK bd bg bh cq ck
set_option maxHeartbeats 1000000
def zD(id time:Int)(n:Int)(r:bH):Int:=if r.oth==id&&decide (r.time≤time)then bK .i64 n r.par else n
def uA(b:gn)(id time:Int):Int:=b.kj.foldl (zD id time) 0
theorem Dw(bb:Nat)(b:gn)(sl:Nat→Value)(id time:Int)(g:G)(aC:EP g bb 0 ((List.range 11).map sl))(aH:Rs g (sl 7) b.kj):
  CallsIn Wd 0 Tryz.prog 115 #[.pointer (some ⟨bb,0,none⟩),.int .i64 id,.int .i64 time] g.w (cF g fun _ r=>r= .int .i64 (uA b id time)):=by
 have hs:=St.start g;have aq:=G.le.refl g;obtain⟨a,c,vD⟩:=aH.isSlice;have hlen:=aH.dJ;unfold maxLen at hlen;refine enter Tryz.func115 rfl Tryz.ntmps115 rfl ?_;refine aY rfl ?_;apply aD;refine dz 4 [.z aC] (St.start _) rfl ?_;refine cY (.slice a b.kj.length c) (t:=12) rfl vD ?_;rw[vD]at aH;refine bj rfl ?_;apply aG;refine bM (fun m a' w'=> ∃(i:Nat) (n:Int) (g':G),w'=g'.w∧St g g' []∧G.le g g'∧Rs g' (.slice a b.kj.length c) b.kj∧i≤b.kj.length∧(b.kj.take i).foldl (zD id time) 0=n∧m=b.kj.length-i∧
   Fr 34 [] [(1,.int .i64 id),(2,.int .i64 time),(6,.int .i64 n),(12,.slice a b.kj.length c),(13,.int .i64 (b.kj.length:Nat)),(14,.int .i64 (i:Nat))] a') b.kj.length
  (fun a' ha=>⟨0,0,_,rfl,hs,aq,aH,Nat.zero_le _,rfl,rfl,ha.keep (by(repeat (first|exact trivial|refine⟨rfl,?_⟩)))⟩) ?_
 clear hs aH aq aC;rintro m a' _ ⟨i,n,g',rfl,hs,aq,aH,hi,vm,rfl,eF⟩;revert a';apply cI;refine aY rfl ?_;apply aD;by_cases bC:i<b.kj.length
 ·refine aM (b:=decide ((i:Int)<(b.kj.length:Int))) (decide_eq_true (by omega)) rfl ?_;have jG:dS b.kj (i:Int)=some b.kj[i]:=cZ rfl bC;have fP:(b.kj.take (i+1)).foldl (zD id time) 0=zD id time n b.kj[i]:=by rw[List.take_add_one,List.getElem?_eq_getElem bC,List.foldl_append,vm];rfl
  generalize b.kj[i]=x at*;clear vm;apply aF;apply ar;apply aD;apply aG;apply cM;refine ak rfl rfl (aW T.ok rfl aH (y:=x) jG rfl rfl rfl rfl rfl rfl ?_);rintro b9 q9 ys aL rfl;have aC:=aL;clear aL;refine Wm 1 [.e aC 0] (St.start _) rfl ?_;refine ak rfl rfl (aK T.ok rfl hs rfl rfl ?_);clear hs;rintro b8 g1 hs ah;obtain⟨aq,aH⟩:=cf ah aq aH;refine bA rfl (az T.ok 0 rfl hs rfl rfl rfl rfl rfl rfl rfl rfl rfl ?_);replace hs:=hs;rintro g1 hs ah;obtain⟨aq,aH⟩:=cf ah aq aH;obtain⟨g2,bL,aT,ah,aL⟩:=hs.ba (i:=0) rfl;replace hs:=aT;clear aT;rw[←bL];obtain⟨aq,aH⟩:=cf ah aq aH;have aR:=aL;clear aL;clear aC;replace hs:St g _ []:=hs;apply bW;refine dz 5 [.z aR] (St.start _) rfl ?_;unfold zD at fP;cases h1:x.oth==id with
  |false=>
   rw[h1]at fP;refine bj rfl ?_;refine aV rfl rfl ?_;apply aF;apply bR;apply ar;apply aA;refine Wp 2 rfl ?_;apply aE;exact fun a ha=>⟨b.kj.length-(i+1),by omega,i+1,n,_,rfl,hs,aq,aH,by omega,fP,rfl,ha.keep ⟨rfl,rfl,rfl,rfl,rfl,kI rfl (by rw[wr (by omega) (by omega)];omega),trivial⟩⟩
  |true=>
   rw[h1]at fP;refine Dk [.z aR] (St.start _) rfl ?_;cases h2:decide (x.time≤time)with
   |false=>
    rw[h2]at fP;refine aV rfl rfl ?_;apply aF;apply bR;apply ar;apply aA;refine Wp 2 rfl ?_;apply aE;exact fun a ha=>⟨b.kj.length-(i+1),by omega,i+1,n,_,rfl,hs,aq,aH,by omega,fP,rfl,ha.keep ⟨rfl,rfl,rfl,rfl,rfl,kI rfl (by rw[wr (by omega) (by omega)];omega),trivial⟩⟩
   |true=>
    rw[h2]at fP;refine aM rfl rfl ?_;apply aA;refine Wm 5 [.z aR] (St.start _) rfl ?_;apply aE;apply bR;apply ar;apply aA;refine Wp 2 rfl ?_;apply aE;exact fun a ha=>⟨b.kj.length-(i+1),by omega,i+1,_,_,rfl,hs,aq,aH,by omega,fP,rfl,ha.keep ⟨rfl,rfl,rfl,rfl,rfl,kI rfl (by rw[wr (by omega) (by omega)];omega),trivial⟩⟩
 refine aV (b:=decide ((i:Int)<(b.kj.length:Int))) (decide_eq_false (by omega)) rfl ?_;rw[List.take_of_length_le (by omega)]at vm;unfold uA;rw[vm];apply bF;apply bG;apply bG;apply c_;apply ar;refine aY rfl ?_;exact aI (aX rfl rfl (hs.ret rfl))
def Ck(b:gn)(f:bH)(time:Int):Bool:=bg .i64 f.par (uA b f.idn time)==0
theorem KS(f:bH)(bb:Nat)(b:gn)(sl:Nat→Value)(time:Int)(g:G)(aC:EP g bb 0 ((List.range 11).map sl))(aH:Rs g (sl 7) b.kj):
  CallsIn Wd 0 Tryz.prog 41 #[Py f bb,.int .i64 time] g.w (cF g fun _ r=>r= .bool (Ck b f time)):=by
 have hs:=St.start g;have aq:=G.le.refl g;refine enter Tryz.func41 rfl Tryz.ntmps41 rfl ?_;apply cM;refine ak rfl rfl (aO rfl hs rfl rfl ?_);clear hs;rintro b1 g1 hs ah;obtain⟨aC,aH⟩:=cf ah aC aH;obtain⟨g2,bL,aT,ah,aL⟩:=hs.ba (i:=0) rfl;replace hs:=aT;clear aT;rw[←bL];obtain⟨aC,aH⟩:=cf ah aC aH;have aR:=aL;clear aL;refine bj rfl ?_;apply aD;apply bP hs (eO (iY [])) 12 [(11,16)] (by kernel_rfl) rfl
 ·exact Dz [[],[0],[1],[],[3],[],[5],[6],[],[4,7,8],[2,9],[10]] [.z aR,.z aR,.z aR,.c Nf fun g' h=>Dw bb b sl f.idn time g' (aC.mono h) (aH.mono h)] hs (by kernel_rfl) rfl
 clear hs;intro g6 hs ah;refine bj rfl ?_;exact aI (aX rfl rfl (hs.ret rfl))
def rO(b:gn):List bH:=b.holds.filter fun f=>f.kind==7
theorem Fe(bp bb:Nat)(b:gn)(sl:Nat→Value)(g:G)(Pp:EP g bp 0 [.pointer (some ⟨bb,0,none⟩)])(MB:EP g bb 0 ((List.range 11).map sl))(KW:Rs g (sl 6) b.holds):
  tT Tryz.prog 112 #[.pointer (some ⟨bp,0,none⟩)] (fun f=>[Py f bb]) (rO b) g:=by
 obtain⟨a,c,vD⟩:=KW.isSlice;intro g1 hle yv J Jx hJ SE hy AX;have hlen:=KW.dJ;unfold maxLen at hlen;have aq:=G.le.refl g1;have aC:=Pp.mono hle;have JO:=KW.mono hle;have aR:=MB.mono hle;have pK:=aC;refine enter Tryz.func112 rfl Tryz.ntmps112 rfl ?_;refine dz 4 [.z aC,.z aR] (St.start _) rfl ?_;refine cY (.slice a b.holds.length c) (t:=8) rfl vD ?_;rw[vD]at JO;refine bj rfl ?_;apply aG;refine bM (fun m a' w=> ∃(k:Nat) (g':G),w=g'.w∧G.le g1 g'∧k≤b.holds.length∧m=b.holds.length-k∧J ((b.holds.take k).filter fun f=>f.kind==7) g'∧
   Fr 26 [] [(0,yv),(1,.pointer (some ⟨bp,0,none⟩)),(8,.slice a b.holds.length c),(9,.int .i64 (b.holds.length:Nat)),(10,.int .i64 (k:Nat))] a') b.holds.length
  (fun a' ha=>⟨0,g1,rfl,aq,Nat.zero_le _,rfl,AX,ha.keep (by(repeat (first|exact trivial|refine⟨rfl,?_⟩)))⟩) ?_
 clear aC aq aR;rintro m a' _ ⟨k,g',rfl,aq,hk,rfl,qu,eF⟩;have aC:=pK.mono aq;have eh:=JO.mono aq;have hs:=St.start g';revert a';apply cI;refine aY rfl ?_;apply aD;by_cases bC:k<b.holds.length
 ·refine aM (b:=decide ((k:Int)<(b.holds.length:Int))) (by simp;omega) rfl ?_;have jG:=cZ (n:=((k:Nat):Int)) rfl bC;have rp:b.holds.filter (fun f=>f.kind==7)=(b.holds.take k).filter (fun f=>f.kind==7)++([b.holds[k]].filter (fun f=>f.kind==7)++(b.holds.drop (k+1)).filter (fun f=>f.kind==7)):=by
   conv=>lhs;rw[←List.take_append_drop k b.holds,List.drop_eq_getElem_cons bC]
   rw[List.filter_append,←List.singleton_append,List.filter_append]
  have fP:(b.holds.take (k+1)).filter (fun f=>f.kind==7)=(b.holds.take k).filter (fun f=>f.kind==7)++[b.holds[k]].filter (fun f=>f.kind==7):=by rw[List.take_succ_eq_append_getElem bC,List.filter_append]
  generalize b.holds[k]=x at*;apply aF;apply ar;apply aD;apply aG;apply cM;refine ak rfl rfl (aW T.ok rfl eh (y:=x) jG rfl rfl rfl rfl rfl rfl ?_);rintro bq pq ys aL rfl;have aR:=aL;clear aL;refine Wm 1 [.e aR 0] (St.start _) rfl ?_;refine ak rfl rfl (aK T.ok rfl hs rfl rfl ?_);clear hs;rintro bx g1 hs ah;obtain⟨aq,aC,aR⟩:=dy ah aq aC aR;skip;refine bA rfl (az T.ok 0 rfl hs rfl rfl rfl rfl rfl rfl rfl rfl rfl ?_);replace hs:=hs;rintro g1 hs ah;obtain⟨aq,aC,aR⟩:=dy ah aq aC aR;obtain⟨g2,bL,aT,ah,aL⟩:=hs.ba (i:=0) rfl;replace hs:=aT;clear aT;rw[←bL];obtain⟨aq,aC,aR⟩:=dy ah aq aC aR;clear aR;have aR:=aL;clear aL;replace hs:St g' _ []:=hs;apply bW;refine dz 4 [.z aR] (St.start _) rfl ?_;cases h7:x.kind==7 with
  |false=>
   rw[List.filter_cons,h7]at fP;refine bj rfl ?_;refine aV rfl rfl ?_;apply aF;apply bR;apply ar;apply aA;refine Wp 2 rfl ?_;apply aE;refine fun a ha=>⟨b.holds.length-(k+1),by omega,k+1,_,rfl,aq,by omega,rfl,?_,ha.keep ⟨rfl,rfl,rfl,rfl,kI rfl (by rw[wr (by omega) (by omega)];omega),trivial⟩⟩
   rw[fP];simpa using hJ _ _ _ hs.nC qu
  |true=>
   rw[List.filter_cons,h7]at fP rp;refine Wm 3 [.z aR,.z aC] (St.start _) rfl ?_;refine ak rfl rfl (aQ T.ok rfl (vs:=[(0,fv x),(1,.pointer (some ⟨bb,0,none⟩))]) (cells:=fr x bb) rfl rfl rfl rfl [(0,19),(19,1)] rfl (by kernel_rfl) ?_);have He:=hJ _ _ _ hs.nC qu;refine ak rfl rfl (eo rfl rfl rfl rfl rfl rfl ((hy _ x _ _ rp aq He).mono ?_));rintro _ _ ⟨g5,bv,rfl,rfl,ah,ht,hf⟩;refine⟨_,rfl,?_⟩;clear hs He;replace aq:=G.le.trans aq ah;cases bv with
   |false=>
    refine bj rfl ?_;refine aM rfl rfl ?_;skip;refine aI ?_;apply hQ;apply eD;apply eD;apply hQ;refine s3 rfl ?_;exact⟨g5,_,rfl,rfl,aq,.inr ⟨_,⟨(b.holds.drop (k+1)).filter (fun f=>f.kind==7),by rw[List.append_assoc];exact rp.symm⟩,hf rfl⟩⟩
   |true=>
    refine bj rfl ?_;refine aV rfl rfl ?_;apply aF;apply bR;apply ar;apply aA;refine Wp 2 rfl ?_;apply aE;exact fun a ha=>⟨b.holds.length-(k+1),by omega,k+1,_,rfl,aq,by omega,rfl,by rw[fP];exact ht rfl,ha.keep ⟨rfl,rfl,rfl,rfl,kI rfl (by rw[wr (by omega) (by omega)];omega),trivial⟩⟩
 refine aV (b:=decide ((k:Int)<(b.holds.length:Int))) (by simp;omega) rfl ?_;apply bF;apply bG;apply bG;apply c_;refine kD rfl ⟨g',_,rfl,rfl,aq,.inl ?_⟩;rw[List.take_of_length_le (by omega)]at qu;exact qu
end Go.Proofs.YtgehbndkogohpaaGreatDoor
namespace Go.Proofs.YtgehbndkogohpaaGreatDoor
open Go Go.K
set_option maxRecDepth 10000
attribute [local irreducible] W WL cD bc bK bd bg bh cq ck
set_option maxHeartbeats 1000000
def nu(m:List Int):List (Int×Value):=m.map fun k=>(k,.agg #[])
theorem FG(m:List Int):(nu m).length=m.length:=List.length_map ..
theorem H7{m:List Int}{j:Nat}{q:Int×Value}(h:(nu m)[j]? =some q): ∃k,m[j]? =some k∧q=(k,.agg #[]):=by
 unfold nu at h;rw[List.getElem?_map]at h;cases hm:m[j]? with
 |none=>rw[hm]at h;cases h
 |some p=>rw[hm]at h;exact⟨p,rfl,(Option.some.inj h).symm⟩
def zv(a:Int)(m:List Int):List Int:=if a∈m then m else m++[a]
theorem zw(a:Int): ∀m:List Int,jk a (.agg #[]) (nu m)=nu (zv a m)
 |[]=>rfl
 |k::r=>by
  show(if a=k then(k,.agg #[])::nu r else(k,.agg #[])::jk a (.agg #[]) (nu r))=nu (zv a (k::r));unfold zv;by_cases h:a=k
  ·subst h;rw[if_pos rfl,if_pos (List.mem_cons_self ..)];rfl
  rw[if_neg h,zw a r];unfold zv;by_cases h2:a∈r
  ·rw[if_pos h2,if_pos (List.mem_cons_of_mem _ h2)];rfl
  rw[if_neg h2,if_neg (by simp[h,h2])];rfl
theorem O9:qy Int Tryz.prog 99 (.agg #[]):=by have h:=zc (P:=Tryz.prog) (κ:=Int) T.ok (T:=99) rfl rfl rfl rfl rfl;exact h
theorem HU(bp bm:Nat)(m:List Int)(g:G)(Pp:EP g bp 0 [.map (some bm)])(mk:rL g bm (nu m)):
  xW Tryz.prog 117 #[.pointer (some ⟨bp,0,none⟩)] (fun k:Int=>[.int .i64 k]) (fun pre=>pre.length≤m.length) (fun xs=>xs.Perm m) g:=by
 intro g1 hle yv g0 I Ix hI AL hy L hs Q3;have aq:=G.le.refl g1;have aC:=Pp.mono hle;have kU:=mk.mono hle;refine enter Tryz.func117 rfl Tryz.ntmps117 rfl ?_;refine dz 1 [.z aC] (St.start _) rfl ?_;refine ak rfl rfl (oK O9 rfl kU.2 rfl hs ?_);clear hs;intro r1 g2 hs ah;replace Q3:=hI _ _ _ _ ah Q3;replace aq:=G.le.trans aq ah;replace kU:=kU.mono ah;apply bW;apply aG;refine bM (fun n a' w=> ∃(seen:Array Nat) (L':List cS) (g':G),w=g'.w∧St g0 g' ([.obj r1 (vk bm (nu m).length seen)]++L')∧G.le g1 g'∧rL g' bm (nu m)∧seen.toList.Nodup∧(∀j∈seen.toList,j<m.length)∧n=m.length-seen.toList.length∧I (rz m seen.toList) L' g'∧
   Fr 14 [] [(0,yv),(5,.pointer (some ⟨r1,0,none⟩))] a') m.length
  (fun a' ha=>⟨#[],L,g2,rfl,hs,aq,kU,by simp,by simp,rfl,Q3,ha.keep (by(repeat (first|exact trivial|refine⟨rfl,?_⟩)))⟩) ?_
 clear hs aq kU aC Q3;rintro n a' _ ⟨seen,L',g',rfl,hs,aq,kU,za,bC,rfl,qu,eF⟩;have wA:=ju _ _ za bC;revert a';apply cI;apply cM;refine ak rfl rfl (qB 0 rfl hs rfl kU.2 rfl (fun cR=>?_) (fun j q g6 hq hj Fa ah=>?_))
 ·have rq:(rz m seen.toList).Perm m:=B3 za bC fun j hj=>by simpa using cR j (by rw[FG];exact hj)
  refine bj rfl ?_;apply aD;refine aV rfl rfl ?_;apply bF;apply bG;apply bG;apply c_;exact kD rfl ⟨g',_,L',rfl,rfl,aq,hs.drop 0,.inl ⟨_,rq,qu⟩⟩
 obtain⟨k,hk,rfl⟩:=H7 hq;have QY:j<m.length:=(List.getElem?_eq_some_iff.1 hk).1;have s6:(seen.toList++[j]).Nodup:=List.nodup_append.2 ⟨za,by simp,by intro a ha b hb;rw[List.mem_singleton.1 hb];rintro rfl;exact hj (by simpa using ha)⟩;have pQ: ∀k∈seen.toList++[j],k<m.length:=by intro k hk;rcases List.mem_append.1 hk with hk|hk;exact bC k hk;rw[List.mem_singleton.1 hk];exact QY
 have zn:=ju _ _ s6 pQ;have S1:=Nat.le_trans (xw m (seen.toList++[j])) zn;rw[tN hk]at S1;rw[List.length_append,List.length_singleton]at zn;clear hs;replace hs:St g0 g6 ([.obj r1 (vk bm (nu m).length (seen.push j))]++L'):=Fa;replace qu:=hI _ _ _ _ ah qu;clear Fa;replace aq:=G.le.trans aq ah;replace kU:=kU.mono ah;refine bj rfl ?_;apply aD;refine aM rfl rfl ?_;apply aF;apply ar;apply aG;apply cM;refine ak rfl rfl (oL 0 rfl hs rfl kU.2 rfl hq ?_);refine bj rfl ?_;refine cN 2 rfl ?_;refine ak rfl rfl (eo rfl rfl rfl rfl rfl rfl ((hy _ _ k _ _ S1 aq hs qu).mono ?_));rintro _ _ ⟨g7,bv,L7,rfl,rfl,ah,Hf,ht,hf⟩;refine⟨_,rfl,?_⟩;clear hs;replace hs:=Hf;clear Hf;replace aq:=G.le.trans aq ah;replace kU:=kU.mono ah;cases bv with
 |false=>
  refine bj rfl ?_;refine aM rfl rfl ?_;skip;refine aI ?_;apply hQ;apply eD;apply hQ;refine s3 rfl ?_;exact⟨g7,_,L7,rfl,rfl,aq,hs.drop 0,.inr ⟨_,S1,hf rfl⟩⟩
 |true=>
  refine bj rfl ?_;refine aV rfl rfl ?_;apply aF;apply bR;exact fun a ha=>⟨m.length-(seen.push j).toList.length,by rw[Array.toList_push,List.length_append,List.length_singleton];omega,seen.push j,L7,_,rfl,hs,aq,kU,by rw[Array.toList_push];exact s6,by rw[Array.toList_push];exact pQ,rfl,by rw[Array.toList_push,tN hk];exact ht rfl,ha.keep (by(repeat (first|exact trivial|refine⟨rfl,?_⟩)))⟩
theorem KT(bm:Nat)(_m:List Int)(g:G):CallsIn Wd 0 Tryz.prog 43 #[.map (some bm)] g.w (cF g fun g' r=> ∃bp,r= .func (.func 117) #[] #[.pointer (some ⟨bp,0,none⟩)]∧EP g' bp 0 [.map (some bm)]):=by have hs:=St.start g;refine enter Tryz.func43 rfl Tryz.ntmps43 rfl ?_;apply cM;refine ak rfl rfl (aO rfl hs rfl rfl ?_);clear hs;rintro b1 g1 hs ah;skip;obtain⟨g2,bL,aT,ah,aL⟩:=hs.ba (i:=0) rfl;replace hs:=aT;clear aT;rw[←bL];skip;have aC:=aL;clear aL;refine bj rfl ?_;refine aY rfl ?_;exact aI (aX rfl rfl (hs.ret ⟨b1,rfl,aC⟩))
theorem xX{jW:FuncId}{eI:Array Value}(fr:ag Tryz.prog jW){A Z:List Int→Prop}(hA: ∀pre,A pre→pre.length≤1000000)(g:G)(rE:xW Tryz.prog jW eI (fun x:Int=>[.int .i64 x]) A Z g):
  CallsIn Wd 0 Tryz.prog 223 #[.slice none 0 0,.func (.func jW) #[] eI] g.w (cF g fun g' r=> ∃xs,Z xs∧km 3 g xs g' r):=by
 have hs:=St.start g;have aq:=G.le.refl g;refine pL Tryz.func223 rfl Tryz.ntmps223 rfl ?_;apply cM;refine ak rfl rfl (aO rfl hs rfl rfl ?_);clear hs;rintro bo g1 hs ah;replace aq:=G.le.trans aq ah;replace hs:=hs.iN 3 1 none;refine bj rfl ?_;apply aD;refine aY rfl ?_;apply aG;refine uh (N:=13) hs rfl fr (rE.mono aq) rfl (fun _=>rfl)
  (fun pre L _=> ∃v,L=[.row 3 1 v pre.length (eK pre),.obj bo (.cells #[v] 43 (0,0))]) (fun _ _ _ _=>False)
  (fun _ _ _ _ _ h=>h) (fun _ _ _ _ _ _ h=>h) ⟨_,rfl⟩ (fun pre x L la _=>la=[(5,.int .i64 x),(2,.pointer (some ⟨bo,0,none⟩))]∧ ∃v,L=[.row 3 1 v pre.length (eK pre),.obj bo (.cells #[v] 43 (0,0))]) (fun _ _ _ _ _ _ _ h=>h) ?_ ?_ ?_ ?_
 ·rintro lp D ro pre x gr Lr M jf hle hs hI;apply aA;refine Wp 1 rfl ?_;apply aE;exact fun a ha=>⟨gr,Lr,_,rfl,G.le.refl _,hs,⟨rfl,hI⟩,ha.keep (by(repeat (first|exact trivial|refine⟨rfl,?_⟩)))⟩
 ·rintro lp D ro pre x gr Lr la M jf hle hs ⟨rfl,v,rfl⟩;have cC:=G.le.refl gr;have wi:=hA _ jf;rw[List.length_append,List.length_singleton]at wi;obtain⟨av,cv,rfl⟩:=(hs.own 2 _ rfl).1.form;apply aG;apply aA;refine Wm 2 [.o 3] hs rfl ?_;refine ak rfl rfl (bD T.ok rfl hs (vs:=[(0,.int .i64 x)]) (cells:=[.int .i64 x]) rfl rfl rfl rfl rfl rfl (by decide) (by decide) (by kernel_rfl) rfl ?_);rintro b2 g2 hs ah;replace cC:=G.le.trans cC ah;skip;refine ak rfl rfl (cd T.ok 3 rfl hs rfl rfl rfl rfl rfl rfl rfl (by decide) rfl (Src.fL (hs.own 0 _ rfl).1).2 (by simp[Value.oneCell']) (by show(pre.length+1)*8≤_;omega) (by unfold maxLen;omega) ?_);rintro a9 c9 g3 hs ah;replace cC:=G.le.trans cC ah;skip;refine bA rfl (az T.ok 4 rfl hs rfl rfl rfl rfl rfl rfl rfl rfl rfl ?_);replace hs:=hs;rintro g1 hs ah;replace cC:=G.le.trans cC ah;apply aE;apply bR;exact fun a ha=>⟨_,_,rfl,hs.drop 0,cC,[.row 3 1 (.slice a9 (pre.length+1) c9) (pre.length+1) (eK pre++[.int .i64 x]),.obj bo (.cells #[.slice a9 (pre.length+1) c9] 43 (0,0))],rfl,.slice a9 (pre.length+1) c9,by simp[eK]⟩
 ·rintro lp D o xs Lr ge hz hle hs ⟨v,rfl⟩;obtain⟨av,cv,rfl⟩:=(hs.own 2 _ rfl).1.form;apply bR;apply ar;refine l_ [.o 3] hs rfl ?_;refine aI ?_;skip;refine Fg 1 rfl hs rfl rfl (fun g' jo fw=>?_);exact jo.ret ⟨xs,hz,eK xs,jo.own 1 _ rfl,cG.ints _ _⟩
 rintro c lp D o pre Lr ge _ _ _ h;exact h.elim
theorem Bh{jW:FuncId}{eI:Array Value}(fr:ag Tryz.prog jW){A Z:List Int→Prop}(hA: ∀pre,A pre→pre.length≤1000000)(g:G)(rE:xW Tryz.prog jW eI (fun x:Int=>[.int .i64 x]) A Z g):
  CallsIn Wd 0 Tryz.prog 116 #[.func (.func jW) #[] eI] g.w (cF g fun g' r=> ∃xs,Z xs∧km 3 g xs g' r):=by
 refine enter Tryz.func116 rfl Tryz.ntmps116 rfl ?_;refine aY rfl ?_;refine cN 1 rfl ?_;refine ak rfl rfl (au Oe aJ rfl rfl rfl rfl rfl (xX fr hA g rE) ?_);rintro g1 r aP ⟨xs,hz,dT⟩;refine bj rfl ?_;exact aI (aX rfl rfl ⟨g1,r,rfl,aP,rfl,xs,hz,dT⟩)
end Go.Proofs.YtgehbndkogohpaaGreatDoor
namespace Go.Proofs.YtgehbndkogohpaaGreatDoor
open Go Go.K
set_option maxRecDepth 10000
attribute [local irreducible] W WL cD bc bK bd bg bh cq ck
set_option maxHeartbeats 1000000
theorem cG.qF{g:G}: ∀{xs:List Int} {cells:List Value},cG g cells xs→cells=iw xs
 |[],_,h=>h
 |x::xs,_,⟨c1,c2,e,h1,h2⟩=>by rw[e,cG.qF h2,show c1=[Value.int .i64 x]from h1];rfl
theorem tC(v:Value)(xs:List Int)(g:G)(aH:Rs g v xs)(hlen:xs.length≤1000000):
  CallsIn Wd 0 Tryz.prog 110 #[v] g.w (cF g (km 3 g xs)):=by
 obtain⟨ad,n,c,rfl,hn,hc,hr⟩:=id aH;have hs:=St.start g;have aq:=G.le.refl g;refine enter Tryz.func110 rfl Tryz.ntmps110 rfl ?_;refine aY rfl ?_;apply aD;refine cN 1 rfl ?_;refine ak rfl rfl (fW T.ok (neg:=false) rfl rfl rfl rfl rfl ?_);apply bW;cases ad with
 |none=>
  refine aM rfl rfl ?_;refine aY rfl ?_;refine aI (aX rfl rfl (hs.ret ?_));have:xs=[]:=by
   rcases hr with h|⟨b,o,cells,h,_⟩
   ·exact List.eq_nil_of_length_eq_zero (by omega)
   cases h
  subst this;exact km.nil _ _ _ _
 |some ad=>
  refine aV rfl rfl ?_;apply aF;apply ar;apply cM;refine ak rfl rfl (bD T.ok rfl hs (vs:=[]) (cells:=[]) rfl rfl rfl rfl rfl rfl (by decide) (by decide) (by kernel_rfl) rfl ?_);rintro b2 g2 hs ah;replace aH:=aH.mono ah;refine Wp 1 rfl ?_;obtain⟨hm,news,d_,g_⟩:=Src.lq aH;subst hm;obtain rfl:=cG.qF d_;refine ak rfl rfl (cd T.ok 0 rfl hs rfl rfl rfl rfl rfl rfl rfl (by decide) rfl g_ (by simp[iw,Value.oneCell']) (by show(0+xs.length)*8≤_;omega) (by unfold maxLen;omega) ?_);rintro a' c' g3 hs ah;refine bj rfl ?_;exact aI (aX rfl rfl (hs.ret (hs.nK (i:=0) rfl (cG.ints _ _))))
end Go.Proofs.YtgehbndkogohpaaGreatDoor
namespace Go.Proofs.YtgehbndkogohpaaGreatDoor
open Go Go.K
set_option maxRecDepth 10000
attribute [local irreducible] W WL cD bc bK bd bg bh cq ck
set_option maxHeartbeats 1000000
def jH(xs:List Int):List Int:=xs.mergeSort fun x y=>decide (x≤y)
theorem wI(xs:List Int):(jH xs).length=xs.length:=by unfold jH;exact List.length_mergeSort _
theorem wJ(xs:List Int):AE (fun x=>(x,0)) (jH xs):=by have h:=List.pairwise_mergeSort (le:=fun x y:Int=>decide (x≤y)) (by intro a b c h1 h2;simp at*;omega) (by intro a b;simp;omega) xs;refine List.Pairwise.imp (fun {a b} h=>?_) h;simp only[decide_eq_true_eq]at h;rw[iA];simp only;omega
theorem Bi{xs ys:List Int}(h:xs.Perm ys):jH xs=jH ys:=
 mC (((List.mergeSort_perm xs _).trans h).trans (List.mergeSort_perm ys _).symm) (wJ xs) (wJ ys) fun _ _ _ _ e=>congrArg Prod.fst e
theorem Ba{ad:Option Addr}{n c:Nat}{zs:List Int}{g0 g:G}{L:List cS}(hl:zs.length≤1000000)(hs:St g0 g (.row 3 1 (.slice ad n c) n (eK zs)::L)):
  CallsIn Wd 0 Tryz.prog 35 #[.slice ad n c] g.w (ek g fun g' r=>r= .tuple #[]∧St g0 g' (.row 3 1 (.slice ad n c) n (eK (jH zs))::L)):=by
 have hr:=hs.own 0 _ rfl;by_cases h0:n=0
 ·subst h0;have hz:zs=[]:=by have:=hr.1.1;rw[me,Nat.zero_mul]at this;exact List.eq_nil_of_length_eq_zero this
  subst hz;refine callsIn_wide.2 ((Tryz.slices_Sort_int_none ad c g.w).mono ?_);rintro e w' ⟨rfl,rfl⟩;refine⟨g,_,rfl,rfl,G.le.refl g,rfl,?_⟩;have e0:jH []=[]:=by unfold jH;simp
  rw[e0];exact hs
 obtain⟨bk,off,rfl⟩:=hr.1.pos h0;obtain⟨hH,A_,rfl,o7,sB⟩:=hr.1.Ft h0;refine callsIn_wide.2 ((Tryz.slices_Sort_int bk off c zs g.w hH A_ (by omega)).mono ?_);rintro e w' ⟨rfl,q,os,rfl⟩;obtain⟨g2,bL,aT,ah⟩:=hs.putRow (i:=0) (q:=q) (os:=os) (d:=jH zs) rfl h0 (wI zs);exact⟨g2,_,bL,rfl,ah,rfl,aT⟩
theorem Dn{jW:FuncId}{eI:Array Value}(fr:ag Tryz.prog jW){A:List Int→Prop}{m:List Int}(hA: ∀pre,A pre→pre.length≤1000000)(hm:m.length≤1000000)(g:G)(rE:xW Tryz.prog jW eI (fun x:Int=>[.int .i64 x]) A (fun xs=>xs.Perm m) g):
  CallsIn Wd 0 Tryz.prog 42 #[.func (.func jW) #[] eI] g.w (cF g fun g' r=>km 3 g (jH m) g' r):=by
 have hs:=St.start g;refine enter Tryz.func42 rfl Tryz.ntmps42 rfl ?_;refine aY rfl ?_;refine cN 1 rfl ?_;refine ak rfl rfl (au Ng aJ rfl rfl rfl rfl rfl (Bh fr hA g rE) ?_);rintro g1 r aP ⟨xs,hp,cells,dT,d_⟩;obtain rfl:cells=eK xs:=cG.qF d_;obtain⟨ad,c,rfl⟩:=dT.1.form;replace hs:=hs.ft aP dT;clear d_ dT;have lX:=hp.length_eq;refine bj rfl ?_;refine cN 1 rfl ?_;refine ak rfl rfl (du Kw aJ rfl rfl rfl rfl rfl (Ba (zs:=xs) (by omega) hs) ?_);clear hs;rintro g6 _ ah ⟨rfl,hs⟩;rw[Bi hp]at hs;apply bW;refine aY rfl ?_;refine aI (aX rfl rfl (hs.ret ⟨eK (jH m),?_,cG.ints _ _⟩));rw[wI,←lX];exact hs.own 0 _ rfl
end Go.Proofs.YtgehbndkogohpaaGreatDoor
namespace Go.Proofs.YtgehbndkogohpaaGreatDoor
open Go Go.K
set_option maxRecDepth 10000
attribute [local irreducible] W WL cD bc bK bd bg bh cq ck
set_option maxHeartbeats 1000000
theorem HQ(bb:Nat)(g:G):CallsIn Wd 0 Tryz.prog 39 #[.pointer (some ⟨bb,0,none⟩)] g.w (cF g fun g' r=> ∃bp,r= .func (.func 112) #[] #[.pointer (some ⟨bp,0,none⟩)]∧EP g' bp 0 [.pointer (some ⟨bb,0,none⟩)]):=by have hs:=St.start g;refine enter Tryz.func39 rfl Tryz.ntmps39 rfl ?_;apply cM;refine ak rfl rfl (aO rfl hs rfl rfl ?_);clear hs;rintro b1 g1 hs ah;skip;obtain⟨g2,bL,aT,ah,aL⟩:=hs.ba (i:=0) rfl;replace hs:=aT;clear aT;rw[←bL];skip;have aC:=aL;clear aL;refine bj rfl ?_;refine aY rfl ?_;exact aI (aX rfl rfl (hs.ret ⟨b1,rfl,aC⟩))
def nT(b:gn)(a:jJ)(m:List Int)(f:bH):List Int:=if ug b f a&& !Ck b f a.time then zv f.idn m else m
def Cl(b:gn)(a:jJ):List Int:=(rO b).foldl (nT b a) []
def mM(b:gn)(a:jJ):List Int:=jH (Cl b a)
theorem wD(b:gn)(a:jJ): ∀(l:List bH) (m:List Int),(l.foldl (nT b a) m).length≤m.length+l.length
 |[],m=>Nat.le_refl _
 |f::l,m=>by
  rw[List.foldl_cons];have ih:=wD b a l (nT b a m f);have h1:(nT b a m f).length≤m.length+1:=by
   unfold nT zv;split
   ·split
    ·omega
    simp
   omega
  rw[List.length_cons];omega
def sA(b:gn)(a:jJ)(sl:Nat→Value)(bm b2 b3 b5:Nat)(g:G)(pre:List bH)(L:List cS)(g':G):Prop:=
 L=[.obj bm (eA (nu (pre.foldl (nT b a) [])))]∧EP g' b5 0 [.map (some bm)]∧EP g' b2 0 ((List.range 11).map sl)∧EP g' b3 0 (vz a)∧mG g' (.agg ((List.range 11).map sl).toArray) b∧Rs g' (sl 7) b.kj∧G.le g g'
theorem sA.mono{b:gn}{a:jJ}{sl:Nat→Value}{bm b2 b3 b5:Nat}{g:G}(pre:List bH)(L:List cS)(g1 g2:G)(hle:g1.le g2)(h:sA b a sl bm b2 b3 b5 g pre L g1):sA b a sl bm b2 b3 b5 g pre L g2:=by obtain⟨e,h1,h2,h3,h4,h5,h6⟩:=h;exact⟨e,h1.mono hle,h2.mono hle,h3.mono hle,h4.mono hle,h5.mono hle,h6.trans hle⟩
theorem xM(v:Value)(b:gn)(a:jJ)(g:G)(bV:mG g v b)(hb:Fc b):CallsIn Wd 0 Tryz.prog 15 #[v,HR a] g.w (cF g fun g' r=>Rs g' r (mM b a)):=by
 have hs:=St.start g;have aq:=G.le.refl g;obtain⟨sl,rfl,kx⟩:=bV;have bV:mG g (.agg ((List.range 11).map sl).toArray) b:=⟨sl,rfl,kx⟩
 have aH:Rs g (sl 6) b.holds:=kx 6 (by decide);have aU:Rs g (sl 7) b.kj:=kx 7 (by decide);refine pL Tryz.func15 rfl Tryz.ntmps15 rfl ?_;apply cM;refine ak rfl rfl (aO rfl hs rfl rfl ?_);clear hs;rintro b2 g1 hs ah;obtain⟨aq,aH,aU,bV⟩:=eS ah aq aH aU bV;obtain⟨g2,bL,aT,ah,aL⟩:=hs.ba (i:=0) rfl;replace hs:=aT;clear aT;rw[←bL];obtain⟨aq,aH,aU,bV⟩:=eS ah aq aH aU bV;have aC:=aL;clear aL;skip;refine ak rfl rfl (aO rfl hs rfl rfl ?_);clear hs;rintro b3 g1 hs ah;obtain⟨aq,aC,aH,aU,bV⟩:=kO ah aq aC aH aU bV;obtain⟨g2,bL,aT,ah,aL⟩:=hs.ba (i:=0) rfl;replace hs:=aT;clear aT;rw[←bL];obtain⟨aq,aC,aH,aU,bV⟩:=kO ah aq aC aH aU bV;have aR:=aL;clear aL;refine bj rfl ?_;apply cM;refine ak rfl rfl (jV (κ:=Int) rfl hs ?_);clear hs;intro bm g1 hs ah;obtain⟨aq,aC,aR,aH,aU,bV⟩:=lR ah aq aC aR aH aU bV;refine ak rfl rfl (aK T.ok rfl hs rfl rfl ?_);clear hs;rintro b5 g1 hs ah;obtain⟨aq,aC,aR,aH,aU,bV⟩:=lR ah aq aC aR aH aU bV;refine bA rfl (az T.ok 0 rfl hs rfl rfl rfl rfl rfl rfl rfl rfl rfl ?_);replace hs:=hs;rintro g1 hs ah;obtain⟨aq,aC,aR,aH,aU,bV⟩:=lR ah aq aC aR aH aU bV;obtain⟨g2,bL,aT,ah,aL⟩:=hs.ba (i:=0) rfl;replace hs:=aT;clear aT;rw[←bL];obtain⟨aq,aC,aR,aH,aU,bV⟩:=lR ah aq aC aR aH aU bV;have cU:=aL;clear aL;replace hs:St g _ [.obj bm (eA (nu []))]:=hs;apply bW;apply aD;apply cM;refine ak rfl rfl (au RN (fun _=>trivial) rfl rfl rfl rfl rfl (HQ b2 _) ?_);rintro g6 _ lz ⟨bp,rfl,Mw⟩;replace hs:=hs.call lz;have ah:=lz.le;obtain⟨aq,aC,aR,cU,aH,aU⟩:=lR ah aq aC aR cU aH aU;replace bV:=bV.mono ah;apply bW;apply aG;refine uh (N:=28) hs rfl Nc (Fe bp b2 b sl g6 Mw aC aH).UG rfl (fun _=>rfl)
  (sA b a sl bm b2 b3 b5 g) (fun _ _ _ _=>False) sA.mono (fun _ _ _ _ _ _ h=>h) ⟨rfl,cU,aC,aR,bV,aU,aq⟩
  (fun pre x L la g'=>(∃b6,la=[(5,.pointer (some ⟨b5,0,none⟩)),(3,.pointer (some ⟨b3,0,none⟩)),(6,.pointer (some ⟨b6,0,none⟩))]∧EP g' b6 0 (fr x b2))∧sA b a sl bm b2 b3 b5 g pre L g')
  (fun _ _ _ _ _ _ hle ⟨⟨b6,e,h1⟩,h2⟩=>⟨⟨b6,e,h1.mono hle⟩,sA.mono _ _ _ _ hle h2⟩) ?_ ?_ ?_ ?_
 ·rintro lp D ro pre x gr Lr M jf hle hs hI;have cC:=G.le.refl gr;apply aA;refine ak rfl rfl (aK T.ok rfl hs rfl rfl ?_);clear hs;rintro b6 g1 hs ah;replace cC:=G.le.trans cC ah;refine bA rfl (az T.ok 0 rfl hs rfl rfl rfl rfl rfl rfl rfl rfl rfl ?_);replace hs:=hs;rintro g1 hs ah;replace cC:=G.le.trans cC ah;obtain⟨g2,bL,aT,ah,aL⟩:=hs.ba (i:=0) rfl;replace hs:=aT;clear aT;rw[←bL];replace cC:=G.le.trans cC ah;apply aE;exact fun a ha=>⟨_,Lr,_,rfl,cC,hs,⟨⟨b6,rfl,aL⟩,sA.mono _ _ _ _ cC hI⟩,ha.keep (by(repeat (first|exact trivial|refine⟨rfl,?_⟩)))⟩
 ·rintro lp D ro pre x gr Lr la M jf hle hs ⟨⟨b6,rfl,aC⟩,rfl,aR,df,cU,bV,aU,aq⟩;have cC:=G.le.refl gr;have Ff:(pre++[x]).foldl (nT b a) []=if ug b x a&& !Ck b x a.time then zv x.idn (pre.foldl (nT b a) [])else pre.foldl (nT b a) []:=by rw[List.foldl_append];rfl
  generalize pre.foldl (nT b a) []=M0 at*;apply aG;refine dz 2 [.z aC,.z cU] (St.start _) rfl ?_;refine ak rfl rfl (au RO (fun _=>trivial) rfl rfl rfl rfl rfl (CallsIn.kT rfl rfl rfl (HS x b2 b sl a _ df bV)) ?_);rintro g7 _ AJ rfl;replace hs:=hs.call AJ;have ah:=AJ.le;obtain⟨aq,cC,aC,aR,cU,aU⟩:=lR ah aq cC aC aR cU aU;obtain⟨df,bV⟩:=cf ah df bV;cases h1:ug b x a with
  |false=>
   rw[h1]at Ff;refine bj rfl ?_;refine aV rfl rfl ?_;apply aF;apply bR;exact fun a' ha=>⟨_,_,rfl,hs,cC,[.obj bm (eA (nu (M0)))],rfl,by rw[Ff];rfl,aR,df,cU,bV,aU,aq⟩
  |true=>
   rw[h1]at Ff;refine Wm 4 [.z aC,.z cU] (St.start _) rfl ?_;clear AJ;refine ak rfl rfl (au RP (fun _=>trivial) rfl rfl rfl rfl rfl (CallsIn.kT rfl rfl rfl (KS x b2 b sl a.time _ df aU)) ?_);rintro g8 _ AJ rfl;replace hs:=hs.call AJ;have ah:=AJ.le;obtain⟨aq,cC,aC,aR,cU,aU⟩:=lR ah aq cC aC aR cU aU;obtain⟨df,bV⟩:=cf ah df bV;cases h2:Ck b x a.time with
   |true=>
    rw[h2]at Ff;refine bj rfl ?_;refine aV rfl rfl ?_;apply aF;apply bR;exact fun a' ha=>⟨_,_,rfl,hs,cC,[.obj bm (eA (nu (M0)))],rfl,by rw[Ff];rfl,aR,df,cU,bV,aU,aq⟩
   |false=>
    rw[h2]at Ff;refine bj rfl ?_;refine aM rfl rfl ?_;apply aA;refine Wm 4 [.z aR,.z aC] (St.start _) rfl ?_;refine ak rfl rfl (aQ T.ok rfl (vs:=[]) (cells:=[]) rfl rfl rfl rfl [] rfl (by kernel_rfl) ?_);refine bA rfl (dK O9 2 (.inl rfl) hs rfl rfl (a:=x.idn) rfl rfl ?_);clear hs;intro g9 hs ah;obtain⟨aq,cC,aC,aR,cU,aU⟩:=lR ah aq cC aC aR cU aU;obtain⟨df,bV⟩:=cf ah df bV;replace hs:St g g9 (.obj lp (ro .busy):: .obj D fK::([.obj bm (eA (jk x.idn (.agg #[]) (nu M0)))]++M)):=hs;rw[zw]at hs;apply aE;apply bR;exact fun a' ha=>⟨_,_,rfl,hs,cC,[.obj bm (eA (nu (zv x.idn M0)))],rfl,by rw[Ff];rfl,aR,df,cU,bV,aU,aq⟩
 ·rintro lp D o xs Lr ge rfl hle hs ⟨rfl,aC,_,_,_,_,aq⟩;have hM:=wD b a (rO b) [];have hh:(rO b).length≤1000000:=Nat.le_trans (List.length_filter_le ..) (hb 6);unfold mM Cl;generalize(rO b).foldl (nT b a) []=m at*;have HT:m.length≤1000000:=by simp only[List.length_nil]at hM;omega
  obtain⟨g8,Ei,yW,ah,kU⟩:=E6 hs (i:=2) rfl;rw[←Ei];clear hs;replace hs:=yW;clear yW;replace aC:=aC.mono ah;clear Ei;apply bR;apply ar;refine dz 1 [.z aC] (St.start _) rfl ?_;refine ak rfl rfl (au RR (fun _=>trivial) rfl rfl rfl rfl rfl (KT bm m _) ?_);rintro g9 _ JU ⟨bq,rfl,Wr⟩;replace hs:=hs.call JU;have ah:=JU.le;replace kU:=kU.mono ah;skip;refine ak rfl rfl (au RQ (fun _=>trivial) rfl rfl rfl rfl rfl (Dn Nh (fun pre h=>Nat.le_trans h HT) HT _ (HU bq bm m _ Wr kU)) ?_);rintro g10 v10 O_ AT;obtain⟨g11,O',Pa,ah,rM⟩:=hs.nU O_ AT;have ah:=O_.le.trans ah;rw[←O'];clear hs;replace hs:=Pa;clear Pa;clear O';refine bj rfl ?_;refine aI ?_;skip;exact Fg 1 rfl hs rfl rfl (fun g' jo fw=>jo.ret (rM.mono fw))
 rintro c lp D o pre Lr ge _ _ _ h;exact h.elim
end Go.Proofs.YtgehbndkogohpaaGreatDoor
namespace Go.Proofs.YtgehbndkogohpaaGreatDoor
open Go Go.K
set_option maxRecDepth 10000
attribute [local irreducible] W WL cD bc bK bd bg bh cq ck
set_option maxHeartbeats 1000000
theorem A9(g:G)(xs:List bH): ∀u∈fl xs,u.oneCell'=true:=cG.one (cG.fl g xs)
theorem Fh(v:Value)(xs:List bH)(g:G)(aH:Rs g v xs)(hlen:xs.length≤1000000):
  CallsIn Wd 0 Tryz.prog 97 #[v] g.w (cF g (km 34 g xs)):=by
 obtain⟨ad,n,c,rfl,hn,hc,hr⟩:=id aH;have hs:=St.start g;have aq:=G.le.refl g;refine enter Tryz.func97 rfl Tryz.ntmps97 rfl ?_;refine aY rfl ?_;apply aD;refine cN 1 rfl ?_;refine ak rfl rfl (fW T.ok (neg:=false) rfl rfl rfl rfl rfl ?_);apply bW;cases ad with
 |none=>
  refine aM rfl rfl ?_;refine aY rfl ?_;refine aI (aX rfl rfl (hs.ret ?_));have:xs=[]:=by
   rcases hr with h|⟨b,o,cells,h,_⟩
   ·exact List.eq_nil_of_length_eq_zero (by omega)
   cases h
  subst this;exact km.nil _ _ _ _
 |some ad=>
  refine aV rfl rfl ?_;apply aF;apply ar;apply cM;refine ak rfl rfl (bD T.ok rfl hs (vs:=[]) (cells:=[]) rfl rfl rfl rfl rfl rfl (by decide) (by decide) (by kernel_rfl) rfl ?_);rintro b2 g2 hs ah;replace aH:=aH.mono ah;refine Wp 1 rfl ?_;obtain⟨hm,news,d_,g_⟩:=Src.lq aH;subst hm;obtain rfl:=lA d_;refine ak rfl rfl (cd T.ok 0 rfl hs rfl rfl rfl rfl rfl rfl rfl (by decide) rfl g_ (A9 g xs) (by show(0+xs.length)*160≤_;omega) (by unfold maxLen;omega) ?_);rintro a' c' g3 hs ah;refine bj rfl ?_;exact aI (aX rfl rfl (hs.ret (hs.nK (i:=0) rfl (cG.fl _ _))))
theorem vA{p:bH→Bool}(xs:List bH)(k:Nat)(h:k<xs.length)(hp:p xs[k]=true)(dx: ∀j (h:j<xs.length),j<k→p xs[j]=false):
  xs.take k=(xs.take (k+1)).filter (fun x=> !p x):=by
 rw[List.take_succ_eq_append_getElem h,List.filter_append];have:(xs.take k).filter (fun x=> !p x)=xs.take k:=by rw[List.filter_eq_self];intro x hx;obtain⟨j,hj,rfl⟩:=List.mem_iff_getElem.1 hx;simp only[List.length_take]at hj;rw[List.getElem_take,dx j (by omega) (by omega)];rfl
 rw[this];simp[hp]
theorem HV(xs:List bH)(i:Nat):(fl xs).take (i*19)=fl (xs.take i):=by
 rcases Nat.lt_or_ge xs.length i with h|h
 ·rw[List.take_of_length_le (l:=xs) (by omega),List.take_of_length_le];rw[mN];show xs.length*19≤_;omega
 have e:=mN (xs.take i);rw[List.length_take,Nat.min_eq_left h]at e;conv=>lhs;rw[←List.take_append_drop i xs,lP]
 exact List.take_left' e
theorem Dp(p:bH→Bool)(g0 g:G)(L:List cS)(v fo:Value)(xs:List bH)(hs:St g0 g (.row 34 19 v xs.length (fl xs)::L))(hlen:xs.length≤1000000)(hp:zu fo p xs g):
  CallsIn Wd 0 Tryz.prog 96 #[v,fo] g.w (ek g fun g' v'=>St g0 g' (.row 34 19 v' (xs.filter fun x=> !p x).length (fl (xs.filter fun x=> !p x))::L)):=by
 have aq:=G.le.refl g;obtain⟨ad,cap,rfl⟩:=(hs.own 0 _ rfl).1.form;refine enter Tryz.func96 rfl Tryz.ntmps96 rfl ?_;refine aY rfl ?_;refine cN 2 rfl ?_;obtain⟨gf,SU,Mx,rM,Cm⟩:=hs.Pb (α:=bH) (i:=0) rfl (cG.fl _ _);rw[←SU];refine ak rfl rfl (au Kv aJ rfl rfl rfl rfl rfl (uf _ _ xs p gf rM (hp.mono Mx)) ?_);rintro g2 _ xN rfl;obtain⟨g3,pf,eW⟩:=Cm g2 xN;rw[←pf];replace hs:=hs.call eW;have ah:=eW.le;replace aq:=G.le.trans aq ah;refine bj rfl ?_;apply aD;refine aY rfl ?_;rcases mL p xs with⟨tB,dx⟩|⟨k0,AH,tB,xL,dx⟩
 ·refine aM (b:=lQ p xs== -1) (by simp[tB]) rfl ?_;refine aY rfl ?_;have KU:(xs.filter fun x=> !p x)=xs:=List.filter_eq_self.2 fun x hx=>by simp[dx x hx]
  rw[KU];exact aI (aX rfl rfl (ek.intro aq hs))
 refine aV (b:=lQ p xs== -1) (by simp only[tB,beq_eq_false_iff_ne];omega) rfl ?_;rw[tB];obtain⟨⟨b0,p0,rfl⟩,rP⟩:(∃b p,ad=some ⟨b,p,none⟩)∧xs.length≤cap∧cap≤maxLen:=by
  rcases(hs.own 0 _ rfl).1.2 with⟨h,_⟩|⟨b,q,c,cur,e1,_,_,h1,h2,_⟩
  ·omega
  simp only[Value.slice.injEq]at e1;obtain⟨rfl,_,rfl⟩:=e1;exact⟨⟨b,q,rfl⟩,h1,h2⟩
 unfold maxLen at rP;apply aF;apply ar;apply aD;refine aY rfl ?_;apply aG;refine bM (fun m a' w=> ∃(j i':Nat) (cs:List bH) (g':G),w=g'.w∧St g0 g' (fy 34 (some ⟨b0,p0,none⟩) xs.length cap cs::L)∧G.le g g'∧j≤xs.length∧m=xs.length-j∧
  cs.length=xs.length∧i'<j∧cs.take i'=(xs.take j).filter (fun x=> !p x)∧cs.drop j=xs.drop j∧
  Fr 42 [] [(0,.slice (some ⟨b0,p0,none⟩) xs.length cap),(1,fo),(5,.int .i64 i'),(6,.int .i64 j)] a') (xs.length-(k0+1))
  (fun a' ha=>⟨k0+1,k0,xs,g3,rfl,hs,aq,AH,rfl,rfl,Nat.lt_succ_self _,vA xs k0 AH xL dx,rfl,ha.keep ⟨rfl,rfl,rfl,kI rfl (by rw[wr (by omega) (by omega)];omega),trivial⟩⟩) ?_
 clear hs aq;rintro m a' _ ⟨j,i',cs,g',rfl,hs,aq,hj,rfl,fr,vv,fP,Fi,eF⟩;revert a';apply cI;apply aD;refine aY rfl ?_;by_cases bC:j<xs.length
 ·refine aM (b:=decide ((j:Int)<(xs.length:Int))) (by simp;omega) rfl ?_;have SV:cs[j]? =some xs[j]:=by have:=congrArg (fun l=>l[0]?) Fi;simpa [List.getElem?_eq_getElem bC]using this
  apply aF;apply ar;apply aD;apply aG;refine cN 2 rfl ?_;refine ak rfl rfl (cX (α:=bH) 0 rfl hs rfl (by omega) (by omega) rfl rfl rfl rfl rfl rfl ?_);rintro b q hh;obtain⟨rfl,rfl⟩:b0=b∧p0=q:=by simpa using hh
  rw[Int.toNat_natCast];refine ak rfl rfl (dV (α:=bH) 0 rfl hs rfl rfl (j:=j) SV rfl rfl rfl ?_);have xO:=List.getElem_mem bC;have HW:(xs.take (j+1)).filter (fun x=> !p x)=(xs.take j).filter (fun x=> !p x)++(if p xs[j]then []else [xs[j]]):=by rw[List.take_succ_eq_append_getElem bC,List.filter_append];cases SW:p xs[j]<;>simp[SW]
  have Fj:cs.drop (j+1)=xs.drop (j+1):=by have:=congrArg (List.drop 1) Fi;simpa [List.drop_drop]using this
  generalize xs[j]=x at*;refine ak rfl rfl (aK T.ok rfl hs rfl rfl ?_);clear hs;rintro b7 g1 hs ah;replace aq:=G.le.trans aq ah;refine bA rfl (az T.ok 0 rfl hs rfl rfl rfl rfl rfl rfl rfl rfl rfl ?_);replace hs:=hs;rintro g1 hs ah;replace aq:=G.le.trans aq ah;obtain⟨g2,bL,aT,ah,aL⟩:=hs.ba (i:=0) rfl;replace hs:=aT;clear aT;rw[←bL];replace aq:=G.le.trans aq ah;have aC:=aL;clear aL;replace hs:St g0 _ (fy 34 (some ⟨b0,p0,none⟩) xs.length cap cs::L):=hs;apply bW;refine dz 2 [.z aC] (St.start _) rfl ?_;refine ak rfl rfl (eE rfl rfl rfl rfl rfl rfl (hp _ x xO aq) ?_);rintro g4 _ ki rfl;replace hs:=hs.call ki;have ah:=ki.le;obtain⟨aq,aC⟩:=cf ah aq aC;cases hb:p x with
  |true=>
   refine bj rfl ?_;refine aV rfl rfl ?_;rw[hb,if_pos rfl,List.append_nil]at HW;apply aF;apply bR;apply ar;apply aA;refine Wp 3 rfl ?_;apply aE;exact fun a ha=>⟨xs.length-(j+1),by omega,j+1,i',cs,_,rfl,hs,aq,by omega,rfl,fr,by omega,by rw[fP,HW],Fj,ha.keep ⟨rfl,rfl,rfl,kI rfl (by rw[wr (by omega) (by omega)];omega),trivial⟩⟩
  |false=>
   refine bj rfl ?_;refine aM rfl rfl ?_;rw[hb,if_neg (by simp)]at HW;refine dz 3 [.z aC] (St.start _) rfl ?_;refine ak rfl rfl (cX (α:=bH) 0 rfl hs rfl (by omega) (by omega) rfl rfl rfl rfl rfl rfl ?_);rintro b q hh;obtain⟨rfl,rfl⟩:b0=b∧p0=q:=by simpa using hh
   rw[Int.toNat_natCast];refine bA rfl (gw (α:=bH) 0 rfl hs rfl rfl rfl (v:=x) (j:=i') (by omega) rfl rfl ?_);clear hs;intro g5 hs ah;replace aq:=G.le.trans aq ah;replace hs:St g0 g5 (fy 34 (some ⟨b0,p0,none⟩) xs.length cap (cs.set i' x)::L):=hs;apply bW;apply aA;refine Wp 3 rfl ?_;apply aE;apply bR;apply ar;apply aA;refine Wp 3 rfl ?_;apply aE;exact fun a ha=>⟨xs.length-(j+1),by omega,j+1,i'+1,cs.set i' x,_,rfl,hs,aq,by omega,rfl,by simp[fr],by omega,
    by rw[HW,←fP,pg (by omega)],
    by rw[List.drop_set_of_lt (by omega)];exact Fj,ha.keep ⟨rfl,rfl,kI rfl (by rw[wr (by omega) (by omega)];omega),kI rfl (by rw[wr (by omega) (by omega)];omega),trivial⟩⟩
 refine aV (b:=decide ((j:Int)<(xs.length:Int))) (by simp;omega) rfl ?_;obtain rfl:j=xs.length:=by omega
 rw[List.take_length]at fP;apply bF;apply bG;apply bG;apply c_;apply ar;refine cN 2 rfl ?_;refine ak rfl rfl (kF T.ok rfl rfl rfl rfl rfl (a:=i') (b:=xs.length) ⟨_,rfl⟩ rfl (by omega) (by omega) ?_);refine bA rfl (wE T.ok 0 (a:=i') (xs':=fl (cs.take i')++(List.replicate (xs.length-i') (cg iy)).flatten) rfl hs rfl rfl rfl rfl rfl rfl (by decide) rfl (by decide) ?_ (by omega) (by rw[HV];rfl) ?_)
 ·by_cases SX:cap=i'
  ·exact .inl (by omega)
  right;rw[if_neg SX];simp[Addr.add_lit]
 clear hs;rintro g5 hs ah;replace aq:=G.le.trans aq ah;apply bW;refine cN 2 rfl ?_;refine ak rfl rfl (kF T.ok rfl rfl rfl rfl rfl (a:=0) (b:=i') rfl ⟨_,rfl⟩ (by omega) (by omega) ?_);refine bj rfl ?_;refine aI (aX rfl rfl (ek.intro aq ?_));have uj:=hs.zx (i:=0) (a:=i') rfl (by omega);have hl:(xs.filter fun x=> !p x).length=i':=by rw[←fP,List.length_take];omega
 rw[hl,←fP];have he:List.take (i'*19) (fl (cs.take i')++(List.replicate (xs.length-i') (cg iy)).flatten)=fl (cs.take i'):=by rw[List.take_left' (by rw[mN,List.length_take];show _*19=_;omega)]
 rw[he]at uj;exact uj
def lS(b:gn)(w time:Int):List bH:=(mc b w).filter fun f=> !decide (time<f.time)
theorem rQ{b:gn}(hb:Fc b)(w:Int):(mc b w).length≤1000000:=by
 unfold mc;split
 ·rw[fT];exact Nat.le_trans (List.length_filter_le ..) (hb 0)
 simp
theorem Fk(x:bH)(time:Int)(b1:Nat)(g:G)(aC:EP g b1 0 [.int .i64 time]):CallsIn Wd 0 Tryz.prog 98 #[fv x,.pointer (some ⟨b1,0,none⟩)] g.w (cF g fun _ r=>r= .bool (decide (time<x.time))):=by have hs:=St.start g;refine enter Tryz.func98 rfl Tryz.ntmps98 rfl ?_;apply cM;refine ak rfl rfl (aO rfl hs rfl rfl ?_);clear hs;rintro b2 g1 hs ah;replace aC:=aC.mono ah;obtain⟨g2,bL,aT,ah,aL⟩:=hs.ba (i:=0) rfl;replace hs:=aT;clear aT;rw[←bL];replace aC:=aC.mono ah;have aR:=aL;clear aL;refine bj rfl ?_;refine l_ [.z aR,.z aC] (St.start _) rfl ?_;exact aI (aX rfl rfl (hs.ret rfl))
theorem Cn(v:Value)(b:gn)(w time:Int)(g:G)(bV:mG g v b)(hb:Fc b):CallsIn Wd 0 Tryz.prog 30 #[v,.int .i64 w,.int .i64 time] g.w (cF g fun g' r=>Rs g' r (lS b w time)):=by
 have hs:=St.start g;have aq:=G.le.refl g;obtain⟨sl,rfl,kx⟩:=bV;have bV:mG g (.agg ((List.range 11).map sl).toArray) b:=⟨sl,rfl,kx⟩
 refine enter Tryz.func30 rfl Tryz.ntmps30 rfl ?_;apply cM;refine ak rfl rfl (aO rfl hs rfl rfl ?_);clear hs;rintro b2 g1 hs ah;replace bV:=bV.mono ah;obtain⟨g2,bL,aT,ah,aL⟩:=hs.ba (i:=0) rfl;replace hs:=aT;clear aT;rw[←bL];replace bV:=bV.mono ah;have aC:=aL;clear aL;skip;refine ak rfl rfl (aO rfl hs rfl rfl ?_);clear hs;rintro b3 g1 hs ah;obtain⟨aC,bV⟩:=cf ah aC bV;obtain⟨g2,bL,aT,ah,aL⟩:=hs.ba (i:=0) rfl;replace hs:=aT;clear aT;rw[←bL];obtain⟨aC,bV⟩:=cf ah aC bV;have aR:=aL;clear aL;refine bj rfl ?_;refine dz 2 [.z aC] (St.start _) rfl ?_;refine ak rfl rfl (au MW aJ rfl rfl rfl rfl rfl (Fl _ b w _ bV hb) ?_);rintro g1 _ aP aH;replace hs:=hs.call aP;have ah:=aP.le;replace aR:=aR.mono ah;have My:=rQ hb w;unfold lS;generalize mc b w=h at*;clear aP;refine ak rfl rfl (au Sm aJ rfl rfl rfl rfl rfl (Fh _ h _ aH My) ?_);rintro g6 v6 lz ⟨cells,hh,hr⟩;obtain rfl:=lA hr;replace hs:=hs.ft lz hh;have ah:=lz.le;replace aR:=aR.mono ah;clear hr hh lz;refine Wp 1 rfl ?_;refine ak rfl rfl (du Sl aJ rfl rfl rfl rfl rfl (Dp (fun f=>decide (time<f.time)) g _ _ v6 _ h hs My (fun g' x _ hle=>cW (first:=#[]) (args:=[fv x]) (captured:=#[.pointer (some ⟨b3,0,none⟩)]) Sn rfl (Fk x time b3 g' (aR.mono hle)))) ?_);clear hs;rintro g7 v7 ah hs;obtain⟨g8,Ei,yW,ah,rM⟩:=hs.cK (α:=bH) (i:=0) rfl (cG.fl _ _);rw[←Ei];clear hs;replace hs:=yW;clear yW;clear Ei;refine bj rfl ?_;exact aI (aX rfl rfl (hs.ret rM))
end Go.Proofs.YtgehbndkogohpaaGreatDoor
namespace Go.Proofs.YtgehbndkogohpaaGreatDoor
def i_(l:List Int):Int:=l.getLastD 0
def mJ(live:List Bool)(first:Int)(l:List Int):List Int→List (List Int)→List Bool→Option (List (List Int)×List Bool)
 |[],q,seen=>some (q,seen)
 |n::r,q,seen=>
  if n=first then none
  else if first<n∧live.getD n.toNat false=true∧seen.getD n.toNat true=false then mJ live first l r (q++[l++[n]]) (seen.set n.toNat true)
  else mJ live first l r q seen
def zq(f:bQ)(live:List Bool)(first:Int):Nat→List (List Int)→List Bool→List Int
 |_,[],_=>[]
 |0,_::_,_=>[]
 |k+1,l::rest,seen=>
  match mJ live first l (cn f (i_ l)).next rest seen with
  |none=>l
  |some (q,iu)=>zq f live first k q iu
def qC(f:bQ)(live:List Bool)(first:Int):List Int:=zq f live first (1+f.steps.length) [[first]] (List.replicate f.steps.length false)
end Go.Proofs.YtgehbndkogohpaaGreatDoor
namespace Go.Proofs.YtgehbndkogohpaaGreatDoor
open Go Go.K
set_option maxRecDepth 10000
attribute [local irreducible] W WL cD bc bK bd bg bh cq ck
set_option maxHeartbeats 2000000
def Iq(v:Value)(n:Nat)(cells:List Value):cS:=.row 43 1 v n cells
def mQ(off:Nat)(s:Step):Fact:=
 ⟨fun v g=> ∃b p ys,v= .pointer (some ⟨b,p+off,none⟩)∧EP g b p ys∧qD g ys s,fun _ _ _ hf ⟨b,p,ys,e,h1,h2⟩=>⟨b,p,ys,e,h1.mono hf.le,El.mono (α:=Step) hf.le h2⟩⟩
def FX(n:Int):Fact:=
 ⟨fun v g=> ∃b p,v= .pointer (some ⟨b,p,none⟩)∧EP g b p [.int .i64 n],fun _ _ _ hf ⟨b,p,e,h1⟩=>⟨b,p,e,h1.mono hf.le⟩⟩
theorem Im(v lv:Value)(f:bQ)(live:List Bool)(first:Int)(g:G)(dj:ff g v f)(bS:Rs g lv live)(fu:valid f=true)(Ej:live.length=f.steps.length)(h0:0≤first)(h1:first<f.steps.length):
  CallsIn Wd 0 Tryz.prog 56 #[v,lv,.int .i64 first] g.w (cF g fun g' r=>Rs g' r (qC f live first)):=by
 obtain⟨a1,n1,c1,a2,n2,c2,rfl,aH,aU⟩:=id dj;obtain⟨_,_,e⟩:=aH.isSlice;obtain⟨rfl,rfl,rfl⟩:=Value.slice.inj e;clear e;obtain⟨a3,c3,rfl⟩:=bS.isSlice;have PH:=ml fu;have hs:=St.start g;have aq:=G.le.refl g;refine enter Tryz.func56 rfl Tryz.ntmps56 rfl ?_;apply cM;refine ak rfl rfl (aO rfl hs rfl rfl ?_);clear hs;rintro bf g1 hs ah;obtain⟨aH,aU,bS⟩:=dy ah aH aU bS;obtain⟨g2,bL,aT,ah,aL⟩:=hs.ba (i:=0) rfl;replace hs:=aT;clear aT;rw[←bL];obtain⟨aH,aU,bS⟩:=dy ah aH aU bS;have aC:=aL;clear aL;refine bj rfl ?_;refine cN 1 rfl ?_;refine ak rfl rfl (bD T.ok rfl hs (vs:=[(0,.int .i64 first)]) (cells:=[.int .i64 first]) rfl rfl rfl rfl rfl rfl (by decide) (by decide) (by kernel_rfl) rfl ?_);rintro b2 g2 hs ah;obtain⟨aC,aH,aU,bS⟩:=eS ah aC aH aU bS;obtain⟨g3,pf,vn,qI,ny⟩:=hs.cK (α:=Int) (xs:=[first]) (i:=0) rfl (cG.ints _ [first]);clear ah;have ah:=qI;rw[←pf];replace hs:=vn;obtain⟨aC,aH,aU,bS⟩:=eS ah aC aH aU bS;skip;refine ak rfl rfl (bD T.ok rfl hs (vs:=[(0,.slice (some ⟨b2,0,none⟩) 1 1)]) (cells:=[.slice (some ⟨b2,0,none⟩) 1 1]) rfl rfl rfl rfl rfl rfl (by decide) (by decide) (by kernel_rfl) rfl ?_);rintro b3 g4 hs ah;obtain⟨aC,aH,aU,bS⟩:=eS ah aC aH aU bS;replace ny:=ny.mono ah;refine bj rfl ?_;refine dz 3 [.z aC] (St.start _) rfl ?_;refine ak rfl rfl (qJ T.ok rfl hs rfl rfl rfl rfl rfl rfl (by decide) rfl (by show 1*f.steps.length≤_;omega) (by unfold maxLen;omega) ?_);rintro ob g1 hs ah;obtain⟨aC,aH,aU,bS⟩:=eS ah aC aH aU bS;replace ny:=ny.mono ah;refine bj rfl ?_;apply aD;apply aG;have yS:(List.replicate f.steps.length [Value.bool false]).flatten=(List.replicate f.steps.length false).map Value.bool:=by simp
 have dH:St g g1 [pT ob f.steps.length (List.replicate f.steps.length false),Iq (.slice (some ⟨b3,0,none⟩) 1 1) 1 [.slice (some ⟨b2,0,none⟩) 1 1]]:=by unfold pT Iq;rw[←yS];exact hs
 clear hs;have pK:=aC;have nL:=aH;have Lg:=bS;have cC:=G.le.refl g1;refine bM (fun m a' w=> ∃(q:List (List Int)) (cells:List Value) (seen:List Bool) (qv:Value) (g':G),w=g'.w∧St g g' [pT ob f.steps.length seen,Iq qv q.length cells]∧G.le g1 g'∧cG g' cells q∧
   m=q.length+seen.count false∧seen.length=f.steps.length∧(∀l∈q,l≠[]∧0≤i_ l∧i_ l<f.steps.length∧l.length+m≤f.steps.length+2)∧
   zq f live first m q seen=qC f live first∧
   Fr 75 [] [(1,.slice a3 live.length c3),(2,.int .i64 first),(3,.pointer (some ⟨bf,0,none⟩)),(7,qv),(8,.slice (some ⟨ob,0,none⟩) f.steps.length f.steps.length)] a') (1+f.steps.length)
  (fun a' ha=>⟨[[first]],_,_,_,g1,rfl,dH,cC,⟨[_],[],rfl,⟨_,rfl,ny⟩,rfl⟩,by simp,by simp,by intro l hl;simp at hl;subst hl;refine⟨by simp,h0,h1,by simp;omega⟩,rfl,ha.keep (by(repeat (first|exact trivial|refine⟨rfl,?_⟩)))⟩) ?_
 clear dH aq cC;rintro m a' _ ⟨q,cells,seen,qv,g',rfl,hs,cC,d_,rfl,kx,hq,dx,eF⟩;have aC:=pK.mono cC;have aH:=nL.mono cC;have bS:=Lg.mono cC;obtain⟨qa,qc,rfl⟩:=(hs.own 1 _ rfl).1.form;revert a';apply cI;apply aD;refine aY rfl ?_;cases q with
 |nil=>
  refine aV (b:=decide ((0:Int)<([]:List (List Int)).length)) (by simp) rfl ?_;apply bF;apply bG;apply bG;apply c_;apply ar;refine aY rfl ?_;refine aI (aX rfl rfl (hs.ret ?_));rw[←dx,zq];exact Rs.nil _
 |cons l rest=>
  refine aM (b:=decide ((0:Int)<(l::rest).length)) (by simp) rfl ?_;obtain⟨_,Lo,rfl,⟨vl,rfl,ny⟩,CD⟩:=d_;obtain⟨En,Mp,wo,Q9⟩:=hq l List.mem_cons_self;have U1:0<l.length:=List.length_pos_iff.2 En;have JR:(l::rest).length+seen.count false=(rest.length+seen.count false)+1:=by simp;omega
  rw[JR]at dx Q9;rw[zq]at dx;have WY:=(hs.own 1 _ rfl).1;have rP:(l::rest).length≤qc:=by
   rcases WY.2 with⟨h,_⟩|⟨b,p,cap,cur,e1,_,_,h2,_⟩
   ·simp at h
   simp only[Value.slice.injEq]at e1;omega
  apply aF;apply ar;apply aG;refine cN 1 rfl ?_;refine ak rfl rfl (dC T.ok rfl (hs.own 1 _ rfl).1 (by decide) (by simp) rfl rfl rfl rfl rfl rfl ?_);rintro bq pq rfl;refine ak rfl rfl (dL T.ok (Int.toNat 0*1) rfl (hs.own 1 _ rfl).1 rfl (v:=vl) rfl ?_);refine bj rfl ?_;refine cN 1 rfl ?_;refine ak rfl rfl (kF T.ok rfl rfl rfl rfl rfl (a:=1) (b:=(l::rest).length) ⟨_,rfl⟩ rfl (by simp) rP ?_);replace hs:=hs.cutFrom (i:=1) (a:=1) rfl (by simp);refine bj rfl ?_;apply aD;obtain⟨al,cl,rfl⟩:=ny.isSlice;have Ti:=ny.dJ;unfold maxLen at Ti;have PU:dS l (IntKind.i64.wrap ((l.length:Int)-1))=some (i_ l):=by rw[cZ (j:=l.length-1) (by rw[wr (by omega) (by omega)];omega) (by omega)];unfold i_;rw[List.getLastD_eq_getLast?,List.getLast?_eq_getElem?,List.getElem?_eq_getElem (by omega)];rfl
  apply ea (iY (eQ (.f (FX (i_ l))::(fe (.f (mQ 0 (cn f (i_ l)))::(.f (mQ 4 (cn f (i_ l)))::(.f (Fact.rs (cn f (i_ l)).next)::(eQ [])))))))) 13 [(10,37),(11,38),(12,39),(2,29)] (by kernel_rfl)
  ·refine Dm [[],[0],[],[],[3],[4]] [.e aC 2] (St.start _) (by kernel_rfl) rfl ?_;refine ay (an (js:=[(2,29),(5,32)]) (by kernel_rfl) fun gd hf=>?_) ?_
   ·have dG:=(G.bu _).trans hf.le;refine ai rfl ?_;refine ai rfl ?_;apply aj;refine aB rfl ?_;refine aW T.ok rfl (ny.mono dG) (y:=i_ l) PU rfl rfl rfl rfl rfl rfl ?_;intro b p ys aL d_;exact⟨_,rfl,a_.refl _,b,p,rfl,by rw[←show ys=[Value.int .i64 (i_ l)]from d_];exact aL⟩
   refine ay (an (js:=[(6,33)]) (by kernel_rfl) fun gd hf=>?_) ?_
   ·skip;refine aZ fun v6 h6=>?_;apply aj;obtain⟨b,p,rfl,aL⟩:=h6;refine aB rfl ?_;refine bJ T.ok 0 rfl aL rfl rfl ?_;refine⟨_,rfl,a_.refl _,?_⟩;exact rfl
   refine ay (an (js:=[(1,28),(7,34)]) (by kernel_rfl) fun gd hf=>?_) ?_
   ·have dG:=(G.bu _).trans hf.le;refine ai rfl ?_;refine ai rfl ?_;apply aj;refine aB rfl ?_;refine aW T.ok rfl (aH.mono dG) (y:=cn f (i_ l)) (by unfold cn;rw[cZ (j:=(i_ l).toNat) (by omega) (by omega)];simp[List.getD_eq_getElem?_getD,show(i_ l).toNat<f.steps.length from by omega]) rfl rfl rfl rfl rfl rfl ?_;intro b p ys aL d_;exact⟨_,rfl,a_.refl _,b,p,ys,rfl,aL,d_⟩
   refine ay (an (js:=[(8,35)]) (by kernel_rfl) fun gd hf=>?_) ?_
   ·skip;refine aZ fun v8 h8=>?_;apply aj;obtain⟨b,p,ys,rfl,aL,d_⟩:=h8;refine aB rfl ?_;refine aN _ T.ok rfl ?_;exact⟨_,rfl,a_.refl _,b,p,ys,rfl,aL,d_⟩
   refine ay (an (js:=[(9,36)]) (by kernel_rfl) fun gd hf=>?_) ?_
   ·skip;refine aZ fun v9 h9=>?_;apply aj;obtain⟨b,p,ys,rfl,aL,d_⟩:=h9;obtain⟨b1,b2,b3,b4,b5,b6,rfl,A2,Q7⟩:=d_;refine aB rfl ?_;refine bJ T.ok 4 rfl aL rfl rfl ?_;exact⟨_,rfl,a_.refl _,Q7⟩
   refine ay (an (js:=[(10,37)]) (by kernel_rfl) fun gd hf=>?_) ?_
   ·skip;refine aZ fun v10 AT=>?_;apply aj;obtain⟨a5,c5,rfl⟩:=Rs.isSlice AT;refine aB rfl ?_;refine aN _ T.ok rfl ?_;refine⟨_,rfl,a_.refl _,?_⟩;exact rfl
   exact Dy [[]] (by kernel_rfl) rfl
  intro g1 aP;refine aZ fun v10 AT=>?_;refine ai rfl ?_;refine ai rfl ?_;refine ai rfl ?_;apply aj;replace hs:=hs.dr.call aP;have ah:=(G.bu _).trans aP.le;obtain⟨cC,aC,aH,bS⟩:=eS ah cC aC aH bS;replace ny:=ny.mono ah;replace CD:=CD.mono ah;have cH:Rs g1 v10 (cn f (i_ l)).next:=AT
  obtain⟨a5,c5,rfl⟩:=cH.isSlice;have lO:=ud (mH fu Mp wo);have WZ:=tZ (mH fu Mp wo);generalize W1:(cn f (i_ l)).next=nx at*
  have Tj:=ny;have La:=aH;have FW:=bS;have Lh:=cH;have uF:=aC;have gM:=G.le.refl g1;apply bW;apply aG;refine bM (fun m a' w=> ∃(k:Nat) (q':List (List Int)) (ef:List Value) (iu:List Bool) (Tk:Value) (g':G),w=g'.w∧St g g' [pT ob f.steps.length iu,Iq Tk q'.length ef]∧G.le g1 g'∧cG g' ef q'∧
    k≤nx.length∧m=nx.length-k∧iu.length=f.steps.length∧q'.length+iu.count false=rest.length+seen.count false∧
    (∀l'∈q',l'≠[]∧0≤i_ l'∧i_ l'<f.steps.length∧l'.length+(rest.length+seen.count false)≤f.steps.length+2)∧
    mJ live first l (nx.drop k) q' iu=mJ live first l nx rest seen∧
    Fr 75 [] [(1,.slice a3 live.length c3),(2,.int .i64 first),(3,.pointer (some ⟨bf,0,none⟩)),(7,Tk),(8,.slice (some ⟨ob,0,none⟩) f.steps.length f.steps.length),(9,.slice al l.length cl),(37,.slice a5 nx.length c5),(38,.int .i64 nx.length),(39,.int .i64 k)] a') nx.length
   (fun a' ha=>⟨0,rest,Lo,seen,_,g1,rfl,hs,gM,CD,Nat.zero_le _,rfl,kx,rfl,fun l' Eg=>?_,by rw[List.drop_zero],ha.keep (by(repeat (first|exact trivial|refine⟨rfl,?_⟩)))⟩) ?_
  ·obtain⟨x1,x2,x3,x4⟩:=hq l' (List.mem_cons_of_mem _ Eg);exact⟨x1,x2,x3,by rw[JR]at x4;omega⟩
  clear hs gM CD ny aH bS cH aC;rintro m a' _ ⟨k,q',ef,iu,Tk,g',rfl,hs,gM,fm,hk,rfl,Lp,PV,Tl,CE,eF⟩;have aC:=uF.mono gM;have aH:=La.mono gM;have bS:=FW.mono gM;have cH:=Lh.mono gM;have aU:=Tj.mono gM;obtain⟨Y8,Y9,rfl⟩:=(hs.own 1 _ rfl).1.form;revert a';apply cI;refine aY rfl ?_;apply aD;by_cases bC:k<nx.length
  ·refine aM (b:=decide ((k:Int)<(nx.length:Int))) (by simp;omega) rfl ?_;rw[List.drop_eq_getElem_cons bC,mJ]at CE;obtain⟨Lt,Em⟩:=lO nx[k] (List.getElem_mem bC);apply aF;apply ar;apply aD;apply aG;apply cM;refine ak rfl rfl (aW T.ok rfl cH (y:=nx[k]) (by simp[dS,bC]) rfl rfl rfl rfl rfl rfl ?_);rintro b p ys aL rfl;refine Wm 1 [.e aL 0] (St.start _) rfl ?_;refine bj rfl ?_;apply aD;refine aY rfl ?_;by_cases Q_:nx[k]=first
   ·refine aM (b:=nx[k]==first) (by simp[Q_]) rfl ?_;rw[if_pos Q_]at CE;refine aY rfl ?_;refine aI (aX rfl rfl (hs.ret ?_));rw[←CE]at dx;rw[←dx];exact aU
   refine aV (b:=nx[k]==first) (by simp[Q_]) rfl ?_;rw[if_neg Q_]at CE;have HD:nx[k].toNat<live.length:=by omega
   have Ir:nx[k].toNat<iu.length:=by omega
   have W2:live.getD nx[k].toNat false=live[nx[k].toNat]:=by rw[List.getD_eq_getElem?_getD,List.getElem?_eq_getElem HD];rfl
   have W3:iu.getD nx[k].toNat true=iu[nx[k].toNat]:=by rw[List.getD_eq_getElem?_getD,List.getElem?_eq_getElem Ir];rfl
   rw[W2,W3]at CE;apply aF;apply ar;refine cN 4 rfl ?_;refine cp (want:=true) (x:=live[nx[k].toNat]) 4 aJ rfl rfl rfl rfl (.inl ⟨rfl,rfl,rfl⟩) rfl rfl rfl rfl (fun hb Q' eG=>?_) (fun g' hf=>?_)
   ·refine Wp 2 rfl ?_;refine ak rfl rfl (aW T.ok rfl bS (y:=live[nx[k].toNat]) (cZ (by omega) HD) rfl rfl rfl rfl rfl rfl ?_);rintro b p ys aL rfl;refine Wm 1 [.e aL 0] (St.start _) rfl ?_;apply aE;exact fun a ha=>eG _ a (a_.refl _) (ha.keep (by(repeat (first|exact trivial|refine⟨rfl,?_⟩))))
   replace hs:=hs.call hf;have ah:=hf.le;replace aU:=aU.mono ah;replace fm:=fm.mono ah;replace gM:=gM.trans ah;refine Wp 1 rfl ?_;refine cp (want:=true) (x:=!iu[nx[k].toNat]) 5 aJ rfl rfl rfl rfl (.inl ⟨rfl,rfl,rfl⟩) rfl rfl rfl rfl (fun hb Q' eG=>?_) (fun g' hf=>?_)
   ·refine Wp 2 rfl ?_;refine ak rfl rfl (dC T.ok rfl (hs.own 0 _ rfl).1 Lt (by omega) rfl rfl rfl rfl rfl rfl ?_);rintro b p hh;obtain⟨rfl,rfl⟩:ob=b∧0=p:=by simpa using hh
    refine ak rfl rfl (dL T.ok (nx[k].toNat*1) rfl (hs.own 0 _ rfl).1 rfl (v:=.bool (iu[nx[k].toNat])) (by show(List.map Value.bool _)[nx[k].toNat*1]? =_;rw[Nat.mul_one,List.getElem?_map,List.getElem?_eq_getElem Ir];rfl) ?_);refine Wp 1 rfl ?_;apply aE;exact fun a ha=>eG _ a (a_.refl _) (ha.keep (by(repeat (first|exact trivial|refine⟨rfl,?_⟩))))
   replace hs:=hs.call hf;have ah:=hf.le;replace aU:=aU.mono ah;replace fm:=fm.mono ah;replace gM:=gM.trans ah;apply bW;by_cases wO:first<nx[k]∧live[nx[k].toNat]=true∧iu[nx[k].toNat]=false
   ·refine aM (b:=(decide (first<nx[k])&&live[nx[k].toNat])&& !iu[nx[k].toNat]) (by simp[wO]) rfl ?_;rw[if_pos wO]at CE;have W4:=Q9;refine cN 2 rfl ?_;refine ak rfl rfl (dC T.ok rfl (hs.own 0 _ rfl).1 Lt (by omega) rfl rfl rfl rfl rfl rfl ?_);rintro b p hh;obtain⟨rfl,rfl⟩:ob=b∧0=p:=by simpa using hh
    refine bA rfl (gT T.ok 0 (nx[k].toNat*1) (us:=[.bool true]) rfl hs rfl rfl rfl rfl rfl rfl rfl (by decide) (by simp;omega) (xs':=(iu.set nx[k].toNat true).map Value.bool) ?_ ?_)
    ·rw[Nat.mul_one,List.map_set];unfold lh;rw[List.set_eq_take_append_cons_drop];simp[Ir]
    rintro g5 hs ah;replace aU:=aU.mono ah;replace fm:=fm.mono ah;replace gM:=gM.trans ah;apply bW;apply aA;refine Wp 2 rfl ?_;refine ak rfl rfl (au B4 aJ rfl rfl rfl rfl rfl (tC _ l _ aU (by omega)) ?_);rintro g6 v lz ⟨FV,MD,Ij⟩;replace hs:=hs.ft lz MD;have ah:=lz.le;replace fm:=fm.mono ah;replace gM:=gM.trans ah;obtain⟨ca,cc,rfl⟩:=(hs.own 0 _ rfl).1.form;refine Wp 1 rfl ?_;refine ak rfl rfl (bD T.ok rfl hs (vs:=[(0,.int .i64 nx[k])]) (cells:=[.int .i64 nx[k]]) rfl rfl rfl rfl rfl rfl (by decide) (by decide) (by kernel_rfl) rfl ?_);rintro b2 g7 hs ah;replace fm:=fm.mono ah;replace gM:=gM.trans ah;replace Ij:=Ij.mono ah;skip;refine ak rfl rfl (cd T.ok 1 rfl hs rfl rfl rfl rfl rfl rfl rfl (by decide) rfl (Src.fL (hs.own 0 _ rfl).1).2 (by simp[Value.oneCell']) (by show(l.length+1)*8≤_;omega) (by unfold maxLen;omega) ?_);rintro a' c' g8 hs ah;replace fm:=fm.mono ah;replace gM:=gM.trans ah;replace Ij:=Ij.mono ah;obtain⟨g9,Hh,Ch,Ig,B_⟩:=hs.cK (α:=Int) (xs:=l++[nx[k]]) (i:=1) rfl (cG.app (cG.ints _ [nx[k]]) Ij);clear ah;have ah:=Ig;rw[←Hh];replace hs:=Ch;replace fm:=fm.mono ah;replace gM:=gM.trans ah;skip;refine ak rfl rfl (bD T.ok rfl hs (vs:=[(0,.slice a' (l.length+1) c')]) (cells:=[.slice a' (l.length+1) c']) rfl rfl rfl rfl rfl rfl (by decide) (by decide) (by kernel_rfl) rfl ?_);rintro b3 g10 hs ah;replace fm:=fm.mono ah;replace gM:=gM.trans ah;replace B_:=B_.mono ah;skip;have nY:iu.count false≤iu.length:=List.count_le_length;refine ak rfl rfl (cd T.ok 3 rfl hs rfl rfl rfl rfl rfl rfl rfl (by decide) rfl (Src.fL (hs.own 0 _ rfl).1).2 (by simp[Value.oneCell']) (by show(q'.length+1)*24≤_;omega) (by unfold maxLen;omega) ?_);rintro a9 c9 g11 hs ah;replace fm:=fm.mono ah;replace gM:=gM.trans ah;replace B_:=B_.mono ah;refine Wp 1 rfl ?_;apply aE;apply bR;apply ar;apply aA;refine Wp 2 rfl ?_;apply aE;have W5:cG g11 (ef++[Value.slice a' (l.length+1) c']) (q'++[l++[nx[k]]]):=cG.app (α:=List Int) (ys:=[l++[nx[k]]]) (ds:=[Value.slice a' (l.length+1) c']) ⟨[Value.slice a' (l.length+1) c'],[],rfl,(show ∃v,[Value.slice a' (l.length+1) c']=[v]∧Rs g11 v (l++[nx[k]])from⟨_,rfl,B_⟩),rfl⟩ fm;refine fun a ha=>⟨nx.length-(k+1),by omega,k+1,q'++[l++[nx[k]]],ef++[.slice a' (l.length+1) c'],iu.set nx[k].toNat true,.slice a9 (q'.length+1) c9,_,rfl,?_,gM,
     W5,by omega,rfl,by simp[Lp],?_,?_,CE,ha.keep ⟨rfl,rfl,rfl,rfl,rfl,rfl,rfl,rfl,kI rfl (by rw[wr (by omega) (by omega)];omega),trivial⟩⟩
    ·have hd:=(hs.drop 0).drop 0;have:(q'++[l++[nx[k]]]).length=q'.length+1:=by simp
     rw[this];exact hd
    ·have:=mI (o:=iu) (i:=nx[k].toNat) (by rw[List.getElem?_eq_getElem Ir,wO.2.2]);simp;omega
    intro l' Eg;rcases List.mem_append.1 Eg with h|h
    ·exact Tl l' h
    simp at h;subst h;refine⟨by simp,?_,?_,by simp;omega⟩
    ·simpa [i_]using Lt
    simpa [i_]using Em
   refine aV (b:=(decide (first<nx[k])&&live[nx[k].toNat])&& !iu[nx[k].toNat]) ?_ rfl ?_
   ·rw[Bool.eq_false_iff];intro h;simp only[Bool.and_eq_true,decide_eq_true_eq,Bool.not_eq_true']at h;exact wO ⟨h.1.1,h.1.2,h.2⟩
   rw[if_neg wO]at CE;apply aF;apply bR;apply ar;apply aA;refine Wp 2 rfl ?_;apply aE;exact fun a ha=>⟨nx.length-(k+1),by omega,k+1,q',ef,iu,_,_,rfl,hs,gM,fm,by omega,rfl,Lp,PV,Tl,CE,ha.keep ⟨rfl,rfl,rfl,rfl,rfl,rfl,rfl,rfl,kI rfl (by rw[wr (by omega) (by omega)];omega),trivial⟩⟩
  refine aV (b:=decide ((k:Int)<(nx.length:Int))) (by simp;omega) rfl ?_;obtain rfl:k=nx.length:=by omega
  rw[List.drop_length,mJ]at CE;apply bF;apply bG;apply bG;apply c_;apply bR;rw[←CE]at dx;exact fun a ha=>⟨_,by rw[JR];exact Nat.lt_succ_self _,q',ef,iu,_,_,rfl,hs,cC.trans gM,fm,PV.symm,Lp,Tl,dx,ha.keep (by(repeat (first|exact trivial|refine⟨rfl,?_⟩)))⟩
end Go.Proofs.YtgehbndkogohpaaGreatDoor
namespace Go.Proofs.YtgehbndkogohpaaGreatDoor
def alive(f:bQ)(n:Int):Bool:=(ends f).any fun e=>(eg f n).getD e.toNat false
def wC(f:bQ)(l:List Int):Option Int:=l.find? fun n=> !alive f n
def ue(f:bQ)(xJ:List Int)(n:Int):List Int:=
 if 0<(qC f (eg f 0) n).length∧(xJ=[]∨(qC f (eg f 0) n).length<xJ.length)then qC f (eg f 0) n else xJ
def mb(f:bQ)(l:List Int):List Int:=l.foldl (ue f) []
def check(f:bQ):Int×List Int:=
 match wC f (reach f 0)with
 |some n=>(1,[n])
 |none=>if mb f (reach f 0)=[]then(0,[])else(2,mb f (reach f 0))
theorem A7(f:bQ)(l:List Int)(n:Int):mb f (l++[n])=ue f (mb f l) n:=by unfold mb;rw[List.foldl_append];rfl
def Gs(o:List Bool)(m:Int):Prop:=o.getD m.toNat false=true
def Lf(f:bQ)(m:Int):Prop:=0≤m∧m<f.steps.length
inductive Er(f:bQ):Int→Int→Prop where
 |refl (a:Int):Er f a a
 |step {a b c:Int}:Er f a b→c∈gA (cn f b)→Er f a c
theorem Er.trans{f:bQ}{a b c:Int}(h:Er f a b)(r:Er f b c):Er f a c:=by
 induction r with
 |refl=>exact h
 |step _ h2 ih=>exact .step ih h2
theorem Er.head{f:bQ}{a b c:Int}(h:b∈gA (cn f a))(r:Er f b c):Er f a c:=Er.trans (.step (.refl a) h) r
structure Zu(f:bQ)(src:Int→Prop)(o o':List Bool):Prop where
 len:o'.length=o.length
 mono: ∀m,Lf f m→Gs o m→Gs o' m
 fresh: ∀m,Lf f m→Gs o' m→ ¬Gs o m→(∃b,src b∧Er f b m)∧ ∀c∈gA (cn f m),Gs o' c
theorem DD{f:bQ}{n:Int}:given f [n]=true↔valid f=true∧Lf f n:=by unfold given oM Lf;simp
end Go.Proofs.YtgehbndkogohpaaGreatDoor
namespace Go.Proofs.YtgehbndkogohpaaGreatDoor
open Go Go.K
set_option maxRecDepth 10000
attribute [local irreducible] W WL cD bc bK bd bg bh cq ck
set_option maxHeartbeats 4000000
def CB(g:G)(v:Value)(p:Int×List Int):Prop:=∃a n c,v= .agg #[.int .i64 p.1,.slice a n c]∧Rs g (.slice a n c) p.2
theorem CB.mono{g g':G}{v:Value}{p:Int×List Int}(hle:g.le g')(h:CB g v p):CB g' v p:=by obtain⟨a,n,c,e,h1⟩:=h;exact⟨a,n,c,e,h1.mono hle⟩
def wK(g:G)(v:Value)(l:List Int):Prop:=(l=[]∧v= .slice none 0 0)∨(l≠[]∧ ∃a c,v= .slice (some a) l.length c∧Rs g v l)
theorem wK.mono{g g':G}{v:Value}{l:List Int}(h:wK g v l)(hle:g.le g'):wK g' v l:=by
 rcases h with h|⟨h1,a,c,h2,h3⟩
 ·exact .inl h
 exact .inr ⟨h1,a,c,h2,h3.mono hle⟩
theorem wK.of{g:G}{v:Value}{l:List Int}(h:Rs g v l)(h0:l≠[]):wK g v l:=by
 obtain⟨a,n,c,rfl,rfl,_,h3⟩:=id h;rcases h3 with h3|⟨b,o,cells,rfl,_⟩
 ·exact absurd (List.eq_nil_of_length_eq_zero h3) h0
 exact .inr ⟨h0,_,_,rfl,h⟩
theorem HZ(v:Value)(f:bQ)(g:G)(dj:ff g v f):
  CallsIn Wd 0 Tryz.prog 19 #[v] g.w (cF g fun g' r=>CB g' r (check f)):=by
 obtain⟨a1,n1,c1,a2,n2,c2,rfl,aH,aU⟩:=id dj;obtain⟨_,_,e⟩:=aH.isSlice;obtain⟨rfl,rfl,rfl⟩:=Value.slice.inj e;clear e;have hs:=St.start g;have aq:=G.le.refl g;refine enter Tryz.func19 rfl Tryz.ntmps19 rfl ?_;apply cM;refine ak rfl rfl (aO rfl hs rfl rfl ?_);clear hs;rintro bf g1 hs ah;obtain⟨aU,dj⟩:=cf ah aU dj;obtain⟨g2,bL,aT,ah,aL⟩:=hs.ba (i:=0) rfl;replace hs:=aT;clear aT;rw[←bL];obtain⟨aU,dj⟩:=cf ah aU dj;have aC:=aL;clear aL;skip;refine ak rfl rfl (aK T.ok rfl hs rfl rfl ?_);clear hs;rintro br g1 hs ah;obtain⟨aC,aU,dj⟩:=dy ah aC aU dj;apply bW;refine Ik ?_;apply aD;apply ea (fe (.f (Fact.rs (reach f 0))::(fe (.f (Fact.rs (ends f))::(.f (Fact.rs (reach f 0))::(.f (Fact.rs (ends f))::[])))))) 6 [(4,3),(5,4)] (by kernel_rfl)
 ·refine Dm [[]] [.e aC 0] (St.start _) (by kernel_rfl) rfl ?_;refine ay (an (js:=[(0,14)]) (by kernel_rfl) fun gd hf=>?_) ?_
  ·have dG:=(G.bu _).trans hf.le;refine ai rfl ?_;apply aj;refine aB rfl ?_;refine au M4 aJ rfl rfl rfl rfl rfl (CC _ f 0 _ (dj.mono dG)) fun g' v h1 h2=>?_;obtain⟨g2,e1,e2,e3,e4⟩:=(St.start gd).nU h1 h2;exact⟨g2,e1,e2.nC,e4⟩
  refine Dm [[]] [.e aC 0] (St.start _) (by kernel_rfl) rfl ?_;refine ay (an (js:=[(2,16)]) (by kernel_rfl) fun gd hf=>?_) ?_
  ·have dG:=(G.bu _).trans hf.le;refine ai rfl ?_;apply aj;refine aB rfl ?_;refine au RU aJ rfl rfl rfl rfl rfl (Le _ f _ (dj.mono dG)) fun g' v h1 h2=>?_;obtain⟨g2,e1,e2,e3,e4⟩:=(St.start gd).nU h1 h2;exact⟨g2,e1,e2.nC,e4⟩
  refine ay (an (js:=[(1,15),(1,15)]) (by kernel_rfl) fun gd hf=>?_) ?_
  ·skip;refine aZ fun v1 h1=>?_;refine aZ fun v1 h1=>?_;apply aj;refine aB rfl ?_;refine aN _ T.ok rfl ?_;exact⟨_,rfl,a_.refl _,h1⟩
  refine ay (an (js:=[(3,17),(3,17)]) (by kernel_rfl) fun gd hf=>?_) ?_
  ·skip;refine aZ fun v3 h3=>?_;refine aZ fun v3 h3=>?_;apply aj;refine aB rfl ?_;refine aN _ T.ok rfl ?_;exact⟨_,rfl,a_.refl _,h3⟩
  exact fD
 intro g1 aP;refine aZ fun v4 h4=>?_;refine aZ fun v5 h5=>?_;apply aj;replace hs:=hs.dr.call aP;have ah:=(G.bu _).trans aP.le;obtain⟨aC,aU,dj⟩:=dy ah aC aU dj;have bS:Rs g1 v4 (reach f 0):=h4;have cH:Rs g1 v5 (ends f):=h5;obtain⟨al,cl,rfl⟩:=bS.isSlice;obtain⟨ae,ce,rfl⟩:=cH.isSlice;have Ej:=wL f 0;have MG:(ends f).length≤40:=by unfold ends;exact Nat.le_trans (List.length_filter_le _ _) Ej
 have UW: ∀x∈reach f 0,valid f=true∧Lf f x:=fun x hx=>by
  have h1:=lD hx;unfold reach at hx;split at hx
  ·rename_i hg;exact⟨(DD.1 hg).1,h1⟩
  simp at hx
 have WT: ∀x∈ends f,Lf f x:=fun x hx=>by unfold ends at hx;exact lD (List.mem_filter.1 hx).1
 clear h4 h5;apply bW;apply aD;refine Il ?_;apply ar;apply aD;refine aY rfl ?_;apply aG;have Ta:=dj;have pK:=aC;have Lg:=bS;have Lh:=cH;have gM:=G.le.refl g1;refine bM (fun m a' w=> ∃(k:Nat) (g2:G),w=g2.w∧St g g2 [.obj br (.cells [.int .i64 0,.slice none 0 0].toArray 54 (0,0))]∧G.le g1 g2∧k≤(reach f 0).length∧m=(reach f 0).length-k∧wC f ((reach f 0).drop k)=wC f (reach f 0)∧
   Fr 74 [] [(1,.pointer (some ⟨bf,0,none⟩)),(2,.pointer (some ⟨br,0,none⟩)),(3,.slice al (reach f 0).length cl),(4,.slice ae (ends f).length ce),(18,.slice al (reach f 0).length cl),(19,.int .i64 (reach f 0).length),(20,.int .i64 k)] a') (reach f 0).length
  (fun a' ha=>⟨0,g1,rfl,hs,gM,Nat.zero_le _,rfl,by rw[List.drop_zero],ha.keep (by(repeat (first|exact trivial|refine⟨rfl,?_⟩)))⟩) ?_
 clear hs gM aC aH aU bS cH dj;rintro m a' _ ⟨k,g2,rfl,hs,gM,hk,rfl,dx,eF⟩;have aC:=pK.mono gM;have dj:=Ta.mono gM;have bS:=Lg.mono gM;have cH:=Lh.mono gM;revert a';apply cI;refine aY rfl ?_;apply aD;by_cases bC:k<(reach f 0).length
 ·refine aM (b:=decide ((k:Int)<((reach f 0).length:Int))) (by simp;omega) rfl ?_;rw[List.drop_eq_getElem_cons bC]at dx;unfold wC at dx;rw[List.find?_cons]at dx;obtain⟨fu,Ek⟩:=UW _ (List.getElem_mem bC);generalize fB:(reach f 0)[k]=n at*;apply aF;apply ar;apply aD;apply aG;apply cM;refine ak rfl rfl (aW T.ok rfl bS (y:=n) (by rw[cZ (j:=k) rfl bC,fB]) rfl rfl rfl rfl rfl rfl ?_);rintro b p ys aL rfl;refine Wm 1 [.e aL 0] (St.start _) rfl ?_;refine bj rfl ?_;refine dz 2 [.z aC] (St.start _) rfl ?_;refine ak rfl rfl (au Kz aJ rfl rfl rfl rfl rfl (rZ _ f n _ dj fu Ek.1 Ek.2) ?_);rintro g3 v eW dT;obtain⟨g4,MH,Hm,Tc,ny⟩:=hs.nU eW dT;have ah:=eW.le.trans Tc;rw[←MH];replace hs:=Hm;obtain⟨aC,bS,cH,dj⟩:=eS ah aC bS cH dj;replace gM:=gM.trans ah;obtain⟨am,cm,rfl⟩:=ny.isSlice;rw[gU]at ny;rw[gU];refine bj rfl ?_;apply aD;refine aY rfl ?_;apply aG;have Li:=dj;have uF:=aC;have FW:=bS;have Td:=cH;have Te:=ny;have jY:=G.le.refl g4;refine bM (fun m a' w=> ∃(j:Nat) (g5:G),w=g5.w∧St g g5 [.obj br (.cells [.int .i64 0,.slice none 0 0].toArray 54 (0,0))]∧G.le g4 g5∧j≤(ends f).length∧m=(ends f).length-j∧alive f n=((ends f).drop j).any (fun e=>(eg f n).getD e.toNat false)∧
    Fr 74 [] [(1,.pointer (some ⟨bf,0,none⟩)),(2,.pointer (some ⟨br,0,none⟩)),(3,.slice al (reach f 0).length cl),(4,.slice ae (ends f).length ce),(18,.slice al (reach f 0).length cl),(19,.int .i64 (reach f 0).length),(20,.int .i64 k),
     (6,.int .i64 n),(7,.slice am f.steps.length cm),(27,.slice ae (ends f).length ce),(28,.int .i64 (ends f).length),(29,.int .i64 j)] a') (ends f).length
   (fun a' ha=>⟨0,g4,rfl,hs,jY,Nat.zero_le _,rfl,rfl,ha.keep (by(repeat (first|exact trivial|refine⟨rfl,?_⟩)))⟩) ?_
  clear hs jY aC bS cH dj ny;rintro m a' _ ⟨j,g5,rfl,hs,jY,hj,rfl,A5,eF⟩;have aC:=uF.mono jY;have dj:=Li.mono jY;have bS:=FW.mono jY;have cH:=Td.mono jY;have aU:=Te.mono jY;revert a';apply cI;refine aY rfl ?_;apply aD;by_cases Lj:j<(ends f).length
  ·refine aM (b:=decide ((j:Int)<((ends f).length:Int))) (by simp;omega) rfl ?_;rw[List.drop_eq_getElem_cons Lj,List.any_cons]at A5;have Lk:=WT _ (List.getElem_mem Lj);generalize KV:(ends f)[j]=e at*;have PQ:e.toNat<(eg f n).length:=by rw[gU];have:=Lk.1;have:=Lk.2;omega
   have K8:(eg f n).getD e.toNat false=(eg f n)[e.toNat]:=by rw[List.getD_eq_getElem?_getD,List.getElem?_eq_getElem PQ];rfl
   rw[K8]at A5;apply aF;apply ar;apply aD;apply aG;apply cM;refine ak rfl rfl (aW T.ok rfl cH (y:=e) (by rw[cZ (j:=j) rfl Lj,KV]) rfl rfl rfl rfl rfl rfl ?_);rintro b p ys aL rfl;refine Wm 1 [.e aL 0] (St.start _) rfl ?_;refine bj rfl ?_;refine cN 2 rfl ?_;refine ak rfl rfl (aW T.ok rfl aU (y:=(eg f n)[e.toNat]) (cZ (by have:=Lk.1;omega) PQ) rfl rfl rfl rfl rfl rfl ?_);rintro b p ys aL rfl;refine Wm 1 [.e aL 0] (St.start _) rfl ?_;apply bW;cases hb:(eg f n)[e.toNat]with
   |true=>
    rw[hb,Bool.true_or]at A5;refine aM rfl rfl ?_;apply bF;((with_reducible refine Ll ?_ ?_);exact rfl);apply bG;apply bG;((with_reducible refine Ll ?_ ?_);exact rfl);apply bG;apply c_;apply ar;apply aA;refine Wp 2 rfl ?_;apply aE;exact fun a ha=>⟨(reach f 0).length-(k+1),by omega,k+1,_,rfl,hs,gM.trans jY,by omega,rfl,by unfold wC;rw[←dx,A5];rfl,ha.keep ⟨rfl,rfl,rfl,rfl,rfl,rfl,kI rfl (by rw[wr (by omega) (by omega)];omega),trivial⟩⟩
   |false=>
    rw[hb,Bool.false_or]at A5;refine aV rfl rfl ?_;apply aF;apply bR;apply ar;apply aA;refine Wp 2 rfl ?_;apply aE;exact fun a ha=>⟨(ends f).length-(j+1),by omega,j+1,_,rfl,hs,jY,by omega,rfl,A5,ha.keep ⟨rfl,rfl,rfl,rfl,rfl,rfl,rfl,rfl,rfl,rfl,rfl,kI rfl (by rw[wr (by omega) (by omega)];omega),trivial⟩⟩
  refine aV (b:=decide ((j:Int)<((ends f).length:Int))) (by simp;omega) rfl ?_;rw[List.drop_of_length_le (by omega)]at A5;rw[show alive f n=false from A5]at dx;apply bF;apply bG;apply bG;apply c_;apply ar;refine cN 1 rfl ?_;refine ak rfl rfl (bD T.ok rfl hs (vs:=[(0,.int .i64 n)]) (cells:=[.int .i64 n]) rfl rfl rfl rfl rfl rfl (by decide) (by decide) (by kernel_rfl) rfl ?_);rintro b2 g2 hs ah;obtain⟨aC,bS,cH,dj⟩:=eS ah aC bS cH dj;obtain⟨g3,pf,vn,qI,B_⟩:=hs.cK (α:=Int) (xs:=[n]) (i:=0) rfl (cG.ints _ [n]);clear ah;have ah:=qI;rw[←pf];replace hs:=vn;obtain⟨aC,bS,cH,dj⟩:=eS ah aC bS cH dj;skip;refine ak rfl rfl (aQ T.ok rfl (vs:=[(0,.int .i64 1),(1,.slice (some ⟨b2,0,none⟩) 1 1)]) (cells:=[.int .i64 1,.slice (some ⟨b2,0,none⟩) 1 1]) rfl rfl rfl rfl [(0,1),(1,1)] rfl (by kernel_rfl) ?_);skip;refine bA rfl (az T.ok 0 rfl hs rfl rfl rfl rfl rfl rfl rfl rfl rfl ?_);replace hs:=hs;rintro g9 hs ah;obtain⟨aC,bS,cH,dj⟩:=eS ah aC bS cH dj;replace B_:=B_.mono ah;apply bW;refine aI ?_;apply hQ;apply eD;apply eD;apply hQ;apply eD;apply Ln;refine kC T.ok 0 rfl hs rfl rfl rfl (hs.ret ?_);have Fo:check f=(1,[n]):=by unfold check wC;rw[←dx];rfl
  rw[Fo];exact⟨_,_,_,rfl,B_⟩
 refine aV (b:=decide ((k:Int)<((reach f 0).length:Int))) (by simp;omega) rfl ?_;rw[List.drop_of_length_le (by omega)]at dx;apply bF;apply bG;apply bG;apply c_;apply ar;refine aY rfl ?_;apply aD;refine aY rfl ?_;apply aG;have Li:=dj;have uF:=aC;have FW:=bS;have jY:=G.le.refl g2;refine bM (fun m a' w=> ∃(j:Nat) (bv:Value) (g5:G),w=g5.w∧St g g5 [.obj br (.cells [.int .i64 0,.slice none 0 0].toArray 54 (0,0))]∧G.le g2 g5∧j≤(reach f 0).length∧m=(reach f 0).length-j∧wK g5 bv (mb f ((reach f 0).take j))∧
   Fr 74 [] [(1,.pointer (some ⟨bf,0,none⟩)),(2,.pointer (some ⟨br,0,none⟩)),(10,bv),(42,.slice al (reach f 0).length cl),(43,.int .i64 (reach f 0).length),(44,.int .i64 j)] a') (reach f 0).length
  (fun a' ha=>⟨0,_,g2,rfl,hs,jY,Nat.zero_le _,rfl,.inl ⟨rfl,rfl⟩,ha.keep (by(repeat (first|exact trivial|refine⟨rfl,?_⟩)))⟩) ?_
 clear hs jY aC bS cH dj;rintro m a' _ ⟨j,bv,g5,rfl,hs,jY,hj,rfl,wM,eF⟩;have aC:=uF.mono jY;have dj:=Li.mono jY;have bS:=FW.mono jY;revert a';apply cI;refine aY rfl ?_;apply aD;by_cases Lj:j<(reach f 0).length
 ·refine aM (b:=decide ((j:Int)<((reach f 0).length:Int))) (by simp;omega) rfl ?_;have yY:=A7 f ((reach f 0).take j) (reach f 0)[j];rw[←List.take_succ_eq_append_getElem Lj]at yY;obtain⟨fu,Ek⟩:=UW _ (List.getElem_mem Lj);have UX:Lf f 0:=⟨by omega,by have:=Ek.1;have:=Ek.2;omega⟩
  generalize fB:(reach f 0)[j]=n at*;apply aF;apply ar;apply aD;apply aG;apply cM;refine ak rfl rfl (aW T.ok rfl bS (y:=n) (by rw[cZ (j:=j) rfl Lj,fB]) rfl rfl rfl rfl rfl rfl ?_);rintro b p ys aL rfl;refine Wm 1 [.e aL 0] (St.start _) rfl ?_;refine bj rfl ?_;apply aD;apply ea (eQ (.f (Fact.rs (eg f 0))::(fe (.f (Fact.rs (qC f (eg f 0) n))::(.f (Fact.rs (qC f (eg f 0) n))::[]))))) 6 [(5,13)] (by kernel_rfl)
  ·refine Dm [[],[]] [.e aC 0,.e aC 0] (St.start _) (by kernel_rfl) rfl ?_;refine ay (an (js:=[(1,49)]) (by kernel_rfl) fun gd hf=>?_) ?_
   ·have dG:=(G.bu _).trans hf.le;refine ai rfl ?_;apply aj;refine aB rfl ?_;refine au Kz aJ rfl rfl rfl rfl rfl (rZ _ f 0 _ (dj.mono dG) fu UX.1 UX.2) fun g' v h1 h2=>?_;obtain⟨g2,e1,e2,e3,e4⟩:=(St.start gd).nU h1 h2;exact⟨g2,e1,e2.nC,e4⟩
   refine Dx [[]] (by kernel_rfl) rfl ?_;refine ay (an (js:=[(0,48),(2,50),(3,51),(2,50)]) (by kernel_rfl) fun gd hf=>?_) ?_
   ·have dG:=(G.bu _).trans hf.le;refine ai rfl ?_;refine aZ fun v2 h2=>?_;refine ai rfl ?_;refine aZ fun v2 h2=>?_;apply aj;refine aB rfl ?_;refine au RV aJ rfl rfl rfl rfl rfl (Im _ _ f (eg f 0) n _ (dj.mono dG) h2 fu (gU f 0) Ek.1 Ek.2) fun g' v h1 h2=>?_;exact⟨g',rfl,h1,h2⟩
   refine ay (an (js:=[(4,52),(4,52),(4,52)]) (by kernel_rfl) fun gd hf=>?_) ?_
   ·skip;refine aZ fun v4 h4=>?_;refine aZ fun v4 h4=>?_;refine aZ fun v4 h4=>?_;apply aj;refine aB rfl ?_;refine aN _ T.ok rfl ?_;exact⟨_,rfl,a_.refl _,h4⟩
   exact fD
  intro g1 aP;refine aZ fun v5 h5=>?_;apply aj;replace hs:=hs.dr.call aP;have ah:=(G.bu _).trans aP.le;replace jY:=jY.trans ah;replace wM:=wM.mono ah;have cH:Rs g1 v5 (qC f (eg f 0) n):=h5;clear h5;unfold ue at yY;generalize Y7:qC f (eg f 0) n=cy at*;obtain⟨ac,cc,rfl⟩:=cH.isSlice;apply bW;refine cN 4 rfl ?_;by_cases DF:0<cy.length
  ·refine cO 56 (b':=true) (decide_eq_true (by omega)) rfl ?_;have UY:cy≠[]:=List.length_pos_iff.1 DF;rcases wM with⟨Hl,rfl⟩|⟨Hl,ab,cb,rfl,PR⟩
   ·rw[if_pos ⟨DF,.inl Hl⟩]at yY;refine Wp 1 rfl ?_;refine ak rfl rfl (fW T.ok (neg:=false) rfl rfl rfl rfl rfl ?_);refine bj rfl ?_;refine aM rfl rfl ?_;apply aA;refine Wp 2 rfl ?_;apply aE;apply bR;apply ar;apply aA;refine Wp 2 rfl ?_;apply aE;exact fun a ha=>⟨(reach f 0).length-(j+1),by omega,j+1,_,_,rfl,hs,jY,by omega,rfl,by rw[yY];exact .of cH UY,ha.keep ⟨rfl,rfl,rfl,rfl,rfl,kI rfl (by rw[wr (by omega) (by omega)];omega),trivial⟩⟩
   refine Wp 1 rfl ?_;refine ak rfl rfl (fW T.ok (neg:=false) rfl rfl rfl rfl rfl ?_);refine bj rfl ?_;by_cases fr:cy.length<(mb f ((reach f 0).take j)).length
   ·rw[if_pos ⟨DF,.inr fr⟩]at yY;refine aM (b:=decide ((cy.length:Int)<((mb f ((reach f 0).take j)).length:Int))) (by simp;omega) rfl ?_;apply aA;refine Wp 2 rfl ?_;apply aE;apply bR;apply ar;apply aA;refine Wp 2 rfl ?_;apply aE;exact fun a ha=>⟨(reach f 0).length-(j+1),by omega,j+1,_,_,rfl,hs,jY,by omega,rfl,by rw[yY];exact .of cH UY,ha.keep ⟨rfl,rfl,rfl,rfl,rfl,kI rfl (by rw[wr (by omega) (by omega)];omega),trivial⟩⟩
   rw[if_neg (fun h=>h.2.elim Hl fr)]at yY;refine aV (b:=decide ((cy.length:Int)<((mb f ((reach f 0).take j)).length:Int))) (by simp;omega) rfl ?_;apply aF;apply bR;apply ar;apply aA;refine Wp 2 rfl ?_;apply aE;exact fun a ha=>⟨(reach f 0).length-(j+1),by omega,j+1,_,_,rfl,hs,jY,by omega,rfl,by rw[yY];exact .inr ⟨Hl,_,_,rfl,PR⟩,ha.keep ⟨rfl,rfl,rfl,rfl,rfl,kI rfl (by rw[wr (by omega) (by omega)];omega),trivial⟩⟩
  refine cO 56 (b':=false) (decide_eq_false (by omega)) rfl ?_;rw[if_neg (fun h=>DF h.1)]at yY;refine bj rfl ?_;refine aV rfl rfl ?_;apply aF;apply bR;apply ar;apply aA;refine Wp 2 rfl ?_;apply aE;exact fun a ha=>⟨(reach f 0).length-(j+1),by omega,j+1,_,_,rfl,hs,jY,by omega,rfl,by rw[yY];exact wM,ha.keep ⟨rfl,rfl,rfl,rfl,rfl,kI rfl (by rw[wr (by omega) (by omega)];omega),trivial⟩⟩
 refine aV (b:=decide ((j:Int)<((reach f 0).length:Int))) (by simp;omega) rfl ?_;rw[List.take_of_length_le (by omega)]at wM;apply bF;apply bG;apply bG;apply c_;apply ar;apply aD;refine cN 1 rfl ?_;have Fo:check f=if mb f (reach f 0)=[]then(0,[])else(2,mb f (reach f 0)):=by unfold check;rw[←dx];rfl
 rcases wM with⟨Hl,rfl⟩|⟨Hl,ab,cb,rfl,PR⟩
 ·rw[if_pos Hl]at Fo;refine ak rfl rfl (fW T.ok (neg:=false) rfl rfl rfl rfl rfl ?_);apply bW;refine aM rfl rfl ?_;apply cM;refine ak rfl rfl (aQ T.ok rfl (vs:=[]) (cells:=[.int .i64 0,.slice none 0 0]) rfl rfl rfl rfl [(0,1),(1,1)] rfl (by kernel_rfl) ?_);skip;refine bA rfl (az T.ok 0 rfl hs rfl rfl rfl rfl rfl rfl rfl rfl rfl ?_);replace hs:=hs;rintro g9 hs ah;apply bW;refine aI ?_;apply eD;apply Ln;refine kC T.ok 0 rfl hs rfl rfl rfl (hs.ret ?_);rw[Fo];exact⟨_,_,_,rfl,Rs.nil _⟩
 rw[if_neg Hl]at Fo;refine ak rfl rfl (fW T.ok (neg:=false) rfl rfl rfl rfl rfl ?_);apply bW;refine aV rfl rfl ?_;apply aF;apply ar;refine cN 1 rfl ?_;refine ak rfl rfl (aQ T.ok rfl (vs:=[(0,.int .i64 2),(1,.slice (some ab) (mb f (reach f 0)).length cb)]) (cells:=[.int .i64 2,.slice (some ab) (mb f (reach f 0)).length cb]) rfl rfl rfl rfl [(0,1),(1,1)] rfl (by kernel_rfl) ?_);skip;refine bA rfl (az T.ok 0 rfl hs rfl rfl rfl rfl rfl rfl rfl rfl rfl ?_);replace hs:=hs;rintro g9 hs ah;replace PR:=PR.mono ah;apply bW;refine aI ?_;apply Ln;refine kC T.ok 0 rfl hs rfl rfl rfl (hs.ret ?_);rw[Fo];exact⟨_,_,_,rfl,PR⟩
end Go.Proofs.YtgehbndkogohpaaGreatDoor
namespace Go.Proofs.YtgehbndkogohpaaGreatDoor
open Go Go.K
set_option maxRecDepth 10000
attribute [local irreducible] W WL cD bc bK bd bg bh cq ck
set_option maxHeartbeats 1000000
def wF:bQ:=⟨0,0,[],[]⟩
def Mz(g:G)(cs:List Value)(o:Option bQ)(h:List bH):Prop:=
 ∃a1 n1 c1 a2 n2 c2 a3 c3,cs=[.int .i64 (o.getD wF).bB,.int .i64 (o.getD wF).bU,.slice a1 n1 c1,.slice a2 n2 c2,.bool o.isSome,.slice a3 h.length c3]∧Rs g (.slice a1 n1 c1) (o.getD wF).steps∧Rs g (.slice a2 n2 c2) (o.getD wF).windows∧Rs g (.slice a3 h.length c3) h
theorem Mz.mono{g g':G}{cs:List Value}{o:Option bQ}{h:List bH}(k:Mz g cs o h)(hle:g.le g'):Mz g' cs o h:=by obtain⟨a1,n1,c1,a2,n2,c2,a3,c3,e,h1,h2,h3⟩:=k;exact⟨a1,n1,c1,a2,n2,c2,a3,c3,e,h1.mono hle,h2.mono hle,h3.mono hle⟩
def Hg(g:G)(v:Value)(o:Option bQ)(h:List bH):Prop:=∃cs,v= .agg cs.toArray∧Mz g cs o h
theorem Hg.mono{g g':G}{v:Value}{o:Option bQ}{h:List bH}(k:Hg g v o h)(hle:g.le g'):Hg g' v o h:=by obtain⟨cs,e,k⟩:=k;exact⟨cs,e,k.mono hle⟩
def ja(b:gn)(w time:Int):Option bQ:=
 if((nV b w time).getD iy).prod=0 then none
 else match b.lZ.find? fun f=>f.prod==((nV b w time).getD iy).prod with
  |none=>none
  |some t=>match kW t.text with
   | .inl f=>if(check f).1=0 then some f else none
   | .inr _=>none
def UH(b:gn):Prop:=∀f∈b.lZ,f.text.length≤999999
theorem Co(v u:Value)(b:gn)(w time:Int)(h:List bH)(g:G)(bV:mG g v b)(aH:Rs g u h)(hb:UH b)(db:jv g):CallsIn Wd 0 Tryz.prog 37 #[v,.int .i64 w,.int .i64 time,u] g.w (cF g fun g' r=>Hg g' r (ja b w time) h):=by
 have hs:=St.start g;have aq:=G.le.refl g;obtain⟨sl,rfl,kx⟩:=bV;have bV:mG g (.agg ((List.range 11).map sl).toArray) b:=⟨sl,rfl,kx⟩
 obtain⟨a3,c3,rfl⟩:=aH.isSlice;refine enter Tryz.func37 rfl Tryz.ntmps37 rfl ?_;apply cM;refine ak rfl rfl (aO rfl hs rfl rfl ?_);clear hs;rintro b4 g1 hs ah;obtain⟨aH,bV,db⟩:=dy ah aH bV db;obtain⟨g2,bL,aT,ah,aL⟩:=hs.ba (i:=0) rfl;replace hs:=aT;clear aT;rw[←bL];obtain⟨aH,bV,db⟩:=dy ah aH bV db;have aC:=aL;clear aL;skip;refine ak rfl rfl (aK T.ok rfl hs rfl rfl ?_);clear hs;rintro b8 g1 hs ah;obtain⟨aC,aH,bV,db⟩:=eS ah aC aH bV db;apply bW;refine cN 1 rfl ?_;refine ak rfl rfl (aQ T.ok rfl (vs:=[(2,.slice a3 h.length c3)]) (cells:=[.int .i64 0,.int .i64 0,.slice none 0 0,.slice none 0 0,.bool false,.slice a3 h.length c3]) rfl rfl rfl rfl [(0,4),(4,1),(5,1)] rfl (by kernel_rfl) ?_);skip;refine ak rfl rfl (aK T.ok rfl hs rfl rfl ?_);clear hs;rintro b9 g1 hs ah;obtain⟨aC,aH,bV,db⟩:=eS ah aC aH bV db;refine bA rfl (az T.ok 0 rfl hs rfl rfl rfl rfl rfl rfl rfl rfl rfl ?_);replace hs:=hs;rintro g1 hs ah;obtain⟨aC,aH,bV,db⟩:=eS ah aC aH bV db;apply bW;refine dz 3 [.z aC] (St.start _) rfl ?_;refine ak rfl rfl (au Jm aJ rfl rfl rfl rfl rfl (JV _ b w time _ bV) ?_);rintro g1 _ aP rfl;replace hs:=hs.call aP;have ah:=aP.le;obtain⟨aC,aH,bV,db⟩:=eS ah aC aH bV db;have AK:ja b w time=if((nV b w time).getD iy).prod=0 then none else match b.lZ.find? fun f=>f.prod==((nV b w time).getD iy).prod with
  |none=>none
  |some t=>match kW t.text with
   | .inl f=>if(check f).1=0 then some f else none
   | .inr _=>none:=rfl
 generalize((nV b w time).getD iy).prod=pr at AK⊢;clear aP;refine bj rfl ?_;apply aD;refine aY rfl ?_;by_cases HX:pr=0
 ·rw[if_pos HX]at AK;rw[AK];refine aM (b:=pr==0) (by simp[HX]) rfl ?_;refine dz 1 [.o 0] hs rfl ?_;refine bA rfl (az T.ok 1 rfl hs rfl rfl rfl rfl rfl rfl rfl rfl rfl ?_);replace hs:=hs;rintro g1 hs ah;obtain⟨aC,aH,bV,db⟩:=eS ah aC aH bV db;apply bW;refine aI (kC T.ok 1 rfl hs rfl rfl rfl (hs.ret ⟨_,rfl,none,0,0,none,0,0,a3,c3,rfl,Rs.nil _,Rs.nil _,aH⟩))
 rw[if_neg HX]at AK;refine aV (b:=pr==0) (by simp[HX]) rfl ?_;apply aF;apply ar;refine dz 2 [.z aC] (St.start _) rfl ?_;refine ak rfl rfl (au M' aJ rfl rfl rfl rfl rfl (HO _ b pr _ bV) ?_);rintro g1 _ aP rfl;replace hs:=hs.call aP;have ah:=aP.le;obtain⟨aH,db⟩:=cf ah aH db;clear aP;cases Ff:b.lZ.find? (fun f=>f.prod==pr)with
 |none=>
  rw[Ff]at AK;rw[show ja b w time=none from AK];refine Wp 3 rfl ?_;refine ak rfl rfl (aK T.ok rfl hs rfl rfl ?_);clear hs;rintro QT g1 hs ah;obtain⟨aH,db⟩:=cf ah aH db;skip;refine bA rfl (az T.ok 0 rfl hs rfl rfl rfl rfl rfl rfl rfl rfl rfl ?_);replace hs:=hs;rintro g1 hs ah;obtain⟨aH,db⟩:=cf ah aH db;obtain⟨g2,bL,aT,ah,aL⟩:=hs.ba (i:=0) rfl;replace hs:=aT;clear aT;rw[←bL];obtain⟨aH,db⟩:=cf ah aH db;clear aL;refine bj rfl ?_;apply aD;refine aY rfl ?_;refine aM rfl rfl ?_;refine dz 1 [.o 0] hs rfl ?_;refine bA rfl (az T.ok 1 rfl hs rfl rfl rfl rfl rfl rfl rfl rfl rfl ?_);replace hs:=hs;rintro g1 hs ah;obtain⟨aH,db⟩:=cf ah aH db;apply bW;refine aI (kC T.ok 1 rfl hs rfl rfl rfl (hs.ret ⟨_,rfl,none,0,0,none,0,0,a3,c3,rfl,Rs.nil _,Rs.nil _,aH⟩))
 |some t=>
  rw[Ff]at AK;replace AK:ja b w time=match kW t.text with| .inl f=>if(check f).1=0 then some f else none| .inr _=>none:=AK
  have Pc:=hb t (List.mem_of_find?_eq_some Ff);refine Wp 3 rfl ?_;refine ak rfl rfl (aK T.ok rfl hs rfl rfl ?_);clear hs;rintro QT g1 hs ah;obtain⟨aH,db⟩:=cf ah aH db;skip;refine bA rfl (az T.ok 0 rfl hs rfl rfl rfl rfl rfl rfl rfl rfl rfl ?_);replace hs:=hs;rintro g1 hs ah;obtain⟨aH,db⟩:=cf ah aH db;obtain⟨g2,bL,aT,ah,aL⟩:=hs.ba (i:=0) rfl;replace hs:=aT;clear aT;rw[←bL];obtain⟨aH,db⟩:=cf ah aH db;have aR:=aL;clear aL;refine bj rfl ?_;apply aD;refine aY rfl ?_;refine aV rfl rfl ?_;apply aF;apply ar;refine dz 2 [.z aR] (St.start _) rfl ?_;refine ak rfl rfl (au Na aJ rfl rfl rfl rfl rfl (HY t.text _ Pc db) ?_);rintro g6 v6 lz h6;replace hs:=hs.call lz;have ah:=lz.le;replace aH:=aH.mono ah;unfold oN at h6;cases rq:kW t.text with
  |inr k=>
   rw[rq]at h6 AK;rw[show ja b w time=none from AK];obtain rfl:=h6;refine Wp 4 rfl ?_;refine ak rfl rfl (aK T.ok rfl hs rfl rfl ?_);clear hs;rintro RB g1 hs ah;replace aH:=aH.mono ah;skip;refine bA rfl (az T.ok 0 rfl hs rfl rfl rfl rfl rfl rfl rfl rfl rfl ?_);replace hs:=hs;rintro g1 hs ah;replace aH:=aH.mono ah;obtain⟨g2,bL,aT,ah,aL⟩:=hs.ba (i:=0) rfl;replace hs:=aT;clear aT;rw[←bL];replace aH:=aH.mono ah;clear aL;refine bj rfl ?_;apply aD;refine aY rfl ?_;refine aV rfl rfl ?_;apply aF;apply ar;refine dz 1 [.o 0] hs rfl ?_;refine bA rfl (az T.ok 1 rfl hs rfl rfl rfl rfl rfl rfl rfl rfl rfl ?_);replace hs:=hs;rintro g1 hs ah;replace aH:=aH.mono ah;apply bW;refine aI (kC T.ok 1 rfl hs rfl rfl rfl (hs.ret ⟨_,rfl,none,0,0,none,0,0,a3,c3,rfl,Rs.nil _,Rs.nil _,aH⟩))
  |inl f=>
   rw[rq]at h6 AK;replace AK:ja b w time=if(check f).1=0 then some f else none:=AK
   obtain⟨v7,rfl,a1,n1,c1,a2,n2,c2,rfl,aU,bS⟩:=h6;refine Wp 4 rfl ?_;refine ak rfl rfl (aK T.ok rfl hs rfl rfl ?_);clear hs;rintro RB g1 hs ah;obtain⟨aH,aU,bS⟩:=dy ah aH aU bS;skip;refine bA rfl (az T.ok 0 rfl hs rfl rfl rfl rfl rfl rfl rfl rfl rfl ?_);replace hs:=hs;rintro g1 hs ah;obtain⟨aH,aU,bS⟩:=dy ah aH aU bS;obtain⟨g2,bL,aT,ah,aL⟩:=hs.ba (i:=0) rfl;replace hs:=aT;clear aT;rw[←bL];obtain⟨aH,aU,bS⟩:=dy ah aH aU bS;have cU:=aL;clear aL;refine bj rfl ?_;apply aD;refine dz 4 [.z cU] (St.start _) rfl ?_;clear lz;refine ak rfl rfl (au RE aJ rfl rfl rfl rfl rfl (HZ _ f _ ⟨a1,n1,c1,a2,n2,c2,rfl,aU,bS⟩) ?_);rintro g8 v8 Fm ⟨a6,n6,c6,rfl,_⟩;replace hs:=hs.call Fm;have ah:=Fm.le;obtain⟨cU,aH,aU,bS⟩:=eS ah cU aH aU bS;refine bj rfl ?_;by_cases Fo:(check f).1=0
   ·refine aM (b:=(check f).1==0) (by simp[Fo]) rfl ?_;apply aA;refine Wm 2 [.z cU] (St.start _) rfl ?_;refine bA rfl (az T.ok 0 rfl hs rfl rfl rfl rfl rfl rfl rfl rfl rfl ?_);replace hs:=hs;rintro g1 hs ah;obtain⟨aH,aU,bS⟩:=dy ah aH aU bS;refine Wp 1 rfl ?_;refine bA rfl (az T.ok 0 rfl hs rfl rfl rfl rfl rfl rfl rfl rfl rfl ?_);replace hs:=hs;rintro g1 hs ah;obtain⟨aH,aU,bS⟩:=dy ah aH aU bS;apply bW;refine dz 1 [.o 0] hs rfl ?_;refine bA rfl (az T.ok 1 rfl hs rfl rfl rfl rfl rfl rfl rfl rfl rfl ?_);replace hs:=hs;rintro g1 hs ah;obtain⟨aH,aU,bS⟩:=dy ah aH aU bS;apply bW;refine aI (kC T.ok 1 rfl hs rfl rfl rfl (hs.ret ?_));rw[AK,if_pos Fo];exact⟨_,rfl,a1,n1,c1,a2,n2,c2,a3,c3,rfl,aU,bS,aH⟩
   refine aV (b:=(check f).1==0) (by simp[Fo]) rfl ?_;apply aF;apply ar;refine dz 1 [.o 0] hs rfl ?_;refine bA rfl (az T.ok 1 rfl hs rfl rfl rfl rfl rfl rfl rfl rfl rfl ?_);replace hs:=hs;rintro g1 hs ah;replace aH:=aH.mono ah;apply bW;refine aI (kC T.ok 1 rfl hs rfl rfl rfl (hs.ret ?_));rw[AK,if_neg Fo];exact⟨_,rfl,none,0,0,none,0,0,a3,c3,rfl,Rs.nil _,Rs.nil _,aH⟩
end Go.Proofs.YtgehbndkogohpaaGreatDoor
namespace Go.K
open Go Go.RowKit
variable {F:Fence} {P:Program} {N:Nat} {ds:List Deferred} {l:Env} {w:World} {Q:Exit→Act→World→Prop} {o:Oper} {g:G} {K:Value→World→Prop}
theorem Rs.at{α:Type}[El α]{ad:Option Addr}{n c i:Nat}{xs:List α}{x:α}(h:Rs g (.slice ad n c) xs)(hx:xs[i]? =some x): ∃b p ys,ad=some ⟨b,p,none⟩∧EP g b (p+i*El.k α) ys∧El.rc g ys x:=by
 obtain⟨a,m,c',e,hn,_,hr⟩:=h;obtain⟨rfl,rfl,rfl⟩:=Value.slice.inj e;have bC:=(List.getElem?_eq_some_iff.1 hx).1;rcases hr with h0|⟨b,p,cells,rfl,oa,d_,hc⟩
 ·omega
 obtain⟨ys,h1,h2,_⟩:=d_.at hx;exact⟨b,p,ys,rfl,⟨oa,fun j y hy=>by rw[Nat.add_assoc];exact hc _ _ (h2 j y hy)⟩,h1⟩
theorem kX{tb:Tb}(dq:tb.ok P){t e:Nat}{i j:TI}{x ix:Operand}{kk:IntKind}{z:Int}{b p n c:Nat}(ho:o.op= .indexAddr t x ix)(hx:ev l x=some (.slice (some ⟨b,p,none⟩) n c))(IH:ev l ix=some (.int kk z))(h0:0≤z)(bC:z.toNat<n)(hi:tl tb t=some i)(hd:i.desc= .slice e)(hj:tl tb e=some j)
  (k:K (.pointer (some ⟨b,p+z.toNat*j.size,none⟩)) w):cD F P N ds o l w Q K:=by
 refine bO (fun c=>⟨by rw[ho];simp,by rw[ho];simp⟩) (fun a ha=>?_) k;simp only[execOp,ho,ha.ev hx,ha.ev IH,Sem.run_bind,oi dq hi hd hj h0 bC];rfl
end Go.K
namespace Go.Proofs.YtgehbndkogohpaaGreatDoor
open Go Go.K
set_option maxRecDepth 10000
attribute [local irreducible] W WL cD bc bK bd bg bh cq ck
set_option maxHeartbeats 1000000
def lB:Step:=⟨0,[],0,0,[],0,0⟩
def jL(o:Option bQ)(n:Int):Option Step:=o.bind fun f=>dS f.steps n
theorem Fp(v:Value)(o:Option bQ)(h:List bH)(n:Int)(g:G)(kn:Hg g v o h):CallsIn Wd 0 Tryz.prog 109 #[v,.int .i64 n] g.w (cF g fun g' r=> ∃cs,r= .tuple #[.agg cs.toArray,.bool (jL o n).isSome]∧qD g' cs ((jL o n).getD lB)):=by
 have hs:=St.start g;have aq:=G.le.refl g;obtain⟨_,rfl,a1,n1,c1,a2,n2,c2,a3,c3,rfl,aU,bS,cH⟩:=kn;refine enter Tryz.func109 rfl Tryz.ntmps109 rfl ?_;apply cM;refine ak rfl rfl (aO rfl hs rfl rfl ?_);clear hs;rintro b2 g1 hs ah;replace aU:=aU.mono ah;obtain⟨g2,bL,aT,ah,aL⟩:=hs.ba (i:=0) rfl;replace hs:=aT;clear aT;rw[←bL];replace aU:=aU.mono ah;have aC:=aL;clear aL;skip;refine ak rfl rfl (aK T.ok rfl hs rfl rfl ?_);clear hs;rintro b4 g1 hs ah;obtain⟨aC,aU⟩:=cf ah aC aU;refine bj rfl ?_;apply aD;refine dz 4 [.z aC] (St.start _) rfl ?_;cases o with
 |none=>
  refine bj rfl ?_;refine aM rfl rfl ?_;apply cM;refine ak rfl rfl (aQ T.ok rfl (vs:=[]) (cells:=[.int .i64 0,.slice none 0 0,.int .i64 0,.int .i64 0,.slice none 0 0,.int .i64 0,.int .i64 0]) rfl rfl rfl rfl [(0,1),(1,1),(2,1),(3,1),(4,1),(5,1),(6,1)] rfl (by kernel_rfl) ?_);refine bA rfl (az T.ok 0 rfl hs rfl rfl rfl rfl rfl rfl rfl rfl rfl ?_);replace hs:=hs;rintro g1 hs ah;obtain⟨aC,aU⟩:=cf ah aC aU;refine bj rfl ?_;rw[show jL none n=none from rfl];exact aI (sy T.ok 0 rfl hs rfl rfl rfl rfl (hs.ret ⟨_,rfl,none,0,0,none,0,0,rfl,Rs.nil _,Rs.nil _⟩))
 |some f=>
  obtain⟨_,_,e⟩:=aU.isSlice;obtain⟨rfl,rfl,rfl⟩:=Value.slice.inj e;clear e;refine Wp 4 rfl ?_;cases h1:decide (n<0)with
  |true=>
   have e:jL (some f) n=none:=if_pos (of_decide_eq_true h1);refine bj rfl ?_;refine aM rfl rfl ?_;apply cM;refine ak rfl rfl (aQ T.ok rfl (vs:=[]) (cells:=[.int .i64 0,.slice none 0 0,.int .i64 0,.int .i64 0,.slice none 0 0,.int .i64 0,.int .i64 0]) rfl rfl rfl rfl [(0,1),(1,1),(2,1),(3,1),(4,1),(5,1),(6,1)] rfl (by kernel_rfl) ?_);refine bA rfl (az T.ok 0 rfl hs rfl rfl rfl rfl rfl rfl rfl rfl rfl ?_);replace hs:=hs;rintro g1 hs ah;obtain⟨aC,aU⟩:=cf ah aC aU;refine bj rfl ?_;rw[e];exact aI (sy T.ok 0 rfl hs rfl rfl rfl rfl (hs.ret ⟨_,rfl,none,0,0,none,0,0,rfl,Rs.nil _,Rs.nil _⟩))
  |false=>
   have h1:=of_decide_eq_false h1;refine Dk [.z aC] (St.start _) rfl ?_;by_cases h2:(f.steps.length:Int)≤n
   ·have e:jL (some f) n=none:=(if_neg h1).trans (List.getElem?_eq_none (by omega));refine aM (b:=decide ((f.steps.length:Int)≤n)) (decide_eq_true h2) rfl ?_;apply cM;refine ak rfl rfl (aQ T.ok rfl (vs:=[]) (cells:=[.int .i64 0,.slice none 0 0,.int .i64 0,.int .i64 0,.slice none 0 0,.int .i64 0,.int .i64 0]) rfl rfl rfl rfl [(0,1),(1,1),(2,1),(3,1),(4,1),(5,1),(6,1)] rfl (by kernel_rfl) ?_);refine bA rfl (az T.ok 0 rfl hs rfl rfl rfl rfl rfl rfl rfl rfl rfl ?_);replace hs:=hs;rintro g1 hs ah;obtain⟨aC,aU⟩:=cf ah aC aU;refine bj rfl ?_;rw[e];exact aI (sy T.ok 0 rfl hs rfl rfl rfl rfl (hs.ret ⟨_,rfl,none,0,0,none,0,0,rfl,Rs.nil _,Rs.nil _⟩))
   have bC:n.toNat<f.steps.length:=by omega
   have e:jL (some f) n=some f.steps[n.toNat]:=(if_neg h1).trans (List.getElem?_eq_getElem bC);refine aV (b:=decide ((f.steps.length:Int)≤n)) (decide_eq_false h2) rfl ?_;rw[e];apply aF;apply ar;refine dz 4 [.z aC] (St.start _) rfl ?_;refine ak rfl rfl (aW T.ok rfl aU (y:=f.steps[n.toNat]) e rfl rfl rfl rfl rfl rfl ?_);rintro b6 q6 ys aL d_;obtain⟨a7,n7,c7,a8,n8,c8,rfl,h7,h8⟩:=d_;have aR:=aL;clear aL;refine Wm 1 [.e aR 0] (St.start _) rfl ?_;refine bA rfl (az T.ok 0 rfl hs rfl rfl rfl rfl rfl rfl rfl rfl rfl ?_);replace hs:=hs;rintro g1 hs ah;replace h7:=h7.mono ah;replace h8:=h8.mono ah;refine bj rfl ?_;exact aI (sy T.ok 0 rfl hs rfl rfl rfl rfl (hs.ret ⟨_,rfl,a7,n7,c7,a8,n8,c8,rfl,h7,h8⟩))
theorem Fq(v:Value)(l:List Int)(n:Int)(g:G)(aH:Rs g v l):CallsIn Wd 0 Tryz.prog 250 #[v,.int .i64 n] g.w (cF g fun _ r=> ∃z:Int,r= .int .i64 z∧(decide (0≤z))=l.contains n):=by
 have hs:=St.start g;obtain⟨a,c,rfl⟩:=aH.isSlice;have hlen:=aH.dJ;unfold maxLen at hlen;refine enter Tryz.func250 rfl Tryz.ntmps250 rfl ?_;refine aY rfl ?_;apply aD;refine aY rfl ?_;apply aG;refine bM (fun m a' w=> ∃(i:Nat),w=g.w∧i≤l.length∧(l.take i).contains n=false∧m=l.length-i∧
   Fr 19 [] [(0,.slice a l.length c),(1,.int .i64 n),(7,.int .i64 (l.length:Nat)),(8,.int .i64 (i:Nat))] a') l.length
  (fun a' ha=>⟨0,rfl,Nat.zero_le _,by simp,rfl,ha.keep (by(repeat (first|exact trivial|refine⟨rfl,?_⟩)))⟩) ?_
 rintro m a' _ ⟨i,rfl,hi,dx,rfl,eF⟩;revert a';apply cI;refine aY rfl ?_;apply aD;by_cases bC:i<l.length
 ·refine aM (b:=decide ((i:Int)<(l.length:Int))) (decide_eq_true (by omega)) rfl ?_;have jG:dS l (i:Int)=some l[i]:=cZ rfl bC;have fP:l.take (i+1)=l.take i++[l[i]]:=by rw[List.take_add_one,List.getElem?_eq_getElem bC];rfl
  have xO:l[i]∈l:=List.getElem_mem bC;generalize l[i]=x at*;apply aF;apply ar;apply aD;apply aG;refine aY rfl ?_;refine cN 3 rfl ?_;refine ak rfl rfl (aW T.ok rfl aH (y:=x) jG rfl rfl rfl rfl rfl rfl ?_);rintro b p ys aL d_;obtain rfl:ys=[.int .i64 x]:=d_;have aC:=aL;refine Dk [.e aC 0] (St.start _) rfl ?_;by_cases hx:n=x
  ·subst hx;refine aM (b:=n==n) (by simp) rfl ?_;refine aY rfl ?_;exact aI (aX rfl rfl (hs.ret ⟨_,rfl,by simp[xO]⟩))
  refine aV (b:=n==x) (by simp[hx]) rfl ?_;apply aF;apply bR;apply ar;apply aA;refine Wp 2 rfl ?_;apply aE;exact fun a ha=>⟨l.length-(i+1),by omega,i+1,rfl,by omega,by rw[fP];simp at dx⊢;exact⟨dx,hx⟩,rfl,ha.keep ⟨rfl,rfl,rfl,kI rfl (by rw[wr (by omega) (by omega)];omega),trivial⟩⟩
 refine aV (b:=decide ((i:Int)<(l.length:Int))) (decide_eq_false (by omega)) rfl ?_;rw[List.take_of_length_le (by omega)]at dx;apply bF;apply bG;apply bG;apply c_;apply ar;refine aY rfl ?_;exact aI (aX rfl rfl (hs.ret ⟨-1,rfl,dx.symm⟩))
theorem nW(v:Value)(l:List Int)(n:Int)(g:G)(aH:Rs g v l):CallsIn Wd 0 Tryz.prog 187 #[v,.int .i64 n] g.w (cF g fun _ r=>r= .bool (l.contains n)):=by have hs:=St.start g;refine enter Tryz.func187 rfl Tryz.ntmps187 rfl ?_;refine aY rfl ?_;refine cN 2 rfl ?_;refine ak rfl rfl (au Ox aJ rfl rfl rfl rfl rfl (Fq _ l n _ aH) ?_);rintro g1 _ aP ⟨z,rfl,hz⟩;replace hs:=hs.call aP;have ah:=aP.le;refine bj rfl ?_;exact aI (aX rfl rfl (hs.ret (congrArg Value.bool hz)))
def Pd(h:List bH)(n back:Int)(i:Nat):Bool:=(h.getD i iy).step==n&&(h.getD (i+1) iy).step==back
def Fs(o:Option bQ)(h:List bH)(n:Int):Int:=
 if((jL o n).getD lB).next.contains ((jL o n).getD lB).back then 0 else(((List.range (h.length-1)).filter (Pd h n ((jL o n).getD lB).back)).length:Nat)
theorem Pe(v:Value)(o:Option bQ)(h:List bH)(n:Int)(g:G)(kn:Hg g v o h)(hl:h.length≤1000000):CallsIn Wd 0 Tryz.prog 111 #[v,.int .i64 n] g.w (cF g fun _ r=>r= .int .i64 (Fs o h n)):=by
 have hs:=St.start g;have aq:=G.le.refl g;obtain⟨_,rfl,a1,n1,c1,a2,n2,c2,a3,c3,rfl,aU,bS,cH⟩:=kn;refine enter Tryz.func111 rfl Tryz.ntmps111 rfl ?_;apply cM;refine ak rfl rfl (aO rfl hs rfl rfl ?_);clear hs;rintro b2 g1 hs ah;obtain⟨aq,aU,bS,cH⟩:=eS ah aq aU bS cH;obtain⟨g2,bL,aT,ah,aL⟩:=hs.ba (i:=0) rfl;replace hs:=aT;clear aT;rw[←bL];obtain⟨aq,aU,bS,cH⟩:=eS ah aq aU bS cH;have aC:=aL;clear aL;refine bj rfl ?_;refine aY rfl ?_;refine dz 2 [.z aC] (St.start _) rfl ?_;refine ak rfl rfl (au Ez aJ rfl rfl rfl rfl rfl (Fp _ o h n _ ⟨_,rfl,a1,n1,c1,a2,n2,c2,a3,c3,rfl,aU,bS,cH⟩) ?_);rintro g6 _ lz ⟨cs,rfl,dH⟩;replace hs:=hs.call lz;have ah:=lz.le;obtain⟨aq,aC,cH⟩:=dy ah aq aC cH;unfold Fs;generalize(jL o n).getD lB=s at*;obtain⟨a7,n7,c7,a8,n8,c8,rfl,eh,ku⟩:=dH;clear aU bS lz;refine Wp 3 rfl ?_;refine ak rfl rfl (aK T.ok rfl hs rfl rfl ?_);clear hs;rintro b6 g1 hs ah;obtain⟨aq,aC,cH,ku⟩:=eS ah aq aC cH ku;skip;refine bA rfl (az T.ok 0 rfl hs rfl rfl rfl rfl rfl rfl rfl rfl rfl ?_);replace hs:=hs;rintro g1 hs ah;obtain⟨aq,aC,cH,ku⟩:=eS ah aq aC cH ku;obtain⟨g2,bL,aT,ah,aL⟩:=hs.ba (i:=0) rfl;replace hs:=aT;clear aT;rw[←bL];obtain⟨aq,aC,cH,ku⟩:=eS ah aq aC cH ku;have aR:=aL;clear aL;refine bj rfl ?_;apply aD;refine dz 4 [.z aR,.z aR] (St.start _) rfl ?_;refine ak rfl rfl (au EC aJ rfl rfl rfl rfl rfl (nW _ s.next s.back _ ku) ?_);rintro g1 _ aP rfl;replace hs:=hs.call aP;have ah:=aP.le;obtain⟨aq,aC,aR,cH⟩:=eS ah aq aC aR cH;clear aP eh ku;apply bW;cases s.next.contains s.back with
 |true=>
  refine aM rfl rfl ?_;refine aY rfl ?_;exact aI (aX rfl rfl (hs.ret rfl))
 |false=>
  refine aV rfl rfl ?_;apply aF;apply ar;apply aD;refine aY rfl ?_;apply aG;refine bM (fun m a' w=> ∃(k q:Nat) (g':G),w=g'.w∧St g g' []∧G.le g g'∧Rs g' (.slice a3 h.length c3) h∧EP g' b2 0 [.int .i64 (o.getD wF).bB,.int .i64 (o.getD wF).bU,.slice a1 n1 c1,.slice a2 n2 c2,.bool o.isSome,.slice a3 h.length c3]∧EP g' b6 0 [.int .i64 s.cE,.slice a7 n7 c7,.int .i64 s.min,.int .i64 s.max,.slice a8 n8 c8,.int .i64 s.back,.int .i64 s.dI]∧(k+1≤h.length∨k=0)∧q=((List.range k).filter (Pd h n s.back)).length∧m=h.length-k∧
    Fr 50 [] [(1,.int .i64 n),(2,.pointer (some ⟨b2,0,none⟩)),(5,.int .i64 (q:Nat)),(6,.pointer (some ⟨b6,0,none⟩)),(8,.int .i64 (k+1:Nat))] a') h.length
   (fun a' ha=>⟨0,0,_,rfl,hs,aq,cH,aC,aR,.inr rfl,rfl,rfl,ha.keep (by(repeat (first|exact trivial|refine⟨rfl,?_⟩)))⟩) ?_
  (repeat clear hs);(repeat clear cH);(repeat clear aq);(repeat clear aC);(repeat clear aR)
  rintro m a' _ ⟨k,q,g',rfl,hs,aq,cH,aC,aR,hk,hq,rfl,eF⟩;have YW:q≤k:=by rw[hq];exact Nat.le_trans (List.length_filter_le ..) (by rw[List.length_range];omega)
  revert a';apply cI;apply aD;refine l_ [.z aC] (St.start _) rfl ?_;by_cases bC:k+1<h.length
  ·refine aM (b:=decide (((k+1:Nat):Int)<(h.length:Int))) (by simp;omega) rfl ?_;apply aF;apply ar;apply aD;apply aG;apply aD;obtain⟨b0,p0,ys,rfl,UI,hx⟩:=cH.at (i:=k) (List.getElem?_eq_getElem (by omega));obtain⟨Ws,Wt,UJ,e,Wu,hy⟩:=cH.at (i:=k+1) (List.getElem?_eq_getElem bC);obtain⟨rfl,rfl⟩:b0=Ws∧p0=Wt:=by simpa using e
   clear e;have lO:((List.range (k+1)).filter (Pd h n s.back)).length=q+(if h[k].step==n&&h[k+1].step==s.back then 1 else 0):=by
    rw[List.range_succ,List.filter_append,List.length_append,←hq];congr 1;have e:Pd h n s.back k=(h[k].step==n&&h[k+1].step==s.back):=by unfold Pd;rw[List.getD_eq_getElem?_getD,List.getD_eq_getElem?_getD,List.getElem?_eq_getElem (by omega),List.getElem?_eq_getElem bC];rfl
    rw[List.filter_cons,e];split<;>rfl
   generalize h[k]=x at hx lO;generalize h[k+1]=y at hy lO;obtain rfl:ys=cg x:=hx;obtain rfl:UJ=cg y:=hy;clear hq;cases h1:x.step==n with
   |false=>
    rw[h1]at lO;apply bP hs (eQ (fe (.e (.int .i64 (k:Nat))::iY (.e (.bool false)::eO (eQ (fe [])))))) 20 [(19,46)] (by kernel_rfl) rfl
    ·refine Dm [[],[0],[]] [.z aC] hs (by kernel_rfl) rfl ?_;refine ay (an (js:=[(2,29)]) (by kernel_rfl) fun gd hf=>ai rfl (aj (aB rfl (aN _ T.ok rfl ⟨gd,rfl,a_.refl _,congrArg (Value.int .i64) (by rw[wr (by omega) (by omega)];omega)⟩)))) ?_;refine ay (an (js:=[(1,28),(3,30)]) (by kernel_rfl) fun gd hf=>ai rfl (ai rfl (aj (aB rfl (kX T.ok rfl rfl rfl (by omega) (by omega) rfl rfl rfl ⟨gd,rfl,a_.refl _,rfl⟩))))) ?_;refine Dm [[4],[5],[]] [.e UI 13] hs (by kernel_rfl) rfl ?_;refine ay (an (js:=[(6,33),(7,34)]) (by kernel_rfl) fun gd hf=>ai rfl (ai rfl (aj (aB rfl (aN _ T.ok rfl ⟨gd,rfl,a_.refl _,congrArg Value.bool h1⟩))))) ?_;exact Dz [[8],[9],[10,9],[9],[11,12,9],[13,9],[14,9],[9],[16,9],[15,17,9],[9,18]] [] hs (by kernel_rfl) rfl
    clear hs;intro g6 hs ah;obtain⟨aq,aC,aR,cH⟩:=eS ah aq aC aR cH;apply bW;refine aV rfl rfl ?_;apply aF;apply bR;apply ar;apply aA;refine Wp 3 rfl ?_;apply aE;exact fun a ha=>⟨h.length-(k+1),by omega,k+1,q,_,rfl,hs,aq,cH,aC,aR,.inl (by omega),lO.symm,rfl,ha.keep ⟨rfl,rfl,rfl,rfl,kI rfl (by rw[wr (by omega) (by omega)];omega),trivial⟩⟩
   |true=>
    rw[h1]at lO;apply bP hs (eQ (fe (.e (.int .i64 (k:Nat))::iY (.e (.bool true)::eO (eQ (fe [])))))) 20 [(19,46)] (by kernel_rfl) rfl
    ·refine Dm [[],[0],[]] [.z aC] hs (by kernel_rfl) rfl ?_;refine ay (an (js:=[(2,29)]) (by kernel_rfl) fun gd hf=>ai rfl (aj (aB rfl (aN _ T.ok rfl ⟨gd,rfl,a_.refl _,congrArg (Value.int .i64) (by rw[wr (by omega) (by omega)];omega)⟩)))) ?_;refine ay (an (js:=[(1,28),(3,30)]) (by kernel_rfl) fun gd hf=>ai rfl (ai rfl (aj (aB rfl (kX T.ok rfl rfl rfl (by omega) (by omega) rfl rfl rfl ⟨gd,rfl,a_.refl _,rfl⟩))))) ?_;refine Dm [[4],[5],[]] [.e UI 13] hs (by kernel_rfl) rfl ?_;refine ay (an (js:=[(6,33),(7,34)]) (by kernel_rfl) fun gd hf=>ai rfl (ai rfl (aj (aB rfl (aN _ T.ok rfl ⟨gd,rfl,a_.refl _,congrArg Value.bool h1⟩))))) ?_;refine Dm [[8],[9],[10,9],[9]] [.z aC] hs (by kernel_rfl) rfl ?_;refine ay (an (js:=[(11,38),(12,39),(9,36)]) (by kernel_rfl) fun gd hf=>ai rfl (ai rfl (ai rfl (aj (aB rfl (kX T.ok rfl rfl rfl (by omega) (by omega) rfl rfl rfl ⟨gd,rfl,a_.refl _,rfl⟩)))))) ?_;exact Dz [[13,9],[14,9],[9],[16,9],[15,17,9],[9,18]] [.e Wu 13,.z aR] hs (by kernel_rfl) rfl
    clear hs;intro g6 hs ah;obtain⟨aq,aC,aR,cH⟩:=eS ah aq aC aR cH;apply bW;cases h2:y.step==s.back with
    |false=>
     rw[h2]at lO;refine aV rfl rfl ?_;apply aF;apply bR;apply ar;apply aA;refine Wp 3 rfl ?_;apply aE;exact fun a ha=>⟨h.length-(k+1),by omega,k+1,q,_,rfl,hs,aq,cH,aC,aR,.inl (by omega),lO.symm,rfl,ha.keep ⟨rfl,rfl,rfl,rfl,kI rfl (by rw[wr (by omega) (by omega)];omega),trivial⟩⟩
    |true=>
     rw[h2]at lO;refine aM rfl rfl ?_;apply aA;refine Wp 3 rfl ?_;apply aE;apply bR;apply ar;apply aA;refine Wp 3 rfl ?_;apply aE;exact fun a ha=>⟨h.length-(k+1),by omega,k+1,q+1,_,rfl,hs,aq,cH,aC,aR,.inl (by omega),lO.symm,rfl,ha.keep ⟨rfl,rfl,kI rfl (by rw[wr (by omega) (by omega)];omega),rfl,kI rfl (by rw[wr (by omega) (by omega)];omega),trivial⟩⟩
  refine aV (b:=decide (((k+1:Nat):Int)<(h.length:Int))) (by simp;omega) rfl ?_;apply bF;apply bG;apply bG;apply c_;apply ar;refine aY rfl ?_;refine aI (aX rfl rfl (hs.ret ?_));rw[hq,show k=h.length-1 from by omega];rfl
end Go.Proofs.YtgehbndkogohpaaGreatDoor
