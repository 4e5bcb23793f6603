/- Parts of the proof, from: The walk through base.Of: the facts that prevail, by kinds, in order. -/
import Derived.Test.YtbfjdfecgiegpaaGreatDoorYa
import Derived.Test.YtbfjdfecgiegpaaGreatDoorYc
import Derived.Test.YtbfjdfecgiegpaaGreatDoorYh
import Derived.Test.YtbfjdfecgiegpaaGreatDoorYg
import Derived.Test.YtbfjdfecgiegpaaGreatDoorYb
import Derived.ChangeKeysEq
import Derived.Test.YtbfjdfecgiegpaaGreatDoorYd
namespace Go.Proofs.YtbfjdfecgiegpaaGreatDoor
open Go Go.K Tryz
set_option maxRecDepth 10000
attribute [local irreducible] W WL cS bh bY bB bA bC cL cD
set_option maxHeartbeats 8000000
def w_{κ:Type}[DecidableEq κ][fO κ](g:G)(b:Nat)(m:List (κ×Value)):Prop:=g.im b∧g.w.heap[b]? =some (eV m)
theorem w_.mono{κ:Type}[DecidableEq κ][fO κ]{g g':G}{b:Nat}{m:List (κ×Value)}(h:w_ g b m)(hle:g.le g'):w_ g' b m:=⟨(hle b h.1).1,(hle b h.1).2.trans h.2⟩
theorem Ip{κ:Type}[DecidableEq κ][fO κ]{g0 g:G}{L:List df}(hs:St g0 g L){i b:Nat}{m:List (κ×Value)}(hi:L[i]? =some (.obj b (eV m))): ∃g',g'.w=g.w∧St g0 g' (L.eraseIdx i)∧g.le g'∧w_ g' b m:=
 ⟨g.fz _ fun b hb=>((hs.own i _ hi).lt b hb).2.1,rfl,hs.fz hi,G.sQ _ _ _,.inr rfl,(hs.own i _ hi).2.1⟩
def xd(b:Nat)(sl:Nat→Value):df:=vO b ((List.range 11).map sl) 28
def Aw(sl:Nat→Value)(xs:Nat→List bO):List df:=(List.range 11).map fun i=> .row 40 19 (sl i) (xs i).length (fl (xs i))
def Bm{α:Type}(f:Nat→α)(i:Nat)(x:α):Nat→α:=fun j=>if j=i then x else f j
theorem La(sl:Nat→Value)(xs:Nat→List bO):(Aw sl xs).length=11:=by simp[Aw]
theorem Ax{sl:Nat→Value}{xs:Nat→List bO}{i:Nat}(hi:i<11):(Aw sl xs)[i]? =some (.row 40 19 (sl i) (xs i).length (fl (xs i))):=by unfold Aw;rw[List.getElem?_map,List.getElem?_range hi];rfl
theorem EO{sl:Nat→Value}{xs:Nat→List bO}{i:Nat}(v:Value)(ys:List bO):(Aw sl xs).set i (.row 40 19 v ys.length (fl ys))=Aw (Bm sl i v) (Bm xs i ys):=by
 refine List.ext_getElem? fun j=>?_;unfold Aw Bm;rw[List.getElem?_set,List.getElem?_map,List.getElem?_map,List.length_map];by_cases h:i=j
 ·subst h;rcases Nat.lt_or_ge i 11 with hj|hj
  ·simp[hj]
  simp[hj,List.length_range]
 rw[if_neg h];rcases Nat.lt_or_ge j 11 with hj|hj
 ·rw[List.getElem?_range hj];simp only[Option.map_some];rw[if_neg fun e=>h e.symm];rw[if_neg fun e=>h e.symm]
 rw[List.getElem?_eq_none (by simpa using hj)];rfl
theorem Lb{sl:Nat→Value}{i:Nat}(hi:i<11)(v:Value):nr ((List.range 11).map sl) i [v]=(List.range 11).map (Bm sl i v):=by
 have h:((List.range 11).map sl).set i v=(List.range 11).map (Bm sl i v):=by
  refine List.ext_getElem? fun j=>?_;unfold Bm;rw[List.getElem?_set,List.getElem?_map,List.getElem?_map,List.length_map,List.length_range];by_cases h:i=j
  ·subst h;simp[hi]
  rw[if_neg h];rcases Nat.lt_or_ge j 11 with hj|hj
  ·rw[List.getElem?_range hj];simp only[Option.map_some];rw[if_neg fun e=>h e.symm]
  rw[List.getElem?_eq_none (by simpa using hj)];rfl
 rw[←h];unfold nr;rw[List.set_eq_take_append_cons_drop,if_pos (by simpa using hi)];simp
def fV(g:G)(v:Value)(b:eL):Prop:=∃sl:Nat→Value,v= .agg ((List.range 11).map sl).toArray∧ ∀i,i<11→Rs g (sl i) (b.ls i)
theorem fV.mono{g g':G}{v:Value}{b:eL}(h:fV g v b)(hle:g.le g'):fV g' v b:=by obtain⟨sl,e,h⟩:=h;exact⟨sl,e,fun i hi=>(h i hi).mono hle⟩
instance{g g':G}{v:Value}{b:eL}:Mn (fV g v b) g g' (fV g' v b):=⟨fun h a=>a.mono h⟩
theorem cY.fl(g:G): ∀xs:List bO,cY g (Go.K.fl xs) xs
 |[]=>rfl
 |x::xs=>⟨cB x,Go.K.fl xs,vY x xs,rfl,cY.fl g xs⟩
theorem Iq{sl:Nat→Value}{i:Nat}(hi:i<11):Ar T 22 ((List.range 11).map sl) i=some (sl i):=by show((List.range 11).map sl)[i]? =_;rw[List.getElem?_map,List.getElem?_range hi];rfl
theorem lT: ∀(n:Nat) (js:List Nat),js.Nodup→(∀j∈js,j<n)→js.length≤n
 |0,[],_,_=>Nat.le_refl _
 |0,j::_,_,h=>absurd (h j (List.mem_cons_self ..)) (by omega)
 |n+1,js,hn,h=>by
  have ih:=lT n (js.erase n) (hn.erase n) (fun j hj=>by
   have h1:=h j (List.mem_of_mem_erase hj);have h2:j≠n:=fun e=>by subst e;exact(List.Nodup.not_mem_erase hn) hj
   omega)
  have:=List.length_erase (a:=n) (l:=js);split at this<;>omega
theorem zl{α:Type}: ∀{l:List α} {i:Nat} (x:α),i<l.length→(x::l.eraseIdx i).Perm (l.set i x)
 |[],_,_,h=>absurd h (Nat.not_lt_zero _)
 |y::l,0,x,_=>List.Perm.refl _
 |y::l,i+1,x,h=>(List.Perm.swap _ _ _).trans ((zl x (by simpa using h)).cons y)
theorem Ir{g0:G}{sl:Nat→Value}{xs:Nat→List bO}: ∀(is:List Nat) {g:G} {R:List df},St g0 g ((is.map fun i=> .row 40 19 (sl i) (xs i).length (fl (xs i)))++R)→ ∃g',g'.w=g.w∧St g0 g' R∧g.le g'∧ ∀i∈is,Rs g' (sl i) (xs i)
 |[],g,R,hs=>⟨g,rfl,hs,G.le.refl g,by simp⟩
 |i::is,g,R,hs=>by
  obtain⟨g1,e1,h1,h2,h3⟩:=hs.cP (α:=bO) (i:=0) rfl (cY.fl g (xs i));obtain⟨g2,e2,k1,k2,k3⟩:=Ir is (g:=g1) h1;refine⟨g2,e2.trans e1,k1,h2.trans k2,fun j hj=>?_⟩;rcases List.mem_cons.1 hj with rfl|hj
  ·exact h3.mono k2
  exact k3 j hj
theorem Is{M:KF}{js:List Nat}{j:Nat}{p:List UInt8×bO}(hp:M[j]? =some p)(i:Nat):iy (tO M (js++[j])) i=iy (tO M js) i++(if !p.2.gone&&decide (p.2.kind=(i:Int)+1)then [p.2]else []):=by rw[wC hp,Hi];congr 1;unfold iy;rw[List.filter_cons];split<;>rfl
theorem F6{j:Nat}{q:Int×Value}(h:lS[j]? =some q):j<11∧q=((j:Int)+1,sT j):=by
 have bt:j<11:=by have:=(List.getElem?_eq_some_iff.1 h).1;exact this
 rcases lR bt with rfl|rfl|rfl|rfl|rfl|rfl|rfl|rfl|rfl|rfl|rfl<;>exact⟨bt,(Option.some.inj h).symm⟩
def Nh(g0:G)(A:List df)(sl:Nat→Value)(xs:Nat→List bO)(i:Nat)(f:bO)(ρ:Nat→Option Value)(g:G):Prop:=
 match ρ 6 with
 |none=>St g0 g (A++Aw sl xs)
 |some v=>(∃a c,v= .slice a ((xs i).length+1) c)∧St g0 g (A++Aw (Bm sl i v) (Bm xs i (xs i++[f])))
theorem It{g0:G}{A:List df}{sl:Nat→Value}{xs:Nat→List bO}{i:Nat}{f:bO}(ρ:Nat→Option Value)(g g':G)(hf:a_ g g')(h:Nh g0 A sl xs i f ρ g):Nh g0 A sl xs i f ρ g':=by
 unfold Nh at h⊢;split at h
 ·exact h.call hf
 exact⟨h.1,h.2.call hf⟩
theorem Iu{f:bO}(h:fU f≠[]):1≤f.kind∧f.kind≤11:=by
 have v1:fT f=true:=by cases e:fT f with|true=>rfl|false=>exact absurd (by unfold fU;rw[e];rfl) h
 obtain⟨s,hs,_⟩:=mj v1;obtain⟨_,_,_,_,_,_,h1,h2⟩:=pz hs;exact⟨h1,h2⟩
theorem Ta{sl:Nat→Value}(h: ∀i,i<11→(sl i).oneCell'=true):((((List.range 11).map sl).drop 0).take 11).all Value.oneCell'=true:=by rw[List.all_eq_true];intro v hv;obtain⟨i,hi,rfl⟩:=List.mem_map.1 (List.mem_of_mem_drop (List.mem_of_mem_take hv));exact h i (List.mem_range.1 hi)
theorem VN(v:Value)(l:List bO)(day:Int)(g:G)(aH:Rs g v l)(hl:l.length≤1000000):cN prog 6 #[v,vI day] g fun g' r=>fV g' r (ofM l day):=by
 have hs:=St.start g;have ar:=G.le.refl g;obtain⟨a,c,rfl⟩:=aH.isSlice;have hT:um (List UInt8) prog 41 _:=Dk T.ok rfl rfl rfl rfl rfl;have hK:um Int prog 45 _:=Dk T.ok rfl rfl rfl rfl rfl;refine enter func6 rfl ntmps6 rfl<|cR<|w4 hs rfl fun b4 g1 hs ai=>?_;obtain⟨ar,aH⟩:=cr ai ar aH;refine b_<|cR<|ak rfl rfl<|kS (κ:=List UInt8) rfl hs fun bm g1 hs ai=>?_;obtain⟨ar,aH⟩:=cr ai ar aH;refine aX rfl<|az<|aZ rfl<|aI ?_
 refine bK (fun m a' w=> ∃(i:Nat) (g':G),w=g'.w∧St g g' [.obj bm (eV (oW (kM day (l.take i)))),xd b4 fun _=> .slice none 0 0]∧G.le g g'∧Rs g' (.slice a l.length c) l∧i≤l.length∧m=l.length-i∧
   Fr 91 [] [(1,vI day),(4,vP b4),(5,.map (some bm)),(19,.slice a l.length c),(20,vI (l.length:Nat)),(21,vI (i:Nat))] a') l.length
  (fun a' ha=>⟨0,g1,rfl,hs,ar,aH,Nat.zero_le _,rfl,ha.kp rfl⟩) ?_
 clear hs aH ar;rintro m a' _ ⟨i,g',rfl,hs,ar,aH,hi,rfl,dW⟩;revert a';refine ct<|aZ rfl<|az ?_;by_cases bt:i<l.length
 ·refine aJ (b:=decide ((i:Int)<(l.length:Int))) (decide_eq_true (by omega)) rfl ?_;have eH:dJ l (i:Int)=some l[i]:=bZ rfl bt;have dP:l.take (i+1)=l.take i++[l[i]]:=by rw[List.take_add_one,List.getElem?_eq_getElem bt];rfl
  generalize l[i]=x at*;have j_:kM day (l.take (i+1))=jn day (kM day (l.take i)) x:=by rw[dP,Hg]
  generalize kM day (l.take i)=M at hs j_;refine aF<|aq<|az<|aI<|cR<|zc (y:=x) aH eH rfl fun b p ys aL gw=>?_;obtain rfl:ys=cB x:=gw;have aD:=aL;clear aL;refine q5 1 [.e aD 0] rfl<|w4 hs rfl fun b7 g1 hs ai=>?_;obtain⟨ar,aH⟩:=cr ai ar aH;refine Hs 0 hs rfl fun g2 hs ai aM=>?_;obtain⟨ar,aH⟩:=cr ai ar aH;clear aD;refine b_<|sP 1 [.z aM] rfl<|Ev rfl (H9 x _) hs fun g1 hs ai=>?_;obtain⟨ar,aM,aH⟩:=dR ai ar aM aH;refine aX rfl<|az<|cG 3 rfl ?_;by_cases hk:fU x=[]
  ·refine cX (.bool true) (t:=29) rfl (congrArg Value.bool (by show((bs (fU x)).toList==(bs []).toList)=true;rw[cM,cM,hk];rfl))<|aX rfl<|aas rfl<|bc<|bg<|cA<|aq<|an<|Wp 2 rfl<|aA ?_;have e:jn day M x=M:=by unfold jn;rw[if_pos (.inl hk)]
   rw[e]at j_;exact fun a ha=>⟨l.length-(i+1),by omega,i+1,_,rfl,by rw[j_];exact hs,ar,aH,by omega,rfl,ha.keep ⟨rfl,rfl,rfl,rfl,rfl,kW rfl,trivial⟩⟩
  refine cX (.bool false) (t:=29) rfl (congrArg Value.bool (by show((bs (fU x)).toList==(bs []).toList)=false;rw[cM,cM];simp[hk]))<|KY [.z aM] rfl ?_;by_cases hd:day<x.day
  ·refine aJ (b:=decide (day<x.day)) (decide_eq_true hd) rfl<|bc<|bg<|cA<|aq<|an<|Wp 2 rfl<|aA ?_;have e:jn day M x=M:=by unfold jn;rw[if_pos (.inr hd)]
   rw[e]at j_;exact fun a ha=>⟨l.length-(i+1),by omega,i+1,_,rfl,by rw[j_];exact hs,ar,aH,by omega,rfl,ha.keep ⟨rfl,rfl,rfl,rfl,rfl,kW rfl,trivial⟩⟩
  refine aQ (b:=decide (day<x.day)) (decide_eq_false hd) rfl<|aF<|aq<|cG 2 rfl<|ak rfl rfl<|n_ hT rfl (hs.own 0 _ rfl).2.1 rfl (a:=fU x) rfl ?_;have hg:=En (fU x) M
  have hb:jn day M x=if(match C7 (fU x) M with|none=>true|some o=>rb x o)=true then o5 (fU x) x M else M:=by unfold jn;exact if_neg (by simp[hk,hd])
  cases yY:C7 (fU x) M with
  |none=>
   rw[yY]at hg hb;refine cX (.tuple #[fv fS,.bool false]) (t:=38) rfl (by rw[hg];rfl)<|Wp 3 rfl<|w4 hs rfl fun b9 g1 hs ai=>?_;obtain⟨ar,aM,aH⟩:=dR ai ar aM aH;refine Hs 0 hs rfl fun g2 hs ai cE=>?_;obtain⟨ar,aM,aH⟩:=dR ai ar aM aH;refine aX rfl<|aZ rfl<|aas rfl<|an<|q5 3 [.z aM] rfl<|bu rfl<|dQ hT 0 (.inl rfl) hs rfl rfl (a:=fU x) rfl rfl fun g6 hs ai=>?_;obtain⟨ar,aM,cE,aH⟩:=dK ai ar aM cE aH;replace hs:St g g6 [.obj bm (eV (jK (fU x) (fv x) (oW M))),xd b4 fun _=> .slice none 0 0]:=hs;rw[z8]at hs;refine aA<|bJ<|aq<|an<|Wp 2 rfl<|aA ?_;rw[hb,if_pos rfl]at j_;exact fun a ha=>⟨l.length-(i+1),by omega,i+1,_,rfl,by rw[j_];exact hs,ar,aH,by omega,rfl,ha.keep ⟨rfl,rfl,rfl,rfl,rfl,kW rfl,trivial⟩⟩
  |some o=>
   rw[yY]at hg hb;refine cX (.tuple #[fv o,.bool true]) (t:=38) rfl (by rw[hg];rfl)<|Wp 3 rfl<|w4 hs rfl fun b9 g1 hs ai=>?_;obtain⟨ar,aM,aH⟩:=dR ai ar aM aH;refine Hs 0 hs rfl fun g2 hs ai cE=>?_;obtain⟨ar,aM,aH⟩:=dR ai ar aM aH;refine aX rfl<|sP 5 [.z aM,.z cE] rfl<|Ev rfl (Dv x o _) hs fun g1 hs ai=>?_;obtain⟨ar,aM,aH⟩:=dR ai ar aM aH;refine aX rfl ?_;cases hp:rb x o with
   |true=>
    refine aas rfl<|an<|q5 3 [.z aM] rfl<|bu rfl<|dQ hT 0 (.inl rfl) hs rfl rfl (a:=fU x) rfl rfl fun g6 hs ai=>?_;obtain⟨ar,aM,aH⟩:=dR ai ar aM aH;replace hs:St g g6 [.obj bm (eV (jK (fU x) (fv x) (oW M))),xd b4 fun _=> .slice none 0 0]:=hs;rw[z8]at hs;refine aA<|bJ<|aq<|an<|Wp 2 rfl<|aA ?_;rw[hb,if_pos hp]at j_;exact fun a ha=>⟨l.length-(i+1),by omega,i+1,_,rfl,by rw[j_];exact hs,ar,aH,by omega,rfl,ha.keep ⟨rfl,rfl,rfl,rfl,rfl,kW rfl,trivial⟩⟩
   |false=>
    refine aar rfl<|aF<|bJ<|aq<|an<|Wp 2 rfl<|aA ?_;rw[hb,if_neg (by simp[hp])]at j_;exact fun a ha=>⟨l.length-(i+1),by omega,i+1,_,rfl,by rw[j_];exact hs,ar,aH,by omega,rfl,ha.keep ⟨rfl,rfl,rfl,rfl,rfl,kW rfl,trivial⟩⟩
 refine aQ (b:=decide ((i:Int)<(l.length:Int))) (decide_eq_false (by omega)) rfl ?_;rw[List.take_of_length_le (by omega)]at hs;have hM:=Eo day l;have Zb:=Bu day l;have Zc:ofM l day=⟨fun i=>dC (mK i) (iy (kM day l) i)⟩:=rfl;rw[Zc];generalize kM day l=M at hs hM Zb;clear Zc hi bt aH;refine bc<|bg<|bg<|cA<|aq<|cR ?_;obtain⟨g2,bS,aV,ai,lU⟩:=Ip hs (i:=0) rfl;rw[←bS];replace hs:=aV;clear aV;replace ar:=G.le.trans ar ai;clear bS ai;refine w4 hs rfl fun z6 g1 hs ai=>?_;replace ar:=G.le.trans ar ai;replace lU:=lU.mono ai;refine b_<|cR<|sO rfl (K7 _) ?_;rintro g5 _ rk ⟨bk,rfl,rH,yA⟩;have mS:w_ g5 bk lS:=⟨rH,yA⟩;clear rH yA;replace hs:=hs.call rk;have ai:=rk.le;replace ar:=G.le.trans ar ai;replace lU:=lU.mono ai;clear rk;refine aX rfl<|az<|cG 1 rfl<|ak rfl rfl<|uq hT rfl lU.2 rfl hs fun r1 g6 hs ai=>?_;replace ar:=G.le.trans ar ai;replace lU:=lU.mono ai;replace mS:=mS.mono ai
 iterate 11 replace hs:=hs.eP 40 19 none
 replace hs:St g g6 (Aw (fun _=> .slice none 0 0) (fun _=>[])++[.obj r1 (Ay bm (oW M).length #[]),xd z6 fun _=> .slice none 0 0,xd b4 fun _=> .slice none 0 0]):=hs;replace hs:=hs.perm List.perm_append_comm;refine b_<|aI ?_
 refine bK (fun m a' w=> ∃(seen:Array Nat) (sl:Nat→Value) (g':G),w=g'.w∧St g g' ([.obj r1 (Ay bm (oW M).length seen),xd z6 sl,xd b4 fun _=> .slice none 0 0]++Aw sl fun i=>iy (tO M seen.toList) i)∧G.le g g'∧w_ g' bm (oW M)∧w_ g' bk lS∧seen.toList.Nodup∧(∀j∈seen.toList,j<M.length)∧m=M.length-seen.toList.length∧
   Fr 91 [] [(4,vP b4),(11,vP z6),(12,.map (some bk)),(54,vP r1)] a') M.length
  (fun a' ha=>⟨#[],fun _=> .slice none 0 0,g6,rfl,hs,ar,lU,mS,by simp,by simp,rfl,ha.kp rfl⟩) ?_
 clear hs ar lU mS;rintro m a' _ ⟨seen,sl,g',rfl,hs,ar,lU,mS,yq,bt,rfl,dW⟩;have nd:=lT _ _ yq bt;revert a';refine ct<|cR<|ak rfl rfl (xe 0 rfl hs rfl lU.2 rfl (fun dj=>?_) (fun j q g6 hq hj Ni ai=>?_))
 rotate_left
 ·obtain⟨p,hp,rfl⟩:=NV hq;have WS:j<M.length:=(List.getElem?_eq_some_iff.1 hp).1;have Az:(seen.toList++[j]).Nodup:=List.nodup_append.2 ⟨yq,by simp,by intro a ha b hb;rw[List.mem_singleton.1 hb];rintro rfl;exact hj (by simpa using ha)⟩;have xf: ∀k∈seen.toList++[j],k<M.length:=by intro k hk;rcases List.mem_append.1 hk with hk|hk;exact bt k hk;rw[List.mem_singleton.1 hk];exact WS
  have F7:=lT _ _ Az xf;rw[List.length_append,List.length_singleton]at F7;have nv: ∀i,iy (tO M (seen.push j).toList) i=iy (tO M seen.toList) i++(if !p.2.gone&&decide (p.2.kind=(i:Int)+1)then [p.2]else []):=fun i=>by rw[Array.toList_push];exact Is hp i
  have vE:=z' M seen.toList;clear hs;replace hs:=Ni;clear Ni;replace ar:=G.le.trans ar ai;replace lU:=lU.mono ai;replace mS:=mS.mono ai;replace hs:St g g6 ([.obj r1 (Ay bm (oW M).length (seen.push j)),xd z6 sl,xd b4 fun _=> .slice none 0 0]++Aw sl fun i=>iy (tO M seen.toList) i):=hs;refine aX rfl<|az<|aas rfl<|aF<|aq<|aI<|cR<|ak rfl rfl<|ur 0 rfl hs rfl lU.2 rfl hq<|Wp 1 rfl<|w4 hs rfl fun Qy g1 hs ai=>?_;replace ar:=G.le.trans ar ai;replace lU:=lU.mono ai;replace mS:=mS.mono ai;refine Hs 0 hs rfl fun g2 hs ai aM=>?_;replace ar:=G.le.trans ar ai;replace lU:=lU.mono ai;replace mS:=mS.mono ai;refine b_<|Hw [.z aM] rfl ?_;have Qd:=hM.2 p (List.mem_of_getElem? hp);rw[Qd.1]at Qd;obtain⟨rH,yA⟩:=Iu Qd.2;clear Qd;generalize p.2=f at*;cases OK:f.gone with
  |true=>
   refine aar rfl<|aF<|bJ ?_;have e:(fun i=>iy (tO M seen.toList) i)=fun i=>iy (tO M (seen.push j).toList) i:=by funext i;rw[nv,OK];simp
   rw[e]at hs;exact fun a ha=>⟨M.length-(seen.push j).toList.length,by rw[Array.toList_push,List.length_append,List.length_singleton];omega,seen.push j,sl,_,rfl,hs,ar,lU,mS,by rw[Array.toList_push];exact Az,by rw[Array.toList_push];exact xf,rfl,ha.kp rfl⟩
  |false=>
   refine aas rfl ?_;obtain⟨i,j9⟩: ∃i:Nat,f.kind=(i:Int)+1:=⟨(f.kind-1).toNat,by omega⟩;have hi:i<11:=by omega
   have Zd:=F2 rH yA;rw[show(f.kind-1).toNat=i from by omega]at Zd;obtain⟨xs,OI⟩: ∃xs,xs=fun i=>iy (tO M seen.toList) i:=⟨_,rfl⟩
   have Bn: ∀i,iy (tO M seen.toList) i=xs i:=fun i=>by rw[OI]
   rw[←OI]at hs;have e:Bm xs i (xs i++[f])=fun i=>iy (tO M (seen.push j).toList) i:=by
    funext k;unfold Bm;rw[nv,OK,j9,Bn];by_cases H_:k=i
    ·subst H_;simp
    rw[if_neg H_,if_neg (by simp;omega),List.append_nil]
   have EA:(xs i).length≤1000000:=by have:=wD (tO M seen.toList) i;rw[Bn]at this;omega
   clear nv vE hp Bn OI;refine sP 3 [.z aM] rfl<|ak rfl rfl<|n_ hK rfl mS.2 rfl (a:=f.kind) rfl<|cX (sT i) (t:=65) rfl (by rw[Zd];rfl)<|Wp 1 rfl<|ak rfl rfl<|aC (Ib (lR hi)) aK rfl rfl rfl rfl rfl (Nf (lR hi) z6 _) ?_;rintro g7 _ C2 rfl;replace hs:=hs.call C2;have ai:=C2.le;obtain⟨ar,aM⟩:=cr ai ar aM;replace lU:=lU.mono ai;replace mS:=mS.mono ai;refine aX rfl ?_;have hL:=hs.own (i+3) _ (Ax hi);obtain⟨sa,sc,dS⟩:=hL.1.form;clear hL;apply ny (eF (fe (.e (.slice sa (xs i).length sc)::fe (.f (Fact.rs [f]):: .f Fact.any::[])))) 7 [(0,68),(6,74)] [6] [[3]] (Nh g [.obj r1 (Ay bm (oW M).length (seen.push j)),xd z6 sl,xd b4 fun _=> .slice none 0 0] sl xs i f) It (by unfold Nh;exact hs.dr) (by kernel_rfl) ⟨cz _,dq,trivial⟩
   ·refine Um [[],[],[1]] [] (by kernel_rfl) rfl<|bV (cT (js:=[(2,70)]) (by kernel_rfl) rfl fun ρ g8 h1 _ hle hJ=>cV rfl (bN (ay rfl ?_))) ?_
    ·unfold Nh at hJ;rw[h1 0 [3] 6 rfl rfl (by simp)]at hJ;exact cJ T.ok 1 rfl hJ rfl rfl ((Iq hi).trans (by rw[dS])) ⟨g8,rfl,a_.refl _,rfl⟩
    refine Um [[]] [.z aM] (by kernel_rfl) rfl<|bV (cT (js:=[(4,72)]) (by kernel_rfl) rfl fun ρ g8 _ _ hle hJ=>cV rfl (bN (ay rfl (bE T.ok rfl (St.start g8) (vs:=[(0,fv f)]) (cells:=cB f) rfl rfl rfl rfl rfl rfl (by decide) (by decide) (by kernel_rfl) rfl fun b g' lB _=>?_)))) ?_
    ·obtain⟨g2,e1,e2,e3⟩:=lO (α:=bO) lB (xs:=[f]) ⟨cB f,[],(List.append_nil _).symm,rfl,rfl⟩;exact⟨g2,e1,e2,e3⟩
    refine bV (jc (js:=[(3,71),(5,73)]) (by kernel_rfl) rfl fun ρ g8 h1 _ h3 hle hJ=>cV rfl (cW fun v5 h5=>bN ⟨rfl,?_⟩)) ?_
    ·unfold Nh at hJ;rw[h3]at hJ;replace h5:Rs g8 v5 [f]:=h5;obtain⟨a5,c5,rfl⟩:=h5.isSlice;obtain⟨_,news,hn,iu⟩:=Src.jx h5;obtain⟨c1,c2,rfl,rfl,rfl⟩:=hn;rw[List.append_nil]at iu;refine bU T.ok (i+3) rfl hJ (Ax hi) (by rw[dS];rfl) rfl rfl rfl rfl rfl (by decide) rfl iu (El.one (α:=bO) (g:=g8) (x:=f) rfl) (by show((xs i).length+1)*160≤_;omega) (by show(xs i).length+1≤maxLen;unfold maxLen;omega) fun a' c' g9 Kk Iv=>⟨g9,rfl,⟨Iv,?_⟩,trivial⟩
     refine(show(∃a c,Value.slice a' ((xs i).length+1) c'= .slice a ((xs i).length+1) c)∧St g g9 (_++Aw (Bm sl i (.slice a' ((xs i).length+1) c')) (Bm xs i (xs i++[f])))from⟨⟨a',c',rfl⟩,?_⟩);rw[←EO,List.length_append,List.length_singleton,mN];have e5:fl [f]=cB f:=List.append_nil _;rw[e5];exact Kk
    exact zd
   intro ρ g9 hle hJ dj;refine cV rfl (gk rfl fun v6 _ r6=>bN ?_);unfold Nh at hJ;rw[r6]at hJ;obtain⟨⟨a6,c6,rfl⟩,hs⟩:=hJ;have ai:=(G.bI _).trans hle;obtain⟨ar,aM⟩:=cr ai ar aM;replace lU:=lU.mono ai;replace mS:=mS.mono ai;clear hle dj r6 ρ;refine Wp 1 rfl<|bu rfl<|aw T.ok 1 rfl hs rfl rfl rfl rfl rfl rfl rfl (Nat.ble_eq_true_of_le (by show i+1≤11;omega)) (Lb hi _) fun g10 hs ai=>?_;obtain⟨ar,aM⟩:=cr ai ar aM;replace lU:=lU.mono ai;replace mS:=mS.mono ai;replace hs:St g g10 ([.obj r1 (Ay bm (oW M).length (seen.push j)),xd z6 (Bm sl i (.slice a6 ((xs i).length+1) c6)),xd b4 fun _=> .slice none 0 0]++Aw (Bm sl i (.slice a6 ((xs i).length+1) c6)) (Bm xs i (xs i++[f]))):=hs;rw[e]at hs;exact aA<|bJ<|fun a ha=>⟨M.length-(seen.push j).toList.length,by rw[Array.toList_push,List.length_append,List.length_singleton];omega,seen.push j,_,_,rfl,hs,ar,lU,mS,by rw[Array.toList_push];exact Az,by rw[Array.toList_push];exact xf,rfl,ha.kp rfl⟩
 have sq:(tO M seen.toList).Perm M:=Ep yq bt fun j hj=>by simpa using dj j (by rw[Kw];exact hj)
 have so: ∀i,(iy (tO M seen.toList) i).length≤1000000:=fun i=>by have:=wD (tO M seen.toList) i;have:=z' M seen.toList;omega
 have dI: ∀i,dC (mK i) (iy M i)=dC (mK i) (iy (tO M seen.toList) i):=fun i=>(C8 hM (FH sq i)).symm;simp only[dI];clear sq dI yq bt nd dj lU;refine aX rfl<|az<|aar rfl<|bc<|bg<|bg<|cA<|aq<|az<|cG 1 rfl<|ak rfl rfl<|uq hK rfl mS.2 rfl hs fun r2 g6 hs ai=>?_;replace ar:=G.le.trans ar ai;replace mS:=mS.mono ai;replace hs:St g g6 ([.obj r2 (Ay bk lS.length #[]),xd z6 sl,xd b4 fun _=> .slice none 0 0]++Aw sl fun i=>iy (tO M seen.toList) i):=hs.drop 1;generalize iy (tO M seen.toList)=xs at hs so;clear hM Zb hK;refine b_<|aI ?_
 refine bK (fun m a' w=> ∃(seen:Array Nat) (ys:Nat→List bO) (g':G),w=g'.w∧St g g' ([.obj r2 (Ay bk lS.length seen),xd z6 sl,xd b4 fun _=> .slice none 0 0]++Aw sl ys)∧G.le g g'∧w_ g' bk lS∧seen.toList.Nodup∧(∀j∈seen.toList,j<11)∧(∀i,ys i=if i∈seen.toList then dC (mK i) (xs i)else xs i)∧m=11-seen.toList.length∧
   Fr 91 [] [(4,vP b4),(11,vP z6),(77,vP r2)] a') 11
  (fun a' ha=>⟨#[],xs,g6,rfl,hs,ar,mS,by simp,by simp,by simp,rfl,ha.kp rfl⟩) ?_
 clear hs ar mS;rintro m a' _ ⟨seen,ys,g',rfl,hs,ar,mS,yq,bt,Nj,rfl,dW⟩;have nd:=lT _ _ yq bt;revert a';refine ct<|cR<|ak rfl rfl (xe 0 rfl hs rfl mS.2 rfl (fun dj=>?_) (fun j q g6 hq hj Ni ai=>?_))
 rotate_left
 ·obtain⟨BZ,rfl⟩:=F6 hq;have AA:j∉seen.toList:=by simpa using hj
  have Az:(seen.toList++[j]).Nodup:=List.nodup_append.2 ⟨yq,by simp,by intro a ha b hb;rw[List.mem_singleton.1 hb];rintro rfl;exact AA ha⟩;have xf: ∀k∈seen.toList++[j],k<11:=by intro k hk;rcases List.mem_append.1 hk with hk|hk;exact bt k hk;rw[List.mem_singleton.1 hk];exact BZ
  have F7:=lT _ _ Az xf;rw[List.length_append,List.length_singleton]at F7;clear hs;replace hs:=Ni;clear Ni;replace ar:=G.le.trans ar ai;replace mS:=mS.mono ai;replace hs:St g g6 ([.obj r2 (Ay bk lS.length (seen.push j)),xd z6 sl,xd b4 fun _=> .slice none 0 0]++Aw sl ys):=hs;refine aX rfl<|az<|aas rfl<|aF<|aq<|aI<|cR<|ak rfl rfl<|ur 0 rfl hs rfl mS.2 rfl hq<|Wp 1 rfl<|w4 hs rfl fun Z2 g1 hs ai=>?_;replace ar:=G.le.trans ar ai;replace mS:=mS.mono ai;refine Hs 0 hs rfl fun g2 hs ai aM=>?_;replace ar:=G.le.trans ar ai;replace mS:=mS.mono ai;apply b_;replace hs:St g _ ([.obj r2 (Ay bk lS.length (seen.push j)),xd z6 sl,xd b4 fun _=> .slice none 0 0]++Aw sl ys):=hs;have hL:=hs.own (j+3) _ (Ax BZ);obtain⟨sa,sc,dS⟩:=hL.1.form;clear hL;apply bD hs (gU (.e (.slice sa (ys j).length sc)::eF [])) 7 [(4,86),(6,88)] (by kernel_rfl) rfl
  ·exact pO [[],[0],[1],[2]] [.z aM,.c (Ib (lR BZ)) fun g _=>Nf (lR BZ) z6 g] hs rfl<|fR [(3,85)] (fun gd hf=>aax rfl (ay rfl (cJ T.ok 1 rfl (hs.dr.call hf) rfl rfl ((Iq BZ).trans (by rw[dS])) (aav rfl))))<|EG [[],[5]] [.z aM] hs rfl
  clear hs;intro g8 hs ai;replace ar:=G.le.trans ar ai;replace mS:=mS.mono ai;have aV:=hs.front (i:=j+3) (Ax BZ);rw[dS]at aV;refine Dj rfl (Io (fi:=u0 j) (kf:=mK j) (ys j) rfl (by have:=so j;rw[Nj];split;rw[fG];all_goals omega) (fun g' _ f=>dy (first:=#[]) (args:=[fv f]) (captured:=#[]) (OF (lR BZ)) rfl (S0 (lR BZ) f g')) aV) ?_;clear hs aV;rintro g9 _ ai ⟨rfl,hs⟩;replace ar:=G.le.trans ar ai;replace mS:=mS.mono ai;have e6:fW 40 sa (ys j).length sc (dC (mK j) (ys j))= .row 40 19 (sl j) (dC (mK j) (ys j)).length (fl (dC (mK j) (ys j))):=by rw[fG,dS]
  rw[e6]at hs;replace hs:=hs.perm (zl _ (by rw[List.length_append,La];show j+3<3+11;omega));replace hs:St g g9 ([.obj r2 (Ay bk lS.length (seen.push j)),xd z6 sl,xd b4 fun _=> .slice none 0 0]++(Aw sl ys).set j (.row 40 19 (sl j) (dC (mK j) (ys j)).length (fl (dC (mK j) (ys j))))):=hs;rw[EO,show Bm sl j (sl j)=sl from by funext i;unfold Bm;split<;>simp[*]]at hs;refine aA<|bJ<|fun a ha=>⟨11-(seen.push j).toList.length,by rw[Array.toList_push,List.length_append,List.length_singleton];omega,seen.push j,_,_,rfl,hs,ar,mS,by rw[Array.toList_push];exact Az,by rw[Array.toList_push];exact xf,fun i=>?_,rfl,ha.kp rfl⟩
  unfold Bm;rw[Array.toList_push];by_cases Bk:i=j
  ·subst Bk;rw[if_pos rfl,if_pos (by simp),Nj,if_neg AA]
  rw[if_neg Bk,Nj];simp[Bk]
 have Q0: ∀i,i<11→ys i=dC (mK i) (xs i):=fun i hi=>by rw[Nj,if_pos (by simpa using dj i hi)]
 replace hs:=hs.perm List.perm_append_comm;obtain⟨g7,HA,CW,ai,sy⟩:=Ir (List.range 11) hs;rw[←HA];clear hs;replace hs:=CW;clear CW;clear HA;have h1: ∀i,i<11→(sl i).oneCell'=true:=fun i hi=>by obtain⟨a,c,e⟩:=(sy i (List.mem_range.2 hi)).isSlice;rw[e];rfl
 refine aX rfl<|az<|aar rfl<|bc<|bg<|bg<|cA<|aq<|c_ 1 [.o 1] hs rfl<|bu rfl<|aw T.ok 2 rfl hs rfl rfl rfl rfl rfl rfl (Ta h1) rfl rfl fun g8 hs ai=>b_<|aG (me T.ok 2 rfl hs rfl rfl rfl (hs.ret ⟨sl,rfl,fun i hi=>?_⟩));have:=(sy i (List.mem_range.2 hi)).mono ai;rw[Q0 i hi]at this;exact this
end Go.Proofs.YtbfjdfecgiegpaaGreatDoor
namespace Go.K
open Go Go.RowKit
variable {P:Program} {N:Nat} {l:Env} {g0 g:G} {L:List df} {R:Ending→World→Prop}
theorem mr{fn:Func}{tb:Tb}(dE:tb.ok P)(i:Nat){t T b u:Nat}{cs:List Value}{E:TypeId}{fz:Nat×Nat}{v x:Value}(hr:fn.results=#[.cell t T,.tmp u])(hs:St g0 g L)(hi:L[i]? =some (.obj b (.cells cs.toArray E fz)))
  (hl:lk l t=some (vP b)) (hv:Ar tb T cs 0=some v) (hu:lk l u=some x) (hR:R (.returned (.tuple #[v,x])) g.w) (a:Act) (ha:Fr N [] l a):bodyPost P fn R .ret a g.w:=by
 refine⟨ha.defers,_,?_,hR⟩;have:=jD (P:=P) (w:=g.w) (off:=0) (o:=0) dE hv (lI (hs.own i _ hi).2.1);simp only[Nat.add_zero]at this;simp[results,hr,ha.get t _ hl,asAddr,this,ha.get u _ hu]
end Go.K
namespace Go.Proofs.YtbfjdfecgiegpaaGreatDoor
def visit(f:bG):Nat→List Bool→Int→List Bool
 |0,out,_=>out
 |k+1,out,n=>(eB (bj f n)).foldl (fun o m=>if o.getD m.toNat true then o else visit f k o m) (out.set n.toNat true)
def dB(f:bG)(k:Nat)(o:List Bool)(l:List Int):List Bool:=l.foldl (fun o m=>if o.getD m.toNat true then o else visit f k o m) o
theorem rS(f:bG)(k:Nat)(out:List Bool)(n:Int):visit f (k+1) out n=dB f k (out.set n.toNat true) (eB (bj f n)):=rfl
theorem yE(f:bG)(k:Nat)(o:List Bool)(pre:List Int)(x:Int):
  dB f k o (pre++[x])=if(dB f k o pre).getD x.toNat true=true then dB f k o pre else visit f k (dB f k o pre) x:=by
 unfold dB;rw[List.foldl_append,List.foldl_cons,List.foldl_nil]
def cu(f:bG)(n:Int):List Bool:=visit f f.steps.length (List.replicate f.steps.length false) n
def ib:Nat→List Bool→List Int
 |_,[]=>[]
 |k,b::r=>(if b then [(k:Int)]else [])++ib (k+1) r
def reach(f:bG)(n:Int):List Int:=if given f [n]then ib 0 (cu f n)else []
def ends(f:bG):List Int:=(reach f 0).filter fun n=>oV (bj f n)
theorem pS(f:bG)(k:Nat)(hv: ∀o n,(visit f k o n).length=o.length∧(visit f k o n).count false≤o.count false)(l:List Int)(o:List Bool):
  (dB f k o l).length=o.length∧(dB f k o l).count false≤o.count false:=by
 induction l generalizing o with
 |nil=>exact⟨rfl,Nat.le_refl _⟩
 |cons m r ih=>
  unfold dB at ih⊢;rw[List.foldl_cons];by_cases h:o.getD m.toNat true=true
  ·rw[if_pos h];exact ih o
  rw[if_neg h];have h1:=ih (visit f k o m);have h2:=hv o m;exact⟨h1.1.trans h2.1,Nat.le_trans h1.2 h2.2⟩
theorem xh(o:List Bool)(i:Nat):(o.set i true).count false≤o.count false:=by
 by_cases h:i<o.length
 ·rw[List.count_set h];simp
 rw[List.set_eq_of_length_le (by omega)];exact Nat.le_refl _
theorem mC(f:bG)(k:Nat): ∀o n,(visit f k o n).length=o.length∧(visit f k o n).count false≤o.count false:=by
 induction k with
 |zero=>intro o n;exact⟨rfl,Nat.le_refl _⟩
 |succ k ih=>
  intro o n;rw[rS];have h:=pS f k ih (eB (bj f n)) (o.set n.toNat true);exact⟨by rw[h.1];simp,Nat.le_trans h.2 (xh o _)⟩
theorem iK{o:List Bool}{i:Nat}(h:o[i]? =some false):(o.set i true).count false+1=o.count false:=by obtain⟨hi,he⟩:=List.getElem?_eq_some_iff.1 h;rw[List.count_set hi,he];have:0<o.count false:=List.count_pos_iff.2 (List.mem_iff_getElem.2 ⟨i,hi,he⟩);simp;omega
theorem pI{back:Int}{l:List Int}{m:Int}(h:m∈dG back l):m∈l∨(m=back∧0≤back):=by
 induction l generalizing back with
 |nil=>
  unfold dG at h;split at h
  ·simp at h;exact .inr ⟨h,by assumption⟩
  simp at h
 |cons n r ih=>
  unfold dG at h;rw[List.mem_append]at h;rcases h with h|h
  ·split at h
   ·simp at h;rename_i hc;exact .inr ⟨h,hc.1⟩
   simp at h
  rcases List.mem_cons.1 h with rfl|h
  ·exact .inl (List.mem_cons_self)
  rcases ih h with h|⟨h1,h2⟩
  ·exact .inl (List.mem_cons_of_mem _ h)
  split at h1
  ·rename_i hc;rw[if_pos hc]at h2;omega
  rename_i hc;rw[if_neg hc]at h2;exact .inr ⟨h1,h2⟩
theorem F8{lo hi p:Int}{l:List Int}(h:kN lo hi p l=true): ∀m∈l,lo≤m∧m≤hi∧p<m:=by
 induction l generalizing p with
 |nil=>simp
 |cons n r ih=>
  simp only[kN,within,Bool.and_eq_true,decide_eq_true_eq]at h;intro m hm;rcases List.mem_cons.1 hm with rfl|hm
  ·omega
  have:=ih h.2 m hm;omega
theorem yF{lo hi:Int}{l:List Int}(h:ascending l lo hi=true): ∀m∈l,lo≤m∧m≤hi:=by
 cases l with
 |nil=>simp
 |cons n r=>
  simp only[ascending,within,Bool.and_eq_true,decide_eq_true_eq]at h;intro m hm;rcases List.mem_cons.1 hm with rfl|hm
  ·omega
  have:=F8 h.2 m hm;omega
theorem rT{s:Step}{n:Int}(h:cf s n=true): ∀m∈s.next,0≤m∧m<n:=by unfold cf at h;simp only[Bool.and_eq_true,decide_eq_true_eq]at h;intro m hm;have:=yF h.1.1.1.2 m hm;omega
theorem DB{s:Step}{n:Int}(h:cf s n=true):s.back<n∨s.back= -1:=by unfold cf within at h;simp only[Bool.and_eq_true,decide_eq_true_eq,Bool.or_eq_true,beq_iff_eq]at h;rcases h.1.1.1.1.1.1.1 with h|h<;>omega
theorem gS{f:bG}(h:valid f=true){n:Int}(h0:0≤n)(h1:n<f.steps.length): ∀m∈eB (bj f n),0≤m∧m<f.steps.length:=by
 intro m hm;have hr:=kz h h0 h1;rcases pI hm with h2|⟨rfl,h2⟩
 ·exact rT hr m h2
 rcases DB hr with h3|h3<;>omega
end Go.Proofs.YtbfjdfecgiegpaaGreatDoor
namespace Go.Proofs.YtbfjdfecgiegpaaGreatDoor
open Go Go.K Tryz
set_option maxRecDepth 10000
attribute [local irreducible] W WL cS bh bY bB bA bC cL cD
set_option maxHeartbeats 1000000
def o8(ob N:Nat)(out:List Bool):df:=.row 4 1 (.slice (vA ob) N N) N (out.map Value.bool)
structure xv(g:G)(f:bG)(ob N bo bf bv:Nat):Prop where
 W7:EP g bo 0 [.slice (vA ob) N N]
 SZ: ∃cs,EP g bf 0 cs∧uv g cs f
 Zl:EP g bv 0 [.func (.func 217) #[] #[vP bo,vP bf,vP bv]]
theorem xv.mono{g g':G}{f:bG}{ob N bo bf bv:Nat}(h:xv g f ob N bo bf bv)(hle:g.le g'):xv g' f ob N bo bf bv:=
 ⟨h.W7.mono hle,by obtain⟨cs,h1,h2⟩:=h.SZ;exact⟨cs,h1.mono hle,h2.mono hle⟩,h.Zl.mono hle⟩
theorem LL(f:bG)(cF:valid f=true)(ob N bo bf bv:Nat)(hN:N=f.steps.length): ∀(k:Nat) (g0 g:G) (L:List df) (i:Nat) (out:List Bool) (n:Int),
  St g0 g L→L[i]? =some (o8 ob N out)→xv g f ob N bo bf bv→out.length=N→0≤n→out[n.toNat]? =some false→out.count false≤k→
  CallsIn Wd 0 prog 217 #[vI n,vP bo,vP bf,vP bv] g.w
   fun e w'=> ∃g',g'.w=w'∧e= .returned (.tuple #[])∧St g0 g' (L.set i (o8 ob N (visit f k out n)))∧g.le g':=by
 intro k
 induction k with
 |zero=>
  intro g0 g L i out n _ _ _ _ _ hn hc;exact absurd (List.count_pos_iff.2 (List.mem_of_getElem? hn)) (by omega)
 |succ k ih=>
  intro g0 g L i out n hs hi DP hlen h0 hn hc;have bt:n.toNat<N:=by rw[←hlen];exact(List.getElem?_eq_some_iff.1 hn).1
  have U7:i<L.length:=(List.getElem?_eq_some_iff.1 hi).1;have ar:=G.le.refl g;have aD:=DP.W7;obtain⟨cs,aM,a1,n1,c1,a2,n2,c2,rfl,aH,aW⟩:=DP.SZ;obtain⟨_,_,e⟩:=aH.isSlice;obtain⟨rfl,rfl,rfl⟩:=Value.slice.inj e;clear e;have aai:=DP;refine uj func217 rfl ntmps217 rfl<|sP 2 [.z aD] rfl<|ak rfl rfl<|eo T.ok rfl (hs.own i _ hi).1 h0 bt rfl rfl rfl rfl rfl rfl fun b p hh=>?_;obtain⟨rfl,rfl⟩:ob=b∧0=p:=by simpa using hh
  refine bu rfl (iA T.ok i (n.toNat*1) (us:=[.bool true]) rfl hs hi rfl rfl rfl rfl rfl rfl (by decide) (by simp;omega) (xs':=(out.set n.toNat true).map Value.bool) ?_ ?_)
  ·rw[Nat.mul_one,List.map_set];unfold nr;rw[List.set_eq_take_append_cons_drop];simp[hlen,bt]
  rintro g1 hs ai;obtain⟨ar,aD,aM,aH⟩:=dK ai ar aD aM aH;replace DP:=DP.mono ai;refine b_<|sP 3 [.z aM] rfl ?_;have Ew:n<f.steps.length:=by omega
  refine zc (y:=bj f n) aH (by unfold bj;rw[bZ (j:=n.toNat) (by omega) (by omega)];simp[List.getD_eq_getElem?_getD,show n.toNat<f.steps.length from by omega]) rfl ?_;rintro b q ys aL gw;have TB:jS _ (.agg ys.toArray) (bj f n):=⟨ys,rfl,gw⟩;obtain⟨b1,b2,b3,b4,b5,b6,rfl,_,_⟩:=gw;refine q5 1 [.e aL 0] rfl<|sO rfl (LK _ _ _ TB) ?_;rintro g4 v mg ⟨lj,fp,rfl,fw,Rh⟩;replace hs:=hs.call mg;have ai:=mg.le;obtain⟨ar,aD,aM⟩:=dR ai ar aD aM;replace DP:=DP.mono ai;refine b_<|aI ?_;have TC:=mC f k;have gL:=iK hn
  refine EL (N:=24) hs rfl fw Rh rfl (fun _=>rfl)
   (fun pre L' _=>L'=L.set i (o8 ob N (dB f k (out.set n.toNat true) pre))) (fun _ _ _ _=>False)
   (fun _ _ _ _ _ h=>h) (fun _ _ _ _ _ _ h=>h) rfl (fun x=>[(5,vI x),(1,vP bo),(2,vP bf),(3,vP bv)]) ?_ ?_ ?_ ?_
  ·intro x ro w;exact an<|Wp 1 rfl<|aA<|fun a ha=>⟨rfl,ha.kp rfl⟩
  ·rintro lp D ro pre x rest gr Lr nv hle hs rfl;have DP:=DP.mono hle;have dL:=G.le.refl gr;have aD:=DP.W7;obtain⟨cs',aM,Zm⟩:=DP.SZ;have cE:=DP.Zl;obtain⟨h3,h4⟩:=gS cF h0 Ew x (by rw[nv];simp);have Qd:=pS f k TC pre (out.set n.toNat true);have yk:(dB f k (out.set n.toNat true) pre).length=N:=by rw[Qd.1];simp[hlen]
   have so:x.toNat<(dB f k (out.set n.toNat true) pre).length:=by omega
   have W8:(df.obj lp (ro LoopState.busy)::df.obj D gC::L.set i (o8 ob N (dB f k (out.set n.toNat true) pre)))[i+2]? =some (o8 ob N (dB f k (out.set n.toNat true) pre)):=by simp[U7]
   have jT:dB f k (out.set n.toNat true) (pre++[x])=if(dB f k (out.set n.toNat true) pre)[x.toNat]=true then dB f k (out.set n.toNat true) pre else visit f k (dB f k (out.set n.toNat true) pre) x:=by rw[yE,List.getD_eq_getElem?_getD,List.getElem?_eq_getElem so];rfl
   refine aI<|sP 2 [.z aD] rfl<|ak rfl rfl<|eo T.ok rfl (hs.own (i+2) _ W8).1 h3 (by omega) rfl rfl rfl rfl rfl rfl fun b p hh=>?_;obtain⟨rfl,rfl⟩:ob=b∧0=p:=by simpa using hh
   refine ak rfl rfl (fB T.ok (x.toNat*1) rfl (hs.own (i+2) _ W8).1 rfl (v:=.bool ((dB f k (out.set n.toNat true) pre)[x.toNat])) (by show(List.map Value.bool _)[x.toNat*1]? =_;rw[Nat.mul_one,List.getElem?_map,List.getElem?_eq_getElem so];rfl) ?_);refine aX rfl ?_;cases hb:(dB f k (out.set n.toNat true) pre)[x.toNat]with
   |true=>
    exact aar rfl<|aF<|bJ<|fun a ha=>⟨_,_,rfl,hs,dL,by rw[jT,if_pos hb]⟩
   |false=>
    refine aas rfl<|an<|q5 2 [.z cE] rfl ?_;have pX:=ih g0 gr _ (i+2) _ x hs W8 DP yk h3 (by rw[List.getElem?_eq_getElem so,hb]) (by omega);have W9:=dy (first:=#[]) (args:=[vI x]) (captured:=#[vP bo,vP bf,vP bv]) (Wc 217) rfl pX;refine ak rfl rfl (fC rfl rfl rfl rfl rfl rfl (W9.mono ?_));rintro _ _ ⟨g5,rfl,rfl,IX,ai⟩;refine⟨_,rfl,?_⟩;replace dL:=G.le.trans dL ai;exact aA<|bJ<|fun a ha=>⟨_,_,rfl,IX,dL,by rw[jT,if_neg (by simp[hb]),List.set_set]⟩
  ·rintro lp D o Lr ge hle hs rfl;refine bJ<|Nd 1 rfl hs rfl (fun g' lB gB=>?_);refine⟨g',rfl,rfl,?_,(ar.trans hle).trans gB⟩;have:=lB.drop 0;rw[rS];exact this
  rintro c lp D o pre Lr ge _ _ _ h;exact h.elim
end Go.Proofs.YtbfjdfecgiegpaaGreatDoor
namespace Go.Proofs.YtbfjdfecgiegpaaGreatDoor
open Go Go.K Tryz
set_option maxRecDepth 10000
attribute [local irreducible] W WL cS bh bY bB bA bC cL cD
set_option maxHeartbeats 1000000
theorem cY.HJ(g:G): ∀xs:List Bool,cY g (xs.map Value.bool) xs
 |[]=>rfl
 |x::xs=>⟨[.bool x],xs.map Value.bool,rfl,rfl,cY.HJ g xs⟩
theorem qJ{f:bG}(h:valid f=true):1≤f.steps.length∧f.steps.length≤40:=by unfold valid within at h;simp only[Bool.and_eq_true,decide_eq_true_eq]at h;omega
theorem uw(v:Value)(f:bG)(n:Int)(g:G)(dt:fP g v f)(cF:valid f=true)(h0:0≤n)(h1:n<f.steps.length):
  cN prog 164 #[v,vI n] g (kh 4 g (cu f n)):=by
 obtain⟨a1,n1,c1,a2,n2,c2,rfl,aH,aW⟩:=id dt;obtain⟨_,_,e⟩:=aH.isSlice;obtain⟨rfl,rfl,rfl⟩:=Value.slice.inj e;clear e;have hlen:=qJ cF;have hs:=St.start g;refine enter func164 rfl ntmps164 rfl<|cR<|EH hs rfl fun bf g1 hs ai=>?_;obtain⟨aH,aW⟩:=cr ai aH aW;refine aX rfl<|c_ 3 [.o 0] hs rfl ?_;obtain⟨g2,bS,aV,ai,aL⟩:=hs.bd (i:=0) rfl;replace hs:=aV;clear aV;rw[←bS];obtain⟨aH,aW⟩:=cr ai aH aW;have aD:=aL;clear aL;refine ak rfl rfl<|sJ T.ok rfl hs rfl rfl rfl rfl rfl rfl (by decide) rfl (by show 1*f.steps.length≤_;omega) (by unfold maxLen;omega) fun ob g1 hs ai=>?_;obtain⟨aD,aH,aW⟩:=dR ai aD aH aW;refine w4 hs rfl fun bo g1 hs ai=>?_;obtain⟨aD,aH,aW⟩:=dR ai aD aH aW;refine Hs 0 hs rfl fun g2 hs ai aM=>?_;obtain⟨aD,aH,aW⟩:=dR ai aD aH aW;refine b_<|cR<|w4 hs rfl fun bv g1 hs ai=>?_;obtain⟨aD,aM,aH,aW⟩:=dK ai aD aM aH aW;refine b_<|cG 1 rfl<|Hs 0 hs rfl fun g2 hs ai cE=>?_;obtain⟨aD,aM,aH,aW⟩:=dK ai aD aM aH aW;refine b_<|sP 2 [.z cE] rfl ?_;have pg:(List.replicate f.steps.length [Value.bool false]).flatten=(List.replicate f.steps.length false).map Value.bool:=by simp
 have dI:St g g2 [o8 ob f.steps.length (List.replicate f.steps.length false)]:=by unfold o8;rw[←pg];exact hs
 have DP:xv g2 f ob f.steps.length bo bf bv:=⟨aM,⟨_,aD,_,_,_,_,_,_,rfl,aH,aW⟩,cE⟩;have pX:=LL f cF ob _ bo bf bv rfl f.steps.length g g2 _ 0 _ n dI rfl DP (by simp) h0 (by rw[List.getElem?_replicate,if_pos (by omega)]) (by simp);have W9:=dy (first:=#[]) (args:=[vI n]) (captured:=#[vP bo,vP bf,vP bv]) (Wc 217) rfl pX;refine ak rfl rfl (fC rfl rfl rfl rfl rfl rfl (W9.mono ?_));rintro _ _ ⟨g5,rfl,rfl,IX,ai⟩;refine⟨_,rfl,?_⟩;replace hs:=IX;replace aM:=aM.mono ai;exact b_<|Hw [.z aM] rfl<|aG<|nw rfl hs<|hs.mw (i:=0) rfl (cY.HJ _ _)
theorem wY(l:List Bool)(k:Nat)(h:k<l.length):ib 0 (l.take (k+1))=ib 0 (l.take k)++(if l[k]then [(k:Int)]else []):=by
 have gen: ∀(l:List Bool) (j k:Nat) (h:k<l.length),ib j (l.take (k+1))=ib j (l.take k)++(if l[k]then [((j+k:Nat):Int)]else []):=by
  intro l
  induction l with
  |nil=>intro j k h;simp at h
  |cons b r ih=>
   intro j k h;cases k with
   |zero=>simp[ib]
   |succ k=>
    simp only[List.take_succ_cons,ib];rw[ih (j+1) k (by simpa using h)];simp[Nat.add_assoc,Nat.add_comm 1 k]
 simpa using gen l 0 k h
theorem t_(l:List Bool)(j:Nat):(ib j l).length≤l.length:=by
 induction l generalizing j with
 |nil=>simp[ib]
 |cons b r ih=>have:=ih (j+1);simp only[ib];split<;>simp<;>omega
theorem eG(f:bG)(n:Int):(cu f n).length=f.steps.length:=by unfold cu;rw[(mC f _ _ _).1];simp
theorem E0(v:Value)(f:bG)(n:Int)(g:G)(dt:fP g v f):
  cN prog 162 #[v,vI n] g (kh 3 g (reach f n)):=by
 obtain⟨a1,n1,c1,a2,n2,c2,rfl,aH,aW⟩:=id dt;obtain⟨_,_,e⟩:=aH.isSlice;obtain⟨rfl,rfl,rfl⟩:=Value.slice.inj e;clear e;have hs:=St.start g;refine enter func162 rfl ntmps162 rfl<|cR<|EH hs rfl fun b1 g1 hs ai=>?_;replace dt:=dt.mono ai;refine aX rfl<|az<|c_ 2 [.o 0] hs rfl<|BP [(0,vI n)] [vI n] hs rfl rfl fun b2 g2 hs ai=>?_;replace dt:=dt.mono ai;obtain⟨g3,vT,ED,Ak,oZ⟩:=hs.cP (α:=Int) (xs:=[n]) (i:=0) rfl (cY.ints _ [n]);clear ai;have ai:=Ak;rw[←vT];replace hs:=ED;replace dt:=dt.mono ai;refine Ev rfl (LG _ _ f [n] _ dt oZ) hs fun g1 hs ai=>?_;replace dt:=dt.mono ai;refine aX rfl ?_;cases hg:given f [n]with
 |false=>
  refine aas rfl<|aZ rfl<|aG<|nw rfl hs ?_;unfold reach;rw[hg];exact kh.nil _ _ _ _
 |true=>
  refine aar rfl ?_;have OK:(0≤n∧n<f.steps.length)∧valid f=true:=by unfold given at hg;simp only[Bool.and_eq_true,List.any_cons,List.any_nil,Bool.or_false,Bool.not_eq_true',qH,Bool.or_eq_false_iff,decide_eq_false_iff_not]at hg;exact⟨by omega,hg.1⟩
  have Ob:=qJ OK.2;refine aF<|aq<|az<|c_ 2 [.o 0] hs rfl<|sO rfl (uw _ f n _ dt OK.2 OK.1.1 OK.1.2) fun g4 v mg eh=>?_;obtain⟨g5,Ri,IX,aaj,sy⟩:=hs.jO mg eh;replace hs:=IX;rw[←Ri];obtain⟨ab,cb,rfl⟩:=sy.isSlice;have CX:=eG f n;generalize ri:cu f n=bs at*;replace hs:=(hs.drop 0).eP 3 1 none;refine aX rfl<|aI ?_
  refine bK (fun m a' w=> ∃(k:Nat) (g':G) (v:Value),w=g'.w∧St g g' [.row 3 1 v (ib 0 (bs.take k)).length ((ib 0 (bs.take k)).map (Value.int .i64))]∧G.le g5 g'∧k≤bs.length∧m=bs.length-k∧
   Fr 28 [] [(4,v),(14,.slice ab bs.length cb),(15,vI bs.length),(16,vI k)] a') bs.length (fun a' ha=>⟨0,_,_,rfl,hs,G.le.refl _,Nat.zero_le _,rfl,ha.kp rfl⟩) ?_
  clear hs;rintro m a' _ ⟨k,g',v,rfl,hs,ar,hk,rfl,dW⟩;have cd:=sy.mono ar;revert a';refine ct<|aZ rfl<|az ?_;by_cases bt:k<bs.length
  ·refine aJ (b:=decide ((k:Int)<(bs.length:Int))) (by simp;omega) rfl ?_;have KI:=t_ (bs.take k) 0;rw[List.length_take]at KI;have nd:=wY bs k bt;refine aF<|aq<|az<|aI<|cG 1 rfl<|zc (y:=bs[k]) cd (by simp[dJ,bt]) rfl ?_;rintro b p ys aL rfl;refine q5 1 [.e aL 0] rfl<|aX rfl<|aZ rfl ?_;cases hb:bs[k]with
   |false=>
    refine aar rfl ?_;rw[hb,if_neg (by simp),List.append_nil]at nd;exact aF<|bJ<|aq<|an<|Wp 2 rfl<|aA<|fun a ha=>⟨bs.length-(k+1),by omega,k+1,_,v,rfl,by rw[nd];exact hs,ar,by omega,rfl,ha.keep ⟨rfl,rfl,rfl,kW rfl,trivial⟩⟩
   |true=>
    refine aas rfl ?_;rw[hb,if_pos rfl]at nd;refine an<|Wp 2 rfl<|BP [(0,vI k)] [vI k] hs rfl rfl fun b2 g2 hs ai=>?_;replace ar:=G.le.trans ar ai;refine ak rfl rfl<|bU T.ok 1 rfl hs rfl rfl rfl rfl rfl rfl rfl (by decide) rfl (Src.eI (hs.own 0 _ rfl).1).2 (by simp[Value.oneCell']) (by show((ib 0 (bs.take k)).length+1)*8≤_;omega) (by unfold maxLen;omega) fun a' c' g3 hs ai=>?_;replace ar:=G.le.trans ar ai;exact Wp 1 rfl<|aA<|bJ<|aq<|an<|Wp 2 rfl<|aA<|fun a ha=>⟨bs.length-(k+1),by omega,k+1,_,_,rfl,by rw[nd];simpa using hs.drop 0,ar,by omega,rfl,ha.keep ⟨rfl,rfl,rfl,kW rfl,trivial⟩⟩
  refine aQ (b:=decide ((k:Int)<(bs.length:Int))) (by simp;omega) rfl ?_;obtain rfl:k=bs.length:=by omega
  refine bc<|bg<|bg<|cA<|aq<|aZ rfl<|aG<|nw rfl hs ?_;unfold reach;rw[hg,if_pos rfl,ri];rw[List.take_length]at hs;exact hs.mw (i:=0) rfl (cY.ints _ _)
end Go.Proofs.YtbfjdfecgiegpaaGreatDoor
namespace Go.Proofs.YtbfjdfecgiegpaaGreatDoor
open Go Go.K Tryz
set_option maxRecDepth 10000
attribute [local irreducible] W WL cS bh bY bB bA bC cL cD
set_option maxHeartbeats 1000000
def jf(xs:List Int):List Value:=xs.map (Value.int .i64)
theorem Gh(xs:List Int)(n:Nat):(jf xs).take n=jf (xs.take n):=by simp[jf]
theorem oc{α:Type}(p:α→Bool)(l:List α):(mT p l= -1∧ ∀x∈l,p x=false)∨ ∃k,∃h:k<l.length,mT p l=k∧p l[k]=true∧ ∀j (h:j<l.length),j<k→p l[j]=false:=by
 unfold mT;cases h:l.any p with
 |false=>exact .inl ⟨rfl,fun x hx=>by simpa using(List.any_eq_false.1 h) x hx⟩
 |true=>
  refine .inr ⟨l.findIdx p,?_,rfl,?_,?_⟩
  ·obtain⟨x,hx,hp⟩:=List.any_eq_true.1 h;exact List.findIdx_lt_length_of_exists ⟨x,hx,hp⟩
  ·exact List.findIdx_getElem
  intro j hj bt;simpa using List.not_of_lt_findIdx bt
theorem B8{α:Type}{L:List α}{i:Nat}{e:α}(h:L[i]? =some e):L.set i e=L:=by
 apply List.ext_getElem?;intro j;rw[List.getElem?_set];split
 ·rename_i h';subst h';rw[h];simp[(List.getElem?_eq_some_iff.1 h).1]
 rfl
theorem rl{α:Type}{cs:List α}{i:Nat}{x:α}(h:i<cs.length):(cs.set i x).take (i+1)=cs.take i++[x]:=by rw[List.set_eq_take_append_cons_drop,if_pos h,show cs.take i++x::cs.drop (i+1)=(cs.take i++[x])++cs.drop (i+1)from by simp];exact List.take_left' (by simp;omega)
theorem AJ{p:Int→Bool}(xs:List Int)(k:Nat)(h:k<xs.length)(hp:p xs[k]=true)(de: ∀j (h:j<xs.length),j<k→p xs[j]=false):
  xs.take k=(xs.take (k+1)).filter (fun x=> !p x):=by
 rw[List.take_succ_eq_append_getElem h,List.filter_append];have:(xs.take k).filter (fun x=> !p x)=xs.take k:=by rw[List.filter_eq_self];intro x hx;obtain⟨j,hj,rfl⟩:=List.mem_iff_getElem.1 hx;simp only[List.length_take]at hj;rw[List.getElem_take,de j (by omega) (by omega)];rfl
 rw[this];simp[hp]
theorem AK(p:Int→Bool)(g0 g:G)(L:List df)(i:Nat)(v fv:Value)(xs:List Int)(hs:St g0 g L)(hi:L[i]? =some (.row 3 1 v xs.length (jf xs)))(hlen:xs.length≤1000000)
  (hp: ∀(g':G) (x:Int),x∈xs→g.le g'→jd prog fv [vI x] g'.w (cO g' fun _ r=>r= .bool (p x))):
  CallsIn Wd 0 prog 214 #[v,fv] g.w fun e w'=> ∃g' v',g'.w=w'∧e= .returned v'∧g.le g'∧St g0 g' (L.set i (.row 3 1 v' (xs.filter fun x=> !p x).length (jf (xs.filter fun x=> !p x)))):=by
 have ar:=G.le.refl g;have U7:i<L.length:=(List.getElem?_eq_some_iff.1 hi).1;obtain⟨ad,cap,rfl⟩:=(hs.own i _ hi).1.form;refine enter func214 rfl ntmps214 rfl<|aZ rfl<|cG 2 rfl ?_;obtain⟨gf,WU,FV,sy,EU⟩:=hs.Tg (α:=Int) hi (cY.ints _ _);rw[←WU];refine sO rfl (xu _ _ xs p gf sy (fun g' x hx hle=>hp g' x hx (FV.trans hle))) ?_;rintro g2 _ B2 rfl;obtain⟨g3,vT,fD⟩:=EU g2 B2;rw[←vT];replace hs:=hs.call fD;have ai:=fD.le;replace ar:=G.le.trans ar ai;refine aX rfl<|az<|aZ rfl ?_;rcases oc p xs with⟨we,de⟩|⟨k0,De,we,AB,de⟩
 ·refine aJ (b:=mT p xs== -1) (by simp[we]) rfl<|aZ rfl<|aG<|dO<|aaq rfl ?_;have OQ:(xs.filter fun x=> !p x)=xs:=List.filter_eq_self.2 fun x hx=>by simp[de x hx]
  refine⟨g3,_,rfl,rfl,ar,?_⟩;rw[OQ,B8 hi];exact hs
 refine aQ (b:=mT p xs== -1) (by simp only[we,beq_eq_false_iff_ne];omega) rfl ?_;rw[we];obtain⟨⟨b0,p0,rfl⟩,rK⟩:(∃b p,ad=some ⟨b,p,none⟩)∧xs.length≤cap∧cap≤maxLen:=by
  rcases(hs.own i _ hi).1.2 with⟨h,_⟩|⟨b,q,c,cur,e1,_,_,h1,h2,_⟩
  ·omega
  simp only[Value.slice.injEq]at e1;obtain⟨rfl,_,rfl⟩:=e1;exact⟨⟨b,q,rfl⟩,h1,h2⟩
 unfold maxLen at rK;refine aF<|aq<|az<|aZ rfl<|aI ?_
 refine bK (fun m a' w=> ∃(j i':Nat) (cs:List Int) (g':G),w=g'.w∧St g0 g' (L.set i (.row 3 1 (.slice (some ⟨b0,p0,none⟩) xs.length cap) xs.length (jf cs)))∧G.le g g'∧j≤xs.length∧m=xs.length-j∧
  cs.length=xs.length∧i'<j∧cs.take i'=(xs.take j).filter (fun x=> !p x)∧cs.drop j=xs.drop j∧
  Fr 42 [] [(0,.slice (some ⟨b0,p0,none⟩) xs.length cap),(1,fv),(5,vI i'),(6,vI j)] a') (xs.length-(k0+1))
  (fun a' ha=>⟨k0+1,k0,xs,g3,rfl,by rw[B8 hi];exact hs,ar,De,rfl,rfl,Nat.lt_succ_self _,AJ xs k0 De AB de,rfl,ha.keep ⟨rfl,rfl,rfl,kW rfl,trivial⟩⟩) ?_
 clear hs ar;rintro m a' _ ⟨j,i',cs,g',rfl,hs,ar,hj,rfl,fw,Bk,dP,vB,dW⟩;have TD:(L.set i (.row 3 1 (.slice (some ⟨b0,p0,none⟩) xs.length cap) xs.length (jf cs)))[i]? =some (.row 3 1 (.slice (some ⟨b0,p0,none⟩) xs.length cap) xs.length (jf cs)):=by simp[U7]
 revert a';refine ct<|az<|aZ rfl ?_;by_cases bt:j<xs.length
 ·refine aJ (b:=decide ((j:Int)<(xs.length:Int))) (by simp;omega) rfl ?_;have WV:cs[j]? =some xs[j]:=by have:=congrArg (fun l=>l[0]?) vB;simpa [List.getElem?_eq_getElem bt]using this
  refine aF<|aq<|az<|aI<|cG 2 rfl<|ak rfl rfl<|eo T.ok rfl (hs.own i _ TD).1 (by omega) (by omega) rfl rfl rfl rfl rfl rfl fun b q hh=>?_;obtain⟨rfl,rfl⟩:b0=b∧p0=q:=by simpa using hh
  refine ak rfl rfl<|fB T.ok (j*1) rfl (hs.own i _ TD).1 rfl (v:=vI xs[j]) (by show(jf cs)[j*1]? =_;rw[Nat.mul_one];simp[jf,WV])<|aX rfl<|cG 2 rfl<|ak rfl rfl<|fb rfl rfl rfl rfl rfl rfl (hp _ _ (List.getElem_mem bt) ar) ?_;rintro g4 _ mg rfl;replace hs:=hs.call mg;have ai:=mg.le;replace ar:=G.le.trans ar ai;refine aX rfl ?_
  have Lo:(xs.take (j+1)).filter (fun x=> !p x)=(xs.take j).filter (fun x=> !p x)++(if p xs[j]then []else [xs[j]]):=by rw[List.take_succ_eq_append_getElem bt,List.filter_append];cases WW:p xs[j]<;>simp[WW]
  have sY:cs.drop (j+1)=xs.drop (j+1):=by have:=congrArg (List.drop 1) vB;simpa [List.drop_drop]using this
  cases hb:p xs[j]with
  |true=>
   refine aar rfl ?_;rw[hb,if_pos rfl,List.append_nil]at Lo;exact aF<|bJ<|aq<|an<|Wp 3 rfl<|aA<|fun a ha=>⟨xs.length-(j+1),by omega,j+1,i',cs,_,rfl,hs,ar,by omega,rfl,fw,by omega,by rw[dP,Lo],sY,ha.keep ⟨rfl,rfl,rfl,kW rfl,trivial⟩⟩
  |false=>
   refine aas rfl ?_;rw[hb,if_neg (by simp)]at Lo;refine cG 3 rfl<|ak rfl rfl<|eo T.ok rfl (hs.own i _ TD).1 (by omega) (by omega) rfl rfl rfl rfl rfl rfl fun b q hh=>?_;obtain⟨rfl,rfl⟩:b0=b∧p0=q:=by simpa using hh
   refine bu rfl (iA T.ok i (i'*1) (us:=[vI xs[j]]) rfl hs TD rfl rfl rfl rfl rfl rfl (by simp) (by simp[jf];omega) (xs':=jf (cs.set i' xs[j])) ?_ ?_)
   ·rw[Nat.mul_one];unfold nr jf;rw[List.map_set,List.set_eq_take_append_cons_drop];simp[fw,show i'<xs.length from by omega]
   rintro g5 hs ai;replace ar:=G.le.trans ar ai;refine b_<|an<|Wp 3 rfl<|aA<|bJ<|aq<|an<|Wp 3 rfl<|aA ?_;exact fun a ha=>⟨xs.length-(j+1),by omega,j+1,i'+1,cs.set i' xs[j],_,rfl,by rw[List.set_set]at hs;exact hs,ar,by omega,rfl,by simp[fw],by omega,
    by rw[Lo,←dP,rl (by omega)],
    by rw[List.drop_set_of_lt (by omega)];exact sY,ha.keep ⟨rfl,rfl,kW rfl,kW rfl,trivial⟩⟩
 refine aQ (b:=decide ((j:Int)<(xs.length:Int))) (by simp;omega) rfl ?_;obtain rfl:j=xs.length:=by omega
 rw[List.take_length]at dP;refine bc<|bg<|bg<|cA<|aq<|cG 2 rfl<|ak rfl rfl<|gV T.ok rfl rfl rfl rfl rfl (a:=i') (b:=xs.length) ⟨_,rfl⟩ rfl (by omega) (by omega)<|bu rfl (zn T.ok i (a:=i') (xs':=jf (cs.take i')++(List.replicate (xs.length-i') [Value.int .i64 0]).flatten) rfl hs TD rfl rfl rfl rfl rfl (by decide) rfl (by decide) ?_ (by omega) (by rw[Nat.mul_one,Gh];rfl) ?_)
 ·by_cases QZ:cap=i'
  ·exact .inl (by omega)
  right;rw[if_neg QZ];simp[Addr.add_lit]
 rintro g5 hs ai;replace ar:=G.le.trans ar ai;rw[List.set_set]at hs;refine b_<|cG 2 rfl<|ak rfl rfl<|gV T.ok rfl rfl rfl rfl rfl (a:=0) (b:=i') rfl ⟨_,rfl⟩ (by omega) (by omega)<|aX rfl<|aG<|aaq rfl ?_;have W_: ∀e,(L.set i e)[i]? =some e:=fun e=>by simp[U7]
 have xk:=hs.B3 (i:=i) (a:=i') (W_ _) (by omega);refine⟨_,_,rfl,rfl,ar,?_⟩;have hl:(xs.filter fun x=> !p x).length=i':=by rw[←dP,List.length_take];omega
 rw[List.set_set]at xk;rw[hl,←dP];have he:List.take (i'*1) (jf (cs.take i')++(List.replicate (xs.length-i') [Value.int .i64 0]).flatten)=jf (cs.take i'):=by rw[List.take_left' (by simp[jf];omega)]
 rw[he]at xk;exact xk
theorem LM(n:Int)(f:bG)(b:Nat)(cs:List Value)(g:G)(aD:EP g b 0 cs)(hc:uv g cs f)(h0:0≤n)(h1:n<f.steps.length):
  cN prog 215 #[vI n,vP b] g fun _ r=>r= .bool (!oV (bj f n)):=by
 obtain⟨a1,n1,c1,a2,n2,c2,rfl,aH,aW⟩:=hc;obtain⟨_,_,e⟩:=aH.isSlice;obtain⟨rfl,rfl,rfl⟩:=Value.slice.inj e;clear e;have hs:=St.start g;refine enter func215 rfl ntmps215 rfl<|aZ rfl<|sP 3 [.z aD] rfl<|zc (y:=bj f n) aH (by unfold bj;rw[bZ (j:=n.toNat) (by omega) (by omega)];simp[List.getD_eq_getElem?_getD,show n.toNat<f.steps.length from by omega]) rfl ?_;rintro b q ys aL gw;have TB:jS _ (.agg ys.toArray) (bj f n):=⟨ys,rfl,gw⟩;obtain⟨b1,b2,b3,b4,b5,b6,rfl,_,_⟩:=gw;exact q5 1 [.e aL 0] rfl<|Ev rfl (LF _ _ _ TB) hs fun g1 hs ai=>aX rfl<|aG (nw rfl hs rfl)
theorem B9{l:List Bool}{j:Nat}{x:Int}(h:x∈ib j l):(j:Int)≤x∧x<j+l.length:=by
 induction l generalizing j with
 |nil=>simp[ib]at h
 |cons b r ih=>
  simp only[ib,List.mem_append]at h;rcases h with h|h
  ·split at h
   ·simp at h;subst h;simp;omega
   simp at h
  have:=ih h;simp at this⊢;omega
theorem jA{f:bG}{n x:Int}(h:x∈reach f n):0≤x∧x<f.steps.length:=by
 unfold reach at h;split at h
 ·have:=B9 h;rw[eG]at this;omega
 simp at h
theorem qB(f:bG)(n:Int):(reach f n).length≤40:=by
 unfold reach;split
 ·rename_i h;have h1:=t_ (cu f n) 0;rw[eG]at h1;have:valid f=true:=by unfold given at h;simp only[Bool.and_eq_true]at h;exact h.1
  have:=qJ this;omega
 simp
theorem O0(v:Value)(f:bG)(g:G)(dt:fP g v f):
  cN prog 163 #[v] g (kh 3 g (ends f)):=by
 obtain⟨a1,n1,c1,a2,n2,c2,rfl,aH,aW⟩:=id dt;have hs:=St.start g;refine enter func163 rfl ntmps163 rfl<|cR<|EH hs rfl fun b1 g1 hs ai=>?_;obtain⟨aH,aW,dt⟩:=dR ai aH aW dt;refine aX rfl<|c_ 1 [.o 0] hs rfl ?_;obtain⟨g2,bS,aV,ai,aL⟩:=hs.bd (i:=0) rfl;replace hs:=aV;clear aV;rw[←bS];obtain⟨aH,aW,dt⟩:=dR ai aH aW dt;have aD:=aL;clear aL;refine sO rfl (E0 _ f 0 _ dt) ?_;rintro g4 v mg ⟨cells,h1,h2⟩;replace hs:=hs.lr mg h1;have ai:=mg.le;obtain⟨aD,aH,aW⟩:=dR ai aD aH aW;have Np:cells=jf (reach f 0):=by
  have key: ∀(xs:List Int) (cells:List Value),cY g4 cells xs→cells=jf xs:=by
   intro xs
   induction xs with
   |nil=>intro cells h;exact h
   |cons x xs ih=>rintro cells ⟨c1,c2,rfl,h1,h2⟩;rw[ih _ h2,show c1=[Value.int .i64 x]from h1];rfl
  exact key _ _ h2
 subst Np;refine Wp 1 rfl ?_;have hl:=qB f 0;have Xc:=AK (fun x=> !oV (bj f x)) g g4 _ 0 v (.func (.func 215) #[] #[vP b1]) (reach f 0) hs rfl (by omega)
  (fun g' x hx hle=>dy (Wc 215) rfl (LM x f _ _ g' (aD.mono hle) ⟨_,_,_,_,_,_,rfl,aH.mono hle,aW.mono hle⟩ (jA hx).1 (jA hx).2))
 refine ak rfl rfl (pY (Wc 214) aK rfl rfl rfl rfl rfl (Xc.mono ?_));rintro _ _ ⟨g5,v',rfl,rfl,ai,IX⟩;refine⟨_,rfl,?_⟩;refine aX rfl<|aG (aaq rfl (IX.ret ?_));have he:(reach f 0).filter (fun x=> !(!oV (bj f x)))=ends f:=by unfold ends;simp
 rw[he]at IX;exact IX.mw (i:=0) rfl (cY.ints _ _)
end Go.Proofs.YtbfjdfecgiegpaaGreatDoor
namespace Go.Proofs.YtbfjdfecgiegpaaGreatDoor
open Go Go.K Tryz
set_option maxRecDepth 10000
attribute [local irreducible] W WL cS bh bY bB bA bC cL cD
set_option maxHeartbeats 4000000
theorem sX{xs ys:Array Value}{f h:Nat→Int}(w:World): ∀is:List Nat,(∀i∈is,xs[i*1]? =some (vI (f i))∧ys[i*1]? =some (vI (h i)))→(Op.eqItems 9999 3 1 xs ys is).run prog w= .ok (is.all fun i=>f i==h i) w
 |[],_=>rfl
 |i::is,hi=>by
  have hp: ∀(xs:Array Value) (j:Nat) (z:Int),xs[j]? =some (vI z)→(part 3 xs j).run prog w= .ok (vI z) w:=fun xs j z h=>by simp[part,jw T.ok (show tl T 3=some _ from rfl),wy,h]
  obtain⟨h1,h2⟩:=hi i (List.mem_cons_self ..);simp only[Op.eqItems,Sem.run_bind];rw[hp _ _ _ h1];simp only[Result.andThen_ok];rw[hp _ _ _ h2];simp only[Result.andThen_ok];rw[run_equalIn_int w 9998 3 .i64 .i64 (f i) (h i) (by kernel_rfl)];simp only[Result.andThen_ok];have ih:=sX (xs:=xs) (ys:=ys) (f:=f) (h:=h) w is fun j hj=>hi j (List.mem_cons_of_mem _ hj);cases he:f i==h i with
  |false=>simp[he]
  |true=>simp[he,ih]
theorem WT(a b c d a' b' c' d':Int)(w:World):(Op.equal 206 (.agg #[vI a,vI b,vI c,vI d]) (.agg #[vI a',vI b',vI c',vI d'])).run prog w= .ok (a==a'&&(b==b'&&(c==c'&&d==d'))) w:=by
 obtain⟨⟨dd,hu,he⟩,_⟩:=T.ok.at (show tl T 206=some _ from rfl);obtain rfl:=KD.DC he;obtain⟨_,inf,h1,h2,_⟩:=T.ok.at (show tl T 3=some _ from rfl);have hc:prog.cellsOf 3=1:=by unfold Program.cellsOf;rw[h1];exact h2
 show(Op.equalIn (9999+1) _ _ _).run _ w=_;rw[run_equalIn_array w 9999 _ _ hu h1,hc,show List.range 4=[0,1,2,3]from rfl];rw[sX (f:=fun i=>[a,b,c,d].getD i 0) (h:=fun i=>[a',b',c',d'].getD i 0) w]
 ·simp
 intro i hi;have:i=0∨i=1∨i=2∨i=3:=by simpa using hi
 rcases this with rfl|rfl|rfl|rfl<;>exact⟨rfl,rfl⟩
def B0(fo:Value)(p:bO→Bool)(l:List bO)(g:G):Prop:=∀(g':G) (x:bO),x∈l→g.le g'→jd prog fo [fv x] g'.w (cO g' fun _ r=>r= .bool (p x))
theorem B0.mono{fo:Value}{p:bO→Bool}{l:List bO}{g g':G}(h:B0 fo p l g)(hle:g.le g'):B0 fo p l g':=fun g2 x hx h2=>h g2 x hx (hle.trans h2)
theorem xi(v fo:Value)(l:List bO)(p:bO→Bool)(g:G)(hl:Rs g v l)(hp:B0 fo p l g):
  cN prog 24 #[v,fo] g fun _ r=>r=vI (mT p l):=by
 obtain⟨a,c,rfl⟩:=hl.isSlice;have hlen:=hl.ef;unfold maxLen at hlen;have hs:=St.start g;refine enter func24 rfl ntmps24 rfl<|aZ rfl<|az<|aZ rfl<|aI ?_;refine bK (fun m a' w=> ∃(k:Nat) (g':G),w=g'.w∧St g g' []∧G.le g g'∧k≤l.length∧m=l.length-k∧(∀j (h:j<l.length),j<k→p l[j]=false)∧
  Fr 19 [] [(0,.slice a l.length c),(1,fo),(7,vI l.length),(8,vI k)] a') l.length (fun a' ha=>⟨0,g,rfl,hs,G.le.refl g,Nat.zero_le _,rfl,by simp,ha.kp rfl⟩) ?_
 clear hs;rintro m a' _ ⟨k,g',rfl,hs,ar,hk,rfl,de,dW⟩;revert a';refine ct<|aZ rfl<|az ?_;by_cases bt:k<l.length
 ·refine aJ (b:=decide ((k:Int)<(l.length:Int))) (by simp;omega) rfl<|aF<|aq<|az<|aI<|aZ rfl<|cG 3 rfl<|zc (y:=l[k]) (hl.mono ar) (by simp[dJ,bt]) rfl ?_;rintro b q ys aL rfl;refine q5 1 [.e aL 0] rfl<|ak rfl rfl<|fb rfl rfl rfl rfl rfl rfl (hp _ _ (List.getElem_mem bt) ar) ?_;rintro g1 _ aP rfl;replace hs:=hs.call aP;have ai:=aP.le;replace ar:=G.le.trans ar ai;apply b_;cases AB:p l[k]with
  |true=>
   exact aas rfl<|aZ rfl<|aG (nw rfl hs (by rw[vZ bt AB de]))
  |false=>
   refine aar rfl<|aF<|bJ<|aq<|an<|Wp 2 rfl<|aA<|fun a ha=>⟨l.length-(k+1),by omega,k+1,_,rfl,hs,ar,by omega,rfl,?_,ha.keep ⟨rfl,rfl,rfl,kW rfl,trivial⟩⟩
   intro j hj Ey;by_cases e:j=k
   ·subst e;exact AB
   exact de j hj (by omega)
 refine aQ (b:=decide ((k:Int)<(l.length:Int))) (by simp;omega) rfl<|bc<|bg<|bg<|cA<|aq<|aZ rfl ?_;obtain rfl:k=l.length:=by omega
 exact aG (nw rfl hs (by rw[v_ fun j h=>de j h h]))
theorem Lc{α:Type}{p:α→Bool}{l:List α}(h: ∀x∈l,p x=false):l.find? p=none:=List.find?_eq_none.2 fun x hx=>by simp[h x hx]
theorem Ld{α:Type}{p:α→Bool}{l:List α}{k:Nat}(h:k<l.length)(hp:p l[k]=true)(de: ∀j (h:j<l.length),j<k→p l[j]=false):l.find? p=some l[k]:=
 List.find?_eq_some_iff_getElem.2 ⟨hp,k,h,rfl,fun j hj=>by simp[de j (by omega) hj]⟩
theorem ET(v fo:Value)(l:List bO)(p:bO→Bool)(g:G)(hl:Rs g v l)(hp:B0 fo p l g):
  cN prog 156 #[v,fo] g fun _ r=>r= .tuple #[fv ((l.find? p).getD fS),.bool (l.find? p).isSome]:=by
 obtain⟨a,c,rfl⟩:=hl.isSlice;have aH:=hl;have hlen:=hl.ef;unfold maxLen at hlen;have hs:=St.start g;have ar:=G.le.refl g;refine enter func156 rfl ntmps156 rfl<|cR<|w4 hs rfl fun b4 g1 hs ai=>?_;obtain⟨ar,aH⟩:=cr ai ar aH;refine aX rfl<|az<|cG 2 rfl<|Ev rfl (xi _ _ l p _ aH (hp.mono ar)) hs fun g1 hs ai=>?_;replace aH:=aH.mono ai;refine aX rfl<|aZ rfl ?_;rcases oc p l with⟨hf,de⟩|⟨k,hk,hf,AB,de⟩
 ·refine aQ (b:=decide (0≤mT p l)) (by rw[hf];rfl) rfl ?_;rw[Lc de];refine aF<|aq<|cR<|w4 hs rfl fun b7 g1 hs ai=>?_;replace aH:=aH.mono ai;refine b_<|c_ 1 [.o 0] hs rfl<|sN 1 hs rfl fun g1 hs ai=>?_;replace aH:=aH.mono ai;exact aX rfl<|aG (mr T.ok 1 rfl hs rfl rfl rfl rfl (hs.ret rfl))
 refine aJ (b:=decide (0≤mT p l)) (by rw[hf];simp) rfl ?_;rw[Ld hk AB de];refine cG 2 rfl<|zc (y:=l[k]) aH (by rw[hf];exact bZ rfl hk) rfl ?_;rintro b q ys aL rfl;exact q5 1 [.e aL 0] rfl<|sN 0 hs rfl fun g1 hs ai=>aX rfl<|aG (mr T.ok 0 rfl hs rfl rfl rfl rfl (hs.ret rfl))
theorem Lf(x:bO)(n:Int)(b1:Nat)(g:G)(aD:EP g b1 0 [vI n]):cN prog 157 #[fv x,vP b1] g fun _ r=>r= .bool (x.prod==n):=by have hs:=St.start g;refine enter func157 rfl ntmps157 rfl<|cR<|An hs rfl fun b2 g2 hs ai aM=>?_;replace aD:=aD.mono ai;exact aX rfl<|Hw [.z aM,.z aD] rfl<|aG (nw rfl hs rfl)
theorem Lg(v:Value)(b:eL)(n:Int)(g:G)(aT:fV g v b):cN prog 83 #[v,vI n] g fun _ r=>r= .tuple #[fv ((b.pw.find? fun f=>f.prod==n).getD fS),.bool (b.pw.find? fun f=>f.prod==n).isSome]:=by have hs:=St.start g;have ar:=G.le.refl g;obtain⟨sl,rfl,dS⟩:=aT;have aH:=dS 4 (by decide);refine enter func83 rfl ntmps83 rfl<|cR<|An hs rfl fun b2 g2 hs ai aD=>?_;replace aH:=aH.mono ai;refine An hs rfl fun b3 g2 hs ai aM=>?_;obtain⟨aD,aH⟩:=cr ai aD aH;refine w4 hs rfl fun b4 g1 hs ai=>?_;obtain⟨aD,aM,aH⟩:=dR ai aD aM aH;exact aX rfl<|sP 3 [.z aD] rfl<|Ev rfl (ET _ _ b.pw (fun f=>f.prod==n) _ aH (fun g' x _ h=>dy (first:=#[]) (args:=[fv x]) (captured:=#[vP b3]) (Wc 157) rfl (Lf x n b3 g' (aM.mono h)))) hs fun g1 hs ai=>Wp 2 rfl<|sN 0 hs rfl fun g1 hs ai=>aX rfl<|aG (mr T.ok 0 rfl hs rfl rfl rfl rfl (hs.ret rfl))
def h_(tool cham rcp rvn time:Int)(x:bO):Bool:=((x.tool==tool&&(x.cham==cham&&(x.rcp==rcp&&x.rvn==rvn)))&&decide (x.time≤time))&&decide (time≤x.til)
theorem Lh(x:bO)(tool cham rcp rvn time:Int)(b1 b2:Nat)(g:G)(aD:EP g b1 0 [vI tool,vI cham,vI rcp,vI rvn])(aM:EP g b2 0 [vI time]):cN prog 186 #[fv x,vP b1,vP b2] g fun _ r=>r= .bool (h_ tool cham rcp rvn time x):=by
 have hs:=St.start g;refine enter func186 rfl ntmps186 rfl<|cR<|An hs rfl fun b3 g2 hs ai cE=>?_;obtain⟨aD,aM⟩:=cr ai aD aM;refine aX rfl<|sP 8 [.z cE,.z cE,.z cE,.z cE] rfl<|ak rfl rfl<|jt T.ok rfl (vs:=[(0,vI x.tool),(1,vI x.cham),(2,vI x.rcp),(3,vI x.rvn)]) (cells:=[vI x.tool,vI x.cham,vI x.rcp,vI x.rvn]) rfl rfl rfl rfl rfl (by kernel_rfl)<|q5 1 [.z aD] rfl<|ak rfl rfl<|tM (neg:=false) rfl rfl rfl (by kernel_rfl) (WT x.tool x.cham x.rcp x.rvn tool cham rcp rvn _) ?_;unfold h_;cases(x.tool==tool&&(x.cham==cham&&(x.rcp==rcp&&x.rvn==rvn)))with
 |false=>
  exact aX rfl<|aG (nw rfl hs rfl)
 |true=>
  refine q5 7 [.z cE,.z aM] rfl ?_;cases decide (x.time≤time)with
  |false=>
   exact aX rfl<|aG (nw rfl hs rfl)
  |true=>
   exact KY [.z aM,.z cE] rfl<|aG (nw rfl hs rfl)
theorem ON(v:Value)(b:eL)(tool cham rcp rvn time:Int)(g:G)(aT:fV g v b):cN prog 137 #[v,vI tool,vI cham,vI rcp,vI rvn,vI time] g fun _ r=>r= .bool (b.px.any (h_ tool cham rcp rvn time)):=by have hs:=St.start g;have ar:=G.le.refl g;obtain⟨sl,rfl,dS⟩:=aT;have aH:=dS 5 (by decide);refine enter func137 rfl ntmps137 rfl<|cR<|An hs rfl fun b2 g2 hs ai aD=>?_;replace aH:=aH.mono ai;refine An hs rfl fun b3 g2 hs ai aM=>?_;obtain⟨aD,aH⟩:=cr ai aD aH;refine aX rfl<|cG 4 rfl<|ak rfl rfl<|jt T.ok rfl (vs:=[(0,vI tool),(1,vI cham),(2,vI rcp),(3,vI rvn)]) (cells:=[vI tool,vI cham,vI rcp,vI rvn]) rfl rfl rfl rfl rfl (by kernel_rfl)<|w4 hs rfl fun b4 g1 hs ai=>?_;obtain⟨aD,aM,aH⟩:=dR ai aD aM aH;refine Hs 0 hs rfl fun g2 hs ai cE=>?_;obtain⟨aD,aM,aH⟩:=dR ai aD aM aH;exact b_<|sP 3 [.z aD] rfl<|Ev rfl (ET _ _ b.px (h_ tool cham rcp rvn time) _ aH (fun g' x _ h=>dy (first:=#[]) (args:=[fv x]) (captured:=#[vP b4,vP b3]) (Wc 186) rfl (Lh x tool cham rcp rvn time b4 b3 g' (cE.mono h) (aM.mono h)))) hs fun g1 hs ai=>Wp 3 rfl<|w4 hs rfl fun b5 g1 hs ai=>sN 0 hs rfl fun g1 hs ai=>aX rfl<|aZ rfl<|aG (nw rfl hs (congrArg Value.bool (by rw[Bool.eq_iff_iff,List.find?_isSome,List.any_eq_true])))
end Go.Proofs.YtbfjdfecgiegpaaGreatDoor
namespace Go.Proofs.YtbfjdfecgiegpaaGreatDoor
open Go Go.K Tryz
set_option maxRecDepth 10000
attribute [local irreducible] W WL cS bh bY bB bA bC cL cD
set_option maxHeartbeats 4000000
theorem qx{g:G}: ∀{xs:List bO} {cs:List Value},cY g cs xs→cs=fl xs
 |[],_,h=>h
 |x::xs,_,⟨c1,c2,e,h1,h2⟩=>by obtain rfl:c1=cB x:=h1;rw[e,qx h2,vY];rfl
def Rc(fo:Value)(g:G):Prop:=∀(g':G) (x:bO),g.le g'→jd prog fo [fv x] g'.w (cO g' fun _ r=>r=fv x)
def Tt:Bool→Nat
 |false=>124
 |true=>128
theorem Tu(tw:Bool):ag prog (Tt tw):=by
 cases tw
 ·exact(Wc 124)
 exact(Wc 128)
theorem xm(tw:Bool)(v fa fo:Value)(l:List bO)(p:bO→Bool)(g:G)(aH:Rs g v l)(hl:l.length≤1000000)(ha:Rc fa g)(hp:B0 fo p l g):
  cN prog (Tt tw) #[v,fa,fo] g fun g' r=>kh (mR (!tw)) g (l.filter p) g' r:=by
 cases tw
 case' false=>let tw:=false
 case' true=>let tw:=true
 all_goals
  have hs:=(St.start g).eP (mR (!tw)) 19 none;have ar:=G.le.refl g;obtain⟨a,c,rfl⟩:=aH.isSlice
  first|refine enter func124 rfl ntmps124 rfl ?_|refine enter func128 rfl ntmps128 rfl ?_
  refine aZ rfl<|aZ rfl<|az<|aZ rfl<|aI ?_
  refine bK (fun m a' w=> ∃(i:Nat) (ad:Option Addr) (cc:Nat) (g':G),w=g'.w∧St g g' [.row (mR (!tw)) 19 (.slice ad ((l.take i).filter p).length cc) ((l.take i).filter p).length (fl ((l.take i).filter p))]∧G.le g g'∧Rs g' (.slice a l.length c) l∧i≤l.length∧m=l.length-i∧
    Fr 27 [] [(1,fa),(2,fo),(7,.slice ad ((l.take i).filter p).length cc),(10,.slice a l.length c),(11,vI (l.length:Nat)),(12,vI (i:Nat))] a') l.length
   (fun a' ha=>⟨0,none,0,g,rfl,hs,ar,aH,Nat.zero_le _,rfl,ha.kp rfl⟩) ?_
  clear hs aH ar;rintro m a' _ ⟨i,ad,cc,g',rfl,hs,ar,aH,hi,rfl,dW⟩;revert a';refine ct<|aZ rfl<|az ?_;by_cases bt:i<l.length
  ·refine aJ (b:=decide ((i:Int)<(l.length:Int))) (decide_eq_true (by omega)) rfl ?_;have eH:dJ l (i:Int)=some l[i]:=bZ rfl bt;have dP:(l.take (i+1)).filter p=(l.take i).filter p++(if p l[i]then [l[i]]else []):=by rw[List.take_add_one,List.getElem?_eq_getElem bt,List.filter_append];congr 1;simp only[Option.toList_some,List.filter_cons,List.filter_nil]
   have kP:l[i]∈l:=List.getElem_mem bt;have Hz:((l.take i).filter p).length≤i:=Nat.le_trans (List.length_filter_le ..) (by rw[List.length_take];omega);generalize(l.take i).filter p=out at*;generalize l[i]=x at*;refine aF<|aq<|az<|aI<|cR<|zc (y:=x) aH eH rfl ?_;rintro b q ys aL rfl;have aD:=aL;clear aL;refine q5 1 [.e aD 0] rfl<|w4 hs rfl fun b9 g1 hs ai=>?_;obtain⟨ar,aH⟩:=cr ai ar aH;refine Hs 0 hs rfl fun g2 hs ai aM=>?_;obtain⟨ar,aH⟩:=cr ai ar aH;clear aD;refine b_<|sP 2 [.z aM] rfl<|ak rfl rfl<|fb rfl rfl rfl rfl rfl rfl (hp _ x kP ar) ?_;rintro g1 _ aP rfl;replace hs:=hs.call aP;have ai:=aP.le;obtain⟨ar,aM,aH⟩:=dR ai ar aM aH;cases Zi:p x with
   |true=>
    refine b_<|aas rfl<|an<|q5 3 [.z aM] rfl<|ak rfl rfl<|fb rfl rfl rfl rfl rfl rfl (ha _ x ar) ?_;clear aP;rintro g1 _ aP rfl;replace hs:=hs.call aP;have ai:=aP.le;obtain⟨ar,aH⟩:=cr ai ar aH;refine BP [(0,fv x)] (cB x) hs rfl rfl fun bl gl hs ai=>?_;obtain⟨ar,aH⟩:=cr ai ar aH;obtain⟨gz,gF,cK,gW,Gd⟩:=hs.cP (α:=bO) (xs:=[x]) (i:=0) rfl ⟨cB x,[],(List.append_nil _).symm,rfl,rfl⟩;clear ai;have ai:=gW;rw[←gF];replace hs:=cK;clear cK;obtain⟨ar,aH⟩:=cr ai ar aH;obtain⟨_,news,hn,iu⟩:=Src.jx Gd;obtain⟨c1,c2,rfl,rfl,rfl⟩:=hn;rw[List.append_nil]at iu;refine ak rfl rfl<|bU T.ok 0 rfl hs rfl rfl rfl rfl rfl rfl rfl (by decide) rfl iu (El.one (α:=bO) (g:=gz) (x:=x) rfl) (by show(out.length+1)*160≤_;omega) (by show out.length+1≤maxLen;unfold maxLen;omega) fun a6 c6 g6 hs ai=>?_;obtain⟨ar,aH⟩:=cr ai ar aH;replace hs:St g g6 [.row (mR (!tw)) 19 (.slice a6 (out.length+1) c6) (out.length+1) (fl out++cB x)]:=hs;have e:(l.take (i+1)).filter p=out++[x]:=by rw[dP,Zi];rfl
    have e2:fl out++cB x=fl (out++[x]):=by rw[mN];exact congrArg (fl out++ ·) (List.append_nil _).symm
    rw[e2]at hs;refine Wp 1 rfl<|aA<|bJ<|aq<|an<|Wp 2 rfl<|aA<|fun a ha=>⟨l.length-(i+1),by omega,i+1,a6,c6,g6,rfl,?_,ar,aH,by omega,rfl,?_⟩
    ·rw[e,List.length_append];exact hs
    rw[e,List.length_append];exact ha.keep ⟨rfl,rfl,rfl,rfl,rfl,kW rfl,trivial⟩
   |false=>
    refine b_<|aar rfl<|aF<|bJ<|aq<|an<|Wp 2 rfl<|aA ?_;have e:(l.take (i+1)).filter p=out:=by rw[dP,Zi];exact List.append_nil _
    refine fun a ha=>⟨l.length-(i+1),by omega,i+1,ad,cc,_,rfl,?_,ar,aH,by omega,rfl,?_⟩
    ·rw[e];exact hs
    rw[e];exact ha.keep ⟨rfl,rfl,rfl,rfl,rfl,kW rfl,trivial⟩
  refine aQ (b:=decide ((i:Int)<(l.length:Int))) (decide_eq_false (by omega)) rfl ?_;rw[List.take_of_length_le (by omega)]at hs⊢;exact bc<|bg<|bg<|cA<|aq<|aZ rfl<|aG (nw rfl hs ⟨_,hs.own 0 _ rfl,cY.fl _ _⟩)
def kg(f:bO):Int×Int:=(f.time,f.idn)
theorem Tv(x:bO)(g:G):cN prog 125 #[fv x] g fun _ r=>r=fv x:=by have hs:=St.start g;refine enter func125 rfl ntmps125 rfl<|cR<|An hs rfl fun b1 g2 hs ai aD=>w4 hs rfl fun b2 g1 hs ai=>?_;replace aD:=aD.mono ai;exact b_<|sP 1 [.z aD] rfl<|sN 0 hs rfl fun g1 hs ai=>b_<|aG (me T.ok 0 rfl hs rfl rfl rfl (hs.ret rfl))
theorem Tw(x:bO)(g:G):cN prog 129 #[fv x] g fun _ r=>r=fv x:=by have hs:=St.start g;refine enter func129 rfl ntmps129 rfl<|cR<|An hs rfl fun b1 g2 hs ai aD=>w4 hs rfl fun b2 g1 hs ai=>?_;replace aD:=aD.mono ai;exact b_<|sP 1 [.z aD] rfl<|sN 0 hs rfl fun g1 hs ai=>b_<|aG (me T.ok 0 rfl hs rfl rfl rfl (hs.ret rfl))
theorem Tx(x:bO)(g:G):cN prog 130 #[fv x] g fun _ r=>r= .bool true:=by have hs:=St.start g;exact enter func130 rfl ntmps130 rfl<|cR<|EH hs rfl fun b1 g1 hs ai=>aX rfl<|aZ rfl<|aG (nw rfl hs rfl)
theorem OW(x y:bO)(g:G):cN prog 127 #[fv x,fv y] g fun _ r=>r=vI (uo (kg x) (kg y)):=by
 have hs:=St.start g;refine enter func127 rfl ntmps127 rfl<|cR<|An hs rfl fun b1 g2 hs ai aM=>An hs rfl fun b2 g2 hs ai cE=>?_;replace aM:=aM.mono ai;refine aX rfl<|az ?_;apply bD hs (dn (eF (.f (Fact.rs [ff x.time y.time,ff x.idn y.idn])::fe []))) 12 [(11,16)] (by kernel_rfl) rfl
 ·refine pO [[],[0],[],[2],[1,3],[],[5],[],[7],[6,8]] [.z aM,.z cE,.c (Wc 64) fun g _=>As x.time y.time g,.z aM,.z cE,.c (Wc 64) fun g _=>As x.idn y.idn g] hs rfl<|fR [(4,9),(9,14)] (fun gd hf=>aaw rfl (ay rfl (bE T.ok rfl (St.start gd) (vs:=[(0,vI (ff x.time y.time)),(1,vI (ff x.idn y.idn))]) (cells:=[ff x.time y.time,ff x.idn y.idn].map (Value.int .i64)) rfl rfl rfl rfl rfl rfl (by decide) (by decide) (by kernel_rfl) rfl fun b g' lB _=>?_))) ?_
  ·obtain⟨g2,e1,e2,e3⟩:=lO (α:=Int) lB (cY.ints g' [ff x.time y.time,ff x.idn y.idn]);exact⟨g2,e1,e2,e3⟩
  exact fR [(10,15)] (fun gd hf=>ba fun v h=>aj (aaz rfl (S1 v [ff x.time y.time,ff x.idn y.idn] _ h)))<|gG
 clear hs;intro g6 hs ai;exact aX rfl<|aG (nw rfl hs rfl)
theorem zp(v fo:Value)(l:List bO)(p:bO→Bool)(g:G)(aH:Rs g v l)(hl:l.length≤1000000)(hp:B0 fo p l g):
  cN prog 71 #[v,fo] g fun g' r=>Rs g' r (dC kg (l.filter p)):=by
 have hs:=St.start g;have ar:=G.le.refl g;obtain⟨a,c,rfl⟩:=aH.isSlice;refine enter func71 rfl ntmps71 rfl<|aZ rfl<|cG 2 rfl<|ak rfl rfl<|aC (Tu false) aK rfl rfl rfl rfl rfl (xm false _ (.func (.func 125) #[] #[]) fo l p _ aH hl (fun g' x _=>dy (first:=#[]) (args:=[fv x]) (captured:=#[]) (Wc 125) rfl (Tv x g')) hp) ?_;rintro g1 v1 aP ⟨cells,hh,hr⟩;obtain rfl:=qx hr;obtain⟨a1,c1,rfl⟩:=hh.1.form;have pg:(l.filter p).length≤1000000:=Nat.le_trans (List.length_filter_le ..) hl;replace hs:=hs.lr aP hh;have ai:=aP.le;clear hr hh aP;replace hs:St g g1 [fW (mR true) a1 (l.filter p).length c1 (l.filter p)]:=hs;refine aX rfl<|cG 1 rfl<|ak rfl rfl<|cp (S9 true) aK rfl rfl rfl rfl rfl (zk true (kf:=kg) (l.filter p) rfl (by omega) (fun g' _ x y=>dy (first:=#[]) (args:=[fv x,fv y]) (captured:=#[]) (Wc 127) rfl (OW x y g')) hs) ?_;clear hs;rintro g6 _ ai ⟨rfl,hs⟩;have hn:(l.filter p).length=(dC kg (l.filter p)).length:=(fG _).symm;rw[hn]at pg hs⊢;generalize dC kg (l.filter p)=xs at*;obtain⟨g7,HA,CW,ai,sy⟩:=hs.cP (α:=bO) (xs:=xs) (i:=0) rfl (cY.fl _ _);rw[←HA];clear hs;replace hs:=CW;clear CW;clear HA;replace hs:St g g7 []:=hs;refine b_<|cG 1 rfl<|ak rfl rfl<|aC (Tu true) aK rfl rfl rfl rfl rfl (xm true _ (.func (.func 129) #[] #[]) (.func (.func 130) #[] #[]) xs (fun _=>true) _ sy pg (fun g' x _=>dy (first:=#[]) (args:=[fv x]) (captured:=#[]) (Wc 129) rfl (Tw x g')) (fun g' x _ _=>dy (first:=#[]) (args:=[fv x]) (captured:=#[]) (Wc 130) rfl (Tx x g'))) fun g8 v8 IC h8=>?_;rw[show xs.filter (fun _=>true)=xs from List.filter_eq_self.2 fun _ _=>rfl]at h8;obtain⟨g9,U4,Kk,ai,W3⟩:=hs.jO IC h8;have ai:=IC.le.trans ai;rw[←U4];clear hs;replace hs:=Kk;clear Kk;clear U4;exact aX rfl<|aG (nw rfl hs W3)
end Go.Proofs.YtbfjdfecgiegpaaGreatDoor
namespace Go.K
open Go Go.RowKit Go.MapKept
variable {F:Fence} {P:Program} {N:Nat} {ds:List Deferred} {l:Env} {w:World} {Q:Exit→Act→World→Prop} {o:Oper} {g0 g:G} {L:List df} {K:Value→World→Prop}
variable {κ:Type} [DecidableEq κ] [fO κ]
omit [fO κ] in
def xq(a:κ)(z:Value)(oW:List (κ×Value)):List (κ×Value):=match mf a oW 0 with|some _=>oW|none=>oW++[(a,z)]
omit [fO κ] in
def AE(a:κ)(oW:List (κ×Value)):Nat:=match mf a oW 0 with|some p=>p.1|none=>oW.length
omit [fO κ] in
theorem Lv(a:κ)(z:Value)(oW:List (κ×Value)): ∃v,(xq a z oW)[AE a oW]? =some (a,v):=by
 unfold xq AE;cases hm:mf a oW 0 with
 |none=>exact⟨z,by simp⟩
 |some p=>
  obtain⟨_,n,h3,h4,_⟩:=qP (i:=p.1) (v:=p.2) hm;exact⟨p.2,by show oW[p.1]? =_;rw[h3,Nat.zero_add];exact h4⟩
omit [fO κ] in
theorem IL(a:κ)(z x:Value)(oW:List (κ×Value)):(xq a z oW).set (AE a oW) (a,x)=jK a x oW:=by
 unfold xq AE;cases hm:mf a oW 0 with
 |none=>rw[(tv hm).2 x];simp
 |some p=>
  obtain⟨_,n,h3,_,h5⟩:=qP (i:=p.1) (v:=p.2) hm;rw[h5 x];simp only[h3,Nat.zero_add]
theorem A8{T:TypeId}{z:Value}(ht:um κ P T z){b:Nat}{oW:List (κ×Value)}(hb:w.heap[b]? =some (eV oW))(a:κ):
  (Instr.mapEntry T (.map (some b)) (fO.enc a)).run P w= .ok (.tuple #[(jb a oW).getD z,vI (AE a oW:Nat)]) (w.putObj b (eV (xq a z oW))):=by
 obtain⟨k,e,h1,h2,h3⟩:=ht.kt;have hf:=run_findKey (P:=P) (w:=w) (l:=nf 0 oW) h2 (ow a oW 0 0);simp only[Instr.mapEntry,Sem.run_bind,run_underlying h1,Result.andThen_ok,MapKept.run_getObj_map hb,run_checkKey h2 (fO.key a)];rw[show(Instr.findKey k (fO.enc a) (nf 0 oW)).run P w=_ from hf];cases hm:mf a oW 0 with
 |none=>
  simp only[Result.andThen_ok,Sem.run_bind,h3];rw[run_setObj_map _ hb];simp only[Result.andThen_ok,Sem.run_pure];unfold xq AE;rw[hm,(tv hm).1];unfold World.putObj eV;rw[A5];simp[nf,goInt]
 |some p=>
  obtain⟨i,v⟩:=p;obtain⟨hg,n,h4,h5,h6⟩:=qP hm;obtain rfl:i=n:=by omega
  have h7:(nf 0 oW)[i]? =some {key:=fO.enc a,val:=v,born:=i}:=by rw[kD,h5];simp
  simp only[Result.andThen_ok,List.getElem?_toArray,h7,Option.map_some,Option.getD_some,Instr.keyThatStays,fO.bits,if_true,Sem.run_bind,Sem.run_pure];rw[run_setObj_map _ hb];simp only[Result.andThen_ok];unfold xq AE;rw[hm,hg];unfold World.putObj eV;have e:(nf 0 oW).toArray.modify i (fun e=>{e with key:=fO.enc a})=(nf 0 oW).toArray:=by
   apply Array.ext';rw[Array.toList_modify];simp only;apply List.ext_getElem?;intro j;rw[List.getElem?_modify];by_cases hj:i=j
   ·subst hj;rw[h7];simp
   simp[hj]
  rw[e];rfl
theorem xN{T:TypeId}{b:Nat}{oW:List (κ×Value)}(hb:w.heap[b]? =some (eV oW)){n:Nat}{a:κ}{v:Value}(hn:oW[n]? =some (a,v))(x:Value):
  (Instr.entryStore T (.map (some b)) (vI (n:Nat)) x).run P w= .ok () (w.putObj b (eV (oW.set n (a,x)))):=by
 have ha:(asInt (vI (n:Nat))).run P w= .ok (n:Int) w:=by simp[asInt,asIntOf]
 simp only[Instr.entryStore,Sem.run_bind,Result.andThen_ok,MapKept.run_getObj_map hb,ha];have hi:(nf 0 oW).toArray.findIdx? (fun e=>(e.born:Int)==(n:Int))=some n:=by
  have bt:=(List.getElem?_eq_some_iff.1 hn).1;rw[List.findIdx?_toArray,List.findIdx?_eq_some_iff_getElem];refine⟨by rw[Ff];exact bt,?_,?_⟩
  ·have:=kD oW 0 n;rw[hn]at this;rw[(List.getElem?_eq_some_iff.1 this).2];simp
  intro j hj;have:=kD oW 0 j;rw[List.getElem?_eq_getElem (by omega:j<oW.length)]at this;rw[(List.getElem?_eq_some_iff.1 this).2];simp;omega
 rw[hi];simp only;rw[run_setObj_map _ hb];unfold World.putObj eV;congr 3;rw[List.length_set];congr 1;apply Array.ext';rw[Array.toList_modify];simp only;apply List.ext_getElem?;intro j;rw[List.getElem?_modify,kD,kD,List.getElem?_set];by_cases hj:n=j
 ·subst hj;obtain⟨bt,hv⟩:=List.getElem?_eq_some_iff.1 hn;simp[bt,hv]
 simp[hj]
theorem AF{T:TypeId}{z:Value}(ht:um κ P T z)(i:Nat){m kk:Operand}{b:Nat}{oW:List (κ×Value)}{a:κ}(ho:o.op= .mapEntry T m kk)(hs:St g0 g L)(hi:L[i]? =some (.obj b (eV oW)))
  (hm:ev l m=some (.map (some b))) (hk:ev l kk=some (fO.enc a)) (k: ∀g',St g0 g' (L.set i (.obj b (eV (xq a z oW))))→g.le g'→K (.tuple #[(jb a oW).getD z,vI (AE a oW:Nat)]) g'.w):cS F P N ds o l g.w Q K:=by
 have hh:=(hs.own i _ hi).2.1;have h:=hs.po hi (o':=eV (xq a z oW));have hr:=A8 ht hh a;refine bX (w':=(g.po b (eV (xq a z oW))).w) (fun c=>⟨by rw[ho];simp,by rw[ho];simp⟩) (fun ac ha=>?_) (k _ h.1 h.2);simp only[execOp,ho,ha.ev hm,ha.ev hk,Sem.run_bind,hr];rfl
theorem xr{T:TypeId}(i:Nat){m s x:Operand}{b n:Nat}{oW:List (κ×Value)}{a:κ}{v u:Value}(ho:o.op= .entryStore T m s x)(hs:St g0 g L)(hi:L[i]? =some (.obj b (eV oW)))(hn:oW[n]? =some (a,u))
  (hm:ev l m=some (.map (some b))) (hk:ev l s=some (vI (n:Nat))) (hx:ev l x=some v) (k: ∀g',St g0 g' (L.set i (.obj b (eV (oW.set n (a,v)))))→g.le g'→K undef g'.w):cS F P N ds o l g.w Q K:=by
 have hh:=(hs.own i _ hi).2.1;have h:=hs.po hi (o':=eV (oW.set n (a,v)));have hr:=xN (P:=P) (T:=T) hh hn v;refine s_ (w':=(g.po b (eV (oW.set n (a,v)))).w) (fun c=>⟨by rw[ho];simp,by rw[ho];simp⟩) (fun ac ha=>?_) (k _ h.1 h.2);simp only[execOp,ho,ha.ev hm,ha.ev hk,ha.ev hx,Sem.run_bind,hr];rfl
end Go.K
namespace Go.Proofs.YtbfjdfecgiegpaaGreatDoor
open Go Go.K Tryz
set_option maxRecDepth 10000
attribute [local irreducible] W WL cS bh bY bB bA bC cL cD
set_option maxHeartbeats 1000000
def iV(n:Int):Bool:=decide (1≤n)&&decide (n≤1000000)
theorem xp(n:Int)(g:G):cN prog 68 #[vI n] g fun _ r=>r= .bool (iV n):=by
 have hs:=St.start g;refine enter func68 rfl ntmps68 rfl<|aZ rfl<|cG 3 rfl ?_;unfold iV;cases decide (1≤n)with
 |true=>
  exact aX rfl<|aG (nw rfl hs rfl)
 |false=>
  exact aX rfl<|aG (nw rfl hs rfl)
abbrev MP:=List (Int×Int)
def iv(m:MP):List (Int×Value):=m.map fun p=>(p.1,vI p.2)
def ig(a:Int):MP→Option Int
 |[]=>none
 |(k,v)::r=>if a=k then some v else ig a r
def ip(a x:Int):MP→MP
 |[]=>[(a,x)]
 |(k,v)::r=>if a=k then(k,x)::r else(k,v)::ip a x r
theorem IJ(a:Int): ∀m:MP,jb a (iv m)=(ig a m).map (Value.int .i64)
 |[]=>rfl
 |(k,v)::r=>by
  show(if a=k then some (Value.int .i64 v)else jb a (iv r))=(if a=k then some v else ig a r).map _;split
  ·rfl
  exact IJ a r
theorem DI(a x:Int): ∀m:MP,jK a (vI x) (iv m)=iv (ip a x m)
 |[]=>rfl
 |(k,v)::r=>by
  show(if a=k then(k,vI x)::iv r else(k,vI v)::jK a (vI x) (iv r))=iv (if a=k then(k,x)::r else(k,v)::ip a x r);split
  ·rfl
  rw[DI a x r];rfl
theorem Mv(a x b:Int): ∀m:MP,ig b (ip a x m)=if b=a then some x else ig b m
 |[]=>by simp[ig,ip]
 |(k,v)::r=>by
  by_cases h:a=k
  ·subst h;by_cases hb:b=a<;>simp[ip,ig,hb]
  by_cases hb:b=k
  ·subst hb;simp[ip,ig,h];intro e;exact absurd e.symm h
  simp[ip,ig,h,hb,Mv a x b r]
def Bv(m:MP)(k:Int):Int:=(ig k m).getD k
theorem IK:um Int prog 106 (vI 0):=by have h:=Dk (P:=prog) (κ:=Int) T.ok (T:=106) rfl rfl rfl rfl rfl;exact h
theorem uu(b:Nat)(m:MP)(k:Int)(g:G)(hm:g.w.heap[b]? =some (eV (iv m))):cN prog 70 #[.map (some b),vI k] g fun _ r=>r=vI (Bv m k):=by
 have hs:=St.start g;refine enter func70 rfl ntmps70 rfl<|aZ rfl<|az<|cG 2 rfl<|ak rfl rfl<|n_ IK rfl hm rfl (a:=k) rfl ?_;have hg:=IJ k m;unfold Bv;cases yY:ig k m with
 |none=>
  rw[yY]at hg;exact cX (.tuple #[vI 0,.bool false]) (t:=10) rfl (by rw[hg];rfl)<|aX rfl<|aZ rfl<|aar rfl<|aF<|aq<|aZ rfl<|aG (nw rfl hs rfl)
 |some z=>
  rw[yY]at hg;exact cX (.tuple #[vI z,.bool true]) (t:=10) rfl (by rw[hg];rfl)<|aX rfl<|aZ rfl<|aas rfl<|aZ rfl<|aG (nw rfl hs rfl)
def re(f:bO)(m:MP):MP:=ip f.oth (Bv m f.waf) (ip f.waf (Bv m f.oth) m)
theorem OX(x:bO)(b1 bm:Nat)(m:MP){g0 g:G}{L:List df}(aD:EP g b1 0 [.map (some bm)])(hs:St g0 g (.obj bm (eV (iv m))::L)):
  CallsIn Wd 0 prog 122 #[fv x,vP b1] g.w (db g fun g' r=>r= .tuple #[]∧St g0 g' (.obj bm (eV (iv (re x m)))::L)):=by
 have ar:=G.le.refl g;refine enter func122 rfl ntmps122 rfl<|cR<|An hs rfl fun b2 g2 hs ai aM=>?_;obtain⟨ar,aD⟩:=cr ai ar aD;replace hs:St g0 _ (.obj bm (eV (iv m))::L):=hs;apply b_;obtain⟨u,hu⟩:=Lv x.waf (vI 0) (iv m)
 apply qz (dn (.e (vI x.oth):: .e (vI (Bv m x.oth))::eF (.e (vI x.waf):: .e (vI (Bv m x.waf)):: .e (.tuple #[((jb x.waf (iv m)).getD (vI 0)),vI (AE x.waf (iv m):Nat)])::fe (.f Fact.any::[])))) 17 [(3,6),(5,8),(13,16)] [14,16] [[0,1,2,6,7,8,9,10,11,12,13],[0,1,2,6,7,8,9,10,11,12,13,14,15]]
  (fun s=>match s with|0=> .obj bm (eV (iv m))::L|1=> .obj bm (eV (xq x.waf (vI 0) (iv m)))::L|_+2=> .obj bm (eV (jK x.waf (vI (Bv m x.oth)) (iv m)))::L) hs (by kernel_rfl) ⟨dq,trivial⟩
 ·refine Lm [[],[],[1],[],[],[4],[],[],[7]] [.z aD,.z aM,.z aD,.z aM,.z aD,.z aM] (by kernel_rfl) rfl<|dx (lA 0 0 (js:=[(6,9),(8,11)]) (by kernel_rfl) (by kernel_rfl) ?_) ?_
  ·intro s g' _ h1 hf hJ;obtain rfl:s=0:=by omega
   exact aaw rfl (ay rfl (aC (Wc 70) aK rfl rfl rfl rfl rfl (uu bm m (x.oth) g' (hJ.own 0 _ rfl).2.1) fun g3 v h1 h2=>⟨g3,rfl,h1,h2⟩))
  refine Lm [[],[],[11]] [.z aD,.z aM] (by kernel_rfl) rfl<|dx (lA 0 0 (js:=[(10,13),(12,15)]) (by kernel_rfl) (by kernel_rfl) ?_) ?_
  ·intro s g' _ h1 hf hJ;obtain rfl:s=0:=by omega
   exact aaw rfl (ay rfl (aC (Wc 70) aK rfl rfl rfl rfl rfl (uu bm m (x.waf) g' (hJ.own 0 _ rfl).2.1) fun g3 v h1 h2=>⟨g3,rfl,h1,h2⟩))
  refine dx (wO 0 (js:=[(0,3),(2,5)]) (by kernel_rfl) rfl fun g' hf hJ=>aaw rfl (rE rfl (AF IK 0 rfl hJ rfl rfl (a:=x.waf) rfl fun g3 hs hle=>⟨g3,rfl,⟨hle,hs⟩,rfl⟩)))<|Lm [[14]] [] (by kernel_rfl) rfl<|dx (wO 1 (js:=[(0,3),(15,18),(9,12),(0,3),(9,12)]) (by kernel_rfl) rfl fun g' hf hJ=>ah rfl (aaH rfl (rE rfl (xr 0 rfl hJ rfl hu rfl rfl rfl fun g3 hs hle=>⟨g3,rfl,⟨hle,?_⟩,trivial⟩)))) ?_
  ·rw[IL]at hs;exact hs
  exact y9
 clear hs;intro g6 hs ai;replace ar:=G.le.trans ar ai;refine aay rfl<|bu rfl<|dQ IK 0 (.inl rfl) hs rfl rfl (a:=x.oth) rfl rfl fun g7 hs ai=>?_;replace ar:=G.le.trans ar ai;replace hs:St g0 g7 (.obj bm (eV (jK x.oth (vI (Bv m x.waf)) (jK x.waf (vI (Bv m x.oth)) (iv m))))::L):=hs;rw[DI,DI]at hs;exact aA<|lC rfl (db.intro ar ⟨rfl,hs⟩)
def Er(time:Int)(f:bO):Bool:=(iV f.waf&&iV f.oth)&&decide (f.time≤time)
theorem Ty(x:bO)(time:Int)(b1:Nat)(g:G)(aD:EP g b1 0 [vI time]):cN prog 123 #[fv x,vP b1] g fun _ r=>r= .bool (Er time x):=by
 have hs:=St.start g;have ar:=G.le.refl g;refine enter func123 rfl ntmps123 rfl<|cR<|An hs rfl fun b2 g2 hs ai aM=>?_;replace aD:=aD.mono ai;refine aX rfl<|sP 2 [.z aM] rfl<|sO rfl (xp x.waf _) ?_;rintro g1 _ aP rfl;replace hs:=hs.call aP;have ai:=aP.le;obtain⟨aD,aM⟩:=cr ai aD aM;unfold Er;cases iV x.waf with
 |false=>
  exact aX rfl<|aG (nw rfl hs rfl)
 |true=>
  refine q5 3 [.z aM] rfl ?_;clear aP;refine Ev rfl (xp x.oth _) hs fun g1 hs ai=>?_;obtain⟨aD,aM⟩:=cr ai aD aM;cases iV x.oth with
  |false=>
   exact aX rfl<|aG (nw rfl hs rfl)
  |true=>
   exact KY [.z aM,.z aD] rfl<|aG (nw rfl hs rfl)
def vQ(b:eL):Prop:=∀i,(b.ls i).length≤1000000
def wE(b:eL)(time:Int):MP:=(dC kg (b.wx.filter (Er time))).foldl (fun m f=>re f m) []
theorem W4(v:Value)(b:eL)(time:Int)(g:G)(aT:fV g v b)(hb:vQ b):cN prog 69 #[v,vI time] g fun g' r=> ∃bm,r= .map (some bm)∧w_ g' bm (iv (wE b time)):=by
 have hs:=St.start g;have ar:=G.le.refl g;obtain⟨sl,rfl,dS⟩:=aT;have aH:=dS 2 (by decide);refine enter func69 rfl ntmps69 rfl<|cR<|An hs rfl fun b2 g2 hs ai aD=>?_;obtain⟨ar,aH⟩:=cr ai ar aH;refine An hs rfl fun b3 g2 hs ai aM=>?_;obtain⟨ar,aD,aH⟩:=dR ai ar aD aH;refine aX rfl<|cR<|ak rfl rfl<|kS (κ:=Int) rfl hs fun bm g1 hs ai=>?_;obtain⟨ar,aD,aM,aH⟩:=dK ai ar aD aM aH;refine w4 hs rfl fun b5 g1 hs ai=>?_;obtain⟨ar,aD,aM,aH⟩:=dK ai ar aD aM aH;refine Hs 0 hs rfl fun g2 hs ai cE=>?_;obtain⟨ar,aD,aM,aH⟩:=dK ai ar aD aM aH;replace hs:St g _ [.obj bm (eV (iv []))]:=hs;refine b_<|aZ rfl<|az<|sP 3 [.z aD] rfl<|sO rfl (zp _ _ b.wx (Er time) _ aH (hb 2) (fun g' x _ h=>dy (first:=#[]) (args:=[fv x]) (captured:=#[vP b3]) (Wc 123) rfl (Ty x time b3 g' (aM.mono h)))) fun g1 _ aP aW=>?_;replace hs:=hs.call aP;have ai:=aP.le;obtain⟨ar,aD,aM,cE⟩:=dK ai ar aD aM cE;unfold wE;generalize dC kg (b.wx.filter (Er time))=l at*;obtain⟨a,c,rfl⟩:=aW.isSlice;have hlen:=aW.ef;unfold maxLen at hlen;clear aH aD aM aP;refine aX rfl<|aI ?_
 refine bK (fun m a' w=> ∃(i:Nat) (g':G),w=g'.w∧St g g' [.obj bm (eV (iv ((l.take i).foldl (fun m f=>re f m) [])))]∧G.le g g'∧Rs g' (.slice a l.length c) l∧EP g' b5 0 [.map (some bm)]∧i≤l.length∧m=l.length-i∧
   Fr 25 [] [(5,vP b5),(6,.func (.func 122) #[] #[vP b5]),(14,.slice a l.length c),(15,vI (l.length:Nat)),(16,vI (i:Nat))] a') l.length
  (fun a' ha=>⟨0,_,rfl,hs,ar,aW,cE,Nat.zero_le _,rfl,ha.kp rfl⟩) ?_
 clear hs aW ar cE;rintro m a' _ ⟨i,g',rfl,hs,ar,aW,cE,hi,rfl,dW⟩;revert a';refine ct<|aZ rfl<|az ?_;by_cases bt:i<l.length
 ·refine aJ (b:=decide ((i:Int)<(l.length:Int))) (decide_eq_true (by omega)) rfl ?_;have eH:dJ l (i:Int)=some l[i]:=bZ rfl bt;have dP:(l.take (i+1)).foldl (fun m f=>re f m) []=re l[i] ((l.take i).foldl (fun m f=>re f m) []):=by rw[List.take_add_one,List.getElem?_eq_getElem bt,List.foldl_append];rfl
  generalize(l.take i).foldl (fun m f=>re f m) []=M at*;generalize l[i]=x at*;refine aF<|aq<|az<|aI<|cR<|zc (y:=x) aW eH rfl ?_;rintro b q ys aL rfl;have aD:=aL;clear aL;refine q5 1 [.e aD 0] rfl<|w4 hs rfl fun b8 g1 hs ai=>?_;obtain⟨ar,cE,aW⟩:=dR ai ar cE aW;refine Hs 0 hs rfl fun g2 hs ai aM=>?_;obtain⟨ar,cE,aW⟩:=dR ai ar cE aW;replace hs:St g _ [.obj bm (eV (iv M))]:=hs;refine b_<|an<|q5 2 [.z aM] rfl<|Dj rfl (OX x b5 bm M cE hs) ?_;clear hs;rintro g6 _ ai ⟨rfl,hs⟩;obtain⟨ar,cE,aW⟩:=dR ai ar cE aW;exact aA<|bJ<|aq<|an<|Wp 2 rfl<|aA<|fun a ha=>⟨l.length-(i+1),by omega,i+1,g6,rfl,by rw[dP];exact hs,ar,aW,cE,by omega,rfl,ha.keep ⟨rfl,rfl,rfl,rfl,kW rfl,trivial⟩⟩
 refine aQ (b:=decide ((i:Int)<(l.length:Int))) (decide_eq_false (by omega)) rfl ?_;rw[List.take_of_length_le (by omega)]at hs;refine bc<|bg<|bg<|cA<|aq<|Hw [.z cE] rfl ?_;obtain⟨g7,HA,CW,ai,hm⟩:=Ip hs (i:=0) rfl;rw[←HA];exact aG (aaq rfl (CW.ret ⟨bm,rfl,hm⟩))
def o6(b:eL)(mark time:Int):Int:=if iV mark then Bv (wE b time) mark else 0
theorem Nn(v:Value)(b:eL)(mark time:Int)(g:G)(aT:fV g v b)(hb:vQ b):cN prog 22 #[v,vI mark,vI time] g fun _ r=>r=vI (o6 b mark time):=by
 have hs:=St.start g;have ar:=G.le.refl g;obtain⟨sl,rfl,dS⟩:=aT;have aT:fV g (.agg ((List.range 11).map sl).toArray) b:=⟨sl,rfl,dS⟩;refine enter func22 rfl ntmps22 rfl<|cR<|An hs rfl fun b2 g2 hs ai aD=>?_;replace aT:=aT.mono ai;refine aX rfl<|az<|cG 1 rfl<|sO rfl (xp mark _) ?_;rintro g1 _ aP rfl;replace hs:=hs.call aP;have ai:=aP.le;obtain⟨aD,aT⟩:=cr ai aD aT;unfold o6;cases iV mark with
 |false=>
  exact aX rfl<|aas rfl<|aZ rfl<|aG (nw rfl hs rfl)
 |true=>
  refine aX rfl<|aar rfl<|aF<|aq<|sP 2 [.z aD] rfl ?_;clear aP;refine sO rfl (W4 _ b time _ aT hb) ?_;rintro g1 _ aP ⟨bm,rfl,hm⟩;replace hs:=hs.call aP;have ai:=aP.le;refine Wp 1 rfl ?_;clear aP;refine sO rfl (uu bm (wE b time) mark _ hm.2) ?_;rintro g2 _ aP rfl;replace hs:=hs.call aP;exact aX rfl<|aG (nw rfl hs rfl)
end Go.Proofs.YtbfjdfecgiegpaaGreatDoor
namespace Go.Proofs.YtbfjdfecgiegpaaGreatDoor
open Go Go.K Tryz
set_option maxRecDepth 10000
attribute [local irreducible] W WL cS bh bY bB bA bC cL cD
set_option maxHeartbeats 1000000
def lu(b:eL)(w:Int):List bO:=if iV w then dC kg (b.procs.filter fun f=>o6 b f.waf f.time==w)else []
theorem Lx(x:bO)(_v:Value)(b:eL)(w:Int)(b1 b2:Nat)(sl:Nat→Value)(g:G)(aD:EP g b1 0 ((List.range 11).map sl))(aM:EP g b2 0 [vI w])(aT:fV g (.agg ((List.range 11).map sl).toArray) b)(hb:vQ b):
  cN prog 72 #[fv x,vP b1,vP b2] g fun _ r=>r= .bool (o6 b x.waf x.time==w):=by
 have hs:=St.start g;have ar:=G.le.refl g;refine enter func72 rfl ntmps72 rfl<|cR<|An hs rfl fun b3 g2 hs ai cE=>?_;obtain⟨aD,aM,aT⟩:=dR ai aD aM aT;refine aX rfl<|az ?_;apply bD hs (dn []) 8 [(7,12)] (by kernel_rfl) rfl
 ·exact EG [[],[],[1],[],[3],[0,2,4],[],[5,6]] [.z aD,.z cE,.z cE,.c (Wc 22) fun g' h=>Nn (.agg ((List.range 11).map sl).toArray) b x.waf x.time g' (aT.mono h) hb,.z aM] hs rfl
 clear hs;intro g6 hs ai;exact aX rfl<|aG (nw rfl hs rfl)
theorem IB(v:Value)(b:eL)(w:Int)(g:G)(aT:fV g v b)(hb:vQ b):cN prog 23 #[v,vI w] g fun g' r=>Rs g' r (lu b w):=by
 have hs:=St.start g;have ar:=G.le.refl g;obtain⟨sl,rfl,dS⟩:=aT;have aT:fV g (.agg ((List.range 11).map sl).toArray) b:=⟨sl,rfl,dS⟩;have aH:=dS 0 (by decide);refine enter func23 rfl ntmps23 rfl<|cR<|An hs rfl fun b2 g2 hs ai aD=>?_;obtain⟨aH,aT⟩:=cr ai aH aT;refine An hs rfl fun b3 g2 hs ai aM=>?_;obtain⟨aD,aH,aT⟩:=dR ai aD aH aT;refine aX rfl<|az<|sP 1 [.z aM] rfl<|sO rfl (xp w _) ?_;rintro g1 _ aP rfl;replace hs:=hs.call aP;have ai:=aP.le;obtain⟨aD,aM,aH,aT⟩:=dK ai aD aM aH aT;unfold lu;cases iV w with
 |false=>
  exact aX rfl<|aas rfl<|aZ rfl<|aG (nw rfl hs (Rs.nil _))
 |true=>
  refine aX rfl<|aar rfl<|aF<|aq<|sP 3 [.z aD] rfl ?_;clear aP;refine sO rfl (zp _ _ b.procs (fun f=>o6 b f.waf f.time==w) _ aH (hb 0) (fun g' x _ h=>dy (first:=#[]) (args:=[fv x]) (captured:=#[vP b2,vP b3]) (Wc 72) rfl (Lx x (.agg ((List.range 11).map sl).toArray) b w b2 b3 sl g' (aD.mono h) (aM.mono h) (aT.mono h) hb))) fun g1 _ aP aW=>?_;replace hs:=hs.call aP;have ai:=aP.le;exact aX rfl<|aG (nw rfl hs aW)
def tV(w time:Int)(f:bO):Bool:=((iV w&&f.waf==w)&&decide (f.time≤time))
def kO(w time:Int)(o:Option bO)(f:bO):Option bO:=if tV w time f&&(match o with|none=>true|some h=>decide (h.time<f.time))then some f else o
def ni(b:eL)(w time:Int):Option bO:=b.kr.foldl (kO w time) none
def B5(g:G)(v:Value):Option bO→Prop
 |none=>v= .pointer none
 |some f=> ∃b p,v= .pointer (some ⟨b,p,none⟩)∧EP g b p (cB f)
theorem B5.mono{g g':G}{v:Value}: ∀{o:Option bO},B5 g v o→g.le g'→B5 g' v o
 |none,h,_=>h
 |some _,⟨b,p,e,h⟩,hle=>⟨b,p,e,h.mono hle⟩
theorem Nk(v:Value)(b:eL)(w time:Int)(g:G)(aT:fV g v b):cN prog 82 #[v,vI w,vI time] g fun _ r=>r= .tuple #[vI ((ni b w time).getD fS).lot,vI ((ni b w time).getD fS).prod]:=by
 have hs:=St.start g;have ar:=G.le.refl g;obtain⟨sl,rfl,dS⟩:=aT;have aH:Rs g (sl 3) b.kr:=dS 3 (by decide);obtain⟨a,c,yI⟩:=aH.isSlice;have hlen:=aH.ef;unfold maxLen at hlen;refine enter func82 rfl ntmps82 rfl<|cR<|An hs rfl fun b2 g2 hs ai aD=>?_;obtain⟨ar,aH⟩:=cr ai ar aH;refine aX rfl<|aZ rfl<|az<|sP 2 [.z aD] rfl<|cX (.slice a b.kr.length c) (t:=12) rfl yI ?_;rw[yI]at aH;refine aX rfl<|aI ?_;replace hs:St g _ []:=hs
 refine bK (fun m a' w'=> ∃(i:Nat) (v8:Value) (o:Option bO) (g':G),w'=g'.w∧St g g' []∧G.le g g'∧Rs g' (.slice a b.kr.length c) b.kr∧EP g' b2 0 ((List.range 11).map sl)∧B5 g' v8 o∧i≤b.kr.length∧(b.kr.take i).foldl (kO w time) none=o∧m=b.kr.length-i∧
   Fr 61 [] [(1,vI w),(2,vI time),(3,vP b2),(8,v8),(12,.slice a b.kr.length c),(13,vI (b.kr.length:Nat)),(14,vI (i:Nat))] a') b.kr.length
  (fun a' ha=>⟨0,.pointer none,none,_,rfl,hs,ar,aH,aD,rfl,Nat.zero_le _,rfl,rfl,ha.kp rfl⟩) ?_
 clear hs aH ar aD;rintro m a' _ ⟨i,v8,o,g',rfl,hs,ar,aH,aD,vK,hi,lg,rfl,dW⟩;revert a';refine ct<|aZ rfl<|az ?_;by_cases bt:i<b.kr.length
 ·refine aJ (b:=decide ((i:Int)<(b.kr.length:Int))) (decide_eq_true (by omega)) rfl ?_;have eH:dJ b.kr (i:Int)=some b.kr[i]:=bZ rfl bt;have dP:(b.kr.take (i+1)).foldl (kO w time) none=kO w time o b.kr[i]:=by rw[List.take_add_one,List.getElem?_eq_getElem bt,List.foldl_append,lg];rfl
  generalize b.kr[i]=x at*;clear lg;refine aF<|aq<|az<|aI<|cG 1 rfl<|zc (y:=x) aH eH rfl ?_;rintro b9 q9 ys aL rfl;have aM:=aL;clear aL;refine q5 1 [.e aM 0] rfl<|w4 hs rfl fun P1 g1 hs ai=>?_;obtain⟨ar,aD,aM,aH⟩:=dK ai ar aD aM aH;replace vK:=vK.mono ai;refine Wp 1 rfl<|sN 0 hs rfl fun g1 hs ai=>?_;obtain⟨ar,aD,aM,aH⟩:=dK ai ar aD aM aH;replace vK:=vK.mono ai;obtain⟨g2,bS,aV,ai,aL⟩:=hs.bd (i:=0) rfl;replace hs:=aV;clear aV;rw[←bS];obtain⟨ar,aD,aM,aH⟩:=dK ai ar aD aM aH;replace vK:=vK.mono ai;clear aM;have aM:=aL;clear aL;replace hs:St g _ []:=hs;refine b_<|az ?_;have hid:=fun g'=>xp w g'
  cases h1:iV w with
  |false=>
   simp only[h1]at hid;apply bD hs (dn (dn (dn (eF (fe []))))) 27 [(26,45)] (by kernel_rfl) rfl
   ·exact EG [[],[0],[1,1],[2],[3,2],[2],[4,5,2],[2,6],[7],[8],[9,8],[8],[10,11,8],[8,12],[13],[14],[15,14],[16,14,14],[17],[18,17],[17],[20,17],[21,17],[22,17],[19,23,17],[17,24,14],[14,25]] [.c (Wc 68) fun g' _=>hid g'] hs rfl
   clear hs;intro g6 hs ai;obtain⟨ar,aD,aM,aH⟩:=dK ai ar aD aM aH;replace vK:=vK.mono ai;refine b_<|aar rfl<|aF<|bJ<|aq<|an<|Wp 2 rfl<|aA ?_;have e:kO w time o x=o:=by unfold kO tV;simp[h1]
   rw[e]at dP;exact fun a ha=>⟨b.kr.length-(i+1),by omega,i+1,v8,o,_,rfl,hs,ar,aH,aD,vK,by omega,dP,rfl,ha.keep ⟨rfl,rfl,rfl,rfl,rfl,rfl,kW rfl,trivial⟩⟩
  |true=>
   simp only[h1]at hid;cases h2:x.waf==w with
   |false=>
    apply bD hs (gU (eF (.e (.bool false)::dn (dn (gU []))))) 27 [(26,45)] (by kernel_rfl) rfl
    ·exact pO [[],[0],[1,1],[2],[3,2],[2]] [.c (Wc 68) fun g' _=>hid g',.z aM] hs rfl<|fR [(4,23),(5,24),(2,21)] (fun gd hf=>aay rfl (aaL rfl (congrArg Value.bool h2)))<|EG [[2,6],[7],[8],[9,8],[8],[10,11,8],[8,12],[13],[14],[15,14],[16,14,14],[17],[18,17],[17],[20,17],[21,17],[22,17],[19,23,17],[17,24,14],[14,25]] [] hs rfl
    clear hs;intro g6 hs ai;obtain⟨ar,aD,aM,aH⟩:=dK ai ar aD aM aH;replace vK:=vK.mono ai;refine b_<|aar rfl<|aF<|bJ<|aq<|an<|Wp 2 rfl<|aA ?_;have e:kO w time o x=o:=by unfold kO tV;simp[h1,h2]
    rw[e]at dP;exact fun a ha=>⟨b.kr.length-(i+1),by omega,i+1,v8,o,_,rfl,hs,ar,aH,aD,vK,by omega,dP,rfl,ha.keep ⟨rfl,rfl,rfl,rfl,rfl,rfl,kW rfl,trivial⟩⟩
   |true=>
    cases h3:decide (x.time≤time)with
    |false=>
     apply bD hs (gU (eF (.e (.bool true)::gU (fe (.e (.bool false)::dn (gU (eF []))))))) 27 [(26,45)] (by kernel_rfl) rfl
     ·exact pO [[],[0],[1,1],[2],[3,2],[2]] [.c (Wc 68) fun g' _=>hid g',.z aM] hs rfl<|fR [(4,23),(5,24),(2,21)] (fun gd hf=>aay rfl (aaL rfl (congrArg Value.bool h2)))<|pO [[2,6],[7],[8],[9,8],[8]] [.z aM] hs rfl<|fR [(10,29),(11,30),(8,27)] (fun gd hf=>aay rfl (aaL rfl (congrArg Value.bool h3)))<|EG [[8,12],[13],[14],[15,14],[16,14,14],[17],[18,17],[17],[20,17],[21,17],[22,17],[19,23,17],[17,24,14],[14,25]] [] hs rfl
     clear hs;intro g6 hs ai;obtain⟨ar,aD,aM,aH⟩:=dK ai ar aD aM aH;replace vK:=vK.mono ai;refine b_<|aar rfl<|aF<|bJ<|aq<|an<|Wp 2 rfl<|aA ?_;have e:kO w time o x=o:=by unfold kO tV;simp[h1,h2,of_decide_eq_false h3]
     rw[e]at dP;exact fun a ha=>⟨b.kr.length-(i+1),by omega,i+1,v8,o,_,rfl,hs,ar,aH,aD,vK,by omega,dP,rfl,ha.keep ⟨rfl,rfl,rfl,rfl,rfl,rfl,kW rfl,trivial⟩⟩
    |true=>
     cases o with
     |none=>
      obtain rfl:v8= .pointer none:=vK;have he:kO w time none x=some x:=by unfold kO tV;rw[h1,h2,h3];rfl
      apply bD hs (gU (eF (.e (.bool true)::gU (fe (.e (.bool true)::dn (gU (eF []))))))) 27 [(26,45)] (by kernel_rfl) rfl
      ·exact pO [[],[0],[1,1],[2],[3,2],[2]] [.c (Wc 68) fun g' _=>hid g',.z aM] hs rfl<|fR [(4,23),(5,24),(2,21)] (fun gd hf=>aay rfl (aaL rfl (congrArg Value.bool h2)))<|pO [[2,6],[7],[8],[9,8],[8]] [.z aM] hs rfl<|fR [(10,29),(11,30),(8,27)] (fun gd hf=>aay rfl (aaL rfl (congrArg Value.bool h3)))<|pO [[8,12],[13],[14]] [] hs rfl<|fR [(15,34),(14,33)] (fun gd hf=>aaw rfl (ay rfl (iL T.ok (neg:=false) rfl rfl rfl rfl rfl (aav rfl))))<|EG [[16,14,14],[17],[18,17],[17],[20,17],[21,17],[22,17],[19,23,17],[17,24,14],[14,25]] [] hs rfl
      clear hs;intro g6 hs ai;obtain⟨ar,aD,aM,aH⟩:=dK ai ar aD aM aH;refine b_<|aas rfl<|an<|q5 3 [.z aD] rfl<|cX (.slice a b.kr.length c) (t:=47) rfl yI<|zc (y:=x) aH eH rfl ?_;rintro b6 q6 ys aL rfl;refine Wp 1 rfl<|aA<|bJ<|aq<|an<|Wp 2 rfl<|aA ?_;rw[he]at dP;exact fun a ha=>⟨b.kr.length-(i+1),by omega,i+1,.pointer (some ⟨b6,q6,none⟩),some x,_,rfl,hs,ar,aH,aD,⟨b6,q6,rfl,aL⟩,by omega,dP,rfl,ha.keep ⟨rfl,rfl,rfl,rfl,rfl,rfl,kW rfl,trivial⟩⟩
     |some h=>
      obtain⟨b8,p8,rfl,IM⟩:=vK;apply bD hs (gU (eF (.e (.bool true)::gU (fe (.e (.bool true)::dn (gU (eF []))))))) 27 [(26,45)] (by kernel_rfl) rfl
      ·exact pO [[],[0],[1,1],[2],[3,2],[2]] [.c (Wc 68) fun g' _=>hid g',.z aM] hs rfl<|fR [(4,23),(5,24),(2,21)] (fun gd hf=>aay rfl (aaL rfl (congrArg Value.bool h2)))<|pO [[2,6],[7],[8],[9,8],[8]] [.z aM] hs rfl<|fR [(10,29),(11,30),(8,27)] (fun gd hf=>aay rfl (aaL rfl (congrArg Value.bool h3)))<|pO [[8,12],[13],[14]] [] hs rfl<|fR [(15,34),(14,33)] (fun gd hf=>aaw rfl (ay rfl (iL T.ok (neg:=false) rfl rfl rfl rfl rfl (aav rfl))))<|EG [[16,14,14],[17],[18,17],[17],[20,17],[21,17],[22,17],[19,23,17],[17,24,14],[14,25]] [.z aM,.e IM 5] hs rfl
      cases h4:decide (h.time<x.time)with
      |false=>
       have vK:B5 _ (.pointer (some ⟨b8,p8,none⟩)) (some h):=⟨b8,p8,rfl,IM⟩;obtain⟨v8,Re⟩: ∃v,v=Value.pointer (some ⟨b8,p8,none⟩):=⟨_,rfl⟩;rw[←Re]at vK⊢;obtain⟨o,ho⟩: ∃o,o=some h:=⟨_,rfl⟩;rw[←ho]at vK dP;clear hs;intro g6 hs ai;obtain⟨ar,aD,aH⟩:=dR ai ar aD aH;replace vK:=vK.mono ai;refine b_<|aar rfl<|aF<|bJ<|aq<|an<|Wp 2 rfl<|aA ?_;have e:kO w time o x=o:=by unfold kO tV;simp[h1,h2,h3,h4,ho]
       rw[e]at dP;exact fun a ha=>⟨b.kr.length-(i+1),by omega,i+1,v8,o,_,rfl,hs,ar,aH,aD,vK,by omega,dP,rfl,ha.keep ⟨rfl,rfl,rfl,rfl,rfl,rfl,kW rfl,trivial⟩⟩
      |true=>
       have he:kO w time (some h) x=some x:=by unfold kO tV;rw[h1,h2,h3];exact if_pos h4
       clear hs;intro g6 hs ai;obtain⟨ar,aD,aH⟩:=dR ai ar aD aH;refine b_<|aas rfl<|an<|q5 3 [.z aD] rfl<|cX (.slice a b.kr.length c) (t:=47) rfl yI<|zc (y:=x) aH eH rfl ?_;rintro b6 q6 ys aL rfl;refine Wp 1 rfl<|aA<|bJ<|aq<|an<|Wp 2 rfl<|aA ?_;rw[he]at dP;exact fun a ha=>⟨b.kr.length-(i+1),by omega,i+1,.pointer (some ⟨b6,q6,none⟩),some x,_,rfl,hs,ar,aH,aD,⟨b6,q6,rfl,aL⟩,by omega,dP,rfl,ha.keep ⟨rfl,rfl,rfl,rfl,rfl,rfl,kW rfl,trivial⟩⟩
 refine aQ (b:=decide ((i:Int)<(b.kr.length:Int))) (decide_eq_false (by omega)) rfl ?_;rw[List.take_of_length_le (by omega)]at lg;unfold ni;rw[lg];clear lg;refine bc<|bg<|bg<|cA<|aq<|az<|cG 1 rfl ?_;cases o with
 |none=>
  obtain rfl:v8= .pointer none:=vK;exact ak rfl rfl<|iL T.ok (neg:=false) rfl rfl rfl rfl rfl<|b_<|aas rfl<|aZ rfl<|aG (HX rfl rfl rfl (hs.ret rfl))
 |some h=>
  obtain⟨b8,p8,rfl,IM⟩:=vK;refine ak rfl rfl<|iL T.ok (neg:=false) rfl rfl rfl rfl rfl<|b_<|aar rfl<|aF<|aq<|az<|rR (l':=[(8,.pointer (some ⟨b8,p8,none⟩))]) (by(repeat (first|exact trivial|refine⟨rfl,?_⟩))) ?_;apply bD hs (dn (fe [])) 9 [(8,6),(7,60)] (by kernel_rfl) rfl
  ·exact EG [[],[0],[1],[2],[],[4],[5],[6],[3,3]] [.e IM 9,.e IM 10] hs rfl
  clear hs;intro g6 hs ai;exact aX rfl<|aG (HX rfl rfl rfl (hs.ret rfl))
end Go.Proofs.YtbfjdfecgiegpaaGreatDoor
